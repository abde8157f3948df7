/- Parts of the proof: Tx, Rp, Rc, Rm. -/
import Derived.Test.YtjjgbgojlhaapaaGreatDoorZJls15
import Derived.Lib.MapLaws
namespace Go.Proofs.YtjjgbgojlhaapaaGreatDoor
open Go.RowKit Go.Lib

/-- a scalar value -/
def Scal (r : Nat) : Prop := r < 55296 ∨ (57343 < r ∧ r ≤ 1114111)
def encs (rs : List Nat) : List UInt8 := rs.flatMap fun r : Nat => Lib.encodeRune (r : Int)
theorem encs_cons (r : Nat) (rs : List Nat) : encs (r :: rs) = Lib.encodeRune (r : Int) ++ encs rs := by simp [encs]
theorem u8z {z : Int} (_h0 : 0 ≤ z) (h1 : z < 256) : (z.toNat.toUInt8).toNat = z.toNat := by
  simp; omega
theorem dN2 {n r b2 b3 : Nat} (h0 : 128 ≤ r) (h1 : r ≤ 2047) (hn : 1 < n) : decodeN n (192 + r / 64) (128 + r % 64) b2 b3 = (r, 2) := by
  unfold decodeN
  rw [if_neg (by omega), if_pos (by omega), if_pos (by omega)]
  congr 1; omega
theorem dN3 {n r b3 : Nat} (h : (2048 ≤ r ∧ r < 55296) ∨ (57343 < r ∧ r ≤ 65535)) (hn : 2 < n) : decodeN n (224 + r / 4096) (128 + r / 64 % 64) (128 + r % 64) b3 = (r, 3) := by
  have e : (224 + r / 4096) % 16 * 4096 + (128 + r / 64 % 64) % 64 * 64 + (128 + r % 64) % 64 = r := by omega
  unfold decodeN
  rw [if_neg (by omega), if_neg (by omega), if_pos (by omega), e, if_pos (by omega)]
theorem dN4 {n r : Nat} (h0 : 65536 ≤ r) (h1 : r ≤ 1114111) (hn : 3 < n) : decodeN n (240 + r / 262144) (128 + r / 4096 % 64) (128 + r / 64 % 64) (128 + r % 64) = (r, 4) := by
  have e : (240 + r / 262144) % 8 * 262144 + (128 + r / 4096 % 64) % 64 * 4096 + (128 + r / 64 % 64) % 64 * 64 + (128 + r % 64) % 64 = r := by omega
  unfold decodeN
  rw [if_neg (by omega), if_neg (by omega), if_neg (by omega), if_pos (by omega), e, if_pos (by omega)]
theorem enc_len {r : Nat} (h : Scal r) : (Lib.encodeRune (r : Int)).length = if r < 128 then 1 else if r < 2048 then 2 else if r < 65536 then 3 else 4 := by
  unfold Lib.encodeRune
  rw [List.length_map]
  unfold Scal at h
  by_cases h1 : r < 128
  · rw [if_pos h1, encodeRuneZ_one (by omega) (by omega)]; rfl
  · rw [if_neg h1]
    by_cases h2 : r < 2048
    · rw [if_pos h2, encodeRuneZ_two (by omega) (by omega)]; rfl
    · rw [if_neg h2]
      by_cases h3 : r < 65536
      · rw [if_pos h3, encodeRuneZ_three (by omega)]; rfl
      · rw [if_neg h3, encodeRuneZ_four (by omega) (by omega)]; rfl
theorem decode_enc {r : Nat} (h : Scal r) (t : List UInt8) : decodeL (Lib.encodeRune (r : Int) ++ t) = (r, (Lib.encodeRune (r : Int)).length) := by
  rw [enc_len h, decodeL_N]
  unfold Lib.encodeRune
  unfold Scal at h
  by_cases h1 : r < 128
  · rw [if_pos h1, encodeRuneZ_one (by omega) (by omega)]
    simp only [List.map_cons, List.map_nil, List.cons_append, List.nil_append, List.getD_cons_zero]
    rw [u8z (by omega) (by omega)]
    unfold decodeN
    rw [if_pos (by omega)]; congr 1
  · rw [if_neg h1]
    by_cases h2 : r < 2048
    · rw [if_pos h2, encodeRuneZ_two (by omega) (by omega)]
      simp only [List.map_cons, List.map_nil, List.cons_append, List.nil_append, List.getD_cons_zero, List.getD_cons_succ, List.length_cons]
      rw [u8z (by omega) (by omega), u8z (by omega) (by omega)]
      rw [show (192 + (r : Int) / 64).toNat = 192 + r / 64 by omega, show (128 + (r : Int) % 64).toNat = 128 + r % 64 by omega]
      exact dN2 (by omega) (by omega) (by omega)
    · rw [if_neg h2]
      by_cases h3 : r < 65536
      · rw [if_pos h3, encodeRuneZ_three (by omega)]
        simp only [List.map_cons, List.map_nil, List.cons_append, List.nil_append, List.getD_cons_zero, List.getD_cons_succ, List.length_cons]
        rw [u8z (by omega) (by omega), u8z (by omega) (by omega), u8z (by omega) (by omega)]
        rw [show (224 + (r : Int) / 4096).toNat = 224 + r / 4096 by omega, show (128 + (r : Int) / 64 % 64).toNat = 128 + r / 64 % 64 by omega, show (128 + (r : Int) % 64).toNat = 128 + r % 64 by omega]
        exact dN3 (by omega) (by omega)
      · rw [if_neg h3, encodeRuneZ_four (by omega) (by omega)]
        simp only [List.map_cons, List.map_nil, List.cons_append, List.nil_append, List.getD_cons_zero, List.getD_cons_succ, List.length_cons]
        rw [u8z (by omega) (by omega), u8z (by omega) (by omega), u8z (by omega) (by omega), u8z (by omega) (by omega)]
        rw [show (240 + (r : Int) / 262144).toNat = 240 + r / 262144 by omega, show (128 + (r : Int) / 4096 % 64).toNat = 128 + r / 4096 % 64 by omega, show (128 + (r : Int) / 64 % 64).toNat = 128 + r / 64 % 64 by omega, show (128 + (r : Int) % 64).toNat = 128 + r % 64 by omega]
        exact dN4 (by omega) (by omega) (by omega)
theorem enc_pos (r : Int) : 1 ≤ (Lib.encodeRune r).length := by
  unfold Lib.encodeRune
  rw [List.length_map]
  exact (encodeRuneZ_length r).1
/-- a rune that was decoded from valid bytes is a scalar value -/
theorem decode_scal (l : List UInt8) (_hv : ¬ ((decodeL l).1 = 65533 ∧ (decodeL l).2 = 1)) : Scal (decodeL l).1 := by
  rw [decodeL_N]
  have k0 := (l.getD 0 0).toNat_lt
  unfold Scal
  rcases decodeN_shape l.length (l.getD 0 0).toNat (l.getD 1 0).toNat (l.getD 2 0).toNat (l.getD 3 0).toNat with ⟨c, e⟩ | ⟨c1, c2, c3, cv, e⟩ | ⟨c1, c2, c3, c4, cv, cs, e⟩ | ⟨c1, c2, c3, c4, c5, cv, cw, e⟩ | e
  all_goals (rw [e]; dsimp only)
  all_goals omega
theorem valid_runes : ∀ (n : Nat) (l : List UInt8), l.length ≤ n → Lib.validGoD n l = true → ∃ rs : List Nat, (∀ r ∈ rs, Scal r) ∧ l = encs rs
  | 0, l, hn, _ => ⟨[], by simp, by rw [List.eq_nil_of_length_eq_zero (Nat.le_zero.1 hn)]; rfl⟩
  | n + 1, l, hn, h => by
    by_cases hne : l = []
    · exact ⟨[], by simp, by rw [hne]; rfl⟩
    · simp only [Lib.validGoD] at h
      rw [if_neg hne] at h
      by_cases hb : (decodeL l).1 = 65533 ∧ (decodeL l).2 = 1
      · rw [if_pos hb] at h; exact absurd h (by decide)
      · rw [if_neg hb] at h
        have hw := decodeL_width l
        have hl : 0 < l.length := List.length_pos_iff.2 hne
        obtain ⟨rs, h1, h2⟩ := valid_runes n (l.drop (decodeL l).2) (by rw [List.length_drop]; omega) h
        refine ⟨(decodeL l).1 :: rs, fun r hr => ?_, ?_⟩
        · rcases List.mem_cons.1 hr with rfl | hr
          · exact decode_scal l hb
          · exact h1 r hr
        · rw [encs_cons, encode_decode l hne hb, ← h2, List.take_append_drop]
theorem validB_runes {s : ByteArray} (h : validB s = true) : ∃ rs : List Nat, (∀ r ∈ rs, Scal r) ∧ s.data.toList = encs rs := valid_runes _ _ (Nat.le_refl _) h
theorem dec_L {s : ByteArray} {p : Nat} (h : p < s.size) : dec s p = decodeL (rest s p) := by
  have e : (s.extract p s.size).data.toList = rest s p := by
    rw [extract_data, List.take_of_length_le (by simp)]
    rfl
  unfold dec Lib.decodeGo
  rw [if_neg (by simp; omega), ← decodeL_drop, List.drop_zero, e]
theorem next_rest {s : ByteArray} {p : Nat} {c : UInt8} {r : List UInt8} (h : rest s p = c :: r) : St.next s ⟨p, 0⟩ = (c, ⟨p + 1, 0⟩) := by
  have := rest_lt h
  unfold St.next
  rw [if_neg (by simp)]
  simp only
  rw [if_neg (by omega), rest_byte h]
  rfl
theorem twants_rest {s : ByteArray} {p : Nat} {c : UInt8} {r : List UInt8} (h : rest s p = c :: r) : St.twants s ⟨p, 0⟩ c = ⟨p + 1, 0⟩ := by
  unfold St.twants
  rw [next_rest h]
  simp
theorem sign_enc {s : ByteArray} {p r : Nat} {t : List UInt8} (h : rest s p = Lib.encodeRune (r : Int) ++ t) (hr : Scal r) (h32 : 32 ≤ r) : signB s ⟨p, 0⟩ = (r, ⟨p + (Lib.encodeRune (r : Int)).length, 0⟩) := by
  have hp := enc_pos r
  have hl := enc_len hr
  have hlt : p < s.size := by
    rcases he : Lib.encodeRune (r : Int) ++ t with _ | ⟨c, u⟩
    · rw [List.append_eq_nil_iff] at he; rw [he.1] at hp; exact absurd hp (by decide)
    · rw [he] at h; exact rest_lt h
  unfold signB
  rw [dec_L hlt, h, decode_enc hr]
  simp only
  rw [if_neg (by omega), if_neg (by
    rintro (h1 | ⟨rfl, h2⟩)
    · omega
    · rw [hl] at h2; exact absurd h2 (by decide))]
theorem four_rest {s : ByteArray} {p : Nat} {a b c d : UInt8} {t : List UInt8} (h : rest s p = a :: b :: c :: d :: t) (ha : 0 ≤ hexIdx a) (hb : 0 ≤ hexIdx b) (hc : 0 ≤ hexIdx c) (hd : 0 ≤ hexIdx d) :
    fourB s 4 0 ⟨p, 0⟩ = ((((0 * 16 + hexIdx a) * 16 + hexIdx b) * 16 + hexIdx c) * 16 + hexIdx d, ⟨p + 4, 0⟩) := by
  have h1 := rest_next h
  have h2 := rest_next h1
  have h3 := rest_next h2
  simp only [fourB, next_rest h]
  rw [if_neg (by omega), next_rest h1]
  simp only
  rw [if_neg (by omega), next_rest h2]
  simp only
  rw [if_neg (by omega), next_rest h3]
  simp only
  rw [if_neg (by omega)]
theorem quote_hex : ∀ r : Nat, r < 32 → 0 ≤ hexIdx (hexAt (r / 16)) ∧ 0 ≤ hexIdx (hexAt (r % 16)) ∧ (((0 * 16 + hexIdx 48) * 16 + hexIdx 48) * 16 + hexIdx (hexAt (r / 16))) * 16 + hexIdx (hexAt (r % 16)) = (r : Int) := by decide +kernel
theorem letter_cases {r : Int} (h : letterB r ≠ 0) : (r = 34 ∧ letterB r = 34) ∨ (r = 92 ∧ letterB r = 92) ∨ (r = 8 ∧ letterB r = 98) ∨ (r = 12 ∧ letterB r = 102) ∨ (r = 10 ∧ letterB r = 110) ∨ (r = 13 ∧ letterB r = 114) ∨ (r = 9 ∧ letterB r = 116) := by
  simp only [letterB, letterTab, letterIn] at h ⊢
  repeat' split at h
  all_goals first | omega | skip
/-- one rune, as it is quoted -/
theorem unq_one {s : ByteArray} {p r : Nat} {t : List UInt8} (f : Nat) (acc : List UInt8) (h : rest s p = quoteOne r ++ t) (hr : Scal r) :
    unqLoop s (f + 1) acc ⟨p, 0⟩ = unqLoop s f (acc ++ Lib.encodeRune (r : Int)) ⟨p + (quoteOne r).length, 0⟩ := by
  unfold quoteOne at h ⊢
  by_cases hl : letterB (r : Int) ≠ 0
  · rw [if_pos hl] at h ⊢
    have s1 := sign_rest (c := 92) h (by decide) (by decide)
    have h1 : rest s (p + 1) = _ := rest_next h
    have n1 := next_rest h1
    have he : escapeB s ⟨p + 1, 0⟩ = ((r : Int), ⟨p + 2, 0⟩) := by
      unfold escapeB
      rw [n1]
      rcases letter_cases hl with ⟨e1, e2⟩ | ⟨e1, e2⟩ | ⟨e1, e2⟩ | ⟨e1, e2⟩ | ⟨e1, e2⟩ | ⟨e1, e2⟩ | ⟨e1, e2⟩ <;> (rw [e2, e1]; rfl)
    simp only [unqLoop, s1, he]
    rfl
  · rw [if_neg hl] at h ⊢
    by_cases h32 : r < 32
    · rw [if_pos h32] at h ⊢
      have s1 := sign_rest (c := 92) h (by decide) (by decide)
      have h1 := rest_next h
      have h2 := rest_next h1
      have n1 := next_rest h1
      have q := quote_hex r h32
      have h4 := four_rest h2 (by decide) (by decide) q.1 q.2.1
      rw [q.2.2] at h4
      have he : escapeB s ⟨p + 1, 0⟩ = ((r : Int), ⟨p + 6, 0⟩) := by
        unfold escapeB
        rw [n1]
        simp only
        rw [if_neg (by decide), if_pos trivial]
        unfold unitB
        simp only [h4]
        rw [if_pos (by right; left; omega)]
      simp only [unqLoop, s1, he]
      rfl
    · rw [if_neg h32] at h ⊢
      have s1 := sign_enc h hr (by omega)
      have n34 : r ≠ 34 := by rintro rfl; exact hl (by decide)
      have n92 : r ≠ 92 := by rintro rfl; exact hl (by decide)
      simp only [unqLoop, s1]
      rw [if_neg (by decide), if_neg (by decide), if_neg n34, if_neg n92]
theorem unq_runes (s : ByteArray) (t : List UInt8) : ∀ (rs : List Nat) (f p : Nat) (acc : List UInt8), (∀ r ∈ rs, Scal r) → rest s p = rs.flatMap (fun r => quoteOne r) ++ 34 :: t → rs.length + 1 ≤ f →
    unqLoop s f acc ⟨p, 0⟩ = (acc ++ encs rs, p + (rs.flatMap (fun r => quoteOne r)).length + 1, 0)
  | _, 0, _, _, _, _, hf => by omega
  | [], f + 1, p, acc, _, h, _ => by
    have s1 := sign_rest (c := 34) h (by decide) (by decide)
    simp only [unqLoop, s1]
    simp [encs]
  | r :: rs, f + 1, p, acc, hr, h, hf => by
    have h' : rest s p = quoteOne r ++ (rs.flatMap (fun r => quoteOne r) ++ 34 :: t) := by rw [h]; simp
    rw [unq_one f acc h' (hr r (List.mem_cons_self ..)), unq_runes s t rs f _ _ (fun q hq => hr q (List.mem_cons_of_mem _ hq)) (drop_rest h') (by simp at hf; omega)]
    simp only [encs_cons, List.append_assoc, List.flatMap_cons, List.length_append]
    congr 2; omega
theorem quoteOne_pos (r : Nat) : 1 ≤ (quoteOne r).length := by
  unfold quoteOne
  split
  · simp
  · split
    · simp
    · exact enc_pos r
theorem flat_len : ∀ rs : List Nat, rs.length ≤ (rs.flatMap (fun r => quoteOne r)).length
  | [] => Nat.le_refl _
  | r :: rs => by
    have := flat_len rs
    have := quoteOne_pos r
    rw [List.flatMap_cons, List.length_append, List.length_cons]; omega
theorem quote_runes (s : ByteArray) : ∀ (rs : List Nat) (fuel pos : Nat), (∀ r ∈ rs, Scal r) → rest s pos = encs rs → s.size - pos ≤ fuel → quoteFrom s fuel pos = rs.flatMap (fun r => quoteOne r)
  | [], fuel, pos, _, h, _ => quoteFrom_end s fuel pos (rest_nil h)
  | r :: rs, fuel, pos, hr, h, hf => by
    have h0 := hr r (List.mem_cons_self ..)
    rw [encs_cons] at h
    have hp := enc_pos r
    have hlt : pos < s.size := by
      rcases he : Lib.encodeRune (r : Int) ++ encs rs with _ | ⟨c, u⟩
      · rw [List.append_eq_nil_iff] at he; rw [he.1] at hp; exact absurd hp (by decide)
      · rw [he] at h; exact rest_lt h
    obtain ⟨f, rfl⟩ : ∃ f, fuel = f + 1 := ⟨fuel - 1, by omega⟩
    have hd : Utf8.decode s pos = (r, (Lib.encodeRune (r : Int)).length) := by
      rw [← decodeL_drop]
      show decodeL (rest s pos) = _
      rw [h, decode_enc h0]
    rw [quoteFrom_step hlt, hd, quote_runes s rs f _ (fun q hq => hr q (List.mem_cons_of_mem _ hq)) (drop_rest h) (by omega)]
    rfl
theorem quoteB_runes {s : ByteArray} {rs : List Nat} (hr : ∀ r ∈ rs, Scal r) (h : s.data.toList = encs rs) : quoteB s = 34 :: (rs.flatMap (fun r => quoteOne r) ++ [34]) := by
  unfold quoteB
  rw [quote_runes s rs s.size 0 hr (by simpa [rest] using h) (by omega)]
theorem array_list (l : List UInt8) (s : ByteArray) (h : s.data.toList = l) : (⟨l.toArray⟩ : ByteArray) = s := by
  apply ByteArray.ext
  rw [← h]
/-- a quoted text is read as it -/
theorem text_quote {s u : ByteArray} {p : Nat} {t : List UInt8} (hv : validB u = true) (hl : u.size ≤ 8000) (h : rest s p = quoteB u ++ t) : textB s ⟨p, 0⟩ = (u.data.toList, ⟨p + (quoteB u).length, 0⟩) := by
  obtain ⟨rs, hr, hu⟩ := validB_runes hv
  rw [quoteB_runes hr hu] at h ⊢
  have h' : rest s p = 34 :: (rs.flatMap (fun r => quoteOne r) ++ 34 :: t) := by rw [h]; simp
  have h1 := rest_next h'
  have hlen := congrArg List.length h'
  have hz : s.data.size = s.size := rfl
  have hfl := flat_len rs
  unfold rest at hlen
  simp only [List.length_drop, Array.length_toList, hz, List.length_cons, List.length_append] at hlen
  have hq : unquoteB s p = (encs rs, p + 1 + (rs.flatMap (fun r => quoteOne r)).length + 1, 0) := by
    unfold unquoteB
    rw [twants_rest h', unq_runes s t rs _ _ [] hr h1 (by omega)]
    rfl
  have hul : u.data.toList.length = u.size := Array.length_toList ..
  unfold textB
  rw [if_neg (show ¬ ((0 : Int) ≠ 0) by decide)]
  simp only [hq]
  rw [if_neg (by decide), if_neg (by rw [← hu, hul]; omega), hu]
  simp only [List.length_cons, List.length_append, List.length_nil]
  congr 2; omega

end Go.Proofs.YtjjgbgojlhaapaaGreatDoor
namespace Go.Proofs.YtjjgbgojlhaapaaGreatDoor
open Go.RowKit Go.Lib

theorem bytes_nil {s : ByteArray} (h : s.toList.isEmpty = true) : s = ⟨#[]⟩ := by
  rw [ByteArray.toList_eq, List.isEmpty_iff] at h
  apply ByteArray.ext
  apply Array.eq_empty_of_size_eq_zero
  have := congrArg List.length h
  simpa using this
/-- what a value that may be looks like -/
inductive Shape (d : Nat) : JV → Prop
  | word (k : Int) (h : k = 1 ∨ k = 2 ∨ k = 3) : Shape d (.mk k 0 ⟨#[]⟩ [] [])
  | num (n : Int) (h : -9007199254740991 ≤ n ∧ n ≤ 9007199254740991) : Shape d (numV n)
  | text (s : ByteArray) (h : shortB s = true) : Shape d (wordV s)
  | list (l : List JV) (h : ∀ y ∈ l, mayJ d y = true) : Shape d (listV l)
  | obj (m : List (ByteArray × JV)) (hm : membersB none m = true) (h : ∀ q ∈ m, mayJ d q.2 = true) : Shape d (objV m)
theorem shape_of {d : Nat} {x : JV} (h : mayJ (d + 1) x = true) : Shape d x := by
  obtain ⟨k, n, s, l, m⟩ := x
  rw [may_succ] at h
  simp only [Bool.and_eq_true, JV.l, JV.m, List.all_eq_true] at h
  obtain ⟨⟨h1, h2⟩, h3⟩ := h
  unfold oneB at h1
  simp only [Bool.and_eq_true, JV.m] at h1
  obtain ⟨⟨h4, h5⟩, h6⟩ := h1
  unfold rangeB at h6
  simp only [Bool.and_eq_true, JV.n, JV.s] at h6
  obtain ⟨⟨h7, h8⟩, h9⟩ := h6
  simp only [badK, JV.k, JV.n, JV.s, JV.l, JV.m, Bool.not_eq_true', Bool.or_eq_false_iff, Bool.and_eq_false_iff, bne_eq_false_iff_eq] at h4
  obtain ⟨⟨⟨⟨⟨a1, a2⟩, a3⟩, a4⟩, a5⟩, a6⟩ := h4
  have a1 := of_decide_eq_false a1
  have a2 := of_decide_eq_false a2
  have hn : k ≠ 4 → n = 0 := fun hk => a3.resolve_right hk
  have hs : k ≠ 5 → s = ⟨#[]⟩ := fun hk => bytes_nil (by simpa using a4.resolve_right hk)
  have hl : k ≠ 6 → l = [] := fun hk => List.eq_nil_of_length_eq_zero (by have := of_decide_eq_false (a5.resolve_right hk); omega)
  have hm : k ≠ 7 → m = [] := fun hk => List.eq_nil_of_length_eq_zero (by have := of_decide_eq_false (a6.resolve_right hk); omega)
  have hk : k = 1 ∨ k = 2 ∨ k = 3 ∨ k = 4 ∨ k = 5 ∨ k = 6 ∨ k = 7 := by omega
  rcases hk with rfl | rfl | rfl | rfl | rfl | rfl | rfl
  · rw [hn (by decide), hs (by decide), hl (by decide), hm (by decide)]; exact .word 1 (by decide)
  · rw [hn (by decide), hs (by decide), hl (by decide), hm (by decide)]; exact .word 2 (by decide)
  · rw [hn (by decide), hs (by decide), hl (by decide), hm (by decide)]; exact .word 3 (by decide)
  · rw [hs (by decide), hl (by decide), hm (by decide)]; exact .num n ⟨of_decide_eq_true h7, of_decide_eq_true h8⟩
  · rw [hn (by decide), hl (by decide), hm (by decide)]; exact .text s h9
  · rw [hn (by decide), hs (by decide), hm (by decide)]; exact .list l h2
  · rw [hn (by decide), hs (by decide), hl (by decide)]; exact .obj m h5 h3

/-! names that rise -/
def NmLt (a b : ByteArray × JV) : Prop := a.1.toList < b.1.toList
theorem less_iff (a b : List UInt8) : Op.bytesLess a b = true ↔ a < b := by rw [bytesLess_eq]; simp
theorem leB_iff (a b : ByteArray) : leB a b = false ↔ b.toList < a.toList := by
  unfold leB
  rw [bytesLess_eq]
  constructor
  · intro h
    simp only [Bool.or_eq_false_iff, decide_eq_false_iff_not, beq_eq_false_iff_ne, ne_eq] at h
    rcases List.le_iff_lt_or_eq.1 (List.not_lt.1 h.1) with h1 | h1
    · exact h1
    · exact absurd h1.symm h.2
  · intro h
    have h1 : ¬ a.toList < b.toList := fun h2 => List.lt_irrefl _ (List.lt_trans h h2)
    have h2 : a.toList ≠ b.toList := fun e => by rw [e] at h; exact List.lt_irrefl _ h
    simp [h1, h2]
theorem members_iff : ∀ (p : Option ByteArray) (m : List (ByteArray × JV)), membersB p m = true ↔ (∀ q ∈ m, shortB q.1 = true) ∧ (∀ a, p = some a → ∀ q ∈ m, a.toList < q.1.toList) ∧ m.Pairwise NmLt
  | p, [] => by simp [membersB]
  | p, (nm, y) :: r => by
    have ih := members_iff (some nm) r
    simp only [membersB, Bool.and_eq_true, ih]
    constructor
    · rintro ⟨⟨h1, h2⟩, h3, h4, h5⟩
      refine ⟨fun q hq => ?_, fun a ha q hq => ?_, ?_⟩
      · rcases List.mem_cons.1 hq with rfl | hq
        · exact h1
        · exact h3 q hq
      · subst ha
        have h2' : a.toList < nm.toList := (leB_iff nm a).1 (by simpa using h2)
        rcases List.mem_cons.1 hq with rfl | hq
        · exact h2'
        · exact List.lt_trans h2' (h4 nm rfl q hq)
      · exact List.Pairwise.cons (fun q hq => h4 nm rfl q hq) h5
    · rintro ⟨h1, h2, h3⟩
      rw [List.pairwise_cons] at h3
      refine ⟨⟨h1 _ (List.mem_cons_self ..), ?_⟩, fun q hq => h1 q (List.mem_cons_of_mem _ hq), fun a ha q hq => by cases ha; exact h3.1 q hq, h3.2⟩
      rcases p with _ | a
      · rfl
      · have := (leB_iff nm a).2 (h2 a rfl _ (List.mem_cons_self ..))
        simpa using this
theorem sort_rising : ∀ (m : List (ByteArray × JV)), m.Pairwise NmLt → sortNames m = m
  | [], _ => rfl
  | x :: r, h => by
    rw [List.pairwise_cons] at h
    have ih := sort_rising r h.2
    unfold sortNames at ih ⊢
    rw [List.foldr_cons, ih]
    rcases r with _ | ⟨y, r⟩
    · rfl
    · simp only [insName]
      rw [if_pos ((less_iff _ _).2 (h.1 y (List.mem_cons_self ..)))]

/-! words, and what a value begins with -/
theorem word_rest (s : ByteArray) : ∀ (l : List UInt8) (p : Nat) (t : List UInt8), rest s p = l ++ t → wordIn s l ⟨p, 0⟩ = (true, ⟨p + l.length, 0⟩)
  | [], _, _, _ => rfl
  | c :: l, p, t, h => by
    have hl := rest_lt h
    have hb := rest_byte h
    have ih := word_rest s l (p + 1) t (rest_next h)
    simp only [wordIn]
    rw [if_neg (by omega), if_neg (by rw [hb]; simp)]
    simp only [St.step] at *
    rw [ih]
    simp only [List.length_cons]; congr 2; omega
/-- bytes that a value may begin with -/
def heads : List UInt8 := [110, 102, 116, 45, 48, 49, 50, 51, 52, 53, 54, 55, 56, 57, 34, 91, 123]
theorem digit_heads {c : UInt8} (h : c = 45 ∨ isDigit c = true) : c ∈ heads := by
  rcases h with rfl | h
  · decide
  · simp only [isDigit, Bool.and_eq_true, decide_eq_true_eq] at h
    have hc : c = UInt8.ofNat c.toNat := by simp
    rcases (show c.toNat = 48 ∨ c.toNat = 49 ∨ c.toNat = 50 ∨ c.toNat = 51 ∨ c.toNat = 52 ∨ c.toNat = 53 ∨ c.toNat = 54 ∨ c.toNat = 55 ∨ c.toNat = 56 ∨ c.toNat = 57 by omega) with e | e | e | e | e | e | e | e | e | e <;> (rw [e] at hc; rw [hc]; decide)
theorem print_head {d : Nat} {x : JV} (h : mayJ (d + 1) x = true) : ∃ c r, printB (d + 1) x = c :: r ∧ c ∈ heads := by
  rw [printB.eq_2]
  cases shape_of h with
  | word k hk => rcases hk with rfl | rfl | rfl <;> exact ⟨_, _, rfl, by decide⟩
  | num n hn =>
    obtain ⟨c, r, e, hc⟩ := itoa_head n
    exact ⟨c, r, e, digit_heads hc⟩
  | text s hs => exact ⟨_, _, rfl, by decide⟩
  | list l hl => exact ⟨_, _, rfl, by decide⟩
  | obj m hm hl => exact ⟨_, _, rfl, by decide⟩
theorem heads_blank {c : UInt8} (h : c ∈ heads) : isBlank c = false ∧ c ≠ 93 ∧ c ≠ 125 ∧ c ≠ 44 ∧ c ≠ 58 := by
  simp only [heads, List.mem_cons, List.not_mem_nil, or_false] at h
  rcases h with rfl | rfl | rfl | rfl | rfl | rfl | rfl | rfl | rfl | rfl | rfl | rfl | rfl | rfl | rfl | rfl | rfl <;> decide
/-- what stands behind a number -/
def NumEnd (t : List UInt8) : Prop := ∀ c r, t = c :: r → isDigit c = false ∧ [46, 101, 69].contains c = false
theorem numEnd_cons {c : UInt8} {r : List UInt8} (h : isDigit c = false) (h2 : [46, 101, 69].contains c = false) : NumEnd (c :: r) := fun d t e => by
  injection e with e1 e2; rw [← e1]; exact ⟨h, h2⟩
theorem value_number {s : ByteArray} {p : Nat} {n : Int} {t : List UInt8} (d : Nat) (hn : -9007199254740991 ≤ n ∧ n ≤ 9007199254740991) (h : rest s p = Lib.itoa n ++ t) (ht : NumEnd t) :
    valueB s (d + 1) ⟨p, 0⟩ = (numV n, ⟨p + (Lib.itoa n).length, 0⟩) := by
  have hv := value_itoa d h (fun c r e => (ht c r e).1)
  have ha : anyB s [46, 101, 69] (p + (Lib.itoa n).length) = false := by
    have hre := drop_rest h
    rcases t with _ | ⟨c, r⟩
    · exact anyB_nil _ hre
    · rw [anyB_rest _ hre]; exact (ht c r rfl).2
  rw [show ((if n < 0 then -1 else 1) * min (n.natAbs : Int) 9007199254740992) = n by split <;> omega, ha, if_neg (show ¬ ((false : Bool) = true) by decide), if_neg (by omega)] at hv
  exact hv

/-! lists and objects -/
theorem join_cons {α : Type} (f : α → List UInt8) (x : α) (xs : List α) (b : Bool) : joinFrom f b (x :: xs) = (if b then [] else [44]) ++ f x ++ joinFrom f false xs := by
  cases b <;> rfl
theorem join_false {α : Type} (f : α → List UInt8) (x : α) (xs : List α) : joinFrom f false (x :: xs) = 44 :: joinFrom f true (x :: xs) := rfl
theorem wants_rest {s : ByteArray} {p : Nat} {c : UInt8} {r : List UInt8} (h : rest s p = c :: r) (hb : isBlank c = false) : St.wants s ⟨p, 0⟩ c = ⟨p + 1, 0⟩ := by
  unfold St.wants
  rw [see_rest 0 h hb]
  simp [St.step]
def prMem (d : Nat) (q : ByteArray × JV) : List UInt8 := quoteB q.1 ++ 58 :: printB d q.2
theorem quote_head (u : ByteArray) : ∃ r, quoteB u = 34 :: r := ⟨_, rfl⟩
theorem join_head {α : Type} (f : α → List UInt8) (x : α) (xs : List α) {c : UInt8} {r : List UInt8} (h : f x = c :: r) (t : List UInt8) : ∃ u, joinFrom f true (x :: xs) ++ t = c :: u := by
  rw [join_cons, h]; exact ⟨_, rfl⟩
end Go.Proofs.YtjjgbgojlhaapaaGreatDoor
namespace Go.Proofs.YtjjgbgojlhaapaaGreatDoor
open Go.RowKit Go.Lib

/-! blanks -/
theorem skip_pre {s : ByteArray} : ∀ (pre : List UInt8) (p : Nat) (r : List UInt8), (∀ b ∈ pre, isBlank b = true) → rest s p = pre ++ r → skipB s (s.size - p) p = skipB s (s.size - (p + pre.length)) (p + pre.length)
  | [], _, _, _, _ => rfl
  | b :: pre, p, r, hb, h => by
    have hl := rest_lt h
    rw [skip_step hl (by rw [rest_byte h]; exact hb b (List.mem_cons_self ..)), skip_pre pre (p + 1) r (fun c hc => hb c (List.mem_cons_of_mem _ hc)) (rest_next h)]
    rw [show p + 1 + pre.length = p + (b :: pre).length by simp only [List.length_cons]; omega]
theorem blanks_pre {s : ByteArray} {pre r : List UInt8} {p : Nat} (e : Int) (hb : ∀ b ∈ pre, isBlank b = true) (h : rest s p = pre ++ r) : St.blanks s ⟨p, e⟩ = St.blanks s ⟨p + pre.length, e⟩ := by
  unfold St.blanks
  simp only
  rw [skip_pre pre p r hb h]
theorem see_pre {s : ByteArray} {pre r : List UInt8} {p : Nat} (e : Int) (hb : ∀ b ∈ pre, isBlank b = true) (h : rest s p = pre ++ r) : St.see s ⟨p, e⟩ = St.see s ⟨p + pre.length, e⟩ := by
  unfold St.see
  rw [blanks_pre e hb h]
theorem blank_end {c : UInt8} (h : isBlank c = true) : isDigit c = false ∧ [46, 101, 69].contains c = false := by
  simp only [isBlank, List.contains_iff_mem, List.mem_cons, List.not_mem_nil, or_false] at h
  rcases h with rfl | rfl | rfl | rfl <;> decide
theorem endB_blank {s : ByteArray} {q : Nat} {post : List UInt8} (_hq : q ≤ s.size) (hb : ∀ b ∈ post, isBlank b = true) (h : rest s q = post) : (endB s ⟨q, 0⟩).e = 0 := by
  have h' : rest s q = post ++ [] := by rw [h, List.append_nil]
  have h1 := blanks_pre 0 hb h'
  have h2 : rest s (q + post.length) = [] := drop_rest h'
  rw [see_end h2] at h1
  have := rest_nil h2
  unfold endB
  rw [h1, if_neg (by simp only; omega)]
end Go.Proofs.YtjjgbgojlhaapaaGreatDoor
namespace Go.Proofs.YtjjgbgojlhaapaaGreatDoor
open Go.RowKit Go.Lib

/-- names that are apart -/
def NmNe (a b : ByteArray × JV) : Prop := a.1.toList ≠ b.1.toList
theorem ins_mem (m q : ByteArray × JV) : ∀ l, q ∈ insName m l ↔ q = m ∨ q ∈ l
  | [] => by simp [insName]
  | x :: r => by
    simp only [insName]
    split
    · simp
    · simp only [List.mem_cons, ins_mem m q r]
      constructor
      · rintro (h | h | h)
        · exact .inr (.inl h)
        · exact .inl h
        · exact .inr (.inr h)
      · rintro (h | h | h)
        · exact .inr (.inl h)
        · exact .inl h
        · exact .inr (.inr h)
theorem sort_mem (q : ByteArray × JV) : ∀ l, q ∈ sortNames l ↔ q ∈ l
  | [] => by simp [sortNames]
  | x :: r => by
    have ih := sort_mem q r
    unfold sortNames at ih ⊢
    rw [List.foldr_cons, ins_mem, ih, List.mem_cons]
theorem lt_of_ne {a b : List UInt8} (h : ¬ a < b) (hn : a ≠ b) : b < a := by
  rcases List.le_iff_lt_or_eq.1 (List.not_lt.1 h) with h1 | h1
  · exact h1
  · exact absurd h1.symm hn
theorem ins_rising (m : ByteArray × JV) : ∀ l : List (ByteArray × JV), l.Pairwise NmLt → (∀ q ∈ l, NmNe m q) → (insName m l).Pairwise NmLt
  | [], _, _ => by simp [insName]
  | x :: r, hp, hn => by
    have hp' := List.pairwise_cons.1 hp
    simp only [insName]
    by_cases hlt : Op.bytesLess m.1.toList x.1.toList = true
    · rw [if_pos hlt]
      have h1 := (less_iff _ _).1 hlt
      refine List.Pairwise.cons (fun q hq => ?_) hp
      rcases List.mem_cons.1 hq with rfl | hq
      · exact h1
      · exact List.lt_trans h1 (hp'.1 q hq)
    · rw [if_neg hlt]
      have h1 : x.1.toList < m.1.toList := lt_of_ne (fun h => hlt ((less_iff _ _).2 h)) (hn x (List.mem_cons_self ..))
      refine List.Pairwise.cons (fun q hq => ?_) (ins_rising m r hp'.2 (fun q hq => hn q (List.mem_cons_of_mem _ hq)))
      rcases (ins_mem m q r).1 hq with rfl | hq
      · exact h1
      · exact hp'.1 q hq
theorem sort_names : ∀ l : List (ByteArray × JV), l.Pairwise NmNe → (sortNames l).Pairwise NmLt
  | [], _ => by simp [sortNames]
  | x :: r, hp => by
    have hp' := List.pairwise_cons.1 hp
    have ih := sort_names r hp'.2
    have hm : ∀ q, q ∈ sortNames r → NmNe x q := fun q hq => hp'.1 q ((sort_mem q r).1 hq)
    unfold sortNames at ih hm ⊢
    rw [List.foldr_cons]
    exact ins_rising x _ ih hm
theorem parse_zeroV {s : ByteArray} (h : (parseB s).2 ≠ 0) : (parseB s).1 = zeroV := by
  unfold parseB at h ⊢
  split at h
  · rename_i h1; rw [if_pos h1]
  · rename_i h1
    rw [if_neg h1]
    split at h
    · rename_i h2; rw [if_pos h2]
    · exact absurd rfl h
end Go.Proofs.YtjjgbgojlhaapaaGreatDoor
