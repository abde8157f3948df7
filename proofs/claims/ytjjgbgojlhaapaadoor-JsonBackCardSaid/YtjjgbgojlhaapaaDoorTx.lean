/- json's texts: plain laws: runes; a quoted text is read as it; what is read is valid. -/
import Derived.Test.YtjjgbgojlhaapaaDoorNu
import Derived.Lib.MapLaws
namespace Go.Proofs.YtjjgbgojlhaapaaDoor
open Go.RowKit Go.Lib

/-- a scalar value -/
def Scal (r : Nat) : Prop := r < 55296 ∨ (57343 < r ∧ r ≤ 1114111)
def encs (rs : List Nat) : List UInt8 := rs.flatMap fun r : Nat => Lib.encodeRune (r : Int)
theorem encs_cons (r : Nat) (rs : List Nat) : encs (r :: rs) = Lib.encodeRune (r : Int) ++ encs rs := by simp [encs]
theorem u8z {z : Int} (_h0 : 0 ≤ z) (h1 : z < 256) : (z.toNat.toUInt8).toNat = z.toNat := by
  simp; omega
theorem dN2 {n r b2 b3 : Nat} (h0 : 128 ≤ r) (h1 : r ≤ 2047) (hn : 1 < n) : decodeN n (192 + r / 64) (128 + r % 64) b2 b3 = (r, 2) := by
  unfold decodeN
  rw [if_neg (by omega), if_pos (by omega), if_pos (by omega)]
  congr 1; omega
theorem dN3 {n r b3 : Nat} (h : (2048 ≤ r ∧ r < 55296) ∨ (57343 < r ∧ r ≤ 65535)) (hn : 2 < n) : decodeN n (224 + r / 4096) (128 + r / 64 % 64) (128 + r % 64) b3 = (r, 3) := by
  have e : (224 + r / 4096) % 16 * 4096 + (128 + r / 64 % 64) % 64 * 64 + (128 + r % 64) % 64 = r := by omega
  unfold decodeN
  rw [if_neg (by omega), if_neg (by omega), if_pos (by omega), e, if_pos (by omega)]
theorem dN4 {n r : Nat} (h0 : 65536 ≤ r) (h1 : r ≤ 1114111) (hn : 3 < n) : decodeN n (240 + r / 262144) (128 + r / 4096 % 64) (128 + r / 64 % 64) (128 + r % 64) = (r, 4) := by
  have e : (240 + r / 262144) % 8 * 262144 + (128 + r / 4096 % 64) % 64 * 4096 + (128 + r / 64 % 64) % 64 * 64 + (128 + r % 64) % 64 = r := by omega
  unfold decodeN
  rw [if_neg (by omega), if_neg (by omega), if_neg (by omega), if_pos (by omega), e, if_pos (by omega)]
theorem enc_len {r : Nat} (h : Scal r) : (Lib.encodeRune (r : Int)).length = if r < 128 then 1 else if r < 2048 then 2 else if r < 65536 then 3 else 4 := by
  unfold Lib.encodeRune
  rw [List.length_map]
  unfold Scal at h
  by_cases h1 : r < 128
  · rw [if_pos h1, encodeRuneZ_one (by omega) (by omega)]; rfl
  · rw [if_neg h1]
    by_cases h2 : r < 2048
    · rw [if_pos h2, encodeRuneZ_two (by omega) (by omega)]; rfl
    · rw [if_neg h2]
      by_cases h3 : r < 65536
      · rw [if_pos h3, encodeRuneZ_three (by omega)]; rfl
      · rw [if_neg h3, encodeRuneZ_four (by omega) (by omega)]; rfl
theorem decode_enc {r : Nat} (h : Scal r) (t : List UInt8) : decodeL (Lib.encodeRune (r : Int) ++ t) = (r, (Lib.encodeRune (r : Int)).length) := by
  rw [enc_len h, decodeL_N]
  unfold Lib.encodeRune
  unfold Scal at h
  by_cases h1 : r < 128
  · rw [if_pos h1, encodeRuneZ_one (by omega) (by omega)]
    simp only [List.map_cons, List.map_nil, List.cons_append, List.nil_append, List.getD_cons_zero]
    rw [u8z (by omega) (by omega)]
    unfold decodeN
    rw [if_pos (by omega)]; congr 1
  · rw [if_neg h1]
    by_cases h2 : r < 2048
    · rw [if_pos h2, encodeRuneZ_two (by omega) (by omega)]
      simp only [List.map_cons, List.map_nil, List.cons_append, List.nil_append, List.getD_cons_zero, List.getD_cons_succ, List.length_cons]
      rw [u8z (by omega) (by omega), u8z (by omega) (by omega)]
      rw [show (192 + (r : Int) / 64).toNat = 192 + r / 64 by omega, show (128 + (r : Int) % 64).toNat = 128 + r % 64 by omega]
      exact dN2 (by omega) (by omega) (by omega)
    · rw [if_neg h2]
      by_cases h3 : r < 65536
      · rw [if_pos h3, encodeRuneZ_three (by omega)]
        simp only [List.map_cons, List.map_nil, List.cons_append, List.nil_append, List.getD_cons_zero, List.getD_cons_succ, List.length_cons]
        rw [u8z (by omega) (by omega), u8z (by omega) (by omega), u8z (by omega) (by omega)]
        rw [show (224 + (r : Int) / 4096).toNat = 224 + r / 4096 by omega, show (128 + (r : Int) / 64 % 64).toNat = 128 + r / 64 % 64 by omega, show (128 + (r : Int) % 64).toNat = 128 + r % 64 by omega]
        exact dN3 (by omega) (by omega)
      · rw [if_neg h3, encodeRuneZ_four (by omega) (by omega)]
        simp only [List.map_cons, List.map_nil, List.cons_append, List.nil_append, List.getD_cons_zero, List.getD_cons_succ, List.length_cons]
        rw [u8z (by omega) (by omega), u8z (by omega) (by omega), u8z (by omega) (by omega), u8z (by omega) (by omega)]
        rw [show (240 + (r : Int) / 262144).toNat = 240 + r / 262144 by omega, show (128 + (r : Int) / 4096 % 64).toNat = 128 + r / 4096 % 64 by omega, show (128 + (r : Int) / 64 % 64).toNat = 128 + r / 64 % 64 by omega, show (128 + (r : Int) % 64).toNat = 128 + r % 64 by omega]
        exact dN4 (by omega) (by omega) (by omega)
theorem enc_pos (r : Int) : 1 ≤ (Lib.encodeRune r).length := by
  unfold Lib.encodeRune
  rw [List.length_map]
  exact (encodeRuneZ_length r).1
/-- a rune that was decoded from valid bytes is a scalar value -/
theorem decode_scal (l : List UInt8) (_hv : ¬ ((decodeL l).1 = 65533 ∧ (decodeL l).2 = 1)) : Scal (decodeL l).1 := by
  rw [decodeL_N]
  have k0 := (l.getD 0 0).toNat_lt
  unfold Scal
  rcases decodeN_shape l.length (l.getD 0 0).toNat (l.getD 1 0).toNat (l.getD 2 0).toNat (l.getD 3 0).toNat with ⟨c, e⟩ | ⟨c1, c2, c3, cv, e⟩ | ⟨c1, c2, c3, c4, cv, cs, e⟩ | ⟨c1, c2, c3, c4, c5, cv, cw, e⟩ | e
  all_goals (rw [e]; dsimp only)
  all_goals omega
theorem valid_runes : ∀ (n : Nat) (l : List UInt8), l.length ≤ n → Lib.validGoD n l = true → ∃ rs : List Nat, (∀ r ∈ rs, Scal r) ∧ l = encs rs
  | 0, l, hn, _ => ⟨[], by simp, by rw [List.eq_nil_of_length_eq_zero (Nat.le_zero.1 hn)]; rfl⟩
  | n + 1, l, hn, h => by
    by_cases hne : l = []
    · exact ⟨[], by simp, by rw [hne]; rfl⟩
    · simp only [Lib.validGoD] at h
      rw [if_neg hne] at h
      by_cases hb : (decodeL l).1 = 65533 ∧ (decodeL l).2 = 1
      · rw [if_pos hb] at h; exact absurd h (by decide)
      · rw [if_neg hb] at h
        have hw := decodeL_width l
        have hl : 0 < l.length := List.length_pos_iff.2 hne
        obtain ⟨rs, h1, h2⟩ := valid_runes n (l.drop (decodeL l).2) (by rw [List.length_drop]; omega) h
        refine ⟨(decodeL l).1 :: rs, fun r hr => ?_, ?_⟩
        · rcases List.mem_cons.1 hr with rfl | hr
          · exact decode_scal l hb
          · exact h1 r hr
        · rw [encs_cons, encode_decode l hne hb, ← h2, List.take_append_drop]
theorem runes_valid : ∀ (rs : List Nat) (n : Nat), (∀ r ∈ rs, Scal r) → (encs rs).length ≤ n → Lib.validGoD n (encs rs) = true
  | _, 0, _, _ => rfl
  | [], n + 1, _, _ => by simp [Lib.validGoD, encs]
  | r :: rs, n + 1, h, hn => by
    have hr := h r (List.mem_cons_self ..)
    have hp := enc_pos r
    have hl := enc_len hr
    rw [encs_cons] at hn ⊢
    rw [List.length_append] at hn
    have hd := decode_enc hr (encs rs)
    simp only [Lib.validGoD]
    rw [if_neg (by intro e; rw [List.append_eq_nil_iff] at e; rw [e.1] at hp; exact absurd hp (by decide)), hd]
    simp only
    rw [if_neg (by rintro ⟨rfl, h2⟩; rw [hl] at h2; exact absurd h2 (by decide)), List.drop_left]
    exact runes_valid rs n (fun q hq => h q (List.mem_cons_of_mem _ hq)) (by omega)
theorem validB_runes {s : ByteArray} (h : validB s = true) : ∃ rs : List Nat, (∀ r ∈ rs, Scal r) ∧ s.data.toList = encs rs := valid_runes _ _ (Nat.le_refl _) h
theorem runes_validB {rs : List Nat} (h : ∀ r ∈ rs, Scal r) : validB ⟨(encs rs).toArray⟩ = true := runes_valid rs _ h (by simp)

theorem dec_L {s : ByteArray} {p : Nat} (h : p < s.size) : dec s p = decodeL (rest s p) := by
  have e : (s.extract p s.size).data.toList = rest s p := by
    rw [extract_data, List.take_of_length_le (by simp)]
    rfl
  unfold dec Lib.decodeGo
  rw [if_neg (by simp; omega), ← decodeL_drop, List.drop_zero, e]
theorem next_rest {s : ByteArray} {p : Nat} {c : UInt8} {r : List UInt8} (h : rest s p = c :: r) : St.next s ⟨p, 0⟩ = (c, ⟨p + 1, 0⟩) := by
  have := rest_lt h
  unfold St.next
  rw [if_neg (by simp)]
  simp only
  rw [if_neg (by omega), rest_byte h]
  rfl
theorem twants_rest {s : ByteArray} {p : Nat} {c : UInt8} {r : List UInt8} (h : rest s p = c :: r) : St.twants s ⟨p, 0⟩ c = ⟨p + 1, 0⟩ := by
  unfold St.twants
  rw [next_rest h]
  simp
theorem sign_enc {s : ByteArray} {p r : Nat} {t : List UInt8} (h : rest s p = Lib.encodeRune (r : Int) ++ t) (hr : Scal r) (h32 : 32 ≤ r) : signB s ⟨p, 0⟩ = (r, ⟨p + (Lib.encodeRune (r : Int)).length, 0⟩) := by
  have hp := enc_pos r
  have hl := enc_len hr
  have hlt : p < s.size := by
    rcases he : Lib.encodeRune (r : Int) ++ t with _ | ⟨c, u⟩
    · rw [List.append_eq_nil_iff] at he; rw [he.1] at hp; exact absurd hp (by decide)
    · rw [he] at h; exact rest_lt h
  unfold signB
  rw [dec_L hlt, h, decode_enc hr]
  simp only
  rw [if_neg (by omega), if_neg (by
    rintro (h1 | ⟨rfl, h2⟩)
    · omega
    · rw [hl] at h2; exact absurd h2 (by decide))]
theorem four_rest {s : ByteArray} {p : Nat} {a b c d : UInt8} {t : List UInt8} (h : rest s p = a :: b :: c :: d :: t) (ha : 0 ≤ hexIdx a) (hb : 0 ≤ hexIdx b) (hc : 0 ≤ hexIdx c) (hd : 0 ≤ hexIdx d) :
    fourB s 4 0 ⟨p, 0⟩ = ((((0 * 16 + hexIdx a) * 16 + hexIdx b) * 16 + hexIdx c) * 16 + hexIdx d, ⟨p + 4, 0⟩) := by
  have h1 := rest_next h
  have h2 := rest_next h1
  have h3 := rest_next h2
  simp only [fourB, next_rest h]
  rw [if_neg (by omega), next_rest h1]
  simp only
  rw [if_neg (by omega), next_rest h2]
  simp only
  rw [if_neg (by omega), next_rest h3]
  simp only
  rw [if_neg (by omega)]
theorem quote_hex : ∀ r : Nat, r < 32 → 0 ≤ hexIdx (hexAt (r / 16)) ∧ 0 ≤ hexIdx (hexAt (r % 16)) ∧ (((0 * 16 + hexIdx 48) * 16 + hexIdx 48) * 16 + hexIdx (hexAt (r / 16))) * 16 + hexIdx (hexAt (r % 16)) = (r : Int) := by decide +kernel
theorem letter_cases {r : Int} (h : letterB r ≠ 0) : (r = 34 ∧ letterB r = 34) ∨ (r = 92 ∧ letterB r = 92) ∨ (r = 8 ∧ letterB r = 98) ∨ (r = 12 ∧ letterB r = 102) ∨ (r = 10 ∧ letterB r = 110) ∨ (r = 13 ∧ letterB r = 114) ∨ (r = 9 ∧ letterB r = 116) := by
  simp only [letterB, letterTab, letterIn] at h ⊢
  repeat' split at h
  all_goals first | omega | skip
/-- one rune, as it is quoted -/
theorem unq_one {s : ByteArray} {p r : Nat} {t : List UInt8} (f : Nat) (acc : List UInt8) (h : rest s p = quoteOne r ++ t) (hr : Scal r) :
    unqLoop s (f + 1) acc ⟨p, 0⟩ = unqLoop s f (acc ++ Lib.encodeRune (r : Int)) ⟨p + (quoteOne r).length, 0⟩ := by
  unfold quoteOne at h ⊢
  by_cases hl : letterB (r : Int) ≠ 0
  · rw [if_pos hl] at h ⊢
    have s1 := sign_rest (c := 92) h (by decide) (by decide)
    have h1 : rest s (p + 1) = _ := rest_next h
    have n1 := next_rest h1
    have he : escapeB s ⟨p + 1, 0⟩ = ((r : Int), ⟨p + 2, 0⟩) := by
      unfold escapeB
      rw [n1]
      rcases letter_cases hl with ⟨e1, e2⟩ | ⟨e1, e2⟩ | ⟨e1, e2⟩ | ⟨e1, e2⟩ | ⟨e1, e2⟩ | ⟨e1, e2⟩ | ⟨e1, e2⟩ <;> (rw [e2, e1]; rfl)
    simp only [unqLoop, s1, he]
    rfl
  · rw [if_neg hl] at h ⊢
    by_cases h32 : r < 32
    · rw [if_pos h32] at h ⊢
      have s1 := sign_rest (c := 92) h (by decide) (by decide)
      have h1 := rest_next h
      have h2 := rest_next h1
      have n1 := next_rest h1
      have q := quote_hex r h32
      have h4 := four_rest h2 (by decide) (by decide) q.1 q.2.1
      rw [q.2.2] at h4
      have he : escapeB s ⟨p + 1, 0⟩ = ((r : Int), ⟨p + 6, 0⟩) := by
        unfold escapeB
        rw [n1]
        simp only
        rw [if_neg (by decide), if_pos trivial]
        unfold unitB
        simp only [h4]
        rw [if_pos (by right; left; omega)]
      simp only [unqLoop, s1, he]
      rfl
    · rw [if_neg h32] at h ⊢
      have s1 := sign_enc h hr (by omega)
      have n34 : r ≠ 34 := by rintro rfl; exact hl (by decide)
      have n92 : r ≠ 92 := by rintro rfl; exact hl (by decide)
      simp only [unqLoop, s1]
      rw [if_neg (by decide), if_neg (by decide), if_neg n34, if_neg n92]
theorem unq_runes (s : ByteArray) (t : List UInt8) : ∀ (rs : List Nat) (f p : Nat) (acc : List UInt8), (∀ r ∈ rs, Scal r) → rest s p = rs.flatMap (fun r => quoteOne r) ++ 34 :: t → rs.length + 1 ≤ f →
    unqLoop s f acc ⟨p, 0⟩ = (acc ++ encs rs, p + (rs.flatMap (fun r => quoteOne r)).length + 1, 0)
  | _, 0, _, _, _, _, hf => by omega
  | [], f + 1, p, acc, _, h, _ => by
    have s1 := sign_rest (c := 34) h (by decide) (by decide)
    simp only [unqLoop, s1]
    simp [encs]
  | r :: rs, f + 1, p, acc, hr, h, hf => by
    have h' : rest s p = quoteOne r ++ (rs.flatMap (fun r => quoteOne r) ++ 34 :: t) := by rw [h]; simp
    rw [unq_one f acc h' (hr r (List.mem_cons_self ..)), unq_runes s t rs f _ _ (fun q hq => hr q (List.mem_cons_of_mem _ hq)) (drop_rest h') (by simp at hf; omega)]
    simp only [encs_cons, List.append_assoc, List.flatMap_cons, List.length_append]
    congr 2; omega
theorem quoteOne_pos (r : Nat) : 1 ≤ (quoteOne r).length := by
  unfold quoteOne
  split
  · simp
  · split
    · simp
    · exact enc_pos r
theorem flat_len : ∀ rs : List Nat, rs.length ≤ (rs.flatMap (fun r => quoteOne r)).length
  | [] => Nat.le_refl _
  | r :: rs => by
    have := flat_len rs
    have := quoteOne_pos r
    rw [List.flatMap_cons, List.length_append, List.length_cons]; omega
theorem quote_runes (s : ByteArray) : ∀ (rs : List Nat) (fuel pos : Nat), (∀ r ∈ rs, Scal r) → rest s pos = encs rs → s.size - pos ≤ fuel → quoteFrom s fuel pos = rs.flatMap (fun r => quoteOne r)
  | [], fuel, pos, _, h, _ => quoteFrom_end s fuel pos (rest_nil h)
  | r :: rs, fuel, pos, hr, h, hf => by
    have h0 := hr r (List.mem_cons_self ..)
    rw [encs_cons] at h
    have hp := enc_pos r
    have hlt : pos < s.size := by
      rcases he : Lib.encodeRune (r : Int) ++ encs rs with _ | ⟨c, u⟩
      · rw [List.append_eq_nil_iff] at he; rw [he.1] at hp; exact absurd hp (by decide)
      · rw [he] at h; exact rest_lt h
    obtain ⟨f, rfl⟩ : ∃ f, fuel = f + 1 := ⟨fuel - 1, by omega⟩
    have hd : Utf8.decode s pos = (r, (Lib.encodeRune (r : Int)).length) := by
      rw [← decodeL_drop]
      show decodeL (rest s pos) = _
      rw [h, decode_enc h0]
    rw [quoteFrom_step hlt, hd, quote_runes s rs f _ (fun q hq => hr q (List.mem_cons_of_mem _ hq)) (drop_rest h) (by omega)]
    rfl
theorem quoteB_runes {s : ByteArray} {rs : List Nat} (hr : ∀ r ∈ rs, Scal r) (h : s.data.toList = encs rs) : quoteB s = 34 :: (rs.flatMap (fun r => quoteOne r) ++ [34]) := by
  unfold quoteB
  rw [quote_runes s rs s.size 0 hr (by simpa [rest] using h) (by omega)]
theorem array_list (l : List UInt8) (s : ByteArray) (h : s.data.toList = l) : (⟨l.toArray⟩ : ByteArray) = s := by
  apply ByteArray.ext
  rw [← h]
/-- a quoted text is read as it -/
theorem text_quote {s u : ByteArray} {p : Nat} {t : List UInt8} (hv : validB u = true) (hl : u.size ≤ 8000) (h : rest s p = quoteB u ++ t) : textB s ⟨p, 0⟩ = (u.data.toList, ⟨p + (quoteB u).length, 0⟩) := by
  obtain ⟨rs, hr, hu⟩ := validB_runes hv
  rw [quoteB_runes hr hu] at h ⊢
  have h' : rest s p = 34 :: (rs.flatMap (fun r => quoteOne r) ++ 34 :: t) := by rw [h]; simp
  have h1 := rest_next h'
  have hlen := congrArg List.length h'
  have hz : s.data.size = s.size := rfl
  have hfl := flat_len rs
  unfold rest at hlen
  simp only [List.length_drop, Array.length_toList, hz, List.length_cons, List.length_append] at hlen
  have hq : unquoteB s p = (encs rs, p + 1 + (rs.flatMap (fun r => quoteOne r)).length + 1, 0) := by
    unfold unquoteB
    rw [twants_rest h', unq_runes s t rs _ _ [] hr h1 (by omega)]
    rfl
  have hul : u.data.toList.length = u.size := Array.length_toList ..
  unfold textB
  rw [if_neg (show ¬ ((0 : Int) ≠ 0) by decide)]
  simp only [hq]
  rw [if_neg (by decide), if_neg (by rw [← hu, hul]; omega), hu]
  simp only [List.length_cons, List.length_append, List.length_nil]
  congr 2; omega

/-! what is read is valid -/
theorem enc_bad {r : Int} (h : r < 0 ∨ (55296 ≤ r ∧ r ≤ 57343) ∨ 1114111 < r) : Lib.encodeRune r = Lib.encodeRune ((65533 : Nat) : Int) := by
  unfold Lib.encodeRune
  rw [encodeRuneZ_bad h]; rfl
theorem enc_scal (r : Int) : ∃ q : Nat, Scal q ∧ Lib.encodeRune r = Lib.encodeRune (q : Int) := by
  by_cases h : r < 0 ∨ (55296 ≤ r ∧ r ≤ 57343) ∨ 1114111 < r
  · exact ⟨65533, by unfold Scal; omega, enc_bad h⟩
  · exact ⟨r.toNat, by unfold Scal; omega, by rw [show ((r.toNat : Nat) : Int) = r by omega]⟩
theorem encs_append (a b : List Nat) : encs (a ++ b) = encs a ++ encs b := by simp [encs]
theorem unq_valid (s : ByteArray) : ∀ (f : Nat) (acc : List UInt8) (x : St), (∃ rs : List Nat, (∀ r ∈ rs, Scal r) ∧ acc = encs rs) → ∃ rs : List Nat, (∀ r ∈ rs, Scal r) ∧ (unqLoop s f acc x).1 = encs rs
  | 0, _, _, _ => ⟨[], by simp, rfl⟩
  | f + 1, acc, x, h => by
    have more : ∀ r : Int, ∃ rs : List Nat, (∀ r ∈ rs, Scal r) ∧ acc ++ Lib.encodeRune r = encs rs := fun r => by
      obtain ⟨rs, h1, h2⟩ := h
      obtain ⟨q, hq, e⟩ := enc_scal r
      refine ⟨rs ++ [q], fun z hz => ?_, ?_⟩
      · rcases List.mem_append.1 hz with hz | hz
        · exact h1 z hz
        · rw [List.mem_singleton.1 hz]; exact hq
      · rw [encs_append, h2, e]; simp [encs]
    simp only [unqLoop]
    split
    · exact ⟨[], by simp, rfl⟩
    · split
      · exact ⟨[], by simp, rfl⟩
      · split
        · exact h
        · split
          · exact unq_valid s f _ _ (more _)
          · exact unq_valid s f _ _ (more _)
theorem text_valid (s : ByteArray) (x : St) (h : (textB s x).2.e = 0) : shortB ⟨(textB s x).1.toArray⟩ = true := by
  unfold textB at h ⊢
  by_cases h0 : x.e ≠ 0
  · rw [if_pos h0] at h; exact absurd h h0
  · rw [if_neg h0] at h ⊢
    simp only at h ⊢
    obtain ⟨rs, h1, h2⟩ := unq_valid s (s.size + 1 - x.p) [] (St.twants s ⟨x.p, 0⟩ 34) ⟨[], by simp, rfl⟩
    have h2' : (unquoteB s x.p).1 = encs rs := h2
    have hl : ¬ 8000 < (unquoteB s x.p).1.length := by
      intro h8
      rw [if_pos h8] at h
      split at h
      · rename_i h9; exact h9 h
      · exact absurd h (by decide)
    unfold shortB
    rw [h2', runes_validB h1]
    rw [h2'] at hl
    simp [ByteArray.size]; omega
end Go.Proofs.YtjjgbgojlhaapaaDoor
