/- Parts of the proof: Tx, Rp, Fw, Gd, Hn. -/
import Derived.Test.YtlihjmfdnkfmfaaGreatDoorZPback16
import Derived.Lib.MapLaws
import Derived.Test.YtlihjmfdnkfmfaaGreatDoorZPback8
import Derived.Test.YtlihjmfdnkfmfaaGreatDoorZPback9
import Derived.Laws.Rows
namespace Go.Proofs.YtlihjmfdnkfmfaaGreatDoor
open Go.RowKit Go.Lib

/-- a scalar value -/
def Scal (r : Nat) : Prop := r < 55296 ∨ (57343 < r ∧ r ≤ 1114111)
def encs (rs : List Nat) : List UInt8 := rs.flatMap fun r : Nat => Lib.encodeRune (r : Int)
theorem encs_cons (r : Nat) (rs : List Nat) : encs (r :: rs) = Lib.encodeRune (r : Int) ++ encs rs := by simp [encs]
theorem u8z {z : Int} (_h0 : 0 ≤ z) (h1 : z < 256) : (z.toNat.toUInt8).toNat = z.toNat := by
  simp; omega
theorem dN2 {n r b2 b3 : Nat} (h0 : 128 ≤ r) (h1 : r ≤ 2047) (hn : 1 < n) : decodeN n (192 + r / 64) (128 + r % 64) b2 b3 = (r, 2) := by
  unfold decodeN
  rw [if_neg (by omega), if_pos (by omega), if_pos (by omega)]
  congr 1; omega
theorem dN3 {n r b3 : Nat} (h : (2048 ≤ r ∧ r < 55296) ∨ (57343 < r ∧ r ≤ 65535)) (hn : 2 < n) : decodeN n (224 + r / 4096) (128 + r / 64 % 64) (128 + r % 64) b3 = (r, 3) := by
  have e : (224 + r / 4096) % 16 * 4096 + (128 + r / 64 % 64) % 64 * 64 + (128 + r % 64) % 64 = r := by omega
  unfold decodeN
  rw [if_neg (by omega), if_neg (by omega), if_pos (by omega), e, if_pos (by omega)]
theorem dN4 {n r : Nat} (h0 : 65536 ≤ r) (h1 : r ≤ 1114111) (hn : 3 < n) : decodeN n (240 + r / 262144) (128 + r / 4096 % 64) (128 + r / 64 % 64) (128 + r % 64) = (r, 4) := by
  have e : (240 + r / 262144) % 8 * 262144 + (128 + r / 4096 % 64) % 64 * 4096 + (128 + r / 64 % 64) % 64 * 64 + (128 + r % 64) % 64 = r := by omega
  unfold decodeN
  rw [if_neg (by omega), if_neg (by omega), if_neg (by omega), if_pos (by omega), e, if_pos (by omega)]
theorem enc_len {r : Nat} (h : Scal r) : (Lib.encodeRune (r : Int)).length = if r < 128 then 1 else if r < 2048 then 2 else if r < 65536 then 3 else 4 := by
  unfold Lib.encodeRune
  rw [List.length_map]
  unfold Scal at h
  by_cases h1 : r < 128
  · rw [if_pos h1, encodeRuneZ_one (by omega) (by omega)]; rfl
  · rw [if_neg h1]
    by_cases h2 : r < 2048
    · rw [if_pos h2, encodeRuneZ_two (by omega) (by omega)]; rfl
    · rw [if_neg h2]
      by_cases h3 : r < 65536
      · rw [if_pos h3, encodeRuneZ_three (by omega)]; rfl
      · rw [if_neg h3, encodeRuneZ_four (by omega) (by omega)]; rfl
theorem decode_enc {r : Nat} (h : Scal r) (t : List UInt8) : decodeL (Lib.encodeRune (r : Int) ++ t) = (r, (Lib.encodeRune (r : Int)).length) := by
  rw [enc_len h, decodeL_N]
  unfold Lib.encodeRune
  unfold Scal at h
  by_cases h1 : r < 128
  · rw [if_pos h1, encodeRuneZ_one (by omega) (by omega)]
    simp only [List.map_cons, List.map_nil, List.cons_append, List.nil_append, List.getD_cons_zero]
    rw [u8z (by omega) (by omega)]
    unfold decodeN
    rw [if_pos (by omega)]; congr 1
  · rw [if_neg h1]
    by_cases h2 : r < 2048
    · rw [if_pos h2, encodeRuneZ_two (by omega) (by omega)]
      simp only [List.map_cons, List.map_nil, List.cons_append, List.nil_append, List.getD_cons_zero, List.getD_cons_succ, List.length_cons]
      rw [u8z (by omega) (by omega), u8z (by omega) (by omega)]
      rw [show (192 + (r : Int) / 64).toNat = 192 + r / 64 by omega, show (128 + (r : Int) % 64).toNat = 128 + r % 64 by omega]
      exact dN2 (by omega) (by omega) (by omega)
    · rw [if_neg h2]
      by_cases h3 : r < 65536
      · rw [if_pos h3, encodeRuneZ_three (by omega)]
        simp only [List.map_cons, List.map_nil, List.cons_append, List.nil_append, List.getD_cons_zero, List.getD_cons_succ, List.length_cons]
        rw [u8z (by omega) (by omega), u8z (by omega) (by omega), u8z (by omega) (by omega)]
        rw [show (224 + (r : Int) / 4096).toNat = 224 + r / 4096 by omega, show (128 + (r : Int) / 64 % 64).toNat = 128 + r / 64 % 64 by omega, show (128 + (r : Int) % 64).toNat = 128 + r % 64 by omega]
        exact dN3 (by omega) (by omega)
      · rw [if_neg h3, encodeRuneZ_four (by omega) (by omega)]
        simp only [List.map_cons, List.map_nil, List.cons_append, List.nil_append, List.getD_cons_zero, List.getD_cons_succ, List.length_cons]
        rw [u8z (by omega) (by omega), u8z (by omega) (by omega), u8z (by omega) (by omega), u8z (by omega) (by omega)]
        rw [show (240 + (r : Int) / 262144).toNat = 240 + r / 262144 by omega, show (128 + (r : Int) / 4096 % 64).toNat = 128 + r / 4096 % 64 by omega, show (128 + (r : Int) / 64 % 64).toNat = 128 + r / 64 % 64 by omega, show (128 + (r : Int) % 64).toNat = 128 + r % 64 by omega]
        exact dN4 (by omega) (by omega) (by omega)
theorem enc_pos (r : Int) : 1 ≤ (Lib.encodeRune r).length := by
  unfold Lib.encodeRune
  rw [List.length_map]
  exact (encodeRuneZ_length r).1
/-- a rune that was decoded from valid bytes is a scalar value -/
theorem decode_scal (l : List UInt8) (_hv : ¬ ((decodeL l).1 = 65533 ∧ (decodeL l).2 = 1)) : Scal (decodeL l).1 := by
  rw [decodeL_N]
  have k0 := (l.getD 0 0).toNat_lt
  unfold Scal
  rcases decodeN_shape l.length (l.getD 0 0).toNat (l.getD 1 0).toNat (l.getD 2 0).toNat (l.getD 3 0).toNat with ⟨c, e⟩ | ⟨c1, c2, c3, cv, e⟩ | ⟨c1, c2, c3, c4, cv, cs, e⟩ | ⟨c1, c2, c3, c4, c5, cv, cw, e⟩ | e
  all_goals (rw [e]; dsimp only)
  all_goals omega
theorem valid_runes : ∀ (n : Nat) (l : List UInt8), l.length ≤ n → Lib.validGoD n l = true → ∃ rs : List Nat, (∀ r ∈ rs, Scal r) ∧ l = encs rs
  | 0, l, hn, _ => ⟨[], by simp, by rw [List.eq_nil_of_length_eq_zero (Nat.le_zero.1 hn)]; rfl⟩
  | n + 1, l, hn, h => by
    by_cases hne : l = []
    · exact ⟨[], by simp, by rw [hne]; rfl⟩
    · simp only [Lib.validGoD] at h
      rw [if_neg hne] at h
      by_cases hb : (decodeL l).1 = 65533 ∧ (decodeL l).2 = 1
      · rw [if_pos hb] at h; exact absurd h (by decide)
      · rw [if_neg hb] at h
        have hw := decodeL_width l
        have hl : 0 < l.length := List.length_pos_iff.2 hne
        obtain ⟨rs, h1, h2⟩ := valid_runes n (l.drop (decodeL l).2) (by rw [List.length_drop]; omega) h
        refine ⟨(decodeL l).1 :: rs, fun r hr => ?_, ?_⟩
        · rcases List.mem_cons.1 hr with rfl | hr
          · exact decode_scal l hb
          · exact h1 r hr
        · rw [encs_cons, encode_decode l hne hb, ← h2, List.take_append_drop]
theorem runes_valid : ∀ (rs : List Nat) (n : Nat), (∀ r ∈ rs, Scal r) → (encs rs).length ≤ n → Lib.validGoD n (encs rs) = true
  | _, 0, _, _ => rfl
  | [], n + 1, _, _ => by simp [Lib.validGoD, encs]
  | r :: rs, n + 1, h, hn => by
    have hr := h r (List.mem_cons_self ..)
    have hp := enc_pos r
    have hl := enc_len hr
    rw [encs_cons] at hn ⊢
    rw [List.length_append] at hn
    have hd := decode_enc hr (encs rs)
    simp only [Lib.validGoD]
    rw [if_neg (by intro e; rw [List.append_eq_nil_iff] at e; rw [e.1] at hp; exact absurd hp (by decide)), hd]
    simp only
    rw [if_neg (by rintro ⟨rfl, h2⟩; rw [hl] at h2; exact absurd h2 (by decide)), List.drop_left]
    exact runes_valid rs n (fun q hq => h q (List.mem_cons_of_mem _ hq)) (by omega)
theorem validB_runes {s : ByteArray} (h : validB s = true) : ∃ rs : List Nat, (∀ r ∈ rs, Scal r) ∧ s.data.toList = encs rs := valid_runes _ _ (Nat.le_refl _) h
theorem runes_validB {rs : List Nat} (h : ∀ r ∈ rs, Scal r) : validB ⟨(encs rs).toArray⟩ = true := runes_valid rs _ h (by simp)

theorem dec_L {s : ByteArray} {p : Nat} (h : p < s.size) : dec s p = decodeL (rest s p) := by
  have e : (s.extract p s.size).data.toList = rest s p := by
    rw [extract_data, List.take_of_length_le (by simp)]
    rfl
  unfold dec Lib.decodeGo
  rw [if_neg (by simp; omega), ← decodeL_drop, List.drop_zero, e]
theorem next_rest {s : ByteArray} {p : Nat} {c : UInt8} {r : List UInt8} (h : rest s p = c :: r) : St.next s ⟨p, 0⟩ = (c, ⟨p + 1, 0⟩) := by
  have := rest_lt h
  unfold St.next
  rw [if_neg (by simp)]
  simp only
  rw [if_neg (by omega), rest_byte h]
  rfl
theorem twants_rest {s : ByteArray} {p : Nat} {c : UInt8} {r : List UInt8} (h : rest s p = c :: r) : St.twants s ⟨p, 0⟩ c = ⟨p + 1, 0⟩ := by
  unfold St.twants
  rw [next_rest h]
  simp
theorem sign_enc {s : ByteArray} {p r : Nat} {t : List UInt8} (h : rest s p = Lib.encodeRune (r : Int) ++ t) (hr : Scal r) (h32 : 32 ≤ r) : signB s ⟨p, 0⟩ = (r, ⟨p + (Lib.encodeRune (r : Int)).length, 0⟩) := by
  have hp := enc_pos r
  have hl := enc_len hr
  have hlt : p < s.size := by
    rcases he : Lib.encodeRune (r : Int) ++ t with _ | ⟨c, u⟩
    · rw [List.append_eq_nil_iff] at he; rw [he.1] at hp; exact absurd hp (by decide)
    · rw [he] at h; exact rest_lt h
  unfold signB
  rw [dec_L hlt, h, decode_enc hr]
  simp only
  rw [if_neg (by omega), if_neg (by
    rintro (h1 | ⟨rfl, h2⟩)
    · omega
    · rw [hl] at h2; exact absurd h2 (by decide))]
theorem four_rest {s : ByteArray} {p : Nat} {a b c d : UInt8} {t : List UInt8} (h : rest s p = a :: b :: c :: d :: t) (ha : 0 ≤ hexIdx a) (hb : 0 ≤ hexIdx b) (hc : 0 ≤ hexIdx c) (hd : 0 ≤ hexIdx d) :
    fourB s 4 0 ⟨p, 0⟩ = ((((0 * 16 + hexIdx a) * 16 + hexIdx b) * 16 + hexIdx c) * 16 + hexIdx d, ⟨p + 4, 0⟩) := by
  have h1 := rest_next h
  have h2 := rest_next h1
  have h3 := rest_next h2
  simp only [fourB, next_rest h]
  rw [if_neg (by omega), next_rest h1]
  simp only
  rw [if_neg (by omega), next_rest h2]
  simp only
  rw [if_neg (by omega), next_rest h3]
  simp only
  rw [if_neg (by omega)]
theorem quote_hex : ∀ r : Nat, r < 32 → 0 ≤ hexIdx (hexAt (r / 16)) ∧ 0 ≤ hexIdx (hexAt (r % 16)) ∧ (((0 * 16 + hexIdx 48) * 16 + hexIdx 48) * 16 + hexIdx (hexAt (r / 16))) * 16 + hexIdx (hexAt (r % 16)) = (r : Int) := by decide +kernel
theorem letter_cases {r : Int} (h : letterB r ≠ 0) : (r = 34 ∧ letterB r = 34) ∨ (r = 92 ∧ letterB r = 92) ∨ (r = 8 ∧ letterB r = 98) ∨ (r = 12 ∧ letterB r = 102) ∨ (r = 10 ∧ letterB r = 110) ∨ (r = 13 ∧ letterB r = 114) ∨ (r = 9 ∧ letterB r = 116) := by
  simp only [letterB, letterTab, letterIn] at h ⊢
  repeat' split at h
  all_goals first | omega | skip
/-- one rune, as it is quoted -/
theorem unq_one {s : ByteArray} {p r : Nat} {t : List UInt8} (f : Nat) (acc : List UInt8) (h : rest s p = quoteOne r ++ t) (hr : Scal r) :
    unqLoop s (f + 1) acc ⟨p, 0⟩ = unqLoop s f (acc ++ Lib.encodeRune (r : Int)) ⟨p + (quoteOne r).length, 0⟩ := by
  unfold quoteOne at h ⊢
  by_cases hl : letterB (r : Int) ≠ 0
  · rw [if_pos hl] at h ⊢
    have s1 := sign_rest (c := 92) h (by decide) (by decide)
    have h1 : rest s (p + 1) = _ := rest_next h
    have n1 := next_rest h1
    have he : escapeB s ⟨p + 1, 0⟩ = ((r : Int), ⟨p + 2, 0⟩) := by
      unfold escapeB
      rw [n1]
      rcases letter_cases hl with ⟨e1, e2⟩ | ⟨e1, e2⟩ | ⟨e1, e2⟩ | ⟨e1, e2⟩ | ⟨e1, e2⟩ | ⟨e1, e2⟩ | ⟨e1, e2⟩ <;> (rw [e2, e1]; rfl)
    simp only [unqLoop, s1, he]
    rfl
  · rw [if_neg hl] at h ⊢
    by_cases h32 : r < 32
    · rw [if_pos h32] at h ⊢
      have s1 := sign_rest (c := 92) h (by decide) (by decide)
      have h1 := rest_next h
      have h2 := rest_next h1
      have n1 := next_rest h1
      have q := quote_hex r h32
      have h4 := four_rest h2 (by decide) (by decide) q.1 q.2.1
      rw [q.2.2] at h4
      have he : escapeB s ⟨p + 1, 0⟩ = ((r : Int), ⟨p + 6, 0⟩) := by
        unfold escapeB
        rw [n1]
        simp only
        rw [if_neg (by decide), if_pos trivial]
        unfold unitB
        simp only [h4]
        rw [if_pos (by right; left; omega)]
      simp only [unqLoop, s1, he]
      rfl
    · rw [if_neg h32] at h ⊢
      have s1 := sign_enc h hr (by omega)
      have n34 : r ≠ 34 := by rintro rfl; exact hl (by decide)
      have n92 : r ≠ 92 := by rintro rfl; exact hl (by decide)
      simp only [unqLoop, s1]
      rw [if_neg (by decide), if_neg (by decide), if_neg n34, if_neg n92]
theorem unq_runes (s : ByteArray) (t : List UInt8) : ∀ (rs : List Nat) (f p : Nat) (acc : List UInt8), (∀ r ∈ rs, Scal r) → rest s p = rs.flatMap (fun r => quoteOne r) ++ 34 :: t → rs.length + 1 ≤ f →
    unqLoop s f acc ⟨p, 0⟩ = (acc ++ encs rs, p + (rs.flatMap (fun r => quoteOne r)).length + 1, 0)
  | _, 0, _, _, _, _, hf => by omega
  | [], f + 1, p, acc, _, h, _ => by
    have s1 := sign_rest (c := 34) h (by decide) (by decide)
    simp only [unqLoop, s1]
    simp [encs]
  | r :: rs, f + 1, p, acc, hr, h, hf => by
    have h' : rest s p = quoteOne r ++ (rs.flatMap (fun r => quoteOne r) ++ 34 :: t) := by rw [h]; simp
    rw [unq_one f acc h' (hr r (List.mem_cons_self ..)), unq_runes s t rs f _ _ (fun q hq => hr q (List.mem_cons_of_mem _ hq)) (drop_rest h') (by simp at hf; omega)]
    simp only [encs_cons, List.append_assoc, List.flatMap_cons, List.length_append]
    congr 2; omega
theorem quoteOne_pos (r : Nat) : 1 ≤ (quoteOne r).length := by
  unfold quoteOne
  split
  · simp
  · split
    · simp
    · exact enc_pos r
theorem flat_len : ∀ rs : List Nat, rs.length ≤ (rs.flatMap (fun r => quoteOne r)).length
  | [] => Nat.le_refl _
  | r :: rs => by
    have := flat_len rs
    have := quoteOne_pos r
    rw [List.flatMap_cons, List.length_append, List.length_cons]; omega
theorem quote_runes (s : ByteArray) : ∀ (rs : List Nat) (fuel pos : Nat), (∀ r ∈ rs, Scal r) → rest s pos = encs rs → s.size - pos ≤ fuel → quoteFrom s fuel pos = rs.flatMap (fun r => quoteOne r)
  | [], fuel, pos, _, h, _ => quoteFrom_end s fuel pos (rest_nil h)
  | r :: rs, fuel, pos, hr, h, hf => by
    have h0 := hr r (List.mem_cons_self ..)
    rw [encs_cons] at h
    have hp := enc_pos r
    have hlt : pos < s.size := by
      rcases he : Lib.encodeRune (r : Int) ++ encs rs with _ | ⟨c, u⟩
      · rw [List.append_eq_nil_iff] at he; rw [he.1] at hp; exact absurd hp (by decide)
      · rw [he] at h; exact rest_lt h
    obtain ⟨f, rfl⟩ : ∃ f, fuel = f + 1 := ⟨fuel - 1, by omega⟩
    have hd : Utf8.decode s pos = (r, (Lib.encodeRune (r : Int)).length) := by
      rw [← decodeL_drop]
      show decodeL (rest s pos) = _
      rw [h, decode_enc h0]
    rw [quoteFrom_step hlt, hd, quote_runes s rs f _ (fun q hq => hr q (List.mem_cons_of_mem _ hq)) (drop_rest h) (by omega)]
    rfl
theorem quoteB_runes {s : ByteArray} {rs : List Nat} (hr : ∀ r ∈ rs, Scal r) (h : s.data.toList = encs rs) : quoteB s = 34 :: (rs.flatMap (fun r => quoteOne r) ++ [34]) := by
  unfold quoteB
  rw [quote_runes s rs s.size 0 hr (by simpa [rest] using h) (by omega)]
theorem array_list (l : List UInt8) (s : ByteArray) (h : s.data.toList = l) : (⟨l.toArray⟩ : ByteArray) = s := by
  apply ByteArray.ext
  rw [← h]
/-- a quoted text is read as it -/
theorem text_quote {s u : ByteArray} {p : Nat} {t : List UInt8} (hv : validB u = true) (hl : u.size ≤ 8000) (h : rest s p = quoteB u ++ t) : textB s ⟨p, 0⟩ = (u.data.toList, ⟨p + (quoteB u).length, 0⟩) := by
  obtain ⟨rs, hr, hu⟩ := validB_runes hv
  rw [quoteB_runes hr hu] at h ⊢
  have h' : rest s p = 34 :: (rs.flatMap (fun r => quoteOne r) ++ 34 :: t) := by rw [h]; simp
  have h1 := rest_next h'
  have hlen := congrArg List.length h'
  have hz : s.data.size = s.size := rfl
  have hfl := flat_len rs
  unfold rest at hlen
  simp only [List.length_drop, Array.length_toList, hz, List.length_cons, List.length_append] at hlen
  have hq : unquoteB s p = (encs rs, p + 1 + (rs.flatMap (fun r => quoteOne r)).length + 1, 0) := by
    unfold unquoteB
    rw [twants_rest h', unq_runes s t rs _ _ [] hr h1 (by omega)]
    rfl
  have hul : u.data.toList.length = u.size := Array.length_toList ..
  unfold textB
  rw [if_neg (show ¬ ((0 : Int) ≠ 0) by decide)]
  simp only [hq]
  rw [if_neg (by decide), if_neg (by rw [← hu, hul]; omega), hu]
  simp only [List.length_cons, List.length_append, List.length_nil]
  congr 2; omega

/-! what is read is valid -/
theorem enc_bad {r : Int} (h : r < 0 ∨ (55296 ≤ r ∧ r ≤ 57343) ∨ 1114111 < r) : Lib.encodeRune r = Lib.encodeRune ((65533 : Nat) : Int) := by
  unfold Lib.encodeRune
  rw [encodeRuneZ_bad h]; rfl
theorem enc_scal (r : Int) : ∃ q : Nat, Scal q ∧ Lib.encodeRune r = Lib.encodeRune (q : Int) := by
  by_cases h : r < 0 ∨ (55296 ≤ r ∧ r ≤ 57343) ∨ 1114111 < r
  · exact ⟨65533, by unfold Scal; omega, enc_bad h⟩
  · exact ⟨r.toNat, by unfold Scal; omega, by rw [show ((r.toNat : Nat) : Int) = r by omega]⟩
theorem encs_append (a b : List Nat) : encs (a ++ b) = encs a ++ encs b := by simp [encs]
theorem unq_valid (s : ByteArray) : ∀ (f : Nat) (acc : List UInt8) (x : St), (∃ rs : List Nat, (∀ r ∈ rs, Scal r) ∧ acc = encs rs) → ∃ rs : List Nat, (∀ r ∈ rs, Scal r) ∧ (unqLoop s f acc x).1 = encs rs
  | 0, _, _, _ => ⟨[], by simp, rfl⟩
  | f + 1, acc, x, h => by
    have more : ∀ r : Int, ∃ rs : List Nat, (∀ r ∈ rs, Scal r) ∧ acc ++ Lib.encodeRune r = encs rs := fun r => by
      obtain ⟨rs, h1, h2⟩ := h
      obtain ⟨q, hq, e⟩ := enc_scal r
      refine ⟨rs ++ [q], fun z hz => ?_, ?_⟩
      · rcases List.mem_append.1 hz with hz | hz
        · exact h1 z hz
        · rw [List.mem_singleton.1 hz]; exact hq
      · rw [encs_append, h2, e]; simp [encs]
    simp only [unqLoop]
    split
    · exact ⟨[], by simp, rfl⟩
    · split
      · exact ⟨[], by simp, rfl⟩
      · split
        · exact h
        · split
          · exact unq_valid s f _ _ (more _)
          · exact unq_valid s f _ _ (more _)
theorem text_valid (s : ByteArray) (x : St) (h : (textB s x).2.e = 0) : shortB ⟨(textB s x).1.toArray⟩ = true := by
  unfold textB at h ⊢
  by_cases h0 : x.e ≠ 0
  · rw [if_pos h0] at h; exact absurd h h0
  · rw [if_neg h0] at h ⊢
    simp only at h ⊢
    obtain ⟨rs, h1, h2⟩ := unq_valid s (s.size + 1 - x.p) [] (St.twants s ⟨x.p, 0⟩ 34) ⟨[], by simp, rfl⟩
    have h2' : (unquoteB s x.p).1 = encs rs := h2
    have hl : ¬ 8000 < (unquoteB s x.p).1.length := by
      intro h8
      rw [if_pos h8] at h
      split at h
      · rename_i h9; exact h9 h
      · exact absurd h (by decide)
    unfold shortB
    rw [h2', runes_validB h1]
    rw [h2'] at hl
    simp [ByteArray.size]; omega
end Go.Proofs.YtlihjmfdnkfmfaaGreatDoor
namespace Go.Proofs.YtlihjmfdnkfmfaaGreatDoor
open Go.RowKit Go.Lib

theorem bytes_nil {s : ByteArray} (h : s.toList.isEmpty = true) : s = ⟨#[]⟩ := by
  rw [ByteArray.toList_eq, List.isEmpty_iff] at h
  apply ByteArray.ext
  apply Array.eq_empty_of_size_eq_zero
  have := congrArg List.length h
  simpa using this
/-- what a value that may be looks like -/
inductive Shape (d : Nat) : JV → Prop
  | word (k : Int) (h : k = 1 ∨ k = 2 ∨ k = 3) : Shape d (.mk k 0 ⟨#[]⟩ [] [])
  | num (n : Int) (h : -9007199254740991 ≤ n ∧ n ≤ 9007199254740991) : Shape d (numV n)
  | text (s : ByteArray) (h : shortB s = true) : Shape d (wordV s)
  | list (l : List JV) (h : ∀ y ∈ l, mayJ d y = true) : Shape d (listV l)
  | obj (m : List (ByteArray × JV)) (hm : membersB none m = true) (h : ∀ q ∈ m, mayJ d q.2 = true) : Shape d (objV m)
theorem shape_of {d : Nat} {x : JV} (h : mayJ (d + 1) x = true) : Shape d x := by
  obtain ⟨k, n, s, l, m⟩ := x
  rw [may_succ] at h
  simp only [Bool.and_eq_true, JV.l, JV.m, List.all_eq_true] at h
  obtain ⟨⟨h1, h2⟩, h3⟩ := h
  unfold oneB at h1
  simp only [Bool.and_eq_true, JV.m] at h1
  obtain ⟨⟨h4, h5⟩, h6⟩ := h1
  unfold rangeB at h6
  simp only [Bool.and_eq_true, JV.n, JV.s] at h6
  obtain ⟨⟨h7, h8⟩, h9⟩ := h6
  simp only [badK, JV.k, JV.n, JV.s, JV.l, JV.m, Bool.not_eq_true', Bool.or_eq_false_iff, Bool.and_eq_false_iff, bne_eq_false_iff_eq] at h4
  obtain ⟨⟨⟨⟨⟨a1, a2⟩, a3⟩, a4⟩, a5⟩, a6⟩ := h4
  have a1 := of_decide_eq_false a1
  have a2 := of_decide_eq_false a2
  have hn : k ≠ 4 → n = 0 := fun hk => a3.resolve_right hk
  have hs : k ≠ 5 → s = ⟨#[]⟩ := fun hk => bytes_nil (by simpa using a4.resolve_right hk)
  have hl : k ≠ 6 → l = [] := fun hk => List.eq_nil_of_length_eq_zero (by have := of_decide_eq_false (a5.resolve_right hk); omega)
  have hm : k ≠ 7 → m = [] := fun hk => List.eq_nil_of_length_eq_zero (by have := of_decide_eq_false (a6.resolve_right hk); omega)
  have hk : k = 1 ∨ k = 2 ∨ k = 3 ∨ k = 4 ∨ k = 5 ∨ k = 6 ∨ k = 7 := by omega
  rcases hk with rfl | rfl | rfl | rfl | rfl | rfl | rfl
  · rw [hn (by decide), hs (by decide), hl (by decide), hm (by decide)]; exact .word 1 (by decide)
  · rw [hn (by decide), hs (by decide), hl (by decide), hm (by decide)]; exact .word 2 (by decide)
  · rw [hn (by decide), hs (by decide), hl (by decide), hm (by decide)]; exact .word 3 (by decide)
  · rw [hs (by decide), hl (by decide), hm (by decide)]; exact .num n ⟨of_decide_eq_true h7, of_decide_eq_true h8⟩
  · rw [hn (by decide), hl (by decide), hm (by decide)]; exact .text s h9
  · rw [hn (by decide), hs (by decide), hm (by decide)]; exact .list l h2
  · rw [hn (by decide), hs (by decide), hl (by decide)]; exact .obj m h5 h3

/-! names that rise -/
def NmLt (a b : ByteArray × JV) : Prop := a.1.toList < b.1.toList
theorem less_iff (a b : List UInt8) : Op.bytesLess a b = true ↔ a < b := by rw [bytesLess_eq]; simp
theorem leB_iff (a b : ByteArray) : leB a b = false ↔ b.toList < a.toList := by
  unfold leB
  rw [bytesLess_eq]
  constructor
  · intro h
    simp only [Bool.or_eq_false_iff, decide_eq_false_iff_not, beq_eq_false_iff_ne, ne_eq] at h
    rcases List.le_iff_lt_or_eq.1 (List.not_lt.1 h.1) with h1 | h1
    · exact h1
    · exact absurd h1.symm h.2
  · intro h
    have h1 : ¬ a.toList < b.toList := fun h2 => List.lt_irrefl _ (List.lt_trans h h2)
    have h2 : a.toList ≠ b.toList := fun e => by rw [e] at h; exact List.lt_irrefl _ h
    simp [h1, h2]
theorem members_iff : ∀ (p : Option ByteArray) (m : List (ByteArray × JV)), membersB p m = true ↔ (∀ q ∈ m, shortB q.1 = true) ∧ (∀ a, p = some a → ∀ q ∈ m, a.toList < q.1.toList) ∧ m.Pairwise NmLt
  | p, [] => by simp [membersB]
  | p, (nm, y) :: r => by
    have ih := members_iff (some nm) r
    simp only [membersB, Bool.and_eq_true, ih]
    constructor
    · rintro ⟨⟨h1, h2⟩, h3, h4, h5⟩
      refine ⟨fun q hq => ?_, fun a ha q hq => ?_, ?_⟩
      · rcases List.mem_cons.1 hq with rfl | hq
        · exact h1
        · exact h3 q hq
      · subst ha
        have h2' : a.toList < nm.toList := (leB_iff nm a).1 (by simpa using h2)
        rcases List.mem_cons.1 hq with rfl | hq
        · exact h2'
        · exact List.lt_trans h2' (h4 nm rfl q hq)
      · exact List.Pairwise.cons (fun q hq => h4 nm rfl q hq) h5
    · rintro ⟨h1, h2, h3⟩
      rw [List.pairwise_cons] at h3
      refine ⟨⟨h1 _ (List.mem_cons_self ..), ?_⟩, fun q hq => h1 q (List.mem_cons_of_mem _ hq), fun a ha q hq => by cases ha; exact h3.1 q hq, h3.2⟩
      rcases p with _ | a
      · rfl
      · have := (leB_iff nm a).2 (h2 a rfl _ (List.mem_cons_self ..))
        simpa using this
theorem sort_rising : ∀ (m : List (ByteArray × JV)), m.Pairwise NmLt → sortNames m = m
  | [], _ => rfl
  | x :: r, h => by
    rw [List.pairwise_cons] at h
    have ih := sort_rising r h.2
    unfold sortNames at ih ⊢
    rw [List.foldr_cons, ih]
    rcases r with _ | ⟨y, r⟩
    · rfl
    · simp only [insName]
      rw [if_pos ((less_iff _ _).2 (h.1 y (List.mem_cons_self ..)))]

/-! words, and what a value begins with -/
theorem word_rest (s : ByteArray) : ∀ (l : List UInt8) (p : Nat) (t : List UInt8), rest s p = l ++ t → wordIn s l ⟨p, 0⟩ = (true, ⟨p + l.length, 0⟩)
  | [], _, _, _ => rfl
  | c :: l, p, t, h => by
    have hl := rest_lt h
    have hb := rest_byte h
    have ih := word_rest s l (p + 1) t (rest_next h)
    simp only [wordIn]
    rw [if_neg (by omega), if_neg (by rw [hb]; simp)]
    simp only [St.step] at *
    rw [ih]
    simp only [List.length_cons]; congr 2; omega
/-- bytes that a value may begin with -/
def heads : List UInt8 := [110, 102, 116, 45, 48, 49, 50, 51, 52, 53, 54, 55, 56, 57, 34, 91, 123]
theorem digit_heads {c : UInt8} (h : c = 45 ∨ isDigit c = true) : c ∈ heads := by
  rcases h with rfl | h
  · decide
  · simp only [isDigit, Bool.and_eq_true, decide_eq_true_eq] at h
    have hc : c = UInt8.ofNat c.toNat := by simp
    rcases (show c.toNat = 48 ∨ c.toNat = 49 ∨ c.toNat = 50 ∨ c.toNat = 51 ∨ c.toNat = 52 ∨ c.toNat = 53 ∨ c.toNat = 54 ∨ c.toNat = 55 ∨ c.toNat = 56 ∨ c.toNat = 57 by omega) with e | e | e | e | e | e | e | e | e | e <;> (rw [e] at hc; rw [hc]; decide)
theorem print_head {d : Nat} {x : JV} (h : mayJ (d + 1) x = true) : ∃ c r, printB (d + 1) x = c :: r ∧ c ∈ heads := by
  rw [printB.eq_2]
  cases shape_of h with
  | word k hk => rcases hk with rfl | rfl | rfl <;> exact ⟨_, _, rfl, by decide⟩
  | num n hn =>
    obtain ⟨c, r, e, hc⟩ := itoa_head n
    exact ⟨c, r, e, digit_heads hc⟩
  | text s hs => exact ⟨_, _, rfl, by decide⟩
  | list l hl => exact ⟨_, _, rfl, by decide⟩
  | obj m hm hl => exact ⟨_, _, rfl, by decide⟩
theorem heads_blank {c : UInt8} (h : c ∈ heads) : isBlank c = false ∧ c ≠ 93 ∧ c ≠ 125 ∧ c ≠ 44 ∧ c ≠ 58 := by
  simp only [heads, List.mem_cons, List.not_mem_nil, or_false] at h
  rcases h with rfl | rfl | rfl | rfl | rfl | rfl | rfl | rfl | rfl | rfl | rfl | rfl | rfl | rfl | rfl | rfl | rfl <;> decide
/-- what stands behind a number -/
def NumEnd (t : List UInt8) : Prop := ∀ c r, t = c :: r → isDigit c = false ∧ [46, 101, 69].contains c = false
theorem numEnd_cons {c : UInt8} {r : List UInt8} (h : isDigit c = false) (h2 : [46, 101, 69].contains c = false) : NumEnd (c :: r) := fun d t e => by
  injection e with e1 e2; rw [← e1]; exact ⟨h, h2⟩
theorem value_number {s : ByteArray} {p : Nat} {n : Int} {t : List UInt8} (d : Nat) (hn : -9007199254740991 ≤ n ∧ n ≤ 9007199254740991) (h : rest s p = Lib.itoa n ++ t) (ht : NumEnd t) :
    valueB s (d + 1) ⟨p, 0⟩ = (numV n, ⟨p + (Lib.itoa n).length, 0⟩) := by
  have hv := value_itoa d h (fun c r e => (ht c r e).1)
  have ha : anyB s [46, 101, 69] (p + (Lib.itoa n).length) = false := by
    have hre := drop_rest h
    rcases t with _ | ⟨c, r⟩
    · exact anyB_nil _ hre
    · rw [anyB_rest _ hre]; exact (ht c r rfl).2
  rw [show ((if n < 0 then -1 else 1) * min (n.natAbs : Int) 9007199254740992) = n by split <;> omega, ha, if_neg (show ¬ ((false : Bool) = true) by decide), if_neg (by omega)] at hv
  exact hv

/-! lists and objects -/
theorem join_cons {α : Type} (f : α → List UInt8) (x : α) (xs : List α) (b : Bool) : joinFrom f b (x :: xs) = (if b then [] else [44]) ++ f x ++ joinFrom f false xs := by
  cases b <;> rfl
theorem join_false {α : Type} (f : α → List UInt8) (x : α) (xs : List α) : joinFrom f false (x :: xs) = 44 :: joinFrom f true (x :: xs) := rfl
theorem wants_rest {s : ByteArray} {p : Nat} {c : UInt8} {r : List UInt8} (h : rest s p = c :: r) (hb : isBlank c = false) : St.wants s ⟨p, 0⟩ c = ⟨p + 1, 0⟩ := by
  unfold St.wants
  rw [see_rest 0 h hb]
  simp [St.step]
/-- a value at depth d is read as it -/
def Reads (s : ByteArray) (d : Nat) : Prop := ∀ (x : JV) (p : Nat) (t : List UInt8), mayJ d x = true → rest s p = printB d x ++ t → (x.k = 4 → NumEnd t) → valueB s d ⟨p, 0⟩ = (x, ⟨p + (printB d x).length, 0⟩)
theorem list_loop {s : ByteArray} {d : Nat} (ih : Reads s d) (t : List UInt8) : ∀ (l : List JV) (acc : List JV) (f p : Nat), l ≠ [] → (∀ y ∈ l, mayJ d y = true) → p ≤ s.size → s.size + 1 - p ≤ f → rest s p = joinFrom (printB d) true l ++ 93 :: t →
    listLoop s (valueB s d) f acc ⟨p, 0⟩ = (acc ++ l, ⟨p + (joinFrom (printB d) true l).length + 1, 0⟩)
  | [], _, _, _, h, _, _, _, _ => absurd rfl h
  | x :: xs, acc, 0, p, _, _, hp, hf, _ => by omega
  | x :: xs, acc, f + 1, p, _, hm, hp, hf, h => by
    have hx := hm x (List.mem_cons_self ..)
    rw [join_cons] at h ⊢
    simp only [if_true, List.nil_append, List.append_assoc] at h ⊢
    rcases xs with _ | ⟨y, ys⟩
    · simp only [joinFrom, List.nil_append] at h
      have hv := ih x p _ hx h (fun _ => numEnd_cons (by decide) (by decide))
      have hs := see_rest 0 (drop_rest h) (by decide)
      simp only [listLoop, hv, hs]
      simp [St.step, joinFrom]
    · rw [join_false] at h ⊢
      have hv := ih x p _ hx h (fun _ => numEnd_cons (by decide) (by decide))
      have h2 := drop_rest h
      have hs := see_rest 0 h2 (by decide)
      have hw := wants_rest h2 (by decide)
      have hlt := rest_lt h2
      have h3 := rest_next h2
      simp only [listLoop, hv, hs, hw]
      rw [if_neg (by decide), if_neg (by decide), if_neg (by decide), if_neg (by decide)]
      rw [list_loop ih t (y :: ys) _ f _ (by simp) (fun q hq => hm q (List.mem_cons_of_mem _ hq)) (by omega) (by omega) h3]
      simp only [List.append_assoc, List.length_append, List.length_cons, List.cons_append, List.nil_append]
      congr 2; omega
def prMem (d : Nat) (q : ByteArray × JV) : List UInt8 := quoteB q.1 ++ 58 :: printB d q.2
theorem quote_head (u : ByteArray) : ∃ r, quoteB u = 34 :: r := ⟨_, rfl⟩
theorem member_rest {s : ByteArray} {d : Nat} (ih : Reads s d) {acc : List (ByteArray × JV)} {nm : ByteArray} {y : JV} {p : Nat} {t : List UInt8} (hs : shortB nm = true) (hy : mayJ d y = true) (ha : ∀ q ∈ acc, q.1.toList ≠ nm.toList) (h : rest s p = prMem d (nm, y) ++ t) (ht : y.k = 4 → NumEnd t) :
    memberB s (valueB s d) acc ⟨p, 0⟩ = ((nm, y), ⟨p + (prMem d (nm, y)).length, 0⟩) := by
  unfold prMem at h ⊢
  simp only at h ⊢
  have hv : validB nm = true ∧ nm.size ≤ 8000 := by unfold shortB at hs; simpa using hs
  obtain ⟨r, hq⟩ := quote_head nm
  have h0 := h
  rw [hq, List.cons_append, List.cons_append] at h0
  have hsee := see_rest 0 h0 (by decide)
  rw [List.append_assoc] at h
  have htx := text_quote hv.1 hv.2 h
  have h2 := drop_rest h
  have hw := wants_rest (c := 58) h2 (by decide)
  have h3 := rest_next h2
  have hva := ih y _ t hy h3 ht
  have hnm : (⟨nm.data.toList.toArray⟩ : ByteArray) = nm := array_list _ nm rfl
  have hany : (acc.any fun q => q.1.toList == nm.toList) = false := by
    rw [List.any_eq_false]
    intro q hq2 e
    exact ha q hq2 (by simpa using e)
  simp only [memberB, hsee, ne_eq, not_true_eq_false, if_false, htx, hnm, hany]
  rw [if_neg (show ¬ ((false : Bool) = true) by decide)]
  simp only [if_true, hw, hva]
  simp only [List.length_append, List.length_cons]
  congr 2; omega
theorem obj_loop {s : ByteArray} {d : Nat} (ih : Reads s d) (t : List UInt8) : ∀ (l : List (ByteArray × JV)) (acc : List (ByteArray × JV)) (f p : Nat), l ≠ [] → (∀ y ∈ l, mayJ d y.2 = true ∧ shortB y.1 = true) → (acc ++ l).Pairwise NmLt → p ≤ s.size → s.size + 1 - p ≤ f → rest s p = joinFrom (prMem d) true l ++ 125 :: t →
    objLoop s (valueB s d) f acc ⟨p, 0⟩ = (acc ++ l, ⟨p + (joinFrom (prMem d) true l).length + 1, 0⟩)
  | [], _, _, _, h, _, _, _, _, _ => absurd rfl h
  | x :: xs, acc, 0, p, _, _, _, hp, hf, _ => by omega
  | (nm, v) :: xs, acc, f + 1, p, _, hm, hpw, hp, hf, h => by
    have hx := hm _ (List.mem_cons_self ..)
    have hacc : ∀ q ∈ acc, q.1.toList ≠ nm.toList := fun q hq e => by
      have := (List.pairwise_append.1 hpw).2.2 q hq _ (List.mem_cons_self ..)
      unfold NmLt at this
      rw [e] at this
      exact List.lt_irrefl _ this
    rw [join_cons] at h ⊢
    simp only [if_true, List.nil_append, List.append_assoc] at h ⊢
    rcases xs with _ | ⟨y, ys⟩
    · simp only [joinFrom, List.nil_append] at h
      have hv := member_rest ih hx.2 hx.1 hacc h (fun _ => numEnd_cons (by decide) (by decide))
      have hs := see_rest 0 (drop_rest h) (by decide)
      simp only [objLoop, hv, hs]
      simp [St.step, joinFrom]
    · rw [join_false] at h ⊢
      have hv := member_rest ih hx.2 hx.1 hacc h (fun _ => numEnd_cons (by decide) (by decide))
      have h2 := drop_rest h
      have hs := see_rest 0 h2 (by decide)
      have hw := wants_rest h2 (by decide)
      have hlt := rest_lt h2
      have h3 := rest_next h2
      simp only [objLoop, hv, hs, hw]
      rw [if_neg (by decide), if_neg (by decide), if_neg (by decide), if_neg (by decide)]
      rw [obj_loop ih t (y :: ys) _ f _ (by simp) (fun q hq => hm q (List.mem_cons_of_mem _ hq)) (by simpa using hpw) (by omega) (by omega) h3]
      simp only [List.append_assoc, List.length_append, List.length_cons, List.cons_append, List.nil_append]
      congr 2; omega
theorem join_head {α : Type} (f : α → List UInt8) (x : α) (xs : List α) {c : UInt8} {r : List UInt8} (h : f x = c :: r) (t : List UInt8) : ∃ u, joinFrom f true (x :: xs) ++ t = c :: u := by
  rw [join_cons, h]; exact ⟨_, rfl⟩
theorem value_reads (s : ByteArray) : ∀ d, Reads s d
  | 0 => fun x p t h => absurd h (by simp [mayJ])
  | d + 1 => fun x p t h hr ht => by
    have ih := value_reads s d
    have hsh := shape_of h
    rw [printB.eq_2] at hr ⊢
    cases hsh with
    | word k hk =>
      rcases hk with rfl | rfl | rfl
      · have hr' : rest s p = [110, 117, 108, 108] ++ t := hr
        have hs := see_rest 0 hr' (by decide)
        have hw := word_rest s _ p t hr'
        simp only [valueB, hs, wordB, hw]
        rfl
      · have hr' : rest s p = [102, 97, 108, 115, 101] ++ t := hr
        have hs := see_rest 0 hr' (by decide)
        have hw := word_rest s _ p t hr'
        simp only [valueB, hs, wordB, hw]
        rfl
      · have hr' : rest s p = [116, 114, 117, 101] ++ t := hr
        have hs := see_rest 0 hr' (by decide)
        have hw := word_rest s _ p t hr'
        simp only [valueB, hs, wordB, hw]
        rfl
    | num n hn => exact value_number d hn hr (ht rfl)
    | text u hu =>
      have hv : validB u = true ∧ u.size ≤ 8000 := by unfold shortB at hu; simpa using hu
      have hr' : rest s p = quoteB u ++ t := hr
      obtain ⟨r, hq⟩ := quote_head u
      have h0 := hr'
      rw [hq, List.cons_append] at h0
      have hs := see_rest 0 h0 (by decide)
      have htx := text_quote hv.1 hv.2 hr'
      have hva : valueB s (d + 1) ⟨p, 0⟩ = (wordV u, ⟨p + (quoteB u).length, 0⟩) := by
        simp only [valueB, hs]
        rw [if_neg (by decide), if_neg (by decide), if_neg (by decide), if_pos (by decide), htx, array_list _ u rfl]
      exact hva
    | list l hl =>
      have hr' : rest s p = 91 :: (joinFrom (printB d) true l ++ 93 :: t) := by rw [hr]; show 91 :: (joinFrom (printB d) true l ++ [93]) ++ t = _; simp
      have hs := see_rest 0 hr' (by decide)
      have h1 := rest_next hr'
      have hva : valueB s (d + 1) ⟨p, 0⟩ = listB s (valueB s d) ⟨p, 0⟩ := by
        simp only [valueB, hs]
        rw [if_neg (by decide), if_pos (by decide)]
      have hgoal : valueB s (d + 1) ⟨p, 0⟩ = (listV l, ⟨p + (91 :: (joinFrom (printB d) true l ++ [93])).length, 0⟩) := by
        rw [hva]
        rcases l with _ | ⟨y, ys⟩
        · have hs1 := see_rest 0 (show rest s (p + 1) = 93 :: t from h1) (by decide)
          simp only [listB, St.step, hs1]
          rfl
        · rcases d with _ | d
          · exact absurd (hl y (List.mem_cons_self ..)) (by simp [mayJ])
          obtain ⟨c, r, hc, hch⟩ := print_head (hl y (List.mem_cons_self ..))
          obtain ⟨u, hu⟩ := join_head (printB (d + 1)) y ys hc (93 :: t)
          have hb := heads_blank hch
          have hlt := rest_lt (h1.trans hu)
          have hs1 := see_rest 0 (h1.trans hu) hb.1
          have hlo := list_loop ih t (y :: ys) [] (s.size + 1 - (p + 1)) (p + 1) (by simp) hl (by omega) (Nat.le_refl _) h1
          simp only [listB, St.step, hs1]
          rw [if_neg hb.2.1, hlo]
          simp only [List.nil_append, List.length_cons, List.length_append, List.length_nil]
          congr 2; omega
      exact hgoal
    | obj m hm hl =>
      have hmi := (members_iff none m).1 hm
      have hr' : rest s p = 123 :: (joinFrom (prMem d) true m ++ 125 :: t) := by rw [hr]; show 123 :: (joinFrom (prMem d) true m ++ [125]) ++ t = _; simp
      have hs := see_rest 0 hr' (by decide)
      have h1 := rest_next hr'
      have hva : valueB s (d + 1) ⟨p, 0⟩ = objectB s (valueB s d) ⟨p, 0⟩ := by
        simp only [valueB, hs]
        rw [if_neg (by decide), if_neg (by decide), if_pos (by decide)]
      have hgoal : valueB s (d + 1) ⟨p, 0⟩ = (objV m, ⟨p + (123 :: (joinFrom (prMem d) true m ++ [125])).length, 0⟩) := by
        rw [hva]
        rcases m with _ | ⟨y, ys⟩
        · have hs1 := see_rest 0 (show rest s (p + 1) = 125 :: t from h1) (by decide)
          simp only [objectB, St.step, hs1]
          rfl
        · obtain ⟨r, hq⟩ := quote_head y.1
          obtain ⟨u, hu⟩ := join_head (prMem d) y ys (c := 34) (r := r ++ 58 :: printB d y.2) (by unfold prMem; rw [hq]; rfl) (125 :: t)
          have hlt := rest_lt (h1.trans hu)
          have hs1 := see_rest 0 (h1.trans hu) (by decide)
          have hlo := obj_loop ih t (y :: ys) [] (s.size + 1 - (p + 1)) (p + 1) (by simp) (fun q hq => ⟨hl q hq, hmi.1 q hq⟩) (by simpa using hmi.2.2) (by omega) (Nat.le_refl _) h1
          simp only [objectB, St.step, hs1]
          rw [if_neg (by decide), hlo]
          simp only [List.nil_append, List.length_cons, List.length_append, List.length_nil]
          rw [sort_rising _ hmi.2.2]
          congr 2; omega
      exact hgoal
end Go.Proofs.YtlihjmfdnkfmfaaGreatDoor
namespace Go.Proofs.YtlihjmfdnkfmfaaGreatDoor
open Go.RowKit Go.Lib

def cap20 (s : ByteArray) : Int := min (s.size : Int) 1048576
def cntL {α : Type} (f : α → Int → Int) : List α → Int → Int
  | [], n => n
  | x :: xs, n => if 0 < n then cntL f xs (f x n) else n
def countB : Nat → JV → Int → Int
  | 0, _, _ => 0
  | d + 1, x, n => cntL (fun p n => countB d p.2 (n - cap20 p.1)) x.m (cntL (countB d) x.l (n - 1 - cap20 x.s))
theorem cap_range (s : ByteArray) : 0 ≤ cap20 s ∧ cap20 s ≤ 1048576 := by unfold cap20; omega
theorem cap_nil : cap20 ⟨#[]⟩ = 0 := by decide +kernel
/-! a printed value is not long -/
theorem cntL_spend {α : Type} {f : α → Int → Int} {g : α → Nat} : ∀ (l : List α), (∀ x ∈ l, ∀ n, 0 < f x n → (g x : Int) + 30 * f x n ≤ 30 * n) → ∀ (n : Int), 0 < cntL f l n → ((l.map g).sum : Int) + 30 * cntL f l n ≤ 30 * n ∧ 0 < n
  | [], _, n, h => by simp [cntL] at h ⊢; exact h
  | x :: xs, hf, n, h => by
    simp only [cntL] at h ⊢
    by_cases hn : 0 < n
    · rw [if_pos hn] at h ⊢
      have ih := cntL_spend xs (fun y hy => hf y (List.mem_cons_of_mem _ hy)) (f x n) h
      have h1 := hf x (List.mem_cons_self ..) n ih.2
      simp only [List.map_cons, List.sum_cons]
      refine ⟨?_, hn⟩
      omega
    · rw [if_neg hn] at h
      exact absurd h hn
theorem join_sum {α : Type} (f : α → List UInt8) : ∀ (l : List α) (b : Bool), (joinFrom f b l).length ≤ (l.map fun x => (f x).length + 1).sum
  | [], _ => by simp [joinFrom]
  | x :: xs, b => by
    have ih := join_sum f xs false
    rw [join_cons]
    simp only [List.length_append, List.map_cons, List.sum_cons]
    have : (if b = true then ([] : List UInt8) else [44]).length ≤ 1 := by cases b <;> simp
    omega
theorem quoteOne_len {r : Nat} (_hr : Scal r) : (quoteOne r).length ≤ 6 * (Lib.encodeRune (r : Int)).length := by
  have hp := enc_pos (r : Int)
  unfold quoteOne
  split
  · simp only [List.length_cons, List.length_nil]; omega
  · split
    · simp only [List.length_cons, List.length_nil]; omega
    · omega
theorem quoteB_len {s : ByteArray} (hv : validB s = true) : (quoteB s).length ≤ 2 + 6 * s.size := by
  obtain ⟨rs, hr, hu⟩ := validB_runes hv
  have key : ∀ rs : List Nat, (∀ r ∈ rs, Scal r) → (rs.flatMap (fun r => quoteOne r)).length ≤ 6 * (encs rs).length := fun rs => by
    induction rs with
    | nil => intro _; simp
    | cons r rs ih =>
      intro h
      have h1 := ih (fun q hq => h q (List.mem_cons_of_mem _ hq))
      have h2 := quoteOne_len (h r (List.mem_cons_self ..))
      rw [encs_cons, List.flatMap_cons, List.length_append, List.length_append]
      omega
  have h1 := key rs hr
  have hz : s.data.toList.length = s.size := Array.length_toList ..
  rw [hu] at hz
  rw [quoteB_runes hr hu]
  simp only [List.length_cons, List.length_append, List.length_nil]
  omega
theorem short_len {s : ByteArray} (h : shortB s = true) : (quoteB s).length ≤ 2 + 6 * s.size ∧ s.size ≤ 8000 := by
  have hv : validB s = true ∧ s.size ≤ 8000 := by unfold shortB at h; simpa using h
  exact ⟨quoteB_len hv.1, hv.2⟩
theorem sum_le {α : Type} {f g : α → Nat} : ∀ (l : List α), (∀ x ∈ l, f x ≤ g x) → (l.map f).sum ≤ (l.map g).sum
  | [], _ => Nat.le_refl _
  | x :: xs, h => by
    have := sum_le xs (fun y hy => h y (List.mem_cons_of_mem _ hy))
    have := h x (List.mem_cons_self ..)
    simp only [List.map_cons, List.sum_cons]; omega
theorem count_len : ∀ (d e : Nat) (x : JV) (n : Int), mayJ e x = true → 0 < countB d x n → (((printB e x).length + 8 : Nat) : Int) + 30 * countB d x n ≤ 30 * n
  | 0, _, _, _, _, h => by simp [countB] at h
  | _, 0, x, _, h, _ => absurd h (by simp [mayJ])
  | d + 1, e + 1, x, n, hm, h => by
    have hcap := cap_range x.s
    simp only [countB] at h ⊢
    rw [printB.eq_2]
    cases shape_of hm with
    | word k hk =>
      simp only [JV.m, JV.l, JV.s, cntL] at h ⊢
      simp only [cap20] at h ⊢
      rcases hk with rfl | rfl | rfl <;> (simp [JV.k, ByteArray.size]; omega)
    | num m hmr =>
      simp only [numV, JV.m, JV.l, JV.s, cntL] at h ⊢
      have hl := itoa_len m (by omega) (by omega)
      have hc0 := (cap_range ⟨#[]⟩).1
      show (((Lib.itoa m).length + 8 : Nat) : Int) + 30 * (n - 1 - cap20 ⟨#[]⟩) ≤ 30 * n
      clear hm hmr hcap h
      generalize cap20 ⟨#[]⟩ = z at *
      generalize (Lib.itoa m).length = q at *
      omega
    | text u hu =>
      have hs := short_len hu
      simp only [wordV, JV.m, JV.l, JV.s, cntL] at h ⊢
      have hc : cap20 u = (u.size : Int) := by unfold cap20; omega
      rw [hc]
      show (((quoteB u).length + 8 : Nat) : Int) + 30 * (n - 1 - (u.size : Int)) ≤ 30 * n
      omega
    | list l hl =>
      have hcl : (printB e) = (printB e) := rfl
      simp only [listV, JV.m, JV.l, JV.s, cntL] at h ⊢
      have hsp := cntL_spend (f := countB d) (g := fun y => (printB e y).length + 8) l (fun y hy m hm2 => count_len d e y m (hl y hy) hm2) _ h
      have hj := join_sum (printB e) l true
      have hle := sum_le (f := fun y => (printB e y).length + 1) (g := fun y => (printB e y).length + 8) l (fun y _ => by omega)
      rw [cap_nil] at hsp ⊢
      show (((91 :: (joinFrom (printB e) true l ++ [93])).length + 8 : Nat) : Int) + 30 * cntL (countB d) l (n - 1 - 0) ≤ 30 * n
      simp only [List.length_cons, List.length_append, List.length_nil]
      omega
    | obj m hmm hl =>
      have hmi := (members_iff none m).1 hmm
      simp only [objV, JV.m, JV.l, JV.s, cntL] at h ⊢
      have hsp := cntL_spend (f := fun p n => countB d p.2 (n - cap20 p.1)) (g := fun q => (prMem e q).length + 1) m (fun q hq z hz => by
        have h1 := count_len d e q.2 _ (hl q hq) hz
        have h2 := short_len (hmi.1 q hq)
        have hc : cap20 q.1 = (q.1.size : Int) := by unfold cap20; omega
        have hp : (prMem e q).length = (quoteB q.1).length + ((printB e q.2).length + 1) := by unfold prMem; simp
        rw [hc] at h1
        rw [hp]
        simp only [hc]
        omega) _ h
      have hj := join_sum (prMem e) m true
      rw [cap_nil] at hsp ⊢
      show (((123 :: (joinFrom (prMem e) true m ++ [125])).length + 8 : Nat) : Int) + 30 * cntL _ m (n - 1 - 0) ≤ 30 * n
      simp only [List.length_cons, List.length_append, List.length_nil]
      omega
end Go.Proofs.YtlihjmfdnkfmfaaGreatDoor
namespace Go.Proofs.YtlihjmfdnkfmfaaGreatDoor
open Go.RowKit Go.Lib

end Go.Proofs.YtlihjmfdnkfmfaaGreatDoor
namespace Go.Proofs.YtlihjmfdnkfmfaaGreatDoor
open Go.RowKit Go.Lib

end Go.Proofs.YtlihjmfdnkfmfaaGreatDoor
