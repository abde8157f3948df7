/- Parts of the proof: Gl. -/
import Derived.Test.YtjjgbgojlhaapaaGreatDoorZReads17
namespace Go.Proofs.YtjjgbgojlhaapaaGreatDoor
open Go.RowKit Go.Lib

/-- the bytes that stand behind the first one of a sign: what they make -/
def contR (s : ByteArray) (at' : Nat) : Nat → Nat → Nat → Option Nat
  | 0, _, c => some c
  | m + 1, i, c => if s.size ≤ at' + i then none else if (byteAt s (at' + i)).toNat / 64 ≠ 2 then none else contR s at' m (i + 1) (c * 64 + (byteAt s (at' + i)).toNat % 64)
def finR (o : Option Nat) (n low : Nat) : Nat × Nat × Bool := match o with
  | none => (0, 0, false)
  | some c => if c < low ∨ 1114111 < c ∨ (55296 ≤ c ∧ c ≤ 57343) then (0, 0, false) else (c, n + 1, true)
def signR (s : ByteArray) (at' : Nat) : Nat × Nat × Bool :=
  if (byteAt s at').toNat < 128 then ((byteAt s at').toNat, 1, true)
  else if 192 ≤ (byteAt s at').toNat ∧ (byteAt s at').toNat ≤ 223 then finR (contR s at' 1 1 ((byteAt s at').toNat % 32)) 1 128
  else if 224 ≤ (byteAt s at').toNat ∧ (byteAt s at').toNat ≤ 239 then finR (contR s at' 2 1 ((byteAt s at').toNat % 16)) 2 2048
  else if 240 ≤ (byteAt s at').toNat ∧ (byteAt s at').toNat ≤ 247 then finR (contR s at' 3 1 ((byteAt s at').toNat % 8)) 3 65536
  else (0, 0, false)
theorem rest_getD (s : ByteArray) (p i : Nat) : (rest s p).getD i 0 = byteAt s (p + i) := by
  unfold rest byteAt
  simp [List.getD_eq_getElem?_getD, List.getElem?_drop]
theorem rest_length (s : ByteArray) (p : Nat) : (rest s p).length = s.size - p := by
  unfold rest
  rw [List.length_drop, Array.length_toList]
  rfl
theorem cont_ok {s : ByteArray} {p m i c : Nat} (h : i < s.size - p) (h2 : (byteAt s (p + i)).toNat / 64 = 2) : contR s p (m + 1) i c = contR s p m (i + 1) (c * 64 + (byteAt s (p + i)).toNat % 64) := by
  simp only [contR]
  rw [if_neg (by omega), if_neg (by omega)]
theorem cont_no {s : ByteArray} {p m i c : Nat} (h : ¬ (i < s.size - p ∧ (byteAt s (p + i)).toNat / 64 = 2)) : contR s p (m + 1) i c = none := by
  simp only [contR]
  by_cases h1 : s.size ≤ p + i
  · rw [if_pos h1]
  · rw [if_neg h1, if_pos (by omega)]
/-- it is the decoder's -/
theorem sign_dec {s : ByteArray} {p : Nat} : signR s p = if (decodeL (rest s p)).1 = 65533 ∧ (decodeL (rest s p)).2 = 1 then (0, 0, false) else ((decodeL (rest s p)).1, (decodeL (rest s p)).2, true) := by
  have b0 := (byteAt s p).toNat_lt
  rw [decodeL_N, rest_getD, rest_getD, rest_getD, rest_getD, rest_length, Nat.add_zero]
  have K : ∀ (X : Nat × Nat × Bool) (D : Nat × Nat), decodeN (s.size - p) (byteAt s p).toNat (byteAt s (p + 1)).toNat (byteAt s (p + 2)).toNat (byteAt s (p + 3)).toNat = D → (X = if D.1 = 65533 ∧ D.2 = 1 then (0, 0, false) else (D.1, D.2, true)) →
      X = if (decodeN (s.size - p) (byteAt s p).toNat (byteAt s (p + 1)).toNat (byteAt s (p + 2)).toNat (byteAt s (p + 3)).toNat).1 = 65533 ∧ (decodeN (s.size - p) (byteAt s p).toNat (byteAt s (p + 1)).toNat (byteAt s (p + 2)).toNat (byteAt s (p + 3)).toNat).2 = 1 then (0, 0, false) else ((decodeN (s.size - p) (byteAt s p).toNat (byteAt s (p + 1)).toNat (byteAt s (p + 2)).toNat (byteAt s (p + 3)).toNat).1, (decodeN (s.size - p) (byteAt s p).toNat (byteAt s (p + 1)).toNat (byteAt s (p + 2)).toNat (byteAt s (p + 3)).toNat).2, true) := fun X D h1 h2 => by rw [h1]; exact h2
  have BAD : (0, 0, false) = if ((65533, 1) : Nat × Nat).1 = 65533 ∧ ((65533, 1) : Nat × Nat).2 = 1 then ((0, 0, false) : Nat × Nat × Bool) else (((65533, 1) : Nat × Nat).1, ((65533, 1) : Nat × Nat).2, true) := by decide
  have GOOD : ∀ c n : Nat, 1 < n → (c, n, true) = if ((c, n) : Nat × Nat).1 = 65533 ∧ ((c, n) : Nat × Nat).2 = 1 then ((0, 0, false) : Nat × Nat × Bool) else (((c, n) : Nat × Nat).1, ((c, n) : Nat × Nat).2, true) := fun c n h => by
    simp only
    rw [if_neg (by omega)]
  unfold signR
  by_cases h0 : (byteAt s p).toNat < 128
  · refine K _ ((byteAt s p).toNat, 1) (by unfold decodeN; rw [if_pos h0]) ?_
    rw [if_pos h0]
    simp only
    rw [if_neg (by omega)]
  · rw [if_neg h0]
    by_cases k1 : (byteAt s p).toNat / 32 = 6
    · rw [if_pos (by omega)]
      by_cases c1 : 1 < s.size - p ∧ (byteAt s (p + 1)).toNat / 64 = 2
      · rw [cont_ok c1.1 c1.2]
        simp only [contR, finR]
        by_cases v : (byteAt s p).toNat % 32 * 64 + (byteAt s (p + 1)).toNat % 64 ≥ 128
        · refine K _ (_, 2) (by unfold decodeN; rw [if_neg h0, if_pos ⟨k1, c1⟩, if_pos v]) ?_
          rw [if_neg (by omega)]
          exact GOOD _ _ (by decide)
        · refine K _ (65533, 1) (by unfold decodeN; rw [if_neg h0, if_pos ⟨k1, c1⟩, if_neg v]) ?_
          rw [if_pos (by omega)]
          exact BAD
      · rw [cont_no c1]
        exact K _ (65533, 1) (by unfold decodeN; rw [if_neg h0, if_neg (by omega), if_neg (by omega), if_neg (by omega)]) BAD
    · rw [if_neg (by omega)]
      by_cases k2 : (byteAt s p).toNat / 16 = 14
      · rw [if_pos (by omega)]
        by_cases c1 : 1 < s.size - p ∧ (byteAt s (p + 1)).toNat / 64 = 2
        · rw [cont_ok c1.1 c1.2]
          by_cases c2 : 2 < s.size - p ∧ (byteAt s (p + 2)).toNat / 64 = 2
          · rw [cont_ok c2.1 c2.2]
            simp only [contR, finR]
            have e : ((byteAt s p).toNat % 16 * 64 + (byteAt s (p + 1)).toNat % 64) * 64 + (byteAt s (p + (1 + 1))).toNat % 64 = (byteAt s p).toNat % 16 * 4096 + (byteAt s (p + 1)).toNat % 64 * 64 + (byteAt s (p + 2)).toNat % 64 := by rw [show p + (1 + 1) = p + 2 from rfl]; omega
            rw [e]
            by_cases v : (byteAt s p).toNat % 16 * 4096 + (byteAt s (p + 1)).toNat % 64 * 64 + (byteAt s (p + 2)).toNat % 64 ≥ 2048 ∧ ((byteAt s p).toNat % 16 * 4096 + (byteAt s (p + 1)).toNat % 64 * 64 + (byteAt s (p + 2)).toNat % 64 < 55296 ∨ (57344 ≤ (byteAt s p).toNat % 16 * 4096 + (byteAt s (p + 1)).toNat % 64 * 64 + (byteAt s (p + 2)).toNat % 64 ∧ (byteAt s p).toNat % 16 * 4096 + (byteAt s (p + 1)).toNat % 64 * 64 + (byteAt s (p + 2)).toNat % 64 ≤ 1114111))
            · refine K _ (_, 3) (by unfold decodeN; rw [if_neg h0, if_neg (by omega), if_pos ⟨k2, c1, c2⟩, if_pos v]) ?_
              rw [if_neg (by omega)]
              exact GOOD _ _ (by decide)
            · refine K _ (65533, 1) (by unfold decodeN; rw [if_neg h0, if_neg (by omega), if_pos ⟨k2, c1, c2⟩, if_neg v]) ?_
              rw [if_pos (by omega)]
              exact BAD
          · rw [cont_no c2]
            exact K _ (65533, 1) (by unfold decodeN; rw [if_neg h0, if_neg (by omega), if_neg (by omega), if_neg (by omega)]) BAD
        · rw [cont_no c1]
          exact K _ (65533, 1) (by unfold decodeN; rw [if_neg h0, if_neg (by omega), if_neg (by omega), if_neg (by omega)]) BAD
      · rw [if_neg (by omega)]
        by_cases k3 : (byteAt s p).toNat / 8 = 30
        · rw [if_pos (by omega)]
          by_cases c1 : 1 < s.size - p ∧ (byteAt s (p + 1)).toNat / 64 = 2
          · rw [cont_ok c1.1 c1.2]
            by_cases c2 : 2 < s.size - p ∧ (byteAt s (p + 2)).toNat / 64 = 2
            · rw [cont_ok c2.1 c2.2]
              by_cases c3 : 3 < s.size - p ∧ (byteAt s (p + 3)).toNat / 64 = 2
              · rw [cont_ok c3.1 c3.2]
                simp only [contR, finR]
                have e : (((byteAt s p).toNat % 8 * 64 + (byteAt s (p + 1)).toNat % 64) * 64 + (byteAt s (p + (1 + 1))).toNat % 64) * 64 + (byteAt s (p + (1 + 1 + 1))).toNat % 64 = (byteAt s p).toNat % 8 * 262144 + (byteAt s (p + 1)).toNat % 64 * 4096 + (byteAt s (p + 2)).toNat % 64 * 64 + (byteAt s (p + 3)).toNat % 64 := by rw [show p + (1 + 1) = p + 2 from rfl, show p + (1 + 1 + 1) = p + 3 from rfl]; omega
                rw [e]
                by_cases v : (byteAt s p).toNat % 8 * 262144 + (byteAt s (p + 1)).toNat % 64 * 4096 + (byteAt s (p + 2)).toNat % 64 * 64 + (byteAt s (p + 3)).toNat % 64 ≥ 65536 ∧ ((byteAt s p).toNat % 8 * 262144 + (byteAt s (p + 1)).toNat % 64 * 4096 + (byteAt s (p + 2)).toNat % 64 * 64 + (byteAt s (p + 3)).toNat % 64 < 55296 ∨ (57344 ≤ (byteAt s p).toNat % 8 * 262144 + (byteAt s (p + 1)).toNat % 64 * 4096 + (byteAt s (p + 2)).toNat % 64 * 64 + (byteAt s (p + 3)).toNat % 64 ∧ (byteAt s p).toNat % 8 * 262144 + (byteAt s (p + 1)).toNat % 64 * 4096 + (byteAt s (p + 2)).toNat % 64 * 64 + (byteAt s (p + 3)).toNat % 64 ≤ 1114111))
                · refine K _ (_, 4) (by unfold decodeN; rw [if_neg h0, if_neg (by omega), if_neg (by omega), if_pos ⟨k3, c1, c2, c3⟩, if_pos v]) ?_
                  rw [if_neg (by omega)]
                  exact GOOD _ _ (by decide)
                · refine K _ (65533, 1) (by unfold decodeN; rw [if_neg h0, if_neg (by omega), if_neg (by omega), if_pos ⟨k3, c1, c2, c3⟩, if_neg v]) ?_
                  rw [if_pos (by omega)]
                  exact BAD
              · rw [cont_no c3]
                exact K _ (65533, 1) (by unfold decodeN; rw [if_neg h0, if_neg (by omega), if_neg (by omega), if_neg (by omega)]) BAD
            · rw [cont_no c2]
              exact K _ (65533, 1) (by unfold decodeN; rw [if_neg h0, if_neg (by omega), if_neg (by omega), if_neg (by omega)]) BAD
          · rw [cont_no c1]
            exact K _ (65533, 1) (by unfold decodeN; rw [if_neg h0, if_neg (by omega), if_neg (by omega), if_neg (by omega)]) BAD
        · rw [if_neg (by omega)]
          exact K _ (65533, 1) (by unfold decodeN; rw [if_neg h0, if_neg (by omega), if_neg (by omega), if_neg (by omega)]) BAD
/-! texts, byte by byte -/
def shortR (c : UInt8) : UInt8 := if c = 34 then 34 else if c = 92 then 92 else if c = 8 then 98 else if c = 12 then 102 else if c = 10 then 110 else if c = 13 then 114 else if c = 9 then 116 else 0
def qByte (c : UInt8) : List UInt8 := if shortR c ≠ 0 then [92, shortR c] else if c < 32 then [92, 117, 48, 48, hexAt (c.toNat / 16), hexAt (c.toNat % 16)] else [c]
theorem q_ascii : ∀ r : Nat, r < 128 → qByte (UInt8.ofNat r) = quoteOne r := by decide +kernel
theorem q_high {c : UInt8} (h : 128 ≤ c.toNat) : qByte c = [c] := by
  have hne : ∀ k : UInt8, k.toNat < 128 → c ≠ k := fun k hk e => by rw [e] at h; omega
  have hs : shortR c = 0 := by
    unfold shortR
    rw [if_neg (hne 34 (by decide)), if_neg (hne 92 (by decide)), if_neg (hne 8 (by decide)), if_neg (hne 12 (by decide)), if_neg (hne 10 (by decide)), if_neg (hne 13 (by decide)), if_neg (hne 9 (by decide))]
  unfold qByte
  rw [hs, if_neg (by decide), if_neg (by rw [UInt8.lt_iff_toNat_lt]; show ¬ c.toNat < 32; omega)]
theorem q_list : ∀ l : List UInt8, (∀ c ∈ l, 128 ≤ c.toNat) → l.flatMap qByte = l
  | [], _ => rfl
  | c :: l, h => by
    rw [List.flatMap_cons, q_high (h c (List.mem_cons_self ..)), q_list l (fun d hd => h d (List.mem_cons_of_mem _ hd))]
    rfl
theorem q_rune {r : Nat} (hr : Scal r) : (Lib.encodeRune (r : Int)).flatMap qByte = quoteOne r := by
  by_cases h1 : r < 128
  · rw [← q_ascii r h1]
    unfold Lib.encodeRune
    rw [encodeRuneZ_one (by omega) (by omega)]
    simp
  · have hq : quoteOne r = Lib.encodeRune (r : Int) := by
      have hl : letterB (r : Int) = 0 := by
        simp only [letterB, letterTab, letterIn]
        rw [if_neg (by omega), if_neg (by omega), if_neg (by omega), if_neg (by omega), if_neg (by omega), if_neg (by omega), if_neg (by omega)]
      unfold quoteOne
      rw [hl, if_neg (by decide), if_neg (by omega)]
    rw [hq]
    apply q_list
    intro c hc
    unfold Lib.encodeRune at hc
    rw [List.mem_map] at hc
    obtain ⟨z, hz, rfl⟩ := hc
    have hb := encodeRuneZ_byte _ z hz
    rw [u8z hb.1 hb.2]
    unfold Scal at hr
    by_cases h2 : r < 2048
    · rw [encodeRuneZ_two (by omega) (by omega)] at hz
      simp only [List.mem_cons, List.not_mem_nil, or_false] at hz
      omega
    · by_cases h3 : r < 65536
      · rw [encodeRuneZ_three (by omega)] at hz
        simp only [List.mem_cons, List.not_mem_nil, or_false] at hz
        omega
      · rw [encodeRuneZ_four (by omega) (by omega)] at hz
        simp only [List.mem_cons, List.not_mem_nil, or_false] at hz
        omega
/-- a text that is quoted byte by byte -/
theorem quote_bytes {s : ByteArray} (hv : validB s = true) : quoteB s = 34 :: (s.data.toList.flatMap qByte ++ [34]) := by
  obtain ⟨rs, hr, hu⟩ := validB_runes hv
  rw [quoteB_runes hr hu, hu]
  have key : ∀ rs : List Nat, (∀ r ∈ rs, Scal r) → rs.flatMap (fun r => quoteOne r) = (encs rs).flatMap qByte := fun rs => by
    induction rs with
    | nil => intro _; rfl
    | cons r rs ih =>
      intro h
      rw [List.flatMap_cons, encs_cons, List.flatMap_append, q_rune (h r (List.mem_cons_self ..)), ih (fun q hq => h q (List.mem_cons_of_mem _ hq))]
  rw [key rs hr]
end Go.Proofs.YtjjgbgojlhaapaaGreatDoor
