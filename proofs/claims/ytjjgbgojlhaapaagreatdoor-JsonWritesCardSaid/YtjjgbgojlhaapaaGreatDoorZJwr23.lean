/- Parts of the proof: Gl, Gs, Cb. -/
import Derived.Test.YtjjgbgojlhaapaaGreatDoorZJwr16
import Derived.Test.YtjjgbgojlhaapaaGreatDoorZJwr3
import Derived.Lib.ValidLaws
import Derived.OwnWalk
import Derived.Laws.BitsLemmas
namespace Go.Proofs.YtjjgbgojlhaapaaGreatDoor
open Go.RowKit Go.Lib

/-- the bytes that stand behind the first one of a sign: what they make -/
def contR (s : ByteArray) (at' : Nat) : Nat → Nat → Nat → Option Nat
  | 0, _, c => some c
  | m + 1, i, c => if s.size ≤ at' + i then none else if (byteAt s (at' + i)).toNat / 64 ≠ 2 then none else contR s at' m (i + 1) (c * 64 + (byteAt s (at' + i)).toNat % 64)
def finR (o : Option Nat) (n low : Nat) : Nat × Nat × Bool := match o with
  | none => (0, 0, false)
  | some c => if c < low ∨ 1114111 < c ∨ (55296 ≤ c ∧ c ≤ 57343) then (0, 0, false) else (c, n + 1, true)
def signR (s : ByteArray) (at' : Nat) : Nat × Nat × Bool :=
  if (byteAt s at').toNat < 128 then ((byteAt s at').toNat, 1, true)
  else if 192 ≤ (byteAt s at').toNat ∧ (byteAt s at').toNat ≤ 223 then finR (contR s at' 1 1 ((byteAt s at').toNat % 32)) 1 128
  else if 224 ≤ (byteAt s at').toNat ∧ (byteAt s at').toNat ≤ 239 then finR (contR s at' 2 1 ((byteAt s at').toNat % 16)) 2 2048
  else if 240 ≤ (byteAt s at').toNat ∧ (byteAt s at').toNat ≤ 247 then finR (contR s at' 3 1 ((byteAt s at').toNat % 8)) 3 65536
  else (0, 0, false)
theorem rest_getD (s : ByteArray) (p i : Nat) : (rest s p).getD i 0 = byteAt s (p + i) := by
  unfold rest byteAt
  simp [List.getD_eq_getElem?_getD, List.getElem?_drop]
theorem rest_length (s : ByteArray) (p : Nat) : (rest s p).length = s.size - p := by
  unfold rest
  rw [List.length_drop, Array.length_toList]
  rfl
theorem cont_ok {s : ByteArray} {p m i c : Nat} (h : i < s.size - p) (h2 : (byteAt s (p + i)).toNat / 64 = 2) : contR s p (m + 1) i c = contR s p m (i + 1) (c * 64 + (byteAt s (p + i)).toNat % 64) := by
  simp only [contR]
  rw [if_neg (by omega), if_neg (by omega)]
theorem cont_no {s : ByteArray} {p m i c : Nat} (h : ¬ (i < s.size - p ∧ (byteAt s (p + i)).toNat / 64 = 2)) : contR s p (m + 1) i c = none := by
  simp only [contR]
  by_cases h1 : s.size ≤ p + i
  · rw [if_pos h1]
  · rw [if_neg h1, if_pos (by omega)]
/-- it is the decoder's -/
theorem sign_dec {s : ByteArray} {p : Nat} : signR s p = if (decodeL (rest s p)).1 = 65533 ∧ (decodeL (rest s p)).2 = 1 then (0, 0, false) else ((decodeL (rest s p)).1, (decodeL (rest s p)).2, true) := by
  have b0 := (byteAt s p).toNat_lt
  rw [decodeL_N, rest_getD, rest_getD, rest_getD, rest_getD, rest_length, Nat.add_zero]
  have K : ∀ (X : Nat × Nat × Bool) (D : Nat × Nat), decodeN (s.size - p) (byteAt s p).toNat (byteAt s (p + 1)).toNat (byteAt s (p + 2)).toNat (byteAt s (p + 3)).toNat = D → (X = if D.1 = 65533 ∧ D.2 = 1 then (0, 0, false) else (D.1, D.2, true)) →
      X = if (decodeN (s.size - p) (byteAt s p).toNat (byteAt s (p + 1)).toNat (byteAt s (p + 2)).toNat (byteAt s (p + 3)).toNat).1 = 65533 ∧ (decodeN (s.size - p) (byteAt s p).toNat (byteAt s (p + 1)).toNat (byteAt s (p + 2)).toNat (byteAt s (p + 3)).toNat).2 = 1 then (0, 0, false) else ((decodeN (s.size - p) (byteAt s p).toNat (byteAt s (p + 1)).toNat (byteAt s (p + 2)).toNat (byteAt s (p + 3)).toNat).1, (decodeN (s.size - p) (byteAt s p).toNat (byteAt s (p + 1)).toNat (byteAt s (p + 2)).toNat (byteAt s (p + 3)).toNat).2, true) := fun X D h1 h2 => by rw [h1]; exact h2
  have BAD : (0, 0, false) = if ((65533, 1) : Nat × Nat).1 = 65533 ∧ ((65533, 1) : Nat × Nat).2 = 1 then ((0, 0, false) : Nat × Nat × Bool) else (((65533, 1) : Nat × Nat).1, ((65533, 1) : Nat × Nat).2, true) := by decide
  have GOOD : ∀ c n : Nat, 1 < n → (c, n, true) = if ((c, n) : Nat × Nat).1 = 65533 ∧ ((c, n) : Nat × Nat).2 = 1 then ((0, 0, false) : Nat × Nat × Bool) else (((c, n) : Nat × Nat).1, ((c, n) : Nat × Nat).2, true) := fun c n h => by
    simp only
    rw [if_neg (by omega)]
  unfold signR
  by_cases h0 : (byteAt s p).toNat < 128
  · refine K _ ((byteAt s p).toNat, 1) (by unfold decodeN; rw [if_pos h0]) ?_
    rw [if_pos h0]
    simp only
    rw [if_neg (by omega)]
  · rw [if_neg h0]
    by_cases k1 : (byteAt s p).toNat / 32 = 6
    · rw [if_pos (by omega)]
      by_cases c1 : 1 < s.size - p ∧ (byteAt s (p + 1)).toNat / 64 = 2
      · rw [cont_ok c1.1 c1.2]
        simp only [contR, finR]
        by_cases v : (byteAt s p).toNat % 32 * 64 + (byteAt s (p + 1)).toNat % 64 ≥ 128
        · refine K _ (_, 2) (by unfold decodeN; rw [if_neg h0, if_pos ⟨k1, c1⟩, if_pos v]) ?_
          rw [if_neg (by omega)]
          exact GOOD _ _ (by decide)
        · refine K _ (65533, 1) (by unfold decodeN; rw [if_neg h0, if_pos ⟨k1, c1⟩, if_neg v]) ?_
          rw [if_pos (by omega)]
          exact BAD
      · rw [cont_no c1]
        exact K _ (65533, 1) (by unfold decodeN; rw [if_neg h0, if_neg (by omega), if_neg (by omega), if_neg (by omega)]) BAD
    · rw [if_neg (by omega)]
      by_cases k2 : (byteAt s p).toNat / 16 = 14
      · rw [if_pos (by omega)]
        by_cases c1 : 1 < s.size - p ∧ (byteAt s (p + 1)).toNat / 64 = 2
        · rw [cont_ok c1.1 c1.2]
          by_cases c2 : 2 < s.size - p ∧ (byteAt s (p + 2)).toNat / 64 = 2
          · rw [cont_ok c2.1 c2.2]
            simp only [contR, finR]
            have e : ((byteAt s p).toNat % 16 * 64 + (byteAt s (p + 1)).toNat % 64) * 64 + (byteAt s (p + (1 + 1))).toNat % 64 = (byteAt s p).toNat % 16 * 4096 + (byteAt s (p + 1)).toNat % 64 * 64 + (byteAt s (p + 2)).toNat % 64 := by rw [show p + (1 + 1) = p + 2 from rfl]; omega
            rw [e]
            by_cases v : (byteAt s p).toNat % 16 * 4096 + (byteAt s (p + 1)).toNat % 64 * 64 + (byteAt s (p + 2)).toNat % 64 ≥ 2048 ∧ ((byteAt s p).toNat % 16 * 4096 + (byteAt s (p + 1)).toNat % 64 * 64 + (byteAt s (p + 2)).toNat % 64 < 55296 ∨ (57344 ≤ (byteAt s p).toNat % 16 * 4096 + (byteAt s (p + 1)).toNat % 64 * 64 + (byteAt s (p + 2)).toNat % 64 ∧ (byteAt s p).toNat % 16 * 4096 + (byteAt s (p + 1)).toNat % 64 * 64 + (byteAt s (p + 2)).toNat % 64 ≤ 1114111))
            · refine K _ (_, 3) (by unfold decodeN; rw [if_neg h0, if_neg (by omega), if_pos ⟨k2, c1, c2⟩, if_pos v]) ?_
              rw [if_neg (by omega)]
              exact GOOD _ _ (by decide)
            · refine K _ (65533, 1) (by unfold decodeN; rw [if_neg h0, if_neg (by omega), if_pos ⟨k2, c1, c2⟩, if_neg v]) ?_
              rw [if_pos (by omega)]
              exact BAD
          · rw [cont_no c2]
            exact K _ (65533, 1) (by unfold decodeN; rw [if_neg h0, if_neg (by omega), if_neg (by omega), if_neg (by omega)]) BAD
        · rw [cont_no c1]
          exact K _ (65533, 1) (by unfold decodeN; rw [if_neg h0, if_neg (by omega), if_neg (by omega), if_neg (by omega)]) BAD
      · rw [if_neg (by omega)]
        by_cases k3 : (byteAt s p).toNat / 8 = 30
        · rw [if_pos (by omega)]
          by_cases c1 : 1 < s.size - p ∧ (byteAt s (p + 1)).toNat / 64 = 2
          · rw [cont_ok c1.1 c1.2]
            by_cases c2 : 2 < s.size - p ∧ (byteAt s (p + 2)).toNat / 64 = 2
            · rw [cont_ok c2.1 c2.2]
              by_cases c3 : 3 < s.size - p ∧ (byteAt s (p + 3)).toNat / 64 = 2
              · rw [cont_ok c3.1 c3.2]
                simp only [contR, finR]
                have e : (((byteAt s p).toNat % 8 * 64 + (byteAt s (p + 1)).toNat % 64) * 64 + (byteAt s (p + (1 + 1))).toNat % 64) * 64 + (byteAt s (p + (1 + 1 + 1))).toNat % 64 = (byteAt s p).toNat % 8 * 262144 + (byteAt s (p + 1)).toNat % 64 * 4096 + (byteAt s (p + 2)).toNat % 64 * 64 + (byteAt s (p + 3)).toNat % 64 := by rw [show p + (1 + 1) = p + 2 from rfl, show p + (1 + 1 + 1) = p + 3 from rfl]; omega
                rw [e]
                by_cases v : (byteAt s p).toNat % 8 * 262144 + (byteAt s (p + 1)).toNat % 64 * 4096 + (byteAt s (p + 2)).toNat % 64 * 64 + (byteAt s (p + 3)).toNat % 64 ≥ 65536 ∧ ((byteAt s p).toNat % 8 * 262144 + (byteAt s (p + 1)).toNat % 64 * 4096 + (byteAt s (p + 2)).toNat % 64 * 64 + (byteAt s (p + 3)).toNat % 64 < 55296 ∨ (57344 ≤ (byteAt s p).toNat % 8 * 262144 + (byteAt s (p + 1)).toNat % 64 * 4096 + (byteAt s (p + 2)).toNat % 64 * 64 + (byteAt s (p + 3)).toNat % 64 ∧ (byteAt s p).toNat % 8 * 262144 + (byteAt s (p + 1)).toNat % 64 * 4096 + (byteAt s (p + 2)).toNat % 64 * 64 + (byteAt s (p + 3)).toNat % 64 ≤ 1114111))
                · refine K _ (_, 4) (by unfold decodeN; rw [if_neg h0, if_neg (by omega), if_neg (by omega), if_pos ⟨k3, c1, c2, c3⟩, if_pos v]) ?_
                  rw [if_neg (by omega)]
                  exact GOOD _ _ (by decide)
                · refine K _ (65533, 1) (by unfold decodeN; rw [if_neg h0, if_neg (by omega), if_neg (by omega), if_pos ⟨k3, c1, c2, c3⟩, if_neg v]) ?_
                  rw [if_pos (by omega)]
                  exact BAD
              · rw [cont_no c3]
                exact K _ (65533, 1) (by unfold decodeN; rw [if_neg h0, if_neg (by omega), if_neg (by omega), if_neg (by omega)]) BAD
            · rw [cont_no c2]
              exact K _ (65533, 1) (by unfold decodeN; rw [if_neg h0, if_neg (by omega), if_neg (by omega), if_neg (by omega)]) BAD
          · rw [cont_no c1]
            exact K _ (65533, 1) (by unfold decodeN; rw [if_neg h0, if_neg (by omega), if_neg (by omega), if_neg (by omega)]) BAD
        · rw [if_neg (by omega)]
          exact K _ (65533, 1) (by unfold decodeN; rw [if_neg h0, if_neg (by omega), if_neg (by omega), if_neg (by omega)]) BAD
/-! texts, byte by byte -/
def shortR (c : UInt8) : UInt8 := if c = 34 then 34 else if c = 92 then 92 else if c = 8 then 98 else if c = 12 then 102 else if c = 10 then 110 else if c = 13 then 114 else if c = 9 then 116 else 0
def qByte (c : UInt8) : List UInt8 := if shortR c ≠ 0 then [92, shortR c] else if c < 32 then [92, 117, 48, 48, hexAt (c.toNat / 16), hexAt (c.toNat % 16)] else [c]
theorem q_ascii : ∀ r : Nat, r < 128 → qByte (UInt8.ofNat r) = quoteOne r := by decide +kernel
theorem q_high {c : UInt8} (h : 128 ≤ c.toNat) : qByte c = [c] := by
  have hne : ∀ k : UInt8, k.toNat < 128 → c ≠ k := fun k hk e => by rw [e] at h; omega
  have hs : shortR c = 0 := by
    unfold shortR
    rw [if_neg (hne 34 (by decide)), if_neg (hne 92 (by decide)), if_neg (hne 8 (by decide)), if_neg (hne 12 (by decide)), if_neg (hne 10 (by decide)), if_neg (hne 13 (by decide)), if_neg (hne 9 (by decide))]
  unfold qByte
  rw [hs, if_neg (by decide), if_neg (by rw [UInt8.lt_iff_toNat_lt]; show ¬ c.toNat < 32; omega)]
theorem q_list : ∀ l : List UInt8, (∀ c ∈ l, 128 ≤ c.toNat) → l.flatMap qByte = l
  | [], _ => rfl
  | c :: l, h => by
    rw [List.flatMap_cons, q_high (h c (List.mem_cons_self ..)), q_list l (fun d hd => h d (List.mem_cons_of_mem _ hd))]
    rfl
theorem q_rune {r : Nat} (hr : Scal r) : (Lib.encodeRune (r : Int)).flatMap qByte = quoteOne r := by
  by_cases h1 : r < 128
  · rw [← q_ascii r h1]
    unfold Lib.encodeRune
    rw [encodeRuneZ_one (by omega) (by omega)]
    simp
  · have hq : quoteOne r = Lib.encodeRune (r : Int) := by
      have hl : letterB (r : Int) = 0 := by
        simp only [letterB, letterTab, letterIn]
        rw [if_neg (by omega), if_neg (by omega), if_neg (by omega), if_neg (by omega), if_neg (by omega), if_neg (by omega), if_neg (by omega)]
      unfold quoteOne
      rw [hl, if_neg (by decide), if_neg (by omega)]
    rw [hq]
    apply q_list
    intro c hc
    unfold Lib.encodeRune at hc
    rw [List.mem_map] at hc
    obtain ⟨z, hz, rfl⟩ := hc
    have hb := encodeRuneZ_byte _ z hz
    rw [u8z hb.1 hb.2]
    unfold Scal at hr
    by_cases h2 : r < 2048
    · rw [encodeRuneZ_two (by omega) (by omega)] at hz
      simp only [List.mem_cons, List.not_mem_nil, or_false] at hz
      omega
    · by_cases h3 : r < 65536
      · rw [encodeRuneZ_three (by omega)] at hz
        simp only [List.mem_cons, List.not_mem_nil, or_false] at hz
        omega
      · rw [encodeRuneZ_four (by omega) (by omega)] at hz
        simp only [List.mem_cons, List.not_mem_nil, or_false] at hz
        omega
/-- a text that is quoted byte by byte -/
theorem quote_bytes {s : ByteArray} (hv : validB s = true) : quoteB s = 34 :: (s.data.toList.flatMap qByte ++ [34]) := by
  obtain ⟨rs, hr, hu⟩ := validB_runes hv
  rw [quoteB_runes hr hu, hu]
  have key : ∀ rs : List Nat, (∀ r ∈ rs, Scal r) → rs.flatMap (fun r => quoteOne r) = (encs rs).flatMap qByte := fun rs => by
    induction rs with
    | nil => intro _; rfl
    | cons r rs ih =>
      intro h
      rw [List.flatMap_cons, encs_cons, List.flatMap_append, q_rune (h r (List.mem_cons_self ..)), ih (fun q hq => h q (List.mem_cons_of_mem _ hq))]
  rw [key rs hr]
end Go.Proofs.YtjjgbgojlhaapaaGreatDoor
namespace Go.Proofs.YtjjgbgojlhaapaaGreatDoor
open Go.RowKit Go.Lib

theorem wraps_i64' (n : Int) (h0 : 0 ≤ n) (h1 : n < 2 ^ 63) : IntKind.i64.wrap n = n := by rw [IntKind.wrap_i64]; omega
theorem or_six (c r : Int) (h0 : 0 ≤ c) (h1 : c < 16777216) (h2 : 0 ≤ r) (h3 : r < 64) : bits .or .i64 (c * 64) r = c * 64 + r :=
  bits_join .i64 63 (by decide) wraps_i64' 6 (c * 64) r (by omega) (by omega) (by omega) h2 h3 (by omega)
theorem and_31 : ∀ b : Nat, b < 256 → bits .and .i64 (b : Int) 31 = ((b % 32 : Nat) : Int) := by decide +kernel
theorem and_15' : ∀ b : Nat, b < 256 → bits .and .i64 (b : Int) 15 = ((b % 16 : Nat) : Int) := by decide +kernel
theorem and_7 : ∀ b : Nat, b < 256 → bits .and .i64 (b : Int) 7 = ((b % 8 : Nat) : Int) := by decide +kernel
def SignRes (s : ByteArray) (p : Nat) (w : World) (e : Ending) (w' : World) : Prop := e = .returned (.tuple #[.int .i64 ((signR s p).1 : Int), .int .i64 ((signR s p).2.1 : Int), .bool (signR s p).2.2]) ∧ w' = w
set_option maxRecDepth 100000 in
set_option maxHeartbeats 8000000 in
theorem sign_two (s : ByteArray) (p : Nat) (hp : p < s.size) (hs : s.size ≤ 1000000000) (w : World) (h0 : 192 ≤ (byteAt s p).toNat) (h1 : (byteAt s p).toNat ≤ 223) :
    Calls Tryz.prog 94 #[.string s, .int .i64 (p : Int)] w (SignRes s p w) := by
  unfold SignRes
  have hR : signR s p = finR (contR s p 1 1 ((byteAt s p).toNat % 32)) 1 128 := by
    unfold signR
    rw [if_neg (by omega), if_pos (by omega)]
  have hq0 : (0 : Int) ≤ (p : Int) := by omega
  have hltz : (p : Int) < (s.size : Int) := by omega
  have hgb := get_byte hp
  have hb := (byteAt s p).toNat_lt
  have hwb : wrap64 ((byteAt s p).toNat : Int) = ((byteAt s p).toNat : Int) := by unfold wrap64; omega
  have ha := and_31 (byteAt s p).toNat hb
  have g0 : decide (((byteAt s p).toNat : Int) < 128) = false := decide_eq_false (by omega)
  have g1 : decide (192 ≤ ((byteAt s p).toNat : Int)) = true := decide_eq_true (by omega)
  have g2 : decide (((byteAt s p).toNat : Int) ≤ 223) = true := decide_eq_true (by omega)
  have HR := Lib.hid hR
  have hc0 : (byteAt s p).toNat % 32 < 64 := by omega
  generalize (byteAt s p).toNat % 32 = C0 at *
  clear hR h0 h1 hb
  generalize signR s p = R at *
  go_enter Tryz.func94, Tryz.ntmps94
  go_wp2_with fail
  go_loopg [9, 11] 2 (fun gg s9 s11 wr => ∃ i c m : Nat, 1 ≤ i ∧ i + m = 2 ∧ m + 1 ≤ gg ∧ s9 = .int .i64 (c : Int) ∧ s11 = .int .i64 (i : Int) ∧ c < 64 ^ i ∧ wr = w ∧ Aside (contR s p 1 1 C0 = contR s p m i c))
  case atStart => exact ⟨1, C0, 1, by omega, by omega, by omega, rfl, rfl, by omega, rfl, rfl⟩
  case round =>
    obtain ⟨i, c, m, hi, him, hgg, rfl, rfl, hc, rfl, HC⟩ := hrel
    have hcb : c < 16777216 := Nat.lt_of_lt_of_le hc (by have := Nat.pow_le_pow_right (n := 64) (by omega) (show i ≤ 4 by omega); omega)
    have HCB := Lib.hid hc
    clear hc g0 ha hwb
    rcases m with _ | m
    · have hd : decide ((i : Int) ≤ 1) = false := decide_eq_false (by omega)
      have hfr : R = finR (some c) 1 128 := by rw [HR.out, HC.out]; rfl
      have HFR := Lib.hid hfr
      clear HR HC hfr
      by_cases t1 : c < 128
      · have e1 : decide ((c : Int) < 128) = true := decide_eq_true (by omega)
        have hz : R = (0, 0, false) := by rw [HFR.out]; simp only [finR]; rw [if_pos (.inl t1)]
        clear HFR
        subst hz
        go_wp2_with fail
        go_ret3
        exact ⟨rfl, rfl⟩
      · have e1 : decide ((c : Int) < 128) = false := decide_eq_false (by omega)
        by_cases t2 : 1114111 < c
        · have e2 : decide (1114111 < (c : Int)) = true := decide_eq_true (by omega)
          have hz : R = (0, 0, false) := by rw [HFR.out]; simp only [finR]; rw [if_pos (.inr (.inl t2))]
          clear HFR
          subst hz
          go_wp2_with fail
          go_ret3
          exact ⟨rfl, rfl⟩
        · have e2 : decide (1114111 < (c : Int)) = false := decide_eq_false (by omega)
          by_cases t3 : 55296 ≤ c
          · have e3 : decide (55296 ≤ (c : Int)) = true := decide_eq_true (by omega)
            by_cases t4 : c ≤ 57343
            · have e4 : decide ((c : Int) ≤ 57343) = true := decide_eq_true (by omega)
              have hz : R = (0, 0, false) := by rw [HFR.out]; simp only [finR]; rw [if_pos (.inr (.inr ⟨t3, t4⟩))]
              clear HFR
              subst hz
              go_wp2_with fail
              go_ret3
              exact ⟨rfl, rfl⟩
            · have e4 : decide ((c : Int) ≤ 57343) = false := decide_eq_false (by omega)
              have hz : R = (c, 2, true) := by rw [HFR.out]; simp only [finR]; rw [if_neg (by omega)]
              clear HFR
              subst hz
              go_wp2_with fail
              go_ret3
              exact ⟨rfl, rfl⟩
          · have e3 : decide (55296 ≤ (c : Int)) = false := decide_eq_false (by omega)
            have hz : R = (c, 2, true) := by rw [HFR.out]; simp only [finR]; rw [if_neg (by omega)]
            clear HFR
            subst hz
            go_wp2_with fail
            go_ret3
            exact ⟨rfl, rfl⟩
    · have hd : decide ((i : Int) ≤ 1) = true := decide_eq_true (by omega)
      by_cases hlt : p + i < s.size
      · have e1 : decide ((s.size : Int) ≤ (p : Int) + (i : Int)) = false := decide_eq_false (by omega)
        have hq1 : (0 : Int) ≤ (p : Int) + (i : Int) := by omega
        have hq2 : (p : Int) + (i : Int) < (s.size : Int) := by omega
        have hgi := get_byte hlt
        have hbi := (byteAt s (p + i)).toNat_lt
        by_cases hk : (byteAt s (p + i)).toNat / 64 = 2
        · have e2 : (((byteAt s (p + i)).toNat : Int) / 64 != 2) = false := by simp; omega
          have hor := or_six (c : Int) (((byteAt s (p + i)).toNat : Int) % 64) (by omega) (by omega) (by omega) (by omega)
          obtain ⟨z, hz⟩ : ∃ z, z = c * 64 + (byteAt s (p + i)).toNat % 64 := ⟨_, rfl⟩
          have hor2 : (c : Int) * 64 + ((byteAt s (p + i)).toNat : Int) % 64 = (z : Int) := by omega
          rw [hor2] at hor
          have hst : contR s p 1 1 C0 = contR s p m (i + 1) z := by
            rw [HC.out, hz]
            simp only [contR]
            rw [if_neg (by omega), if_neg (by omega)]
          have hzb : z < 64 ^ (i + 1) := by have := HCB.out; rw [Nat.pow_succ]; omega
          have HST := Lib.hid hst; have HZB := Lib.hid hzb
          clear hst hzb hz hor2 hbi
          go_wp2_with fail
          go_roundg (m + 1)
          case measure => omega
          case rel => exact ⟨i + 1, z, m, by omega, by omega, by omega, rfl, by go_num, HZB.out, rfl, HST.out⟩
        · have e2 : (((byteAt s (p + i)).toNat : Int) / 64 != 2) = true := by simp; omega
          have hz : R = (0, 0, false) := by
            rw [HR.out, HC.out]
            simp only [contR]
            rw [if_neg (by omega), if_pos (by omega)]
            rfl
          clear HR HC
          subst hz
          go_wp2_with fail
          go_ret3
          exact ⟨rfl, rfl⟩
      · have e1 : decide ((s.size : Int) ≤ (p : Int) + (i : Int)) = true := decide_eq_true (by omega)
        have hz : R = (0, 0, false) := by
          rw [HR.out, HC.out]
          simp only [contR]
          rw [if_pos (by omega)]
          rfl
        clear HR HC
        subst hz
        go_wp2_with fail
        go_ret3
        exact ⟨rfl, rfl⟩
set_option maxRecDepth 100000 in
set_option maxHeartbeats 8000000 in
theorem sign_three (s : ByteArray) (p : Nat) (hp : p < s.size) (hs : s.size ≤ 1000000000) (w : World) (h0 : 224 ≤ (byteAt s p).toNat) (h1 : (byteAt s p).toNat ≤ 239) :
    Calls Tryz.prog 94 #[.string s, .int .i64 (p : Int)] w (SignRes s p w) := by
  unfold SignRes
  have hR : signR s p = finR (contR s p 2 1 ((byteAt s p).toNat % 16)) 2 2048 := by
    unfold signR
    rw [if_neg (by omega), if_neg (by omega), if_pos (by omega)]
  have hq0 : (0 : Int) ≤ (p : Int) := by omega
  have hltz : (p : Int) < (s.size : Int) := by omega
  have hgb := get_byte hp
  have hb := (byteAt s p).toNat_lt
  have hwb : wrap64 ((byteAt s p).toNat : Int) = ((byteAt s p).toNat : Int) := by unfold wrap64; omega
  have ha := and_15' (byteAt s p).toNat hb
  have g0 : decide (((byteAt s p).toNat : Int) < 128) = false := decide_eq_false (by omega)
  have g1 : decide (((byteAt s p).toNat : Int) ≤ 223) = false := decide_eq_false (by omega)
  have g2 : decide (192 ≤ ((byteAt s p).toNat : Int)) = true := decide_eq_true (by omega)
  have g3 : decide (224 ≤ ((byteAt s p).toNat : Int)) = true := decide_eq_true (by omega)
  have g4 : decide (((byteAt s p).toNat : Int) ≤ 239) = true := decide_eq_true (by omega)
  have HR := Lib.hid hR
  have hc0 : (byteAt s p).toNat % 16 < 64 := by omega
  generalize (byteAt s p).toNat % 16 = C0 at *
  clear hR h0 h1 hb
  generalize signR s p = R at *
  go_enter Tryz.func94, Tryz.ntmps94
  go_wp2_with fail
  go_loopg [9, 11] 3 (fun gg s9 s11 wr => ∃ i c m : Nat, 1 ≤ i ∧ i + m = 3 ∧ m + 1 ≤ gg ∧ s9 = .int .i64 (c : Int) ∧ s11 = .int .i64 (i : Int) ∧ c < 64 ^ i ∧ wr = w ∧ Aside (contR s p 2 1 C0 = contR s p m i c))
  case atStart => exact ⟨1, C0, 2, by omega, by omega, by omega, rfl, rfl, by omega, rfl, rfl⟩
  case round =>
    obtain ⟨i, c, m, hi, him, hgg, rfl, rfl, hc, rfl, HC⟩ := hrel
    have hcb : c < 16777216 := Nat.lt_of_lt_of_le hc (by have := Nat.pow_le_pow_right (n := 64) (by omega) (show i ≤ 4 by omega); omega)
    have HCB := Lib.hid hc
    clear hc g0 ha hwb
    rcases m with _ | m
    · have hd : decide ((i : Int) ≤ 2) = false := decide_eq_false (by omega)
      have hfr : R = finR (some c) 2 2048 := by rw [HR.out, HC.out]; rfl
      have HFR := Lib.hid hfr
      clear HR HC hfr
      by_cases t1 : c < 2048
      · have e1 : decide ((c : Int) < 2048) = true := decide_eq_true (by omega)
        have hz : R = (0, 0, false) := by rw [HFR.out]; simp only [finR]; rw [if_pos (.inl t1)]
        clear HFR
        subst hz
        go_wp2_with fail
        go_ret3
        exact ⟨rfl, rfl⟩
      · have e1 : decide ((c : Int) < 2048) = false := decide_eq_false (by omega)
        by_cases t2 : 1114111 < c
        · have e2 : decide (1114111 < (c : Int)) = true := decide_eq_true (by omega)
          have hz : R = (0, 0, false) := by rw [HFR.out]; simp only [finR]; rw [if_pos (.inr (.inl t2))]
          clear HFR
          subst hz
          go_wp2_with fail
          go_ret3
          exact ⟨rfl, rfl⟩
        · have e2 : decide (1114111 < (c : Int)) = false := decide_eq_false (by omega)
          by_cases t3 : 55296 ≤ c
          · have e3 : decide (55296 ≤ (c : Int)) = true := decide_eq_true (by omega)
            by_cases t4 : c ≤ 57343
            · have e4 : decide ((c : Int) ≤ 57343) = true := decide_eq_true (by omega)
              have hz : R = (0, 0, false) := by rw [HFR.out]; simp only [finR]; rw [if_pos (.inr (.inr ⟨t3, t4⟩))]
              clear HFR
              subst hz
              go_wp2_with fail
              go_ret3
              exact ⟨rfl, rfl⟩
            · have e4 : decide ((c : Int) ≤ 57343) = false := decide_eq_false (by omega)
              have hz : R = (c, 3, true) := by rw [HFR.out]; simp only [finR]; rw [if_neg (by omega)]
              clear HFR
              subst hz
              go_wp2_with fail
              go_ret3
              exact ⟨rfl, rfl⟩
          · have e3 : decide (55296 ≤ (c : Int)) = false := decide_eq_false (by omega)
            have hz : R = (c, 3, true) := by rw [HFR.out]; simp only [finR]; rw [if_neg (by omega)]
            clear HFR
            subst hz
            go_wp2_with fail
            go_ret3
            exact ⟨rfl, rfl⟩
    · have hd : decide ((i : Int) ≤ 2) = true := decide_eq_true (by omega)
      by_cases hlt : p + i < s.size
      · have e1 : decide ((s.size : Int) ≤ (p : Int) + (i : Int)) = false := decide_eq_false (by omega)
        have hq1 : (0 : Int) ≤ (p : Int) + (i : Int) := by omega
        have hq2 : (p : Int) + (i : Int) < (s.size : Int) := by omega
        have hgi := get_byte hlt
        have hbi := (byteAt s (p + i)).toNat_lt
        by_cases hk : (byteAt s (p + i)).toNat / 64 = 2
        · have e2 : (((byteAt s (p + i)).toNat : Int) / 64 != 2) = false := by simp; omega
          have hor := or_six (c : Int) (((byteAt s (p + i)).toNat : Int) % 64) (by omega) (by omega) (by omega) (by omega)
          obtain ⟨z, hz⟩ : ∃ z, z = c * 64 + (byteAt s (p + i)).toNat % 64 := ⟨_, rfl⟩
          have hor2 : (c : Int) * 64 + ((byteAt s (p + i)).toNat : Int) % 64 = (z : Int) := by omega
          rw [hor2] at hor
          have hst : contR s p 2 1 C0 = contR s p m (i + 1) z := by
            rw [HC.out, hz]
            simp only [contR]
            rw [if_neg (by omega), if_neg (by omega)]
          have hzb : z < 64 ^ (i + 1) := by have := HCB.out; rw [Nat.pow_succ]; omega
          have HST := Lib.hid hst; have HZB := Lib.hid hzb
          clear hst hzb hz hor2 hbi
          go_wp2_with fail
          go_roundg (m + 1)
          case measure => omega
          case rel => exact ⟨i + 1, z, m, by omega, by omega, by omega, rfl, by go_num, HZB.out, rfl, HST.out⟩
        · have e2 : (((byteAt s (p + i)).toNat : Int) / 64 != 2) = true := by simp; omega
          have hz : R = (0, 0, false) := by
            rw [HR.out, HC.out]
            simp only [contR]
            rw [if_neg (by omega), if_pos (by omega)]
            rfl
          clear HR HC
          subst hz
          go_wp2_with fail
          go_ret3
          exact ⟨rfl, rfl⟩
      · have e1 : decide ((s.size : Int) ≤ (p : Int) + (i : Int)) = true := decide_eq_true (by omega)
        have hz : R = (0, 0, false) := by
          rw [HR.out, HC.out]
          simp only [contR]
          rw [if_pos (by omega)]
          rfl
        clear HR HC
        subst hz
        go_wp2_with fail
        go_ret3
        exact ⟨rfl, rfl⟩
set_option maxRecDepth 100000 in
set_option maxHeartbeats 8000000 in
theorem sign_four (s : ByteArray) (p : Nat) (hp : p < s.size) (hs : s.size ≤ 1000000000) (w : World) (h0 : 240 ≤ (byteAt s p).toNat) (h1 : (byteAt s p).toNat ≤ 247) :
    Calls Tryz.prog 94 #[.string s, .int .i64 (p : Int)] w (SignRes s p w) := by
  unfold SignRes
  have hR : signR s p = finR (contR s p 3 1 ((byteAt s p).toNat % 8)) 3 65536 := by
    unfold signR
    rw [if_neg (by omega), if_neg (by omega), if_neg (by omega), if_pos (by omega)]
  have hq0 : (0 : Int) ≤ (p : Int) := by omega
  have hltz : (p : Int) < (s.size : Int) := by omega
  have hgb := get_byte hp
  have hb := (byteAt s p).toNat_lt
  have hwb : wrap64 ((byteAt s p).toNat : Int) = ((byteAt s p).toNat : Int) := by unfold wrap64; omega
  have ha := and_7 (byteAt s p).toNat hb
  have g0 : decide (((byteAt s p).toNat : Int) < 128) = false := decide_eq_false (by omega)
  have g1 : decide (((byteAt s p).toNat : Int) ≤ 223) = false := decide_eq_false (by omega)
  have g2 : decide (192 ≤ ((byteAt s p).toNat : Int)) = true := decide_eq_true (by omega)
  have g3 : decide (224 ≤ ((byteAt s p).toNat : Int)) = true := decide_eq_true (by omega)
  have g4 : decide (((byteAt s p).toNat : Int) ≤ 239) = false := decide_eq_false (by omega)
  have g5 : decide (240 ≤ ((byteAt s p).toNat : Int)) = true := decide_eq_true (by omega)
  have g6 : decide (((byteAt s p).toNat : Int) ≤ 247) = true := decide_eq_true (by omega)
  have HR := Lib.hid hR
  have hc0 : (byteAt s p).toNat % 8 < 64 := by omega
  generalize (byteAt s p).toNat % 8 = C0 at *
  clear hR h0 h1 hb
  generalize signR s p = R at *
  go_enter Tryz.func94, Tryz.ntmps94
  go_wp2_with fail
  go_loopg [9, 11] 4 (fun gg s9 s11 wr => ∃ i c m : Nat, 1 ≤ i ∧ i + m = 4 ∧ m + 1 ≤ gg ∧ s9 = .int .i64 (c : Int) ∧ s11 = .int .i64 (i : Int) ∧ c < 64 ^ i ∧ wr = w ∧ Aside (contR s p 3 1 C0 = contR s p m i c))
  case atStart => exact ⟨1, C0, 3, by omega, by omega, by omega, rfl, rfl, by omega, rfl, rfl⟩
  case round =>
    obtain ⟨i, c, m, hi, him, hgg, rfl, rfl, hc, rfl, HC⟩ := hrel
    have hcb : c < 16777216 := Nat.lt_of_lt_of_le hc (by have := Nat.pow_le_pow_right (n := 64) (by omega) (show i ≤ 4 by omega); omega)
    have HCB := Lib.hid hc
    clear hc g0 ha hwb
    rcases m with _ | m
    · have hd : decide ((i : Int) ≤ 3) = false := decide_eq_false (by omega)
      have hfr : R = finR (some c) 3 65536 := by rw [HR.out, HC.out]; rfl
      have HFR := Lib.hid hfr
      clear HR HC hfr
      by_cases t1 : c < 65536
      · have e1 : decide ((c : Int) < 65536) = true := decide_eq_true (by omega)
        have hz : R = (0, 0, false) := by rw [HFR.out]; simp only [finR]; rw [if_pos (.inl t1)]
        clear HFR
        subst hz
        go_wp2_with fail
        go_ret3
        exact ⟨rfl, rfl⟩
      · have e1 : decide ((c : Int) < 65536) = false := decide_eq_false (by omega)
        by_cases t2 : 1114111 < c
        · have e2 : decide (1114111 < (c : Int)) = true := decide_eq_true (by omega)
          have hz : R = (0, 0, false) := by rw [HFR.out]; simp only [finR]; rw [if_pos (.inr (.inl t2))]
          clear HFR
          subst hz
          go_wp2_with fail
          go_ret3
          exact ⟨rfl, rfl⟩
        · have e2 : decide (1114111 < (c : Int)) = false := decide_eq_false (by omega)
          by_cases t3 : 55296 ≤ c
          · have e3 : decide (55296 ≤ (c : Int)) = true := decide_eq_true (by omega)
            by_cases t4 : c ≤ 57343
            · have e4 : decide ((c : Int) ≤ 57343) = true := decide_eq_true (by omega)
              have hz : R = (0, 0, false) := by rw [HFR.out]; simp only [finR]; rw [if_pos (.inr (.inr ⟨t3, t4⟩))]
              clear HFR
              subst hz
              go_wp2_with fail
              go_ret3
              exact ⟨rfl, rfl⟩
            · have e4 : decide ((c : Int) ≤ 57343) = false := decide_eq_false (by omega)
              have hz : R = (c, 4, true) := by rw [HFR.out]; simp only [finR]; rw [if_neg (by omega)]
              clear HFR
              subst hz
              go_wp2_with fail
              go_ret3
              exact ⟨rfl, rfl⟩
          · have e3 : decide (55296 ≤ (c : Int)) = false := decide_eq_false (by omega)
            have hz : R = (c, 4, true) := by rw [HFR.out]; simp only [finR]; rw [if_neg (by omega)]
            clear HFR
            subst hz
            go_wp2_with fail
            go_ret3
            exact ⟨rfl, rfl⟩
    · have hd : decide ((i : Int) ≤ 3) = true := decide_eq_true (by omega)
      by_cases hlt : p + i < s.size
      · have e1 : decide ((s.size : Int) ≤ (p : Int) + (i : Int)) = false := decide_eq_false (by omega)
        have hq1 : (0 : Int) ≤ (p : Int) + (i : Int) := by omega
        have hq2 : (p : Int) + (i : Int) < (s.size : Int) := by omega
        have hgi := get_byte hlt
        have hbi := (byteAt s (p + i)).toNat_lt
        by_cases hk : (byteAt s (p + i)).toNat / 64 = 2
        · have e2 : (((byteAt s (p + i)).toNat : Int) / 64 != 2) = false := by simp; omega
          have hor := or_six (c : Int) (((byteAt s (p + i)).toNat : Int) % 64) (by omega) (by omega) (by omega) (by omega)
          obtain ⟨z, hz⟩ : ∃ z, z = c * 64 + (byteAt s (p + i)).toNat % 64 := ⟨_, rfl⟩
          have hor2 : (c : Int) * 64 + ((byteAt s (p + i)).toNat : Int) % 64 = (z : Int) := by omega
          rw [hor2] at hor
          have hst : contR s p 3 1 C0 = contR s p m (i + 1) z := by
            rw [HC.out, hz]
            simp only [contR]
            rw [if_neg (by omega), if_neg (by omega)]
          have hzb : z < 64 ^ (i + 1) := by have := HCB.out; rw [Nat.pow_succ]; omega
          have HST := Lib.hid hst; have HZB := Lib.hid hzb
          clear hst hzb hz hor2 hbi
          go_wp2_with fail
          go_roundg (m + 1)
          case measure => omega
          case rel => exact ⟨i + 1, z, m, by omega, by omega, by omega, rfl, by go_num, HZB.out, rfl, HST.out⟩
        · have e2 : (((byteAt s (p + i)).toNat : Int) / 64 != 2) = true := by simp; omega
          have hz : R = (0, 0, false) := by
            rw [HR.out, HC.out]
            simp only [contR]
            rw [if_neg (by omega), if_pos (by omega)]
            rfl
          clear HR HC
          subst hz
          go_wp2_with fail
          go_ret3
          exact ⟨rfl, rfl⟩
      · have e1 : decide ((s.size : Int) ≤ (p : Int) + (i : Int)) = true := decide_eq_true (by omega)
        have hz : R = (0, 0, false) := by
          rw [HR.out, HC.out]
          simp only [contR]
          rw [if_pos (by omega)]
          rfl
        clear HR HC
        subst hz
        go_wp2_with fail
        go_ret3
        exact ⟨rfl, rfl⟩
set_option maxRecDepth 100000 in
set_option maxHeartbeats 8000000 in
theorem sign_one (s : ByteArray) (p : Nat) (hp : p < s.size) (w : World) (h0 : (byteAt s p).toNat < 128) :
    Calls Tryz.prog 94 #[.string s, .int .i64 (p : Int)] w (SignRes s p w) := by
  unfold SignRes
  have hR : signR s p = ((byteAt s p).toNat, 1, true) := by
    unfold signR
    rw [if_pos h0]
  rw [hR]
  have hq0 : (0 : Int) ≤ (p : Int) := by omega
  have hltz : (p : Int) < (s.size : Int) := by omega
  have hgb := get_byte hp
  have hb := (byteAt s p).toNat_lt
  have hwb : wrap64 ((byteAt s p).toNat : Int) = ((byteAt s p).toNat : Int) := by unfold wrap64; omega
  have g0 : decide (((byteAt s p).toNat : Int) < 128) = true := decide_eq_true (by omega)
  clear hR hb
  go_enter Tryz.func94, Tryz.ntmps94
  go_wp2_with fail
  go_ret3
  exact ⟨by first | rfl | rw [hwb] | simp [hwb], rfl⟩
set_option maxRecDepth 100000 in
set_option maxHeartbeats 8000000 in
theorem sign_low (s : ByteArray) (p : Nat) (hp : p < s.size) (w : World) (h0 : 128 ≤ (byteAt s p).toNat) (h1 : (byteAt s p).toNat < 192) :
    Calls Tryz.prog 94 #[.string s, .int .i64 (p : Int)] w (SignRes s p w) := by
  unfold SignRes
  have hR : signR s p = (0, 0, false) := by
    unfold signR
    rw [if_neg (by omega), if_neg (by omega), if_neg (by omega), if_neg (by omega)]
  rw [hR]
  have hq0 : (0 : Int) ≤ (p : Int) := by omega
  have hltz : (p : Int) < (s.size : Int) := by omega
  have hgb := get_byte hp
  have hb := (byteAt s p).toNat_lt
  have hwb : wrap64 ((byteAt s p).toNat : Int) = ((byteAt s p).toNat : Int) := by unfold wrap64; omega
  have g0 : decide (((byteAt s p).toNat : Int) < 128) = false := decide_eq_false (by omega)
  have g1 : decide (192 ≤ ((byteAt s p).toNat : Int)) = false := decide_eq_false (by omega)
  have g2 : decide (224 ≤ ((byteAt s p).toNat : Int)) = false := decide_eq_false (by omega)
  have g3 : decide (240 ≤ ((byteAt s p).toNat : Int)) = false := decide_eq_false (by omega)
  clear hR hb
  go_enter Tryz.func94, Tryz.ntmps94
  go_wp2_with fail
  go_ret3
  exact ⟨by first | rfl | rw [hwb] | simp [hwb], rfl⟩
set_option maxRecDepth 100000 in
set_option maxHeartbeats 8000000 in
theorem sign_high (s : ByteArray) (p : Nat) (hp : p < s.size) (w : World) (h0 : 247 < (byteAt s p).toNat) :
    Calls Tryz.prog 94 #[.string s, .int .i64 (p : Int)] w (SignRes s p w) := by
  unfold SignRes
  have hR : signR s p = (0, 0, false) := by
    unfold signR
    rw [if_neg (by omega), if_neg (by omega), if_neg (by omega), if_neg (by omega)]
  rw [hR]
  have hq0 : (0 : Int) ≤ (p : Int) := by omega
  have hltz : (p : Int) < (s.size : Int) := by omega
  have hgb := get_byte hp
  have hb := (byteAt s p).toNat_lt
  have hwb : wrap64 ((byteAt s p).toNat : Int) = ((byteAt s p).toNat : Int) := by unfold wrap64; omega
  have g0 : decide (((byteAt s p).toNat : Int) < 128) = false := decide_eq_false (by omega)
  have g1 : decide (192 ≤ ((byteAt s p).toNat : Int)) = true := decide_eq_true (by omega)
  have g1b : decide (((byteAt s p).toNat : Int) ≤ 223) = false := decide_eq_false (by omega)
  have g2 : decide (224 ≤ ((byteAt s p).toNat : Int)) = true := decide_eq_true (by omega)
  have g2b : decide (((byteAt s p).toNat : Int) ≤ 239) = false := decide_eq_false (by omega)
  have g3 : decide (240 ≤ ((byteAt s p).toNat : Int)) = true := decide_eq_true (by omega)
  have g3b : decide (((byteAt s p).toNat : Int) ≤ 247) = false := decide_eq_false (by omega)
  clear hR hb
  go_enter Tryz.func94, Tryz.ntmps94
  go_wp2_with fail
  go_ret3
  exact ⟨by first | rfl | rw [hwb] | simp [hwb], rfl⟩
theorem sign_any_ref (s : ByteArray) (p : Nat) (hp : p < s.size) (hs : s.size ≤ 1000000000) (w : World) : Calls Tryz.prog 94 #[.string s, .int .i64 (p : Int)] w (SignRes s p w) := by
  by_cases h1 : (byteAt s p).toNat < 128
  · exact sign_one s p hp w h1
  · by_cases h2 : (byteAt s p).toNat < 192
    · exact sign_low s p hp w (by omega) h2
    · by_cases h3 : (byteAt s p).toNat ≤ 223
      · exact sign_two s p hp hs w (by omega) h3
      · by_cases h4 : (byteAt s p).toNat ≤ 239
        · exact sign_three s p hp hs w (by omega) h4
        · by_cases h5 : (byteAt s p).toNat ≤ 247
          · exact sign_four s p hp hs w (by omega) h5
          · exact sign_high s p hp w (by omega)
theorem sign_width {s : ByteArray} {p : Nat} (hp : p < s.size) (h : (signR s p).2.2 = true) : 1 ≤ (signR s p).2.1 ∧ p + (signR s p).2.1 ≤ s.size ∧ (signR s p).2.1 = (decodeL (rest s p)).2 := by
  have hd := sign_dec (s := s) (p := p)
  have hw := decodeL_width (rest s p)
  have hne : rest s p ≠ [] := fun e => by have := rest_length s p; rw [e] at this; simp at this; omega
  have hl := decodeL_le (rest s p) hne
  rw [rest_length] at hl
  rw [hd] at h ⊢
  split at h
  · exact absurd h (by decide)
  · rename_i hb
    rw [if_neg hb]
    show 1 ≤ (decodeL (rest s p)).2 ∧ p + (decodeL (rest s p)).2 ≤ s.size ∧ (decodeL (rest s p)).2 = (decodeL (rest s p)).2
    exact ⟨hw, by omega, rfl⟩
theorem sign_bad {s : ByteArray} {p : Nat} (hp : p < s.size) (h : (signR s p).2.2 = false) : Lib.validD (rest s p) = false := by
  have hd := sign_dec (s := s) (p := p)
  have hne : rest s p ≠ [] := fun e => by have := rest_length s p; rw [e] at this; simp at this; omega
  rw [validD_step _ hne]
  rw [hd] at h
  split at h
  · rename_i hb; rw [if_pos hb]
  · simp at h
theorem sign_good {s : ByteArray} {p : Nat} (hp : p < s.size) (h : (signR s p).2.2 = true) : Lib.validD (rest s p) = Lib.validD (rest s (p + (signR s p).2.1)) := by
  have hw := (sign_width hp h).2.2
  have hd := sign_dec (s := s) (p := p)
  have hne : rest s p ≠ [] := fun e => by have := rest_length s p; rw [e] at this; simp at this; omega
  have hr : rest s (p + (decodeL (rest s p)).2) = (rest s p).drop (decodeL (rest s p)).2 := by unfold rest; rw [List.drop_drop]
  rw [hw, hr]
  rw [validD_step _ hne]
  rw [hd] at h
  split at h
  · exact absurd h (by decide)
  · rename_i hb; rw [if_neg hb]
set_option maxRecDepth 100000 in
set_option maxHeartbeats 4000000 in
theorem count_ref (s : ByteArray) (hs : s.size ≤ 1000000000) (w : World) : Calls Tryz.prog 84 #[.string s] w fun e w' => ∃ z : Int, e = .returned (.int .i64 z) ∧ (0 ≤ z ↔ validB s = true) ∧ w' = w := by
  have hv0 : validB s = Lib.validD (rest s 0) := by unfold validB rest; rw [List.drop_zero]
  have HV := Lib.hid hv0
  clear hv0
  go_enter Tryz.func84, Tryz.ntmps84
  go_wp2_with fail
  go_loopg [3, 4] s.size (fun gg s3 s4 wr => ∃ (k p : Nat), p ≤ s.size ∧ s.size - p ≤ gg ∧ k ≤ p ∧ s3 = .int .i64 (k : Int) ∧ s4 = .int .i64 (p : Int) ∧ wr = w ∧ Aside (validB s = Lib.validD (rest s p)))
  case atStart => exact ⟨0, 0, by omega, by omega, by omega, rfl, rfl, rfl, HV.out⟩
  case round =>
    obtain ⟨k, p, hp, hgg, hk, rfl, rfl, rfl, HC⟩ := hrel
    by_cases hlt : p < s.size
    · have hltz : (p : Int) < (s.size : Int) := by omega
      have hc := sign_any_ref s p hlt hs wr
      unfold SignRes at hc
      have hb : (signR s p).2.2 = false → validB s = false := fun h => HC.out.trans (sign_bad hlt h)
      have hg : (signR s p).2.2 = true → validB s = Lib.validD (rest s (p + (signR s p).2.1)) := fun h => HC.out.trans (sign_good hlt h)
      have hw := fun h => sign_width hlt h
      have HCL := Lib.hid hc; have HB := Lib.hid hb; have HG := Lib.hid hg; have HW := Lib.hid hw
      clear hc hb hg hw HV HC
      generalize signR s p = R at *
      obtain ⟨c, n, ok⟩ := R
      simp only at HCL HB HG HW
      cases ok with
      | false =>
        go_wp2_with fail
        refine Calls.mono HCL.out ?_
        rintro e w1 ⟨rfl, rfl⟩
        go_wp2_with fail
        go_ret
        exact ⟨_, rfl, by rw [HB.out (by simp)]; decide, rfl⟩
      | true =>
        have hn := (HW.out (by simp))
        have hw1 : wrap64 ((p : Int) + (n : Int)) = ((p + n : Nat) : Int) := by unfold wrap64; omega
        have hw2 : wrap64 ((k : Int) + 1) = ((k + 1 : Nat) : Int) := by unfold wrap64; omega
        have HN := Lib.hid hn
        clear hn
        go_wp2_with fail
        refine Calls.mono HCL.out ?_
        rintro e w1 ⟨rfl, rfl⟩
        go_wp2_with fail
        go_roundg (s.size - (p + n))
        case measure => have := HN.out; omega
        case rel => exact ⟨k + 1, p + n, HN.out.2.1, Nat.le_refl _, by have := HN.out; omega, by go_num, by go_num, rfl, HG.out (by simp)⟩
    · have hltz : ¬ (p : Int) < (s.size : Int) := by omega
      have hend : validB s = true := by
        rw [HC.out, show rest s p = [] from List.eq_nil_of_length_eq_zero (by rw [rest_length]; omega)]
        rfl
      have HE := Lib.hid hend
      clear hend HC HV
      go_wp2_with fail
      go_ret
      exact ⟨_, rfl, by rw [HE.out]; simp, rfl⟩
set_option maxRecDepth 100000 in
set_option maxHeartbeats 4000000 in
theorem valid_ref (s : ByteArray) (hs : s.size ≤ 1000000000) (w : World) : Calls Tryz.prog 65 #[.string s] w fun e w' => e = .returned (.bool (validB s)) ∧ w' = w := by
  have hc := count_ref s hs w
  have HC := Lib.hid hc
  clear hc
  go_enter Tryz.func65, Tryz.ntmps65
  go_wp2_with fail
  refine Calls.mono HC.out ?_
  rintro e w1 ⟨z, rfl, hz, rfl⟩
  have hd : decide (0 ≤ z) = validB s := by rw [Bool.eq_iff_iff, decide_eq_true_iff]; exact hz
  have HD := Lib.hid hd
  clear hz hd
  go_wp2_with fail
  go_ret
  exact ⟨ret_bool HD.out, rfl⟩
end Go.Proofs.YtjjgbgojlhaapaaGreatDoor
namespace Go.Proofs.YtjjgbgojlhaapaaGreatDoor
open Go.RowKit Go.Lib

theorem u8Info : (Tryz.prog.info? 5).map (fun i => (i.zero, i.size, i.bytes)) = some (some (.int .u8 0), 1, 1) := by kernel_rfl
theorem own_bsl {w : World} {base : Nat} {v : Value} {l : List UInt8} (h : w.ownsRow base 5 1 v l.length (Lib.byteCells l)) : BSl w (fun b => base ≤ b) v ⟨l.toArray⟩ := by
  have hz : (⟨l.toArray⟩ : ByteArray).size = l.length := by simp [ByteArray.size]
  rcases h.2 with ⟨rfl, h0⟩ | ⟨g, cap, cur, rfl, hg, hh, h1, h2, h3, h4⟩
  · exact .inr ⟨by rw [hz]; exact h0, none, 0, rfl⟩
  · refine .inl ⟨g, 0, cap, by rw [hz], hg, fun i hi => ?_⟩
    rw [hz] at hi
    have := h.cells (g := g) rfl i (.int .u8 (l[i].toNat : Int)) (by simp [Lib.byteCells, hi])
    rw [Addr.add_lit] at this
    exact this
end Go.Proofs.YtjjgbgojlhaapaaGreatDoor
