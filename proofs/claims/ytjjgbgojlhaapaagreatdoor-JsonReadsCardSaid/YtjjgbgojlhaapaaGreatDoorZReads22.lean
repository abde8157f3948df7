/- Parts of the proof: Gs, Cb. -/
import Derived.Test.YtjjgbgojlhaapaaGreatDoorZReads19
import Derived.Test.YtjjgbgojlhaapaaGreatDoorZReads4
import Derived.Lib.ValidLaws
import Derived.OwnWalk
import Derived.Laws.BitsLemmas
import Derived.Test.YtjjgbgojlhaapaaGreatDoorZReads16
namespace Go.Proofs.YtjjgbgojlhaapaaGreatDoor
open Go.RowKit Go.Lib

theorem wraps_i64' (n : Int) (h0 : 0 ≤ n) (h1 : n < 2 ^ 63) : IntKind.i64.wrap n = n := by rw [IntKind.wrap_i64]; omega
theorem or_six (c r : Int) (h0 : 0 ≤ c) (h1 : c < 16777216) (h2 : 0 ≤ r) (h3 : r < 64) : bits .or .i64 (c * 64) r = c * 64 + r :=
  bits_join .i64 63 (by decide) wraps_i64' 6 (c * 64) r (by omega) (by omega) (by omega) h2 h3 (by omega)
theorem and_31 : ∀ b : Nat, b < 256 → bits .and .i64 (b : Int) 31 = ((b % 32 : Nat) : Int) := by decide +kernel
theorem and_15' : ∀ b : Nat, b < 256 → bits .and .i64 (b : Int) 15 = ((b % 16 : Nat) : Int) := by decide +kernel
theorem and_7 : ∀ b : Nat, b < 256 → bits .and .i64 (b : Int) 7 = ((b % 8 : Nat) : Int) := by decide +kernel
def SignRes (s : ByteArray) (p : Nat) (w : World) (e : Ending) (w' : World) : Prop := e = .returned (.tuple #[.int .i64 ((signR s p).1 : Int), .int .i64 ((signR s p).2.1 : Int), .bool (signR s p).2.2]) ∧ w' = w
set_option maxRecDepth 100000 in
set_option maxHeartbeats 8000000 in
theorem sign_two (s : ByteArray) (p : Nat) (hp : p < s.size) (hs : s.size ≤ 1000000000) (w : World) (h0 : 192 ≤ (byteAt s p).toNat) (h1 : (byteAt s p).toNat ≤ 223) :
    Calls Tryz.prog 94 #[.string s, .int .i64 (p : Int)] w (SignRes s p w) := by
  unfold SignRes
  have hR : signR s p = finR (contR s p 1 1 ((byteAt s p).toNat % 32)) 1 128 := by
    unfold signR
    rw [if_neg (by omega), if_pos (by omega)]
  have hq0 : (0 : Int) ≤ (p : Int) := by omega
  have hltz : (p : Int) < (s.size : Int) := by omega
  have hgb := get_byte hp
  have hb := (byteAt s p).toNat_lt
  have hwb : wrap64 ((byteAt s p).toNat : Int) = ((byteAt s p).toNat : Int) := by unfold wrap64; omega
  have ha := and_31 (byteAt s p).toNat hb
  have g0 : decide (((byteAt s p).toNat : Int) < 128) = false := decide_eq_false (by omega)
  have g1 : decide (192 ≤ ((byteAt s p).toNat : Int)) = true := decide_eq_true (by omega)
  have g2 : decide (((byteAt s p).toNat : Int) ≤ 223) = true := decide_eq_true (by omega)
  have HR := Lib.hid hR
  have hc0 : (byteAt s p).toNat % 32 < 64 := by omega
  generalize (byteAt s p).toNat % 32 = C0 at *
  clear hR h0 h1 hb
  generalize signR s p = R at *
  go_enter Tryz.func94, Tryz.ntmps94
  go_wp2_with fail
  go_loopg [9, 11] 2 (fun gg s9 s11 wr => ∃ i c m : Nat, 1 ≤ i ∧ i + m = 2 ∧ m + 1 ≤ gg ∧ s9 = .int .i64 (c : Int) ∧ s11 = .int .i64 (i : Int) ∧ c < 64 ^ i ∧ wr = w ∧ Aside (contR s p 1 1 C0 = contR s p m i c))
  case atStart => exact ⟨1, C0, 1, by omega, by omega, by omega, rfl, rfl, by omega, rfl, rfl⟩
  case round =>
    obtain ⟨i, c, m, hi, him, hgg, rfl, rfl, hc, rfl, HC⟩ := hrel
    have hcb : c < 16777216 := Nat.lt_of_lt_of_le hc (by have := Nat.pow_le_pow_right (n := 64) (by omega) (show i ≤ 4 by omega); omega)
    have HCB := Lib.hid hc
    clear hc g0 ha hwb
    rcases m with _ | m
    · have hd : decide ((i : Int) ≤ 1) = false := decide_eq_false (by omega)
      have hfr : R = finR (some c) 1 128 := by rw [HR.out, HC.out]; rfl
      have HFR := Lib.hid hfr
      clear HR HC hfr
      by_cases t1 : c < 128
      · have e1 : decide ((c : Int) < 128) = true := decide_eq_true (by omega)
        have hz : R = (0, 0, false) := by rw [HFR.out]; simp only [finR]; rw [if_pos (.inl t1)]
        clear HFR
        subst hz
        go_wp2_with fail
        go_ret3
        exact ⟨rfl, rfl⟩
      · have e1 : decide ((c : Int) < 128) = false := decide_eq_false (by omega)
        by_cases t2 : 1114111 < c
        · have e2 : decide (1114111 < (c : Int)) = true := decide_eq_true (by omega)
          have hz : R = (0, 0, false) := by rw [HFR.out]; simp only [finR]; rw [if_pos (.inr (.inl t2))]
          clear HFR
          subst hz
          go_wp2_with fail
          go_ret3
          exact ⟨rfl, rfl⟩
        · have e2 : decide (1114111 < (c : Int)) = false := decide_eq_false (by omega)
          by_cases t3 : 55296 ≤ c
          · have e3 : decide (55296 ≤ (c : Int)) = true := decide_eq_true (by omega)
            by_cases t4 : c ≤ 57343
            · have e4 : decide ((c : Int) ≤ 57343) = true := decide_eq_true (by omega)
              have hz : R = (0, 0, false) := by rw [HFR.out]; simp only [finR]; rw [if_pos (.inr (.inr ⟨t3, t4⟩))]
              clear HFR
              subst hz
              go_wp2_with fail
              go_ret3
              exact ⟨rfl, rfl⟩
            · have e4 : decide ((c : Int) ≤ 57343) = false := decide_eq_false (by omega)
              have hz : R = (c, 2, true) := by rw [HFR.out]; simp only [finR]; rw [if_neg (by omega)]
              clear HFR
              subst hz
              go_wp2_with fail
              go_ret3
              exact ⟨rfl, rfl⟩
          · have e3 : decide (55296 ≤ (c : Int)) = false := decide_eq_false (by omega)
            have hz : R = (c, 2, true) := by rw [HFR.out]; simp only [finR]; rw [if_neg (by omega)]
            clear HFR
            subst hz
            go_wp2_with fail
            go_ret3
            exact ⟨rfl, rfl⟩
    · have hd : decide ((i : Int) ≤ 1) = true := decide_eq_true (by omega)
      by_cases hlt : p + i < s.size
      · have e1 : decide ((s.size : Int) ≤ (p : Int) + (i : Int)) = false := decide_eq_false (by omega)
        have hq1 : (0 : Int) ≤ (p : Int) + (i : Int) := by omega
        have hq2 : (p : Int) + (i : Int) < (s.size : Int) := by omega
        have hgi := get_byte hlt
        have hbi := (byteAt s (p + i)).toNat_lt
        by_cases hk : (byteAt s (p + i)).toNat / 64 = 2
        · have e2 : (((byteAt s (p + i)).toNat : Int) / 64 != 2) = false := by simp; omega
          have hor := or_six (c : Int) (((byteAt s (p + i)).toNat : Int) % 64) (by omega) (by omega) (by omega) (by omega)
          obtain ⟨z, hz⟩ : ∃ z, z = c * 64 + (byteAt s (p + i)).toNat % 64 := ⟨_, rfl⟩
          have hor2 : (c : Int) * 64 + ((byteAt s (p + i)).toNat : Int) % 64 = (z : Int) := by omega
          rw [hor2] at hor
          have hst : contR s p 1 1 C0 = contR s p m (i + 1) z := by
            rw [HC.out, hz]
            simp only [contR]
            rw [if_neg (by omega), if_neg (by omega)]
          have hzb : z < 64 ^ (i + 1) := by have := HCB.out; rw [Nat.pow_succ]; omega
          have HST := Lib.hid hst; have HZB := Lib.hid hzb
          clear hst hzb hz hor2 hbi
          go_wp2_with fail
          go_roundg (m + 1)
          case measure => omega
          case rel => exact ⟨i + 1, z, m, by omega, by omega, by omega, rfl, by go_num, HZB.out, rfl, HST.out⟩
        · have e2 : (((byteAt s (p + i)).toNat : Int) / 64 != 2) = true := by simp; omega
          have hz : R = (0, 0, false) := by
            rw [HR.out, HC.out]
            simp only [contR]
            rw [if_neg (by omega), if_pos (by omega)]
            rfl
          clear HR HC
          subst hz
          go_wp2_with fail
          go_ret3
          exact ⟨rfl, rfl⟩
      · have e1 : decide ((s.size : Int) ≤ (p : Int) + (i : Int)) = true := decide_eq_true (by omega)
        have hz : R = (0, 0, false) := by
          rw [HR.out, HC.out]
          simp only [contR]
          rw [if_pos (by omega)]
          rfl
        clear HR HC
        subst hz
        go_wp2_with fail
        go_ret3
        exact ⟨rfl, rfl⟩
set_option maxRecDepth 100000 in
set_option maxHeartbeats 8000000 in
theorem sign_three (s : ByteArray) (p : Nat) (hp : p < s.size) (hs : s.size ≤ 1000000000) (w : World) (h0 : 224 ≤ (byteAt s p).toNat) (h1 : (byteAt s p).toNat ≤ 239) :
    Calls Tryz.prog 94 #[.string s, .int .i64 (p : Int)] w (SignRes s p w) := by
  unfold SignRes
  have hR : signR s p = finR (contR s p 2 1 ((byteAt s p).toNat % 16)) 2 2048 := by
    unfold signR
    rw [if_neg (by omega), if_neg (by omega), if_pos (by omega)]
  have hq0 : (0 : Int) ≤ (p : Int) := by omega
  have hltz : (p : Int) < (s.size : Int) := by omega
  have hgb := get_byte hp
  have hb := (byteAt s p).toNat_lt
  have hwb : wrap64 ((byteAt s p).toNat : Int) = ((byteAt s p).toNat : Int) := by unfold wrap64; omega
  have ha := and_15' (byteAt s p).toNat hb
  have g0 : decide (((byteAt s p).toNat : Int) < 128) = false := decide_eq_false (by omega)
  have g1 : decide (((byteAt s p).toNat : Int) ≤ 223) = false := decide_eq_false (by omega)
  have g2 : decide (192 ≤ ((byteAt s p).toNat : Int)) = true := decide_eq_true (by omega)
  have g3 : decide (224 ≤ ((byteAt s p).toNat : Int)) = true := decide_eq_true (by omega)
  have g4 : decide (((byteAt s p).toNat : Int) ≤ 239) = true := decide_eq_true (by omega)
  have HR := Lib.hid hR
  have hc0 : (byteAt s p).toNat % 16 < 64 := by omega
  generalize (byteAt s p).toNat % 16 = C0 at *
  clear hR h0 h1 hb
  generalize signR s p = R at *
  go_enter Tryz.func94, Tryz.ntmps94
  go_wp2_with fail
  go_loopg [9, 11] 3 (fun gg s9 s11 wr => ∃ i c m : Nat, 1 ≤ i ∧ i + m = 3 ∧ m + 1 ≤ gg ∧ s9 = .int .i64 (c : Int) ∧ s11 = .int .i64 (i : Int) ∧ c < 64 ^ i ∧ wr = w ∧ Aside (contR s p 2 1 C0 = contR s p m i c))
  case atStart => exact ⟨1, C0, 2, by omega, by omega, by omega, rfl, rfl, by omega, rfl, rfl⟩
  case round =>
    obtain ⟨i, c, m, hi, him, hgg, rfl, rfl, hc, rfl, HC⟩ := hrel
    have hcb : c < 16777216 := Nat.lt_of_lt_of_le hc (by have := Nat.pow_le_pow_right (n := 64) (by omega) (show i ≤ 4 by omega); omega)
    have HCB := Lib.hid hc
    clear hc g0 ha hwb
    rcases m with _ | m
    · have hd : decide ((i : Int) ≤ 2) = false := decide_eq_false (by omega)
      have hfr : R = finR (some c) 2 2048 := by rw [HR.out, HC.out]; rfl
      have HFR := Lib.hid hfr
      clear HR HC hfr
      by_cases t1 : c < 2048
      · have e1 : decide ((c : Int) < 2048) = true := decide_eq_true (by omega)
        have hz : R = (0, 0, false) := by rw [HFR.out]; simp only [finR]; rw [if_pos (.inl t1)]
        clear HFR
        subst hz
        go_wp2_with fail
        go_ret3
        exact ⟨rfl, rfl⟩
      · have e1 : decide ((c : Int) < 2048) = false := decide_eq_false (by omega)
        by_cases t2 : 1114111 < c
        · have e2 : decide (1114111 < (c : Int)) = true := decide_eq_true (by omega)
          have hz : R = (0, 0, false) := by rw [HFR.out]; simp only [finR]; rw [if_pos (.inr (.inl t2))]
          clear HFR
          subst hz
          go_wp2_with fail
          go_ret3
          exact ⟨rfl, rfl⟩
        · have e2 : decide (1114111 < (c : Int)) = false := decide_eq_false (by omega)
          by_cases t3 : 55296 ≤ c
          · have e3 : decide (55296 ≤ (c : Int)) = true := decide_eq_true (by omega)
            by_cases t4 : c ≤ 57343
            · have e4 : decide ((c : Int) ≤ 57343) = true := decide_eq_true (by omega)
              have hz : R = (0, 0, false) := by rw [HFR.out]; simp only [finR]; rw [if_pos (.inr (.inr ⟨t3, t4⟩))]
              clear HFR
              subst hz
              go_wp2_with fail
              go_ret3
              exact ⟨rfl, rfl⟩
            · have e4 : decide ((c : Int) ≤ 57343) = false := decide_eq_false (by omega)
              have hz : R = (c, 3, true) := by rw [HFR.out]; simp only [finR]; rw [if_neg (by omega)]
              clear HFR
              subst hz
              go_wp2_with fail
              go_ret3
              exact ⟨rfl, rfl⟩
          · have e3 : decide (55296 ≤ (c : Int)) = false := decide_eq_false (by omega)
            have hz : R = (c, 3, true) := by rw [HFR.out]; simp only [finR]; rw [if_neg (by omega)]
            clear HFR
            subst hz
            go_wp2_with fail
            go_ret3
            exact ⟨rfl, rfl⟩
    · have hd : decide ((i : Int) ≤ 2) = true := decide_eq_true (by omega)
      by_cases hlt : p + i < s.size
      · have e1 : decide ((s.size : Int) ≤ (p : Int) + (i : Int)) = false := decide_eq_false (by omega)
        have hq1 : (0 : Int) ≤ (p : Int) + (i : Int) := by omega
        have hq2 : (p : Int) + (i : Int) < (s.size : Int) := by omega
        have hgi := get_byte hlt
        have hbi := (byteAt s (p + i)).toNat_lt
        by_cases hk : (byteAt s (p + i)).toNat / 64 = 2
        · have e2 : (((byteAt s (p + i)).toNat : Int) / 64 != 2) = false := by simp; omega
          have hor := or_six (c : Int) (((byteAt s (p + i)).toNat : Int) % 64) (by omega) (by omega) (by omega) (by omega)
          obtain ⟨z, hz⟩ : ∃ z, z = c * 64 + (byteAt s (p + i)).toNat % 64 := ⟨_, rfl⟩
          have hor2 : (c : Int) * 64 + ((byteAt s (p + i)).toNat : Int) % 64 = (z : Int) := by omega
          rw [hor2] at hor
          have hst : contR s p 2 1 C0 = contR s p m (i + 1) z := by
            rw [HC.out, hz]
            simp only [contR]
            rw [if_neg (by omega), if_neg (by omega)]
          have hzb : z < 64 ^ (i + 1) := by have := HCB.out; rw [Nat.pow_succ]; omega
          have HST := Lib.hid hst; have HZB := Lib.hid hzb
          clear hst hzb hz hor2 hbi
          go_wp2_with fail
          go_roundg (m + 1)
          case measure => omega
          case rel => exact ⟨i + 1, z, m, by omega, by omega, by omega, rfl, by go_num, HZB.out, rfl, HST.out⟩
        · have e2 : (((byteAt s (p + i)).toNat : Int) / 64 != 2) = true := by simp; omega
          have hz : R = (0, 0, false) := by
            rw [HR.out, HC.out]
            simp only [contR]
            rw [if_neg (by omega), if_pos (by omega)]
            rfl
          clear HR HC
          subst hz
          go_wp2_with fail
          go_ret3
          exact ⟨rfl, rfl⟩
      · have e1 : decide ((s.size : Int) ≤ (p : Int) + (i : Int)) = true := decide_eq_true (by omega)
        have hz : R = (0, 0, false) := by
          rw [HR.out, HC.out]
          simp only [contR]
          rw [if_pos (by omega)]
          rfl
        clear HR HC
        subst hz
        go_wp2_with fail
        go_ret3
        exact ⟨rfl, rfl⟩
set_option maxRecDepth 100000 in
set_option maxHeartbeats 8000000 in
theorem sign_four (s : ByteArray) (p : Nat) (hp : p < s.size) (hs : s.size ≤ 1000000000) (w : World) (h0 : 240 ≤ (byteAt s p).toNat) (h1 : (byteAt s p).toNat ≤ 247) :
    Calls Tryz.prog 94 #[.string s, .int .i64 (p : Int)] w (SignRes s p w) := by
  unfold SignRes
  have hR : signR s p = finR (contR s p 3 1 ((byteAt s p).toNat % 8)) 3 65536 := by
    unfold signR
    rw [if_neg (by omega), if_neg (by omega), if_neg (by omega), if_pos (by omega)]
  have hq0 : (0 : Int) ≤ (p : Int) := by omega
  have hltz : (p : Int) < (s.size : Int) := by omega
  have hgb := get_byte hp
  have hb := (byteAt s p).toNat_lt
  have hwb : wrap64 ((byteAt s p).toNat : Int) = ((byteAt s p).toNat : Int) := by unfold wrap64; omega
  have ha := and_7 (byteAt s p).toNat hb
  have g0 : decide (((byteAt s p).toNat : Int) < 128) = false := decide_eq_false (by omega)
  have g1 : decide (((byteAt s p).toNat : Int) ≤ 223) = false := decide_eq_false (by omega)
  have g2 : decide (192 ≤ ((byteAt s p).toNat : Int)) = true := decide_eq_true (by omega)
  have g3 : decide (224 ≤ ((byteAt s p).toNat : Int)) = true := decide_eq_true (by omega)
  have g4 : decide (((byteAt s p).toNat : Int) ≤ 239) = false := decide_eq_false (by omega)
  have g5 : decide (240 ≤ ((byteAt s p).toNat : Int)) = true := decide_eq_true (by omega)
  have g6 : decide (((byteAt s p).toNat : Int) ≤ 247) = true := decide_eq_true (by omega)
  have HR := Lib.hid hR
  have hc0 : (byteAt s p).toNat % 8 < 64 := by omega
  generalize (byteAt s p).toNat % 8 = C0 at *
  clear hR h0 h1 hb
  generalize signR s p = R at *
  go_enter Tryz.func94, Tryz.ntmps94
  go_wp2_with fail
  go_loopg [9, 11] 4 (fun gg s9 s11 wr => ∃ i c m : Nat, 1 ≤ i ∧ i + m = 4 ∧ m + 1 ≤ gg ∧ s9 = .int .i64 (c : Int) ∧ s11 = .int .i64 (i : Int) ∧ c < 64 ^ i ∧ wr = w ∧ Aside (contR s p 3 1 C0 = contR s p m i c))
  case atStart => exact ⟨1, C0, 3, by omega, by omega, by omega, rfl, rfl, by omega, rfl, rfl⟩
  case round =>
    obtain ⟨i, c, m, hi, him, hgg, rfl, rfl, hc, rfl, HC⟩ := hrel
    have hcb : c < 16777216 := Nat.lt_of_lt_of_le hc (by have := Nat.pow_le_pow_right (n := 64) (by omega) (show i ≤ 4 by omega); omega)
    have HCB := Lib.hid hc
    clear hc g0 ha hwb
    rcases m with _ | m
    · have hd : decide ((i : Int) ≤ 3) = false := decide_eq_false (by omega)
      have hfr : R = finR (some c) 3 65536 := by rw [HR.out, HC.out]; rfl
      have HFR := Lib.hid hfr
      clear HR HC hfr
      by_cases t1 : c < 65536
      · have e1 : decide ((c : Int) < 65536) = true := decide_eq_true (by omega)
        have hz : R = (0, 0, false) := by rw [HFR.out]; simp only [finR]; rw [if_pos (.inl t1)]
        clear HFR
        subst hz
        go_wp2_with fail
        go_ret3
        exact ⟨rfl, rfl⟩
      · have e1 : decide ((c : Int) < 65536) = false := decide_eq_false (by omega)
        by_cases t2 : 1114111 < c
        · have e2 : decide (1114111 < (c : Int)) = true := decide_eq_true (by omega)
          have hz : R = (0, 0, false) := by rw [HFR.out]; simp only [finR]; rw [if_pos (.inr (.inl t2))]
          clear HFR
          subst hz
          go_wp2_with fail
          go_ret3
          exact ⟨rfl, rfl⟩
        · have e2 : decide (1114111 < (c : Int)) = false := decide_eq_false (by omega)
          by_cases t3 : 55296 ≤ c
          · have e3 : decide (55296 ≤ (c : Int)) = true := decide_eq_true (by omega)
            by_cases t4 : c ≤ 57343
            · have e4 : decide ((c : Int) ≤ 57343) = true := decide_eq_true (by omega)
              have hz : R = (0, 0, false) := by rw [HFR.out]; simp only [finR]; rw [if_pos (.inr (.inr ⟨t3, t4⟩))]
              clear HFR
              subst hz
              go_wp2_with fail
              go_ret3
              exact ⟨rfl, rfl⟩
            · have e4 : decide ((c : Int) ≤ 57343) = false := decide_eq_false (by omega)
              have hz : R = (c, 4, true) := by rw [HFR.out]; simp only [finR]; rw [if_neg (by omega)]
              clear HFR
              subst hz
              go_wp2_with fail
              go_ret3
              exact ⟨rfl, rfl⟩
          · have e3 : decide (55296 ≤ (c : Int)) = false := decide_eq_false (by omega)
            have hz : R = (c, 4, true) := by rw [HFR.out]; simp only [finR]; rw [if_neg (by omega)]
            clear HFR
            subst hz
            go_wp2_with fail
            go_ret3
            exact ⟨rfl, rfl⟩
    · have hd : decide ((i : Int) ≤ 3) = true := decide_eq_true (by omega)
      by_cases hlt : p + i < s.size
      · have e1 : decide ((s.size : Int) ≤ (p : Int) + (i : Int)) = false := decide_eq_false (by omega)
        have hq1 : (0 : Int) ≤ (p : Int) + (i : Int) := by omega
        have hq2 : (p : Int) + (i : Int) < (s.size : Int) := by omega
        have hgi := get_byte hlt
        have hbi := (byteAt s (p + i)).toNat_lt
        by_cases hk : (byteAt s (p + i)).toNat / 64 = 2
        · have e2 : (((byteAt s (p + i)).toNat : Int) / 64 != 2) = false := by simp; omega
          have hor := or_six (c : Int) (((byteAt s (p + i)).toNat : Int) % 64) (by omega) (by omega) (by omega) (by omega)
          obtain ⟨z, hz⟩ : ∃ z, z = c * 64 + (byteAt s (p + i)).toNat % 64 := ⟨_, rfl⟩
          have hor2 : (c : Int) * 64 + ((byteAt s (p + i)).toNat : Int) % 64 = (z : Int) := by omega
          rw [hor2] at hor
          have hst : contR s p 3 1 C0 = contR s p m (i + 1) z := by
            rw [HC.out, hz]
            simp only [contR]
            rw [if_neg (by omega), if_neg (by omega)]
          have hzb : z < 64 ^ (i + 1) := by have := HCB.out; rw [Nat.pow_succ]; omega
          have HST := Lib.hid hst; have HZB := Lib.hid hzb
          clear hst hzb hz hor2 hbi
          go_wp2_with fail
          go_roundg (m + 1)
          case measure => omega
          case rel => exact ⟨i + 1, z, m, by omega, by omega, by omega, rfl, by go_num, HZB.out, rfl, HST.out⟩
        · have e2 : (((byteAt s (p + i)).toNat : Int) / 64 != 2) = true := by simp; omega
          have hz : R = (0, 0, false) := by
            rw [HR.out, HC.out]
            simp only [contR]
            rw [if_neg (by omega), if_pos (by omega)]
            rfl
          clear HR HC
          subst hz
          go_wp2_with fail
          go_ret3
          exact ⟨rfl, rfl⟩
      · have e1 : decide ((s.size : Int) ≤ (p : Int) + (i : Int)) = true := decide_eq_true (by omega)
        have hz : R = (0, 0, false) := by
          rw [HR.out, HC.out]
          simp only [contR]
          rw [if_pos (by omega)]
          rfl
        clear HR HC
        subst hz
        go_wp2_with fail
        go_ret3
        exact ⟨rfl, rfl⟩
set_option maxRecDepth 100000 in
set_option maxHeartbeats 8000000 in
theorem sign_one (s : ByteArray) (p : Nat) (hp : p < s.size) (w : World) (h0 : (byteAt s p).toNat < 128) :
    Calls Tryz.prog 94 #[.string s, .int .i64 (p : Int)] w (SignRes s p w) := by
  unfold SignRes
  have hR : signR s p = ((byteAt s p).toNat, 1, true) := by
    unfold signR
    rw [if_pos h0]
  rw [hR]
  have hq0 : (0 : Int) ≤ (p : Int) := by omega
  have hltz : (p : Int) < (s.size : Int) := by omega
  have hgb := get_byte hp
  have hb := (byteAt s p).toNat_lt
  have hwb : wrap64 ((byteAt s p).toNat : Int) = ((byteAt s p).toNat : Int) := by unfold wrap64; omega
  have g0 : decide (((byteAt s p).toNat : Int) < 128) = true := decide_eq_true (by omega)
  clear hR hb
  go_enter Tryz.func94, Tryz.ntmps94
  go_wp2_with fail
  go_ret3
  exact ⟨by first | rfl | rw [hwb] | simp [hwb], rfl⟩
set_option maxRecDepth 100000 in
set_option maxHeartbeats 8000000 in
theorem sign_low (s : ByteArray) (p : Nat) (hp : p < s.size) (w : World) (h0 : 128 ≤ (byteAt s p).toNat) (h1 : (byteAt s p).toNat < 192) :
    Calls Tryz.prog 94 #[.string s, .int .i64 (p : Int)] w (SignRes s p w) := by
  unfold SignRes
  have hR : signR s p = (0, 0, false) := by
    unfold signR
    rw [if_neg (by omega), if_neg (by omega), if_neg (by omega), if_neg (by omega)]
  rw [hR]
  have hq0 : (0 : Int) ≤ (p : Int) := by omega
  have hltz : (p : Int) < (s.size : Int) := by omega
  have hgb := get_byte hp
  have hb := (byteAt s p).toNat_lt
  have hwb : wrap64 ((byteAt s p).toNat : Int) = ((byteAt s p).toNat : Int) := by unfold wrap64; omega
  have g0 : decide (((byteAt s p).toNat : Int) < 128) = false := decide_eq_false (by omega)
  have g1 : decide (192 ≤ ((byteAt s p).toNat : Int)) = false := decide_eq_false (by omega)
  have g2 : decide (224 ≤ ((byteAt s p).toNat : Int)) = false := decide_eq_false (by omega)
  have g3 : decide (240 ≤ ((byteAt s p).toNat : Int)) = false := decide_eq_false (by omega)
  clear hR hb
  go_enter Tryz.func94, Tryz.ntmps94
  go_wp2_with fail
  go_ret3
  exact ⟨by first | rfl | rw [hwb] | simp [hwb], rfl⟩
set_option maxRecDepth 100000 in
set_option maxHeartbeats 8000000 in
theorem sign_high (s : ByteArray) (p : Nat) (hp : p < s.size) (w : World) (h0 : 247 < (byteAt s p).toNat) :
    Calls Tryz.prog 94 #[.string s, .int .i64 (p : Int)] w (SignRes s p w) := by
  unfold SignRes
  have hR : signR s p = (0, 0, false) := by
    unfold signR
    rw [if_neg (by omega), if_neg (by omega), if_neg (by omega), if_neg (by omega)]
  rw [hR]
  have hq0 : (0 : Int) ≤ (p : Int) := by omega
  have hltz : (p : Int) < (s.size : Int) := by omega
  have hgb := get_byte hp
  have hb := (byteAt s p).toNat_lt
  have hwb : wrap64 ((byteAt s p).toNat : Int) = ((byteAt s p).toNat : Int) := by unfold wrap64; omega
  have g0 : decide (((byteAt s p).toNat : Int) < 128) = false := decide_eq_false (by omega)
  have g1 : decide (192 ≤ ((byteAt s p).toNat : Int)) = true := decide_eq_true (by omega)
  have g1b : decide (((byteAt s p).toNat : Int) ≤ 223) = false := decide_eq_false (by omega)
  have g2 : decide (224 ≤ ((byteAt s p).toNat : Int)) = true := decide_eq_true (by omega)
  have g2b : decide (((byteAt s p).toNat : Int) ≤ 239) = false := decide_eq_false (by omega)
  have g3 : decide (240 ≤ ((byteAt s p).toNat : Int)) = true := decide_eq_true (by omega)
  have g3b : decide (((byteAt s p).toNat : Int) ≤ 247) = false := decide_eq_false (by omega)
  clear hR hb
  go_enter Tryz.func94, Tryz.ntmps94
  go_wp2_with fail
  go_ret3
  exact ⟨by first | rfl | rw [hwb] | simp [hwb], rfl⟩
theorem sign_any_ref (s : ByteArray) (p : Nat) (hp : p < s.size) (hs : s.size ≤ 1000000000) (w : World) : Calls Tryz.prog 94 #[.string s, .int .i64 (p : Int)] w (SignRes s p w) := by
  by_cases h1 : (byteAt s p).toNat < 128
  · exact sign_one s p hp w h1
  · by_cases h2 : (byteAt s p).toNat < 192
    · exact sign_low s p hp w (by omega) h2
    · by_cases h3 : (byteAt s p).toNat ≤ 223
      · exact sign_two s p hp hs w (by omega) h3
      · by_cases h4 : (byteAt s p).toNat ≤ 239
        · exact sign_three s p hp hs w (by omega) h4
        · by_cases h5 : (byteAt s p).toNat ≤ 247
          · exact sign_four s p hp hs w (by omega) h5
          · exact sign_high s p hp w (by omega)
theorem sign_width {s : ByteArray} {p : Nat} (hp : p < s.size) (h : (signR s p).2.2 = true) : 1 ≤ (signR s p).2.1 ∧ p + (signR s p).2.1 ≤ s.size ∧ (signR s p).2.1 = (decodeL (rest s p)).2 := by
  have hd := sign_dec (s := s) (p := p)
  have hw := decodeL_width (rest s p)
  have hne : rest s p ≠ [] := fun e => by have := rest_length s p; rw [e] at this; simp at this; omega
  have hl := decodeL_le (rest s p) hne
  rw [rest_length] at hl
  rw [hd] at h ⊢
  split at h
  · exact absurd h (by decide)
  · rename_i hb
    rw [if_neg hb]
    show 1 ≤ (decodeL (rest s p)).2 ∧ p + (decodeL (rest s p)).2 ≤ s.size ∧ (decodeL (rest s p)).2 = (decodeL (rest s p)).2
    exact ⟨hw, by omega, rfl⟩
theorem sign_bad {s : ByteArray} {p : Nat} (hp : p < s.size) (h : (signR s p).2.2 = false) : Lib.validD (rest s p) = false := by
  have hd := sign_dec (s := s) (p := p)
  have hne : rest s p ≠ [] := fun e => by have := rest_length s p; rw [e] at this; simp at this; omega
  rw [validD_step _ hne]
  rw [hd] at h
  split at h
  · rename_i hb; rw [if_pos hb]
  · simp at h
theorem sign_good {s : ByteArray} {p : Nat} (hp : p < s.size) (h : (signR s p).2.2 = true) : Lib.validD (rest s p) = Lib.validD (rest s (p + (signR s p).2.1)) := by
  have hw := (sign_width hp h).2.2
  have hd := sign_dec (s := s) (p := p)
  have hne : rest s p ≠ [] := fun e => by have := rest_length s p; rw [e] at this; simp at this; omega
  have hr : rest s (p + (decodeL (rest s p)).2) = (rest s p).drop (decodeL (rest s p)).2 := by unfold rest; rw [List.drop_drop]
  rw [hw, hr]
  rw [validD_step _ hne]
  rw [hd] at h
  split at h
  · exact absurd h (by decide)
  · rename_i hb; rw [if_neg hb]
set_option maxRecDepth 100000 in
set_option maxHeartbeats 4000000 in
theorem count_ref (s : ByteArray) (hs : s.size ≤ 1000000000) (w : World) : Calls Tryz.prog 84 #[.string s] w fun e w' => ∃ z : Int, e = .returned (.int .i64 z) ∧ (0 ≤ z ↔ validB s = true) ∧ w' = w := by
  have hv0 : validB s = Lib.validD (rest s 0) := by unfold validB rest; rw [List.drop_zero]
  have HV := Lib.hid hv0
  clear hv0
  go_enter Tryz.func84, Tryz.ntmps84
  go_wp2_with fail
  go_loopg [3, 4] s.size (fun gg s3 s4 wr => ∃ (k p : Nat), p ≤ s.size ∧ s.size - p ≤ gg ∧ k ≤ p ∧ s3 = .int .i64 (k : Int) ∧ s4 = .int .i64 (p : Int) ∧ wr = w ∧ Aside (validB s = Lib.validD (rest s p)))
  case atStart => exact ⟨0, 0, by omega, by omega, by omega, rfl, rfl, rfl, HV.out⟩
  case round =>
    obtain ⟨k, p, hp, hgg, hk, rfl, rfl, rfl, HC⟩ := hrel
    by_cases hlt : p < s.size
    · have hltz : (p : Int) < (s.size : Int) := by omega
      have hc := sign_any_ref s p hlt hs wr
      unfold SignRes at hc
      have hb : (signR s p).2.2 = false → validB s = false := fun h => HC.out.trans (sign_bad hlt h)
      have hg : (signR s p).2.2 = true → validB s = Lib.validD (rest s (p + (signR s p).2.1)) := fun h => HC.out.trans (sign_good hlt h)
      have hw := fun h => sign_width hlt h
      have HCL := Lib.hid hc; have HB := Lib.hid hb; have HG := Lib.hid hg; have HW := Lib.hid hw
      clear hc hb hg hw HV HC
      generalize signR s p = R at *
      obtain ⟨c, n, ok⟩ := R
      simp only at HCL HB HG HW
      cases ok with
      | false =>
        go_wp2_with fail
        refine Calls.mono HCL.out ?_
        rintro e w1 ⟨rfl, rfl⟩
        go_wp2_with fail
        go_ret
        exact ⟨_, rfl, by rw [HB.out (by simp)]; decide, rfl⟩
      | true =>
        have hn := (HW.out (by simp))
        have hw1 : wrap64 ((p : Int) + (n : Int)) = ((p + n : Nat) : Int) := by unfold wrap64; omega
        have hw2 : wrap64 ((k : Int) + 1) = ((k + 1 : Nat) : Int) := by unfold wrap64; omega
        have HN := Lib.hid hn
        clear hn
        go_wp2_with fail
        refine Calls.mono HCL.out ?_
        rintro e w1 ⟨rfl, rfl⟩
        go_wp2_with fail
        go_roundg (s.size - (p + n))
        case measure => have := HN.out; omega
        case rel => exact ⟨k + 1, p + n, HN.out.2.1, Nat.le_refl _, by have := HN.out; omega, by go_num, by go_num, rfl, HG.out (by simp)⟩
    · have hltz : ¬ (p : Int) < (s.size : Int) := by omega
      have hend : validB s = true := by
        rw [HC.out, show rest s p = [] from List.eq_nil_of_length_eq_zero (by rw [rest_length]; omega)]
        rfl
      have HE := Lib.hid hend
      clear hend HC HV
      go_wp2_with fail
      go_ret
      exact ⟨_, rfl, by rw [HE.out]; simp, rfl⟩
set_option maxRecDepth 100000 in
set_option maxHeartbeats 4000000 in
theorem valid_ref (s : ByteArray) (hs : s.size ≤ 1000000000) (w : World) : Calls Tryz.prog 65 #[.string s] w fun e w' => e = .returned (.bool (validB s)) ∧ w' = w := by
  have hc := count_ref s hs w
  have HC := Lib.hid hc
  clear hc
  go_enter Tryz.func65, Tryz.ntmps65
  go_wp2_with fail
  refine Calls.mono HC.out ?_
  rintro e w1 ⟨z, rfl, hz, rfl⟩
  have hd : decide (0 ≤ z) = validB s := by rw [Bool.eq_iff_iff, decide_eq_true_iff]; exact hz
  have HD := Lib.hid hd
  clear hz hd
  go_wp2_with fail
  go_ret
  exact ⟨ret_bool HD.out, rfl⟩
end Go.Proofs.YtjjgbgojlhaapaaGreatDoor
namespace Go.Proofs.YtjjgbgojlhaapaaGreatDoor
open Go.RowKit Go.Lib

theorem u8Info : (Tryz.prog.info? 5).map (fun i => (i.zero, i.size, i.bytes)) = some (some (.int .u8 0), 1, 1) := by kernel_rfl
theorem byteCells_one' (l : List UInt8) : ∀ v ∈ Lib.byteCells l, v.oneCell' = true := by
  intro v hv
  simp only [Lib.byteCells, List.mem_map] at hv
  obtain ⟨x, _, rfl⟩ := hv
  rfl
theorem byteCells_get (l : List UInt8) (j : Nat) (u : Value) (h : (Lib.byteCells l)[j]? = some u) : ∃ hj : j < l.length, u = .int .u8 (l[j].toNat : Int) := by
  have hj := lt_of_get h
  rw [show (Lib.byteCells l).length = l.length by simp [Lib.byteCells]] at hj
  refine ⟨hj, ?_⟩
  simp [Lib.byteCells, hj] at h
  exact h.symm
theorem own_bsl {w : World} {base : Nat} {v : Value} {l : List UInt8} (h : w.ownsRow base 5 1 v l.length (Lib.byteCells l)) : BSl w (fun b => base ≤ b) v ⟨l.toArray⟩ := by
  have hz : (⟨l.toArray⟩ : ByteArray).size = l.length := by simp [ByteArray.size]
  rcases h.2 with ⟨rfl, h0⟩ | ⟨g, cap, cur, rfl, hg, hh, h1, h2, h3, h4⟩
  · exact .inr ⟨by rw [hz]; exact h0, none, 0, rfl⟩
  · refine .inl ⟨g, 0, cap, by rw [hz], hg, fun i hi => ?_⟩
    rw [hz] at hi
    have := h.cells (g := g) rfl i (.int .u8 (l[i].toNat : Int)) (by simp [Lib.byteCells, hi])
    rw [Addr.add_lit] at this
    exact this
theorem bsl_cells {w : World} {b o : Nat} {s : ByteArray} (hc : Lib.Bytes w b o s) : ∀ j u, (Lib.byteCells s.data.toList)[j]? = some u → w.cell? ((⟨b, o, none⟩ : Addr).add j) = some u := fun j u hj => by
  obtain ⟨hl, rfl⟩ := byteCells_get _ _ _ hj
  rw [Addr.add_lit]
  exact hc j (by rw [Array.length_toList] at hl; exact hl)
/-- the head of a slice of bytes -/
theorem bsl_take {w : World} {F : Nat → Prop} {A : Option Addr} {n c k : Nat} {l : List UInt8} (h : BSl w F (.slice A n c) ⟨l.toArray⟩) (hk : k ≤ l.length) : BSl w F (.slice A k c) ⟨(l.take k).toArray⟩ := by
  have hz : (⟨l.toArray⟩ : ByteArray).size = l.length := by simp [ByteArray.size]
  have hzk : (⟨(l.take k).toArray⟩ : ByteArray).size = k := by simp [ByteArray.size]; omega
  rcases h with ⟨b, o, c', e, hF, hc⟩ | ⟨h0, A', c', e⟩
  · injection e with e1 e2 e3
    subst e1; subst e3
    refine .inl ⟨b, o, c, by rw [hzk], hF, fun i hi => ?_⟩
    rw [hzk] at hi
    have := hc i (by rw [hz]; omega)
    exact this.trans (by show some (Value.int .u8 (l[i].toNat : Int)) = some (Value.int .u8 ((l.take k)[i].toNat : Int)); rw [List.getElem_take])
  · injection e with e1 e2 e3
    subst e1; subst e3
    rw [hz] at h0
    obtain rfl : k = 0 := by omega
    exact .inr ⟨by rw [hzk], A, c, rfl⟩
theorem run_append_own_nil {P : Program} {w : World} (_base : Nat) (t ty e : TypeId) (i : TypeInfo) (ht : P.underlying t = some (.slice e)) (hi : P.info? e = some i) (g : Nat) (A : Option Addr) (c cc : Nat) :
    (Builtin.append_ #[t, t] ty #[.slice (some ⟨g, 0, none⟩) 0 cc, .slice A 0 c]).run P w = .ok (.slice (some ⟨g, 0, none⟩) 0 cc) w := by
  cases A with
  | none => simp [Builtin.append_, run_underlying ht, sizeOf, typeInfo, hi, Builtin.lenOf, Builtin.firstCells, storeCells]
  | some a => simp [Builtin.append_, run_underlying ht, sizeOf, typeInfo, hi, Builtin.lenOf, Builtin.firstCells, storeCells, loadCells, loadCellsFrom]
set_option maxRecDepth 100000 in
set_option maxHeartbeats 4000000 in
theorem copyBytes_any (v : Value) (l : List UInt8) (F : Nat → Prop) (w : World) (hb : BSl w F v ⟨l.toArray⟩) (hs : l.length ≤ 1000000) :
    Calls Tryz.prog 7 #[v] w fun e w' => (∃ v', e = .returned v' ∧ w'.ownsRow w.heap.size 5 1 v' l.length (Lib.byteCells l)) ∧ Below w.heap.size w w' := by
  have hz : (⟨l.toArray⟩ : ByteArray).size = l.length := by simp [ByteArray.size]
  obtain ⟨i0, hi, hz0, hz1, hz2⟩ := info_parts u8Info
  have hbA : Below w.heap.size w (w.alloc (.cells #[] 5)) := bel_alloc (Below.refl _ _) _
  have hown0 : (w.alloc (.cells #[] 5)).ownsRow w.heap.size 5 1 (.slice (some ⟨w.heap.size, 0, none⟩) 0 0) 0 [] := World.ownsRow_made w #[] 0 (Nat.le_refl _) (by decide) (by simp)
  rcases hb with ⟨b, o, c, rfl, hF, hc⟩ | ⟨h0, A, c, rfl⟩
  · have hsrc : ∀ j u, (Lib.byteCells l)[j]? = some u → (w.alloc (.cells #[] 5)).cell? ((⟨b, o, none⟩ : Addr).add j) = some u := fun j u hj => cell_later' hbA (bsl_cells hc j u hj)
    have hCl : (Lib.byteCells l).length = l.length * 1 := by simp [Lib.byteCells]
    have s1 : 0 + l.length ≤ maxLen := by simp only [maxLen]; omega
    have s2 : (0 + l.length) * 1 ≤ 140737488355328 := by omega
    have one1 := byteCells_one' l
    rw [hz]
    have SR := Lib.hid hsrc; have O0 := Lib.hid hown0; have CL := Lib.hid hCl; have S1 := Lib.hid s1; have S2 := Lib.hid s2; have S3 := Lib.hid hbA.size; have HBA := Lib.hid hbA; have ONE := Lib.hid one1
    clear hsrc hown0 hCl s1 s2 hc hbA one1 hz
    generalize Lib.byteCells l = C at *
    generalize l.length = n at *
    go_enter Tryz.func7, Tryz.ntmps7
    go_wp2_with (at_builtin; refine wpList_append_ownB rfl _ _ 22 rfl w.heap.size 5 i0 (.int .u8 0) 1 1 Tryz.underlying22 hi hz0 hz1 hz2 rfl (by decide) _ _ _ rfl O0.out ⟨b, o, none⟩ n c C rfl CL.out SR.out ONE.out S1.out S2.out S3.out ?_)
    intro v6 w6 ho6 hg6 hv6
    have Ho6 := Lib.hid ho6
    have hb6 : Below w.heap.size w w6 := bel_grown HBA.out hg6 (fun k hk => (O0.out.lt k hk).1)
    clear ho6 hv6 hg6
    go_wp2_with fail
    go_ret
    refine ⟨⟨_, rfl, ?_⟩, hb6⟩
    have := Ho6.out
    simpa using this
  · rw [hz] at h0
    obtain rfl := List.eq_nil_of_length_eq_zero h0
    have hr := run_append_own_nil (P := Tryz.prog) (w := w.alloc (.cells #[] 5)) w.heap.size 22 22 5 i0 Tryz.underlying22 hi w.heap.size A c 0
    have O0 := Lib.hid hown0; have HBA := Lib.hid hbA
    clear hown0 hbA
    go_enter Tryz.func7, Tryz.ntmps7
    go_wp2_with (at_builtin; refine wpList_append_runN rfl _ _ 22 22 rfl _ _ _ _ rfl rfl hr ?_)
    go_wp2_with fail
    go_ret
    exact ⟨⟨_, rfl, O0.out⟩, HBA.out⟩
end Go.Proofs.YtjjgbgojlhaapaaGreatDoor
