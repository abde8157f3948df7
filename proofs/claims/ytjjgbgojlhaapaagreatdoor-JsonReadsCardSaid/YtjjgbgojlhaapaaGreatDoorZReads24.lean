/- Parts of the proof: Dt, Te. -/
import Derived.Test.YtjjgbgojlhaapaaGreatDoorZReads21
import Derived.Test.YtjjgbgojlhaapaaGreatDoorZReads23
import Derived.Lib.SlBytesRow
import Derived.OwnWalk
import Derived.Laws.BitsLemmas
namespace Go.Proofs.YtjjgbgojlhaapaaGreatDoor
open Go.RowKit Go.Lib

def textV (o : Option (List UInt8)) : Value := match o with
  | none => .tuple #[.string ⟨#[]⟩, .bool false]
  | some l => .tuple #[.string ⟨l.toArray⟩, .bool true]
set_option maxHeartbeats 4000000 in
theorem rdigit_any (c : UInt8) (w : World) : Calls Tryz.prog 127 #[.int .u8 (c.toNat : Int)] w fun e w' => e = .returned (.int .i64 (digitR c)) ∧ w' = w := by
  have hb := c.toNat_lt
  unfold digitR
  generalize c.toNat = n at *
  go_enter Tryz.func127, Tryz.ntmps127
  go_wp2
  all_goals
    go_ret
    first | exact ⟨rfl, rfl⟩ | exact ⟨ret_i64 (by omega), rfl⟩
theorem wraps_i64r (n : Int) (h0 : 0 ≤ n) (h1 : n < 2 ^ 63) : IntKind.i64.wrap n = n := by rw [IntKind.wrap_i64]; omega
theorem or_128 (y : Int) (h0 : 0 ≤ y) (h1 : y < 64) : bits .or .i64 128 y = 128 + y := bits_join .i64 63 (by decide) wraps_i64r 6 128 y (by omega) (by omega) (by omega) h0 h1 (by omega)
theorem or_192 (y : Int) (h0 : 0 ≤ y) (h1 : y < 32) : bits .or .i64 192 y = 192 + y := bits_join .i64 63 (by decide) wraps_i64r 5 192 y (by omega) (by omega) (by omega) h0 h1 (by omega)
theorem or_224 (y : Int) (h0 : 0 ≤ y) (h1 : y < 16) : bits .or .i64 224 y = 224 + y := bits_join .i64 63 (by decide) wraps_i64r 4 224 y (by omega) (by omega) (by omega) h0 h1 (by omega)
theorem or_240 (y : Int) (h0 : 0 ≤ y) (h1 : y < 8) : bits .or .i64 240 y = 240 + y := bits_join .i64 63 (by decide) wraps_i64r 3 240 y (by omega) (by omega) (by omega) h0 h1 (by omega)
theorem and_63' (y : Int) (h0 : 0 ≤ y) (h1 : y < 1114112) : bits .and .i64 y 63 = y % 64 := bits_mask .i64 63 (by decide) wraps_i64r 6 (by decide) y h0 (by omega)
/-- a literal of bytes as a string -/
theorem lit_conv (W : World) (l : List UInt8) (cs : Array Value) (n : Nat) (t : TypeId) (hn : n = l.length) (hc : cs = (l.map fun b => Value.int .u8 (b.toNat : Int)).toArray) :
    (convert 22 9 (.slice (some ⟨W.heap.size, 0, none⟩) n n)).run Tryz.prog (W.alloc (.cells cs t)) = .ok (.string ⟨l.toArray⟩) (W.alloc (.cells cs t)) := by
  subst hn; subst hc
  have h := Lib.run_convert_whole (P := Tryz.prog) (W.alloc (.cells (l.map fun b => Value.int .u8 (b.toNat : Int)).toArray t)) 22 5 9 Tryz.underlying22 Tryz.underlying5 Tryz.underlying9 W.heap.size 0 ⟨l.toArray⟩ (fun i hi => by
    have hi' : i < l.length := by simpa [ByteArray.size] using hi
    rw [Lib.cell_of_heap (heap_alloc_new W (.cells (l.map fun b => Value.int .u8 (b.toNat : Int)).toArray t))]
    simp [hi']
    rfl) l.length
  simpa [ByteArray.size] using h
theorem rune_lit (c : Int) {zs : List Int} (h : Lib.encodeRuneZ c = zs) : (zs.map fun z => Value.int .u8 z).toArray = ((Lib.encodeRune c).map fun b => Value.int .u8 (b.toNat : Int)).toArray ∧ zs.length = (Lib.encodeRune c).length := by
  subst h
  have h1 := Lib.byteCells_encodeRune c
  unfold Lib.byteCells Lib.runeCells at h1
  exact ⟨by rw [h1], by simp [Lib.encodeRune]⟩
set_option maxRecDepth 100000 in
set_option maxHeartbeats 4000000 in
theorem rtext_one (c : Int) (w : World) (h0 : 0 ≤ c) (h1 : c < 128) : Calls Tryz.prog 108 #[.int .i64 c] w fun e w' => e = .returned (textV (textR c)) ∧ Below w.heap.size w w' := by
  have b0 : decide (c < 0) = false := decide_eq_false (by omega)
  have b1 : decide (1114111 < c) = false := decide_eq_false (by omega)
  have b2 : decide (55296 ≤ c) = false := decide_eq_false (by omega)
  have b3 : decide (c < 128) = true := decide_eq_true (by omega)
  have hr : textR c = some (Lib.encodeRune c) := by unfold textR; rw [if_neg (by omega)]
  obtain ⟨q1, q2⟩ := rune_lit c (Lib.encodeRuneZ_one h0 (by omega))
  have m1 : c % 256 = c := by omega
  have hcv := lit_conv w (Lib.encodeRune c) _ 1 5 q2 q1
  have hb : Below w.heap.size w (w.alloc (.cells (([c] : List Int).map fun z => Value.int .u8 z).toArray 5)) := bel_alloc (Below.refl _ _) _
  simp only [List.map_cons, List.map_nil] at hcv hb
  rw [hr]
  unfold textV
  simp only
  generalize (⟨(Lib.encodeRune c).toArray⟩ : ByteArray) = S at *
  clear hr q1 q2
  have HB := Lib.hid hb
  clear hb
  go_enter Tryz.func108, Tryz.ntmps108
  go_wp2
  go_ret2
  exact ⟨rfl, HB.out⟩
set_option maxRecDepth 100000 in
set_option maxHeartbeats 4000000 in
theorem rtext_two (c : Int) (w : World) (h0 : 128 ≤ c) (h1 : c < 2048) : Calls Tryz.prog 108 #[.int .i64 c] w fun e w' => e = .returned (textV (textR c)) ∧ Below w.heap.size w w' := by
  have b0 : decide (c < 0) = false := decide_eq_false (by omega)
  have b1 : decide (1114111 < c) = false := decide_eq_false (by omega)
  have b2 : decide (55296 ≤ c) = false := decide_eq_false (by omega)
  have b3 : decide (c < 128) = false := decide_eq_false (by omega)
  have b4 : decide (c < 2048) = true := decide_eq_true (by omega)
  have hr : textR c = some (Lib.encodeRune c) := by unfold textR; rw [if_neg (by omega)]
  obtain ⟨q1, q2⟩ := rune_lit c (Lib.encodeRuneZ_two h0 (by omega))
  have e1 := or_192 (c / 64) (by omega) (by omega)
  have e2 := and_63' c (by omega) (by omega)
  have e3 := or_128 (c % 64) (by omega) (by omega)
  have m1 : (192 + c / 64) % 256 = 192 + c / 64 := by omega
  have m2 : (128 + c % 64) % 256 = 128 + c % 64 := by omega
  have hcv := lit_conv w (Lib.encodeRune c) _ 2 5 q2 q1
  have hb : Below w.heap.size w (w.alloc (.cells (([192 + c / 64, 128 + c % 64] : List Int).map fun z => Value.int .u8 z).toArray 5)) := bel_alloc (Below.refl _ _) _
  simp only [List.map_cons, List.map_nil] at hcv hb
  rw [hr]
  unfold textV
  simp only
  generalize (⟨(Lib.encodeRune c).toArray⟩ : ByteArray) = S at *
  clear hr q1 q2
  have HB := Lib.hid hb
  clear hb
  go_enter Tryz.func108, Tryz.ntmps108
  go_wp2
  go_ret2
  exact ⟨rfl, HB.out⟩
set_option maxRecDepth 100000 in
set_option maxHeartbeats 4000000 in
theorem rtext_three (c : Int) (w : World) (h0 : 2048 ≤ c) (h1 : c < 55296) : Calls Tryz.prog 108 #[.int .i64 c] w fun e w' => e = .returned (textV (textR c)) ∧ Below w.heap.size w w' := by
  have b0 : decide (c < 0) = false := decide_eq_false (by omega)
  have b1 : decide (1114111 < c) = false := decide_eq_false (by omega)
  have b2 : decide (55296 ≤ c) = false := decide_eq_false (by omega)
  have b3 : decide (c < 128) = false := decide_eq_false (by omega)
  have b4 : decide (c < 2048) = false := decide_eq_false (by omega)
  have b5 : decide (c < 65536) = true := decide_eq_true (by omega)
  have hr : textR c = some (Lib.encodeRune c) := by unfold textR; rw [if_neg (by omega)]
  obtain ⟨q1, q2⟩ := rune_lit c (Lib.encodeRuneZ_three (.inl ⟨h0, h1⟩))
  have e1 := or_224 (c / 4096) (by omega) (by omega)
  have e2 := and_63' (c / 64) (by omega) (by omega)
  have e3 := or_128 (c / 64 % 64) (by omega) (by omega)
  have e4 := and_63' c (by omega) (by omega)
  have e5 := or_128 (c % 64) (by omega) (by omega)
  have m1 : (224 + c / 4096) % 256 = 224 + c / 4096 := by omega
  have m2 : (128 + c / 64 % 64) % 256 = 128 + c / 64 % 64 := by omega
  have m3 : (128 + c % 64) % 256 = 128 + c % 64 := by omega
  have hcv := lit_conv w (Lib.encodeRune c) _ 3 5 q2 q1
  have hb : Below w.heap.size w (w.alloc (.cells (([224 + c / 4096, 128 + c / 64 % 64, 128 + c % 64] : List Int).map fun z => Value.int .u8 z).toArray 5)) := bel_alloc (Below.refl _ _) _
  simp only [List.map_cons, List.map_nil] at hcv hb
  rw [hr]
  unfold textV
  simp only
  generalize (⟨(Lib.encodeRune c).toArray⟩ : ByteArray) = S at *
  clear hr q1 q2
  have HB := Lib.hid hb
  clear hb
  go_enter Tryz.func108, Tryz.ntmps108
  go_wp2
  go_ret2
  exact ⟨rfl, HB.out⟩
set_option maxRecDepth 100000 in
set_option maxHeartbeats 4000000 in
theorem rtext_three2 (c : Int) (w : World) (h0 : 57343 < c) (h1 : c ≤ 65535) : Calls Tryz.prog 108 #[.int .i64 c] w fun e w' => e = .returned (textV (textR c)) ∧ Below w.heap.size w w' := by
  have b0 : decide (c < 0) = false := decide_eq_false (by omega)
  have b1 : decide (1114111 < c) = false := decide_eq_false (by omega)
  have b2 : decide (55296 ≤ c) = true := decide_eq_true (by omega)
  have b2a : decide (c ≤ 57343) = false := decide_eq_false (by omega)
  have b3 : decide (c < 128) = false := decide_eq_false (by omega)
  have b4 : decide (c < 2048) = false := decide_eq_false (by omega)
  have b5 : decide (c < 65536) = true := decide_eq_true (by omega)
  have hr : textR c = some (Lib.encodeRune c) := by unfold textR; rw [if_neg (by omega)]
  obtain ⟨q1, q2⟩ := rune_lit c (Lib.encodeRuneZ_three (.inr ⟨h0, h1⟩))
  have e1 := or_224 (c / 4096) (by omega) (by omega)
  have e2 := and_63' (c / 64) (by omega) (by omega)
  have e3 := or_128 (c / 64 % 64) (by omega) (by omega)
  have e4 := and_63' c (by omega) (by omega)
  have e5 := or_128 (c % 64) (by omega) (by omega)
  have m1 : (224 + c / 4096) % 256 = 224 + c / 4096 := by omega
  have m2 : (128 + c / 64 % 64) % 256 = 128 + c / 64 % 64 := by omega
  have m3 : (128 + c % 64) % 256 = 128 + c % 64 := by omega
  have hcv := lit_conv w (Lib.encodeRune c) _ 3 5 q2 q1
  have hb : Below w.heap.size w (w.alloc (.cells (([224 + c / 4096, 128 + c / 64 % 64, 128 + c % 64] : List Int).map fun z => Value.int .u8 z).toArray 5)) := bel_alloc (Below.refl _ _) _
  simp only [List.map_cons, List.map_nil] at hcv hb
  rw [hr]
  unfold textV
  simp only
  generalize (⟨(Lib.encodeRune c).toArray⟩ : ByteArray) = S at *
  clear hr q1 q2
  have HB := Lib.hid hb
  clear hb
  go_enter Tryz.func108, Tryz.ntmps108
  go_wp2
  go_ret2
  exact ⟨rfl, HB.out⟩
set_option maxRecDepth 100000 in
set_option maxHeartbeats 4000000 in
theorem rtext_four (c : Int) (w : World) (h0 : 65536 ≤ c) (h1 : c ≤ 1114111) : Calls Tryz.prog 108 #[.int .i64 c] w fun e w' => e = .returned (textV (textR c)) ∧ Below w.heap.size w w' := by
  have b0 : decide (c < 0) = false := decide_eq_false (by omega)
  have b1 : decide (1114111 < c) = false := decide_eq_false (by omega)
  have b2 : decide (55296 ≤ c) = true := decide_eq_true (by omega)
  have b2a : decide (c ≤ 57343) = false := decide_eq_false (by omega)
  have b3 : decide (c < 128) = false := decide_eq_false (by omega)
  have b4 : decide (c < 2048) = false := decide_eq_false (by omega)
  have b5 : decide (c < 65536) = false := decide_eq_false (by omega)
  have hr : textR c = some (Lib.encodeRune c) := by unfold textR; rw [if_neg (by omega)]
  obtain ⟨q1, q2⟩ := rune_lit c (Lib.encodeRuneZ_four h0 h1)
  have e0 := or_240 (c / 262144) (by omega) (by omega)
  have e1 := and_63' (c / 4096) (by omega) (by omega)
  have e6 := or_128 (c / 4096 % 64) (by omega) (by omega)
  have e2 := and_63' (c / 64) (by omega) (by omega)
  have e3 := or_128 (c / 64 % 64) (by omega) (by omega)
  have e4 := and_63' c (by omega) (by omega)
  have e5 := or_128 (c % 64) (by omega) (by omega)
  have m0 : (240 + c / 262144) % 256 = 240 + c / 262144 := by omega
  have m1 : (128 + c / 4096 % 64) % 256 = 128 + c / 4096 % 64 := by omega
  have m2 : (128 + c / 64 % 64) % 256 = 128 + c / 64 % 64 := by omega
  have m3 : (128 + c % 64) % 256 = 128 + c % 64 := by omega
  have hcv := lit_conv w (Lib.encodeRune c) _ 4 5 q2 q1
  have hb : Below w.heap.size w (w.alloc (.cells (([240 + c / 262144, 128 + c / 4096 % 64, 128 + c / 64 % 64, 128 + c % 64] : List Int).map fun z => Value.int .u8 z).toArray 5)) := bel_alloc (Below.refl _ _) _
  simp only [List.map_cons, List.map_nil] at hcv hb
  rw [hr]
  unfold textV
  simp only
  generalize (⟨(Lib.encodeRune c).toArray⟩ : ByteArray) = S at *
  clear hr q1 q2
  have HB := Lib.hid hb
  clear hb
  go_enter Tryz.func108, Tryz.ntmps108
  go_wp2
  go_ret2
  exact ⟨rfl, HB.out⟩
set_option maxHeartbeats 4000000 in
theorem rtext_bad (c : Int) (w : World) (h : c < 0 ∨ 1114111 < c ∨ (55296 ≤ c ∧ c ≤ 57343)) : Calls Tryz.prog 108 #[.int .i64 c] w fun e w' => e = .returned (textV (textR c)) ∧ Below w.heap.size w w' := by
  have hr : textR c = none := by unfold textR; rw [if_pos h]
  rw [hr]
  unfold textV
  simp only
  have HB := Lib.hid (Below.refl w.heap.size w)
  by_cases a0 : c < 0
  · have b0 : decide (c < 0) = true := decide_eq_true a0
    clear h hr
    go_enter Tryz.func108, Tryz.ntmps108
    go_wp2
    go_ret2
    exact ⟨rfl, HB.out⟩
  · have b0 : decide (c < 0) = false := decide_eq_false a0
    by_cases a1 : 1114111 < c
    · have b1 : decide (1114111 < c) = true := decide_eq_true a1
      clear h hr
      go_enter Tryz.func108, Tryz.ntmps108
      go_wp2
      go_ret2
      exact ⟨rfl, HB.out⟩
    · have b1 : decide (1114111 < c) = false := decide_eq_false a1
      have b2 : decide (55296 ≤ c) = true := decide_eq_true (by omega)
      have b3 : decide (c ≤ 57343) = true := decide_eq_true (by omega)
      clear h hr
      go_enter Tryz.func108, Tryz.ntmps108
      go_wp2
      go_ret2
      exact ⟨rfl, HB.out⟩
theorem rtext_any (c : Int) (w : World) : Calls Tryz.prog 108 #[.int .i64 c] w fun e w' => e = .returned (textV (textR c)) ∧ Below w.heap.size w w' := by
  by_cases h : c < 0 ∨ 1114111 < c ∨ (55296 ≤ c ∧ c ≤ 57343)
  · exact rtext_bad c w h
  · by_cases h1 : c < 128
    · exact rtext_one c w (by omega) h1
    · by_cases h2 : c < 2048
      · exact rtext_two c w (by omega) h2
      · by_cases h3 : c < 55296
        · exact rtext_three c w (by omega) h3
        · by_cases h4 : c ≤ 65535
          · exact rtext_three2 c w (by omega) h4
          · exact rtext_four c w (by omega) (by omega)
theorem digit_range (c : UInt8) : -1 ≤ digitR c ∧ digitR c < 16 := by
  have hb := c.toNat_lt
  unfold digitR
  split
  · omega
  · split
    · omega
    · split <;> omega
set_option maxRecDepth 100000 in
set_option maxHeartbeats 4000000 in
theorem rfour_any (s : ByteArray) (p : Nat) (w : World) (hs : s.size ≤ 1000000000) (hp : p ≤ s.size + 10) : Calls Tryz.prog 107 #[.string s, .int .i64 (p : Int)] w fun e w' => e = .returned (.tuple #[.int .i64 (fourR s 4 0 p).1, .int .i64 (fourR s 4 0 p).2]) ∧ w' = w := by
  generalize hfin : fourR s 4 0 p = fin at *
  have HF := Lib.hid hfin
  clear hfin
  go_enter Tryz.func107, Tryz.ntmps107
  go_wp2_with fail
  go_loopg [6, 7] 4 (fun gg s6 s7 wr => ∃ (k : Nat) (n : Int), k ≤ 4 ∧ 4 - k ≤ gg ∧ s6 = .int .i64 n ∧ s7 = .int .i64 k ∧ 0 ≤ n ∧ n < 16 ^ k ∧ wr = w ∧ Aside (fourR s (4 - k) n (p + k) = fin))
  case atStart => exact ⟨0, 0, by omega, by omega, rfl, rfl, by omega, by decide, rfl, HF.out⟩
  case round =>
    obtain ⟨k, n, hk, hgg, rfl, rfl, hn0, hn1, rfl, HFin⟩ := hrel
    by_cases hlt : k < 4
    · have dl : decide ((k : Int) < 4) = true := decide_eq_true (by omega)
      obtain ⟨m, hm⟩ : ∃ m, 4 - k = m + 1 := ⟨3 - k, by omega⟩
      have hfe := HFin.out
      rw [hm] at hfe
      simp only [fourR] at hfe
      have HN := Lib.hid hn1
      clear hn1
      by_cases hsz : s.size ≤ p + k
      · have dg : decide ((s.size : Int) ≤ (p : Int) + (k : Int)) = true := decide_eq_true (by omega)
        rw [if_pos hsz] at hfe
        subst hfe
        clear HFin HF hm
        go_wp2_with fail
        go_ret2
        exact ⟨rfl, rfl⟩
      · have dg : decide ((s.size : Int) ≤ (p : Int) + (k : Int)) = false := decide_eq_false (by omega)
        rw [if_neg hsz] at hfe
        have hq1 : (0 : Int) ≤ (p : Int) + (k : Int) := by omega
        have hq2 : (p : Int) + (k : Int) < (s.size : Int) := by omega
        have hgb := get_byte (s := s) (q := p + k) (by omega)
        have hdr := digit_range (byteAt s (p + k))
        have hdc := fun W => rdigit_any (byteAt s (p + k)) W
        generalize digitR (byteAt s (p + k)) = d at *
        have HM := Lib.hid hm
        clear hm
        by_cases hd : d < 0
        · have dd : decide (d < 0) = true := decide_eq_true hd
          rw [if_pos hd] at hfe
          subst hfe
          have HDC := Lib.hid hdc
          clear hdc HFin HF hd hdr
          go_wp2_with fail
          refine Calls.mono (HDC.out _) ?_
          rintro e w2 ⟨rfl, rfl⟩
          go_wp2_with fail
          go_ret2
          exact ⟨rfl, rfl⟩
        · have dd : decide (d < 0) = false := decide_eq_false hd
          rw [if_neg hd] at hfe
          have HDC := Lib.hid hdc
          have HFE := Lib.hid hfe
          have hpow : n * 16 + d < 16 ^ (k + 1) := by rw [Int.pow_succ]; have := HN.out; omega
          have hsm : n < 65536 := by
            have h1 := HN.out
            have h2 : k = 0 ∨ k = 1 ∨ k = 2 ∨ k = 3 := by omega
            rcases h2 with h2 | h2 | h2 | h2 <;> (rw [h2] at h1; omega)
          have hor : bits .or .i64 (n * 16) d = n * 16 + d := bits_join .i64 63 (by decide) wraps_i64r 4 (n * 16) d (by omega) (by omega) (by omega) (by omega) (by omega) (by omega)
          have HPOW := Lib.hid hpow
          clear hdc hfe HFin HF hpow
          go_wp2_with fail
          refine Calls.mono (HDC.out _) ?_
          rintro e w2 ⟨rfl, rfl⟩
          go_wp2_with fail
          go_roundg (4 - (k + 1))
          case measure => omega
          case rel => exact ⟨k + 1, n * 16 + d, by omega, by omega, by go_num, by go_num, by omega, HPOW.out, rfl, by have h1 := HFE.out; rw [show 4 - (k + 1) = m by have := HM.out; omega]; exact h1⟩
    · have dl : decide ((k : Int) < 4) = false := decide_eq_false (by omega)
      have hfe := HFin.out
      rw [show 4 - k = 0 by omega] at hfe
      simp only [fourR] at hfe
      subst hfe
      clear HFin HF
      go_wp2_with fail
      go_ret2
      exact ⟨rfl, rfl⟩
end Go.Proofs.YtjjgbgojlhaapaaGreatDoor
namespace Go.Proofs.YtjjgbgojlhaapaaGreatDoor
open Go.RowKit Go.Lib

def escV3 (r : List UInt8 × Nat × Int) : Value := .tuple #[.string ⟨r.1.toArray⟩, .int .i64 (r.2.1 : Int), .int .i64 r.2.2]
theorem ret_tri {S : ByteArray} {a b z : Int} (h : a = b) : Ending.returned (.tuple #[.string S, .int .i64 a, .int .i64 z]) = .returned (.tuple #[.string S, .int .i64 b, .int .i64 z]) := by rw [h]
def escAt (s : ByteArray) (p : Nat) (o : Option Nat) : List UInt8 × Nat × Int := match o with
  | some k => ([UInt8.ofNat k], p + 2, 0)
  | none => if byteAt s (p + 1) = 47 then ([47], p + 2, 0) else if byteAt s (p + 1) ≠ 117 then ([], 0, 4) else unitR s (p + 2)
set_option maxRecDepth 100000 in
set_option maxHeartbeats 16000000 in
theorem resc_any (s : ByteArray) (p : Nat) (w : World) (hs : s.size ≤ 1000000000) (hp : p < s.size) :
    Calls Tryz.prog 93 #[.string s, .int .i64 (p : Int)] w fun e w' => e = .returned (escV3 (escR s p)) ∧ Below w.heap.size w w' := by
  have HB := Lib.hid (Below.refl w.heap.size w)
  have hp0 : (0 : Int) ≤ (p : Int) := by omega
  have hescR : escR s p = if s.size ≤ p + 1 then ([], 0, 2) else escAt s p (findR (byteAt s (p + 1))) := by unfold escR escAt; rfl
  unfold escV3
  generalize escR s p = R at *
  by_cases h1 : s.size ≤ p + 1
  · have d1 : decide ((s.size : Int) ≤ (p : Int) + 1) = true := decide_eq_true (by omega)
    rw [if_pos h1] at hescR
    subst hescR
    go_enter Tryz.func93, Tryz.ntmps93
    go_wp2_with fail
    go_ret3
    exact ⟨rfl, HB.out⟩
  · have d1 : decide ((s.size : Int) ≤ (p : Int) + 1) = false := decide_eq_false (by omega)
    rw [if_neg h1] at hescR
    have q1 : (0 : Int) ≤ (p : Int) + 1 := by omega
    have q2 : (p : Int) + 1 < (s.size : Int) := by omega
    have hgb := get_byte (s := s) (q := p + 1) (by omega)
    have HE := Lib.hid hescR
    have hfind : (List.range 128).find? (fun k => byteAt s (p + 1) != 0 && shortR (UInt8.ofNat k) == byteAt s (p + 1)) = findR (byteAt s (p + 1)) := rfl
    have HFD := Lib.hid hfind
    generalize findR (byteAt s (p + 1)) = fr at *
    have hcb := (byteAt s (p + 1)).toNat_lt
    generalize hc : byteAt s (p + 1) = c at *
    have HC := Lib.hid hc
    have hsc := fun (j : Nat) (hj : j < 128) W => short_ref (UInt8.ofNat j) W
    have HSC := Lib.hid hsc
    clear hescR hfind hc hsc
    go_enter Tryz.func93, Tryz.ntmps93
    go_wp2_with fail
    go_loopg [8] 128 (fun gg s8 wr => ∃ k : Nat, k ≤ 128 ∧ 128 - k ≤ gg ∧ s8 = .int .i64 k ∧ wr = w ∧ Aside (∀ j, j < k → (c != 0 && shortR (UInt8.ofNat j) == c) = false))
    case atStart => exact ⟨0, by omega, by omega, rfl, rfl, fun j hj => absurd hj (Nat.not_lt_zero j)⟩
    case round =>
      obtain ⟨k, hk, hgg, rfl, rfl, HK⟩ := hrel
      by_cases hlt : k < 128
      · have dl : decide ((k : Int) < 128) = true := decide_eq_true (by omega)
        by_cases hc0 : c = 0
        · have dc : ((c.toNat : Int) != 0) = false := by subst hc0; rfl
          have hno : (c != 0 && shortR (UInt8.ofNat k) == c) = false := by subst hc0; rfl
          have HNO := Lib.hid hno
          clear hno hc0
          go_wp2_with fail
          go_roundg (128 - (k + 1))
          case measure => omega
          case rel => exact ⟨k + 1, by omega, by omega, by go_num, rfl, fun j hj => (Nat.lt_succ_iff_lt_or_eq.1 hj).elim (HK.out j) (fun e => by rw [e]; exact HNO.out)⟩
        · have dc : ((c.toNat : Int) != 0) = true := by
            have : c.toNat ≠ 0 := fun e => hc0 (UInt8.toNat.inj e)
            simp; omega
          have hof : (UInt8.ofNat k).toNat = k := by rw [UInt8.toNat_ofNat']; omega
          have hcall := fun W => HSC.out k hlt W
          simp only [hof] at hcall
          have hkm : (k : Int) % 256 = (k : Int) := by omega
          have HCALL := Lib.hid hcall
          clear hcall hof
          by_cases hm : shortR (UInt8.ofNat k) = c
          · have dm : (((shortR (UInt8.ofNat k)).toNat : Int) == (c.toNat : Int)) = true := by rw [hm]; simp
            have hyes : fr = some k := by
              rw [← HFD.out, List.find?_range_eq_some]
              refine ⟨?_, List.mem_range.2 hlt, fun j hj => ?_⟩
              · rw [hm]; simp [hc0]
              · rw [HK.out j hj]; rfl
            subst hyes
            have hR : R = ([UInt8.ofNat k], p + 2, 0) := by rw [HE.out]; rfl
            subst hR
            have hcv := fun W => lit_conv W [UInt8.ofNat k] _ 1 5 rfl rfl
            simp only [List.map_cons, List.map_nil, UInt8.toNat_ofNat'] at hcv
            have hk2 : k % 2 ^ 8 = k := by omega
            simp only [hk2] at hcv
            generalize shortR (UInt8.ofNat k) = z at *
            clear HFD HE hm HK
            go_wp2_with fail
            refine Calls.mono (HCALL.out _) ?_
            rintro e w2 ⟨rfl, rfl⟩
            have HBA := Lib.hid (bel_alloc (Below.refl w2.heap.size w2) (.cells #[.int .u8 (k : Int)] 5))
            go_wp2_with fail
            go_ret3
            exact ⟨rfl, HBA.out⟩
          · have dm : (((shortR (UInt8.ofNat k)).toNat : Int) == (c.toNat : Int)) = false := by
              have : (shortR (UInt8.ofNat k)).toNat ≠ c.toNat := fun e => hm (UInt8.toNat.inj e)
              simp; omega
            have hno : (c != 0 && shortR (UInt8.ofNat k) == c) = false := by
              have : (shortR (UInt8.ofNat k) == c) = false := by simpa using hm
              rw [this]; simp
            have HNO := Lib.hid hno
            clear hno hm hc0
            generalize shortR (UInt8.ofNat k) = z at dm HCALL
            go_wp2_with fail
            refine Calls.mono (HCALL.out _) ?_
            rintro e w2 ⟨rfl, rfl⟩
            go_wp2_with fail
            go_roundg (128 - (k + 1))
            case measure => omega
            case rel => exact ⟨k + 1, by omega, by omega, by go_num, rfl, fun j hj => (Nat.lt_succ_iff_lt_or_eq.1 hj).elim (HK.out j) (fun e => by rw [e]; exact HNO.out)⟩
      · have dl : decide ((k : Int) < 128) = false := decide_eq_false (by omega)
        have hnone : fr = none := by
          rw [← HFD.out, List.find?_range_eq_none]
          intro j hj
          rw [HK.out j (by omega)]; rfl
        subst hnone
        have hR : R = if c = 47 then ([47], p + 2, 0) else if c ≠ 117 then ([], 0, 4) else unitR s (p + 2) := by rw [HE.out]; unfold escAt; rw [HC.out]
        clear HFD HE HK HSC
        by_cases h47 : c = 47
        · rw [if_pos h47] at hR
          subst hR
          have dc : ((c.toNat : Int) == 47) = true := by rw [h47]; rfl
          clear HC h47
          go_wp2_with fail
          go_ret3
          exact ⟨rfl, HB.out⟩
        · rw [if_neg h47] at hR
          have dc : ((c.toNat : Int) == 47) = false := by
            have : c.toNat ≠ 47 := fun e => h47 (UInt8.toNat.inj e)
            simp; omega
          by_cases h117 : c = 117
          · rw [if_neg (show ¬ c ≠ 117 from fun h => h h117)] at hR
            have dd : ((c.toNat : Int) != 117) = false := by rw [h117]; rfl
            have hf1 := fun W => rfour_any s (p + 2) W hs (by omega)
            have e2 : ((p + 2 : Nat) : Int) = (p : Int) + 2 := by omega
            rw [e2] at hf1
            unfold unitR at hR
            have hrg := fourR_range s (p + 2)
            generalize fourR s 4 0 (p + 2) = r1 at *
            obtain ⟨n, f⟩ := r1
            simp only at hR hf1 hrg
            have HF1 := Lib.hid hf1
            clear hf1 e2 HC h117 h47
            by_cases hf : f = 0
            · have df : (f != 0) = false := by simpa using hf
              rw [if_neg (show ¬ f ≠ 0 from fun h => h hf)] at hR
              have hn := hrg hf
              clear hrg
              by_cases hpr : 55296 ≤ n ∧ n ≤ 56319
              · have dn1 : decide (55296 ≤ n) = true := decide_eq_true (by omega)
                have dn2 : decide (n ≤ 56319) = true := decide_eq_true (by omega)
                rw [if_pos hpr] at hR
                unfold pairR at hR
                by_cases k1 : s.size ≤ p + 6
                · have dk1 : decide ((s.size : Int) ≤ (p : Int) + 6) = true := decide_eq_true (by omega)
                  rw [if_pos (show (s.size ≤ p + 2 + 4 ∨ _) from Or.inl (by omega))] at hR
                  subst hR
                  subst hf
                  go_wp2_with fail
                  refine Calls.mono (HF1.out _) ?_
                  rintro e w2 ⟨rfl, rfl⟩
                  go_wp2_with fail
                  go_ret3
                  exact ⟨rfl, HB.out⟩
                · have dk1 : decide ((s.size : Int) ≤ (p : Int) + 6) = false := decide_eq_false (by omega)
                  have q3 : (0 : Int) ≤ (p : Int) + 6 := by omega
                  have q4 : (p : Int) + 6 < (s.size : Int) := by omega
                  have hg6 := get_byte (s := s) (q := p + 6) (by omega)
                  by_cases k92 : byteAt s (p + 6) = 92
                  · have d92 : (((byteAt s (p + 6)).toNat : Int) == 92) = true := by rw [k92]; rfl
                    have d92' : (((byteAt s (p + 6)).toNat : Int) != 92) = false := by rw [k92]; rfl
                    by_cases k2 : s.size ≤ p + 7
                    · have dk2 : decide ((s.size : Int) ≤ (p : Int) + 6 + 1) = true := decide_eq_true (by omega)
                      have dk2b : decide ((s.size : Int) ≤ (p : Int) + 7) = true := decide_eq_true (by omega)
                      rw [if_pos (show (s.size ≤ p + 2 + 4 ∨ _) from Or.inr ⟨by omega, k92⟩)] at hR
                      subst hR
                      subst hf
                      clear k92
                      generalize byteAt s (p + 6) = b6 at *
                      go_wp2_with fail
                      refine Calls.mono (HF1.out _) ?_
                      rintro e w2 ⟨rfl, rfl⟩
                      go_wp2_with fail
                      go_ret3
                      exact ⟨rfl, HB.out⟩
                    · have dk2 : decide ((s.size : Int) ≤ (p : Int) + 6 + 1) = false := decide_eq_false (by omega)
                      have dk2b : decide ((s.size : Int) ≤ (p : Int) + 7) = false := decide_eq_false (by omega)
                      have q5 : (0 : Int) ≤ (p : Int) + 6 + 1 := by omega
                      have q6 : (p : Int) + 6 + 1 < (s.size : Int) := by omega
                      have q5b : (0 : Int) ≤ (p : Int) + 7 := by omega
                      have q6b : (p : Int) + 7 < (s.size : Int) := by omega
                      have hg7 := get_byte (s := s) (q := p + 7) (by omega)
                      rw [if_neg (show ¬ (s.size ≤ p + 2 + 4 ∨ (s.size ≤ p + 2 + 4 + 1 ∧ byteAt s (p + 2 + 4) = 92)) from fun h => h.elim (fun h => by omega) (fun h => by omega))] at hR
                      by_cases k117 : byteAt s (p + 7) = 117
                      · have d117 : (((byteAt s (p + 7)).toNat : Int) != 117) = false := by rw [k117]; rfl
                        rw [if_neg (show ¬ (byteAt s (p + 2 + 4) ≠ 92 ∨ byteAt s (p + 2 + 4 + 1) ≠ 117) from fun h => h.elim (fun h => h k92) (fun h => h k117))] at hR
                        have hf2 := fun W => rfour_any s (p + 8) W hs (by omega)
                        have e3 : ((p + 8 : Nat) : Int) = (p : Int) + 8 := by omega
                        rw [e3] at hf2
                        have hrg2 := fourR_range s (p + 8)
                        rw [show p + 2 + 4 + 2 = p + 8 from rfl] at hR
                        generalize fourR s 4 0 (p + 8) = r2 at *
                        obtain ⟨m, f2⟩ := r2
                        simp only at hR hf2 hrg2
                        have HF2 := Lib.hid hf2
                        clear hf2 e3 k92 k117
                        generalize byteAt s (p + 6) = b6 at *
                        generalize byteAt s (p + 7) = b7 at *
                        by_cases hf2 : f2 = 0
                        · have df2 : (f2 != 0) = false := by simpa using hf2
                          rw [if_neg (show ¬ f2 ≠ 0 from fun h => h hf2)] at hR
                          have hm := hrg2 hf2
                          clear hrg2
                          by_cases hbad : m < 56320 ∨ 57343 < m
                          · rw [if_pos hbad] at hR
                            subst hR
                            subst hf
                            subst hf2
                            by_cases hb1 : m < 56320
                            · have db1 : decide (m < 56320) = true := decide_eq_true hb1
                              clear hbad
                              go_wp2_with fail
                              refine Calls.mono (HF1.out _) ?_
                              rintro e w2 ⟨rfl, rfl⟩
                              go_wp2_with fail
                              refine Calls.mono (HF2.out _) ?_
                              rintro e w2 ⟨rfl, rfl⟩
                              go_wp2_with fail
                              go_ret3
                              exact ⟨rfl, HB.out⟩
                            · have db1 : decide (m < 56320) = false := decide_eq_false hb1
                              have db2 : decide (57343 < m) = true := decide_eq_true (by omega)
                              clear hbad
                              go_wp2_with fail
                              refine Calls.mono (HF1.out _) ?_
                              rintro e w2 ⟨rfl, rfl⟩
                              go_wp2_with fail
                              refine Calls.mono (HF2.out _) ?_
                              rintro e w2 ⟨rfl, rfl⟩
                              go_wp2_with fail
                              go_ret3
                              exact ⟨rfl, HB.out⟩
                          · rw [if_neg hbad] at hR
                            have db1 : decide (m < 56320) = false := decide_eq_false (by omega)
                            have db2 : decide (57343 < m) = false := decide_eq_false (by omega)
                            subst hf
                            subst hf2
                            have hte : textR (65536 + (n - 55296) * 1024 + (m - 56320)) = some (Lib.encodeRune (65536 + (n - 55296) * 1024 + (m - 56320))) := by unfold textR; rw [if_neg (by omega)]
                            rw [hte] at hR
                            have htx := fun W => rtext_any (65536 + (n - 55296) * 1024 + (m - 56320)) W
                            rw [hte] at htx
                            simp only [textV] at htx
                            simp only at hR
                            subst hR
                            obtain ⟨l, hl⟩ : ∃ l, l = Lib.encodeRune (65536 + (n - 55296) * 1024 + (m - 56320)) := ⟨_, rfl⟩
                            rw [← hl] at htx
                            have HL := Lib.hid hl
                            clear hl
                            have HTX := Lib.hid htx
                            clear htx hte hbad
                            go_wp2_with fail
                            refine Calls.mono (HF1.out _) ?_
                            rintro e w2 ⟨rfl, rfl⟩
                            go_wp2_with fail
                            refine Calls.mono (HF2.out _) ?_
                            rintro e w2 ⟨rfl, rfl⟩
                            go_wp2_with fail
                            refine Calls.mono (HTX.out _) ?_
                            rintro e w3 ⟨rfl, hb3⟩
                            have HB3 := Lib.hid hb3
                            clear hb3
                            go_wp2_with fail
                            go_ret3
                            refine ⟨Eq.trans (b := Ending.returned (.tuple #[.string ⟨l.toArray⟩, .int .i64 ((p : Int) + 6 + 6), .int .i64 0])) rfl ?_, HB3.out⟩
                            rw [HL.out]
                            exact ret_tri (by omega)
                        · have df2 : (f2 != 0) = true := by simpa using hf2
                          rw [if_pos hf2] at hR
                          subst hR
                          subst hf
                          clear hrg2
                          go_wp2_with fail
                          refine Calls.mono (HF1.out _) ?_
                          rintro e w2 ⟨rfl, rfl⟩
                          go_wp2_with fail
                          refine Calls.mono (HF2.out _) ?_
                          rintro e w2 ⟨rfl, rfl⟩
                          go_wp2_with fail
                          go_ret3
                          exact ⟨rfl, HB.out⟩
                      · have d117 : (((byteAt s (p + 7)).toNat : Int) != 117) = true := by
                          have : (byteAt s (p + 7)).toNat ≠ 117 := fun e => k117 (UInt8.toNat.inj e)
                          simp; omega
                        rw [if_pos (show (byteAt s (p + 2 + 4) ≠ 92 ∨ byteAt s (p + 2 + 4 + 1) ≠ 117) from Or.inr k117)] at hR
                        subst hR
                        subst hf
                        clear k92 k117
                        generalize byteAt s (p + 6) = b6 at *
                        generalize byteAt s (p + 7) = b7 at *
                        go_wp2_with fail
                        refine Calls.mono (HF1.out _) ?_
                        rintro e w2 ⟨rfl, rfl⟩
                        go_wp2_with fail
                        go_ret3
                        exact ⟨rfl, HB.out⟩
                  · have d92 : (((byteAt s (p + 6)).toNat : Int) == 92) = false := by
                      have : (byteAt s (p + 6)).toNat ≠ 92 := fun e => k92 (UInt8.toNat.inj e)
                      simp; omega
                    have d92' : (((byteAt s (p + 6)).toNat : Int) != 92) = true := by
                      have : (byteAt s (p + 6)).toNat ≠ 92 := fun e => k92 (UInt8.toNat.inj e)
                      simp; omega
                    rw [if_neg (show ¬ (s.size ≤ p + 2 + 4 ∨ (s.size ≤ p + 2 + 4 + 1 ∧ byteAt s (p + 2 + 4) = 92)) from fun h => h.elim (fun h => by omega) (fun h => k92 h.2)), if_pos (show (byteAt s (p + 2 + 4) ≠ 92 ∨ byteAt s (p + 2 + 4 + 1) ≠ 117) from Or.inl k92)] at hR
                    subst hR
                    subst hf
                    clear k92
                    generalize byteAt s (p + 6) = b6 at *
                    by_cases k2 : s.size ≤ p + 7
                    · have dk2 : decide ((s.size : Int) ≤ (p : Int) + 6 + 1) = true := decide_eq_true (by omega)
                      have dk2b : decide ((s.size : Int) ≤ (p : Int) + 7) = true := decide_eq_true (by omega)
                      go_wp2_with fail
                      refine Calls.mono (HF1.out _) ?_
                      rintro e w2 ⟨rfl, rfl⟩
                      go_wp2_with fail
                      go_ret3
                      exact ⟨rfl, HB.out⟩
                    · have dk2 : decide ((s.size : Int) ≤ (p : Int) + 6 + 1) = false := decide_eq_false (by omega)
                      have dk2b : decide ((s.size : Int) ≤ (p : Int) + 7) = false := decide_eq_false (by omega)
                      go_wp2_with fail
                      refine Calls.mono (HF1.out _) ?_
                      rintro e w2 ⟨rfl, rfl⟩
                      go_wp2_with fail
                      go_ret3
                      exact ⟨rfl, HB.out⟩
              · rw [if_neg hpr] at hR
                subst hf
                have htx := fun W => rtext_any n W
                rcases hte : textR n with _ | l
                · rw [hte] at hR htx
                  simp only [textV] at htx
                  simp only at hR
                  subst hR
                  have HTX := Lib.hid htx
                  clear htx hte
                  by_cases g1 : 55296 ≤ n
                  · have dg1 : decide (55296 ≤ n) = true := decide_eq_true g1
                    have dg2 : decide (n ≤ 56319) = false := decide_eq_false (by omega)
                    clear hpr
                    go_wp2_with fail
                    refine Calls.mono (HF1.out _) ?_
                    rintro e w2 ⟨rfl, rfl⟩
                    go_wp2_with fail
                    refine Calls.mono (HTX.out _) ?_
                    rintro e w3 ⟨rfl, hb3⟩
                    have HB3 := Lib.hid hb3
                    clear hb3
                    go_wp2_with fail
                    go_ret3
                    first | exact ⟨rfl, HB3.out⟩ | exact ⟨ret_tri (S := ⟨l.toArray⟩) (a := (p : Int) + 6) (z := 0) (by omega), HB3.out⟩
                  · have dg1 : decide (55296 ≤ n) = false := decide_eq_false g1
                    clear hpr
                    go_wp2_with fail
                    refine Calls.mono (HF1.out _) ?_
                    rintro e w2 ⟨rfl, rfl⟩
                    go_wp2_with fail
                    refine Calls.mono (HTX.out _) ?_
                    rintro e w3 ⟨rfl, hb3⟩
                    have HB3 := Lib.hid hb3
                    clear hb3
                    go_wp2_with fail
                    go_ret3
                    first | exact ⟨rfl, HB3.out⟩ | exact ⟨ret_tri (S := ⟨l.toArray⟩) (a := (p : Int) + 6) (z := 0) (by omega), HB3.out⟩
                · rw [hte] at hR htx
                  simp only [textV] at htx
                  simp only at hR
                  subst hR
                  have HTX := Lib.hid htx
                  clear htx hte
                  by_cases g1 : 55296 ≤ n
                  · have dg1 : decide (55296 ≤ n) = true := decide_eq_true g1
                    have dg2 : decide (n ≤ 56319) = false := decide_eq_false (by omega)
                    clear hpr
                    go_wp2_with fail
                    refine Calls.mono (HF1.out _) ?_
                    rintro e w2 ⟨rfl, rfl⟩
                    go_wp2_with fail
                    refine Calls.mono (HTX.out _) ?_
                    rintro e w3 ⟨rfl, hb3⟩
                    have HB3 := Lib.hid hb3
                    clear hb3
                    go_wp2_with fail
                    go_ret3
                    first | exact ⟨rfl, HB3.out⟩ | exact ⟨ret_tri (S := ⟨l.toArray⟩) (a := (p : Int) + 6) (z := 0) (by omega), HB3.out⟩
                  · have dg1 : decide (55296 ≤ n) = false := decide_eq_false g1
                    clear hpr
                    go_wp2_with fail
                    refine Calls.mono (HF1.out _) ?_
                    rintro e w2 ⟨rfl, rfl⟩
                    go_wp2_with fail
                    refine Calls.mono (HTX.out _) ?_
                    rintro e w3 ⟨rfl, hb3⟩
                    have HB3 := Lib.hid hb3
                    clear hb3
                    go_wp2_with fail
                    go_ret3
                    first | exact ⟨rfl, HB3.out⟩ | exact ⟨ret_tri (S := ⟨l.toArray⟩) (a := (p : Int) + 6) (z := 0) (by omega), HB3.out⟩
            · have df : (f != 0) = true := by simpa using hf
              rw [if_pos hf] at hR
              subst hR
              clear hrg
              go_wp2_with fail
              refine Calls.mono (HF1.out _) ?_
              rintro e w2 ⟨rfl, rfl⟩
              go_wp2_with fail
              go_ret3
              exact ⟨rfl, HB.out⟩
          · rw [if_pos h117] at hR
            subst hR
            have dd : ((c.toNat : Int) != 117) = true := by
              have : c.toNat ≠ 117 := fun e => h117 (UInt8.toNat.inj e)
              simp; omega
            clear HC h117 h47
            go_wp2_with fail
            go_ret3
            exact ⟨rfl, HB.out⟩
end Go.Proofs.YtjjgbgojlhaapaaGreatDoor
