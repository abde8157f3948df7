/- Parts of the proof: Cn. -/
import Derived.Test.YtjjgbgojlhaapaaGreatDoorZJwr17
import Derived.Test.YtjjgbgojlhaapaaGreatDoorZJwr6
namespace Go.Proofs.YtjjgbgojlhaapaaGreatDoor
open Go.RowKit Go.Lib

theorem ret_int {a b : Int} (h : a = b) : Ending.returned (.int .i64 a) = .returned (.int .i64 b) := by rw [h]
set_option maxRecDepth 100000 in
set_option maxHeartbeats 8000000 in
theorem count_zero (x : JV) (cs : List Value) (F : Nat → Prop) (w : World) (n : Int) (hn0 : -1048576 ≤ n) (hn1 : n ≤ 12000) (h : JR w F x cs) : Calls Tryz.prog 32 #[.agg cs.toArray, .int .i64 n, .int .i64 0] w fun e w' => e = .returned (.int .i64 (countB 0 x n)) ∧ Below w.heap.size w w' := by
    obtain ⟨vl, vm, ⟨rfl, hsz⟩, hl, hm⟩ := JR_iff.1 h
    obtain ⟨A1, c1, rfl, hl63, hel⟩ := val_cells hl
    obtain ⟨A2, c2, rfl, hm63, hem⟩ := mem_cells hm
    have HL := Lib.hid hel; have HM := Lib.hid hem
    have hcap := cap_range x.s
    have hcs : (min (x.s.size : Int) 1048576) = cap20 x.s := rfl
    obtain ⟨N1, hN1⟩ : ∃ z, z = n - 1 - cap20 x.s := ⟨_, rfl⟩
    have hw1 : wrap64 (n - 1) = n - 1 := by unfold wrap64; omega
    have hw2 : wrap64 (n - 1 - cap20 x.s) = N1 := by rw [← hN1]; unfold wrap64; omega
    have hr1 : -2097153 ≤ N1 ∧ N1 ≤ 12000 := by omega
    have HN1 := Lib.hid hr1
    clear hl hm h hsz hel hem hn0 hn1 hcap hN1 hr1
    go_enter Tryz.func32, Tryz.ntmps32
    have hbA : Below w.heap.size w (w.alloc (.cells #[.int .i64 x.k, .int .i64 x.n, .string x.s, .slice A1 x.l.length c1, .slice A2 x.m.length c2] 28)) := bel_alloc (Below.refl _ _) _
    have s0 := cell_newB w #[.int .i64 x.k, .int .i64 x.n, .string x.s, .slice A1 x.l.length c1, .slice A2 x.m.length c2] 28 2 _ rfl
    have l0 := cell_newB w #[.int .i64 x.k, .int .i64 x.n, .string x.s, .slice A1 x.l.length c1, .slice A2 x.m.length c2] 28 3 _ rfl
    have m0 := cell_newB w #[.int .i64 x.k, .int .i64 x.n, .string x.s, .slice A1 x.l.length c1, .slice A2 x.m.length c2] 28 4 _ rfl
    go_upto_region 1 with (fail)
    generalize w.alloc (.cells #[.int .i64 x.k, .int .i64 x.n, .string x.s, .slice A1 x.l.length c1, .slice A2 x.m.length c2] 28) = W at *
    generalize hn : x.l.length = ln at *
    generalize hnm : x.m.length = lm at *
    have Hn := Lib.hid hn; have Hm := Lib.hid hnm
    clear hn hnm
    go_wp2_with fail
    go_loopg [1, 7] ln (fun gg s1 s7 wr => ∃ (k : Nat) (z : Int), k ≤ ln ∧ ln - k ≤ gg ∧ s1 = .int .i64 z ∧ s7 = .int .i64 k ∧ (-2097153 ≤ z ∧ z ≤ 12000) ∧ Aside (Below W.heap.size W wr) ∧ Aside (cntL (fun (_ : JV) (z : Int) => z) x.l N1 = cntL (fun (_ : JV) (z : Int) => z) (x.l.drop k) z))
    case atStart => exact ⟨0, N1, Nat.zero_le _, by omega, congrArg (Value.int IntKind.i64) hw2, rfl, HN1.out, Below.refl _ _, rfl⟩
    case round =>
      clear hw1 hw2
      obtain ⟨k, z, hk, hgg, rfl, rfl, hz, HB, HA⟩ := hrel
      have hbw := bel_trans hbA HB.out
      have l2 := cell_later' HB.out l0
      have m2 := cell_later' HB.out m0
      have hzr : w.heap.size < wr.heap.size := World.block_lt_of_cell? _ _ l2
      have HZ := Lib.hid hz
      clear hz
      by_cases hlt : k < ln
      · have hltz : (k : Int) < (ln : Int) := by omega
        by_cases hpos : 0 < z
        · have hpz : decide (0 < z) = true := by simpa using hpos
          go_wp2_with fail
          go_loopg [1, 8] lm (fun gg s1 s8 wq => ∃ (k : Nat) (y : Int), k ≤ lm ∧ lm - k ≤ gg ∧ s1 = .int .i64 y ∧ s8 = .int .i64 k ∧ Aside (Below wr.heap.size wr wq))
          case atStart => exact ⟨0, z, Nat.zero_le _, by omega, rfl, rfl, Below.refl _ _⟩
          case round =>
            obtain ⟨k', y, hk', hgg', rfl, rfl, HB'⟩ := hrel
            have hbq := bel_trans hbw HB'.out
            have l3 := cell_later' HB'.out l2
            have m3 := cell_later' HB'.out m2
            have hzq : w.heap.size < wr.heap.size := World.block_lt_of_cell? _ _ l3
            by_cases hlt' : k' < lm
            · have hltz' : (k' : Int) < (lm : Int) := by omega
              by_cases hpos : 0 < y
              · have hpz : decide (0 < y) = true := by simpa using hpos
                go_wp2_with fail
                go_ret
                exact ⟨rfl, hbq⟩
              · have hpz : decide (0 < y) = false := by simpa using hpos
                go_wp2_with fail
                go_ret
                exact ⟨rfl, hbq⟩
            · have hltz' : ¬ (k' : Int) < (lm : Int) := by omega
              go_wp2_with fail
              go_ret
              exact ⟨rfl, hbq⟩
        · have hpz : decide (0 < z) = false := by simpa using hpos
          go_wp2_with fail
          go_loopg [1, 8] lm (fun gg s1 s8 wq => ∃ (k : Nat) (y : Int), k ≤ lm ∧ lm - k ≤ gg ∧ s1 = .int .i64 y ∧ s8 = .int .i64 k ∧ Aside (Below wr.heap.size wr wq))
          case atStart => exact ⟨0, z, Nat.zero_le _, by omega, rfl, rfl, Below.refl _ _⟩
          case round =>
            obtain ⟨k', y, hk', hgg', rfl, rfl, HB'⟩ := hrel
            have hbq := bel_trans hbw HB'.out
            have l3 := cell_later' HB'.out l2
            have m3 := cell_later' HB'.out m2
            have hzq : w.heap.size < wr.heap.size := World.block_lt_of_cell? _ _ l3
            by_cases hlt' : k' < lm
            · have hltz' : (k' : Int) < (lm : Int) := by omega
              by_cases hpos : 0 < y
              · have hpz : decide (0 < y) = true := by simpa using hpos
                go_wp2_with fail
                go_ret
                exact ⟨rfl, hbq⟩
              · have hpz : decide (0 < y) = false := by simpa using hpos
                go_wp2_with fail
                go_ret
                exact ⟨rfl, hbq⟩
            · have hltz' : ¬ (k' : Int) < (lm : Int) := by omega
              go_wp2_with fail
              go_ret
              exact ⟨rfl, hbq⟩
      · have hltz : ¬ (k : Int) < (ln : Int) := by omega
        go_wp2_with fail
        go_loopg [1, 8] lm (fun gg s1 s8 wq => ∃ (k : Nat) (y : Int), k ≤ lm ∧ lm - k ≤ gg ∧ s1 = .int .i64 y ∧ s8 = .int .i64 k ∧ Aside (Below wr.heap.size wr wq))
        case atStart => exact ⟨0, z, Nat.zero_le _, by omega, rfl, rfl, Below.refl _ _⟩
        case round =>
          obtain ⟨k', y, hk', hgg', rfl, rfl, HB'⟩ := hrel
          have hbq := bel_trans hbw HB'.out
          have l3 := cell_later' HB'.out l2
          have m3 := cell_later' HB'.out m2
          have hzq : w.heap.size < wr.heap.size := World.block_lt_of_cell? _ _ l3
          by_cases hlt' : k' < lm
          · have hltz' : (k' : Int) < (lm : Int) := by omega
            by_cases hpos : 0 < y
            · have hpz : decide (0 < y) = true := by simpa using hpos
              go_wp2_with fail
              go_ret
              exact ⟨rfl, hbq⟩
            · have hpz : decide (0 < y) = false := by simpa using hpos
              go_wp2_with fail
              go_ret
              exact ⟨rfl, hbq⟩
          · have hltz' : ¬ (k' : Int) < (lm : Int) := by omega
            go_wp2_with fail
            go_ret
            exact ⟨rfl, hbq⟩
set_option maxRecDepth 100000 in
set_option maxHeartbeats 8000000 in
theorem count_succ (d : Nat) (hd : d ≤ 1000000) (ih : ∀ (x : JV) (cs : List Value) (F : Nat → Prop) (w : World) (n : Int), -1048576 ≤ n → n ≤ 12000 → JR w F x cs → Calls Tryz.prog 32 #[.agg cs.toArray, .int .i64 n, .int .i64 (d : Int)] w fun e w' => e = .returned (.int .i64 (countB d x n)) ∧ Below w.heap.size w w' )
    (x : JV) (cs : List Value) (F : Nat → Prop) (w : World) (n : Int) (hn0 : -1048576 ≤ n) (hn1 : n ≤ 12000) (h : JR w F x cs) : Calls Tryz.prog 32 #[.agg cs.toArray, .int .i64 n, .int .i64 ((d : Int) + 1)] w fun e w' => e = .returned (.int .i64 (countB (d + 1) x n)) ∧ Below w.heap.size w w' := by
    obtain ⟨vl, vm, ⟨rfl, hsz⟩, hl, hm⟩ := JR_iff.1 h
    obtain ⟨A1, c1, rfl, hl63, hel⟩ := val_cells hl
    obtain ⟨A2, c2, rfl, hm63, hem⟩ := mem_cells hm
    have HL := Lib.hid hel; have HM := Lib.hid hem
    have hcap := cap_range x.s
    have hcs : (min (x.s.size : Int) 1048576) = cap20 x.s := rfl
    obtain ⟨N1, hN1⟩ : ∃ z, z = n - 1 - cap20 x.s := ⟨_, rfl⟩
    have hw1 : wrap64 (n - 1) = n - 1 := by unfold wrap64; omega
    have hw2 : wrap64 (n - 1 - cap20 x.s) = N1 := by rw [← hN1]; unfold wrap64; omega
    have hr1 : -2097153 ≤ N1 ∧ N1 ≤ 12000 := by omega
    have HR := Lib.hid (show countB (d + 1) x n = cntL (fun p n => countB d p.2 (n - cap20 p.1)) x.m (cntL (countB d) x.l N1) by rw [hN1]; rfl)
    have hwd : wrap64 ((d : Int) + 1 - 1) = (d : Int) := by unfold wrap64; omega
    have hd0 : decide (0 < (d : Int) + 1) = true := decide_eq_true (by omega)
    have hd1 : ((d : Int) + 1 == 0) = false := beq_false_of_ne (by omega)
    have hrg := fun x n => count_range d x n
    have HRG := Lib.hid hrg; have HWD := Lib.hid hwd; have HW := Lib.hid (show wrap64 (d : Int) = (d : Int) by unfold wrap64; omega); have HD1 := Lib.hid hd1
    clear hwd hd1
    have IH := Lib.hid ih
    clear ih hrg hd
    have HN1 := Lib.hid hr1
    clear hl hm h hsz hel hem hn0 hn1 hcap hN1 hr1
    go_enter Tryz.func32, Tryz.ntmps32
    have hbA : Below w.heap.size w (w.alloc (.cells #[.int .i64 x.k, .int .i64 x.n, .string x.s, .slice A1 x.l.length c1, .slice A2 x.m.length c2] 28)) := bel_alloc (Below.refl _ _) _
    have s0 := cell_newB w #[.int .i64 x.k, .int .i64 x.n, .string x.s, .slice A1 x.l.length c1, .slice A2 x.m.length c2] 28 2 _ rfl
    have l0 := cell_newB w #[.int .i64 x.k, .int .i64 x.n, .string x.s, .slice A1 x.l.length c1, .slice A2 x.m.length c2] 28 3 _ rfl
    have m0 := cell_newB w #[.int .i64 x.k, .int .i64 x.n, .string x.s, .slice A1 x.l.length c1, .slice A2 x.m.length c2] 28 4 _ rfl
    go_upto_region 1 with (fail)
    generalize w.alloc (.cells #[.int .i64 x.k, .int .i64 x.n, .string x.s, .slice A1 x.l.length c1, .slice A2 x.m.length c2] 28) = W at *
    generalize hn : x.l.length = ln at *
    generalize hnm : x.m.length = lm at *
    have Hn := Lib.hid hn; have Hm := Lib.hid hnm
    clear hn hnm
    go_wp2_with fail
    go_loopg [1, 7] ln (fun gg s1 s7 wr => ∃ (k : Nat) (z : Int), k ≤ ln ∧ ln - k ≤ gg ∧ s1 = .int .i64 z ∧ s7 = .int .i64 k ∧ (-2097153 ≤ z ∧ z ≤ 12000) ∧ Aside (Below W.heap.size W wr) ∧ Aside (cntL (countB d) x.l N1 = cntL (countB d) (x.l.drop k) z))
    case atStart => exact ⟨0, N1, Nat.zero_le _, by omega, congrArg (Value.int IntKind.i64) hw2, rfl, HN1.out, Below.refl _ _, rfl⟩
    case round =>
      clear hw1 hw2
      obtain ⟨k, z, hk, hgg, rfl, rfl, hz, HB, HA⟩ := hrel
      have hbw := bel_trans hbA HB.out
      have l2 := cell_later' HB.out l0
      have m2 := cell_later' HB.out m0
      have hzr : w.heap.size < wr.heap.size := World.block_lt_of_cell? _ _ l2
      have HZ := Lib.hid hz
      clear hz
      by_cases hlt : k < ln
      · have hltz : (k : Int) < (ln : Int) := by omega
        by_cases hpos : 0 < z
        · have hpz : decide (0 < z) = true := by simpa using hpos
          obtain ⟨q, hx⟩ : ∃ p, x.l[k]? = some p := get_ex (by have := Hn.out; omega)
          obtain ⟨b, o, B1, k1, d1, B2, k2, d2, rfl, e0, e1, e2, e3, e4, hjr⟩ := HL.out k q hx
          have r0 := cell_later' hbw e0
          have r1 := cell_later' hbw e1
          have r2 := cell_later' hbw e2
          have r3 := cell_later' hbw e3
          have r4 := cell_later' hbw e4
          have hbr : b < wr.heap.size := World.block_lt_of_cell? _ _ r0
          have hcall := fun V (hV : Below wr.heap.size wr V) => IH.out q _ F V z (by omega) HZ.out.2 (JR_later hjr (bel_trans hbw hV))
          have hrn := HRG.out q z (by omega) HZ.out.2
          have hstep : cntL (countB d) x.l N1 = cntL (countB d) (x.l.drop (k + 1)) (countB d q z) := HA.out.trans (cntL_drop _ hx hpos)
          have HC := Lib.hid hcall; have HRN := Lib.hid hrn; have HST := Lib.hid hstep
          clear hx hjr e0 e1 e2 e3 e4 hcall hrn hstep
          go_wp2_with fail
          rw [HW.out]
          refine (HC.out _ (Below.refl _ _)).mono ?_
          rintro e w5 ⟨rfl, hb5⟩
          go_wp2_with fail
          go_roundg (ln - (k + 1))
          case measure => omega
          case rel => exact ⟨k + 1, _, by omega, by omega, rfl, by simp, HRN.out, bel_trans HB.out hb5, HST.out⟩
        · have hpz : decide (0 < z) = false := by simpa using hpos
          have hmem : cntL (countB d) x.l N1 = z := HA.out.trans (cntL_neg _ hpos _)
          have HM1 := Lib.hid hmem
          clear hmem
          go_wp2_with fail
          go_loopg [1, 8] lm (fun gg s1 s8 wq => ∃ (k : Nat) (y : Int), k ≤ lm ∧ lm - k ≤ gg ∧ s1 = .int .i64 y ∧ s8 = .int .i64 k ∧ (-2097153 ≤ y ∧ y ≤ 12000) ∧ Aside (Below wr.heap.size wr wq) ∧ Aside (cntL (fun (p : ByteArray × JV) n => countB d p.2 (n - cap20 p.1)) x.m z = cntL (fun (p : ByteArray × JV) n => countB d p.2 (n - cap20 p.1)) (x.m.drop k) y))
          case atStart => exact ⟨0, z, Nat.zero_le _, by omega, rfl, rfl, HZ.out, Below.refl _ _, rfl⟩
          case round =>
            obtain ⟨k', y, hk', hgg', rfl, rfl, hz', HB', HA'⟩ := hrel
            have hbq := bel_trans hbw HB'.out
            have l3 := cell_later' HB'.out l2
            have m3 := cell_later' HB'.out m2
            have hzq : w.heap.size < wr.heap.size := World.block_lt_of_cell? _ _ l3
            have HZ' := Lib.hid hz'
            clear hz' 
            by_cases hlt' : k' < lm
            · have hltz' : (k' : Int) < (lm : Int) := by omega
              by_cases hpos : 0 < y
              · have hpz : decide (0 < y) = true := by simpa using hpos
                obtain ⟨⟨nm, q⟩, hx⟩ : ∃ p, x.m[k']? = some p := get_ex (by have := Hm.out; omega)
                obtain ⟨b, o, B1, k1, d1, B2, k2, d2, rfl, hnz, e0, e1, e2, e3, e4, e5, hjr⟩ := HM.out k' nm q hx
                have r0 := cell_later' hbq e0
                have r1 := cell_later' hbq e1
                have r2 := cell_later' hbq e2
                have r3 := cell_later' hbq e3
                have r4 := cell_later' hbq e4
                have r5 := cell_later' hbq e5
                have hbr : b < wr.heap.size := World.block_lt_of_cell? _ _ r0
                have hcn := cap_range nm
                have hcs2 : (min (nm.size : Int) 1048576) = cap20 nm := rfl
                have hcall := fun V (hV : Below wr.heap.size wr V) => IH.out q _ F V (y - cap20 nm) (by have := HZ'.out; omega) (by have := HZ'.out; omega) (JR_later hjr (bel_trans hbq hV))
                have hrn := HRG.out q (y - cap20 nm) (by have := HZ'.out; omega) (by have := HZ'.out; omega)
                have hstep : cntL (fun (p : ByteArray × JV) n => countB d p.2 (n - cap20 p.1)) x.m z = cntL (fun (p : ByteArray × JV) n => countB d p.2 (n - cap20 p.1)) (x.m.drop (k' + 1)) (countB d q (y - cap20 nm)) := HA'.out.trans (cntL_drop _ hx hpos)
                have hw3 : wrap64 (y - cap20 nm) = y - cap20 nm := by have := HZ'.out; unfold wrap64; omega
                have hw3' : IntKind.i64.wrap (y - cap20 nm) = y - cap20 nm := by rw [IntWalk.i64_left]; exact hw3
                have hwd' : IntKind.i64.wrap ((d : Int) + 1 - 1) = (d : Int) := by rw [IntWalk.i64_left]; exact HWD.out
                have HC := Lib.hid hcall; have HRN := Lib.hid hrn; have HST := Lib.hid hstep
                clear hx hjr e0 e1 e2 e3 e4 e5 hcall hnz hrn hstep hcn
                go_wp2_with fail
                go_still_tail 18, (by kernel_rfl)
                change wpList _ _ _ _ _ wr.drew
                go_wp2_with fail
                rw [HW.out]
                refine (HC.out _ (bel_drew (Below.refl _ _))).mono ?_
                rintro e w5 ⟨rfl, hb5⟩
                go_wp2_with fail
                go_roundg (lm - (k' + 1))
                case measure => omega
                case rel => exact ⟨k' + 1, _, by omega, by omega, rfl, by simp, HRN.out, bel_trans (bel_drew HB'.out) hb5, HST.out⟩
              · have hpz : decide (0 < y) = false := by simpa using hpos
                have hmem : cntL (fun (p : ByteArray × JV) n => countB d p.2 (n - cap20 p.1)) x.m z = y := HA'.out.trans (cntL_neg _ hpos _)
                have HM2 := Lib.hid hmem
                clear hmem
                go_wp2_with fail
                go_ret
                exact ⟨ret_int (by rw [HR.out, HM1.out, HM2.out]), hbq⟩
            · have hltz' : ¬ (k' : Int) < (lm : Int) := by omega
              have hmem : cntL (fun (p : ByteArray × JV) n => countB d p.2 (n - cap20 p.1)) x.m z = y := HA'.out.trans (cntL_end _ (by have := Hm.out; omega))
              have HM2 := Lib.hid hmem
              clear hmem
              go_wp2_with fail
              go_ret
              exact ⟨ret_int (by rw [HR.out, HM1.out, HM2.out]), hbq⟩
      · have hltz : ¬ (k : Int) < (ln : Int) := by omega
        have hmem : cntL (countB d) x.l N1 = z := HA.out.trans (cntL_end _ (by have := Hn.out; omega))
        have HM1 := Lib.hid hmem
        clear hmem
        go_wp2_with fail
        go_loopg [1, 8] lm (fun gg s1 s8 wq => ∃ (k : Nat) (y : Int), k ≤ lm ∧ lm - k ≤ gg ∧ s1 = .int .i64 y ∧ s8 = .int .i64 k ∧ (-2097153 ≤ y ∧ y ≤ 12000) ∧ Aside (Below wr.heap.size wr wq) ∧ Aside (cntL (fun (p : ByteArray × JV) n => countB d p.2 (n - cap20 p.1)) x.m z = cntL (fun (p : ByteArray × JV) n => countB d p.2 (n - cap20 p.1)) (x.m.drop k) y))
        case atStart => exact ⟨0, z, Nat.zero_le _, by omega, rfl, rfl, HZ.out, Below.refl _ _, rfl⟩
        case round =>
          obtain ⟨k', y, hk', hgg', rfl, rfl, hz', HB', HA'⟩ := hrel
          have hbq := bel_trans hbw HB'.out
          have l3 := cell_later' HB'.out l2
          have m3 := cell_later' HB'.out m2
          have hzq : w.heap.size < wr.heap.size := World.block_lt_of_cell? _ _ l3
          have HZ' := Lib.hid hz'
          clear hz' 
          by_cases hlt' : k' < lm
          · have hltz' : (k' : Int) < (lm : Int) := by omega
            by_cases hpos : 0 < y
            · have hpz : decide (0 < y) = true := by simpa using hpos
              obtain ⟨⟨nm, q⟩, hx⟩ : ∃ p, x.m[k']? = some p := get_ex (by have := Hm.out; omega)
              obtain ⟨b, o, B1, k1, d1, B2, k2, d2, rfl, hnz, e0, e1, e2, e3, e4, e5, hjr⟩ := HM.out k' nm q hx
              have r0 := cell_later' hbq e0
              have r1 := cell_later' hbq e1
              have r2 := cell_later' hbq e2
              have r3 := cell_later' hbq e3
              have r4 := cell_later' hbq e4
              have r5 := cell_later' hbq e5
              have hbr : b < wr.heap.size := World.block_lt_of_cell? _ _ r0
              have hcn := cap_range nm
              have hcs2 : (min (nm.size : Int) 1048576) = cap20 nm := rfl
              have hcall := fun V (hV : Below wr.heap.size wr V) => IH.out q _ F V (y - cap20 nm) (by have := HZ'.out; omega) (by have := HZ'.out; omega) (JR_later hjr (bel_trans hbq hV))
              have hrn := HRG.out q (y - cap20 nm) (by have := HZ'.out; omega) (by have := HZ'.out; omega)
              have hstep : cntL (fun (p : ByteArray × JV) n => countB d p.2 (n - cap20 p.1)) x.m z = cntL (fun (p : ByteArray × JV) n => countB d p.2 (n - cap20 p.1)) (x.m.drop (k' + 1)) (countB d q (y - cap20 nm)) := HA'.out.trans (cntL_drop _ hx hpos)
              have hw3 : wrap64 (y - cap20 nm) = y - cap20 nm := by have := HZ'.out; unfold wrap64; omega
              have hw3' : IntKind.i64.wrap (y - cap20 nm) = y - cap20 nm := by rw [IntWalk.i64_left]; exact hw3
              have hwd' : IntKind.i64.wrap ((d : Int) + 1 - 1) = (d : Int) := by rw [IntWalk.i64_left]; exact HWD.out
              have HC := Lib.hid hcall; have HRN := Lib.hid hrn; have HST := Lib.hid hstep
              clear hx hjr e0 e1 e2 e3 e4 e5 hcall hnz hrn hstep hcn
              go_wp2_with fail
              go_still_tail 18, (by kernel_rfl)
              change wpList _ _ _ _ _ wr.drew
              go_wp2_with fail
              rw [HW.out]
              refine (HC.out _ (bel_drew (Below.refl _ _))).mono ?_
              rintro e w5 ⟨rfl, hb5⟩
              go_wp2_with fail
              go_roundg (lm - (k' + 1))
              case measure => omega
              case rel => exact ⟨k' + 1, _, by omega, by omega, rfl, by simp, HRN.out, bel_trans (bel_drew HB'.out) hb5, HST.out⟩
            · have hpz : decide (0 < y) = false := by simpa using hpos
              have hmem : cntL (fun (p : ByteArray × JV) n => countB d p.2 (n - cap20 p.1)) x.m z = y := HA'.out.trans (cntL_neg _ hpos _)
              have HM2 := Lib.hid hmem
              clear hmem
              go_wp2_with fail
              go_ret
              exact ⟨ret_int (by rw [HR.out, HM1.out, HM2.out]), hbq⟩
          · have hltz' : ¬ (k' : Int) < (lm : Int) := by omega
            have hmem : cntL (fun (p : ByteArray × JV) n => countB d p.2 (n - cap20 p.1)) x.m z = y := HA'.out.trans (cntL_end _ (by have := Hm.out; omega))
            have HM2 := Lib.hid hmem
            clear hmem
            go_wp2_with fail
            go_ret
            exact ⟨ret_int (by rw [HR.out, HM1.out, HM2.out]), hbq⟩
theorem count_any : ∀ (d : Nat), d ≤ 1000000 → ∀ (x : JV) (cs : List Value) (F : Nat → Prop) (w : World) (n : Int), -1048576 ≤ n → n ≤ 12000 → JR w F x cs → Calls Tryz.prog 32 #[.agg cs.toArray, .int .i64 n, .int .i64 (d : Int)] w fun e w' => e = .returned (.int .i64 (countB d x n)) ∧ Below w.heap.size w w' 
  | 0, _, x, cs, F, w, n, h0, h1, h => count_zero x cs F w n h0 h1 h
  | d + 1, hd, x, cs, F, w, n, h0, h1, h => count_succ d (by omega) (count_any d (by omega)) x cs F w n h0 h1 h
def fewB (x : JV) : Bool := decide (0 < countB 100 x 12000)
set_option maxRecDepth 100000 in
set_option maxHeartbeats 4000000 in
theorem few_any (x : JV) (cs : List Value) (F : Nat → Prop) (w : World) (h : JR w F x cs) : Calls Tryz.prog 13 #[.agg cs.toArray] w fun e w' => e = .returned (.bool (fewB x)) ∧ Below w.heap.size w w' := by
  have hc := fun V hV => count_any 100 (by omega) x cs F V 12000 (by omega) (by omega) (JR_later h (w' := V) hV)
  obtain ⟨A1, n1, c1, A2, n2, c2, rfl⟩ := JR_form h
  have HC := Lib.hid hc
  clear hc h
  unfold fewB
  go_enter Tryz.func13, Tryz.ntmps13
  go_wp2_with fail
  refine (HC.out _ (bel_alloc (Below.refl _ _) _)).mono ?_
  rintro e w5 ⟨rfl, hb5⟩
  go_wp2_with fail
  go_ret
  exact ⟨rfl, bel_trans (bel_alloc (Below.refl _ _) _) hb5⟩
end Go.Proofs.YtjjgbgojlhaapaaGreatDoor
