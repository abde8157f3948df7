/- Parts of the proof: Cn, Ls, Lq, Ex. -/
import Derived.Test.YtjjgbgojlhaapaaGreatDoorZJls17
import Derived.Test.YtjjgbgojlhaapaaGreatDoorZJls6
import Derived.Test.YtjjgbgojlhaapaaGreatDoorZJls23
import Derived.Test.YtjjgbgojlhaapaaGreatDoorZJls21
import Derived.Test.YtjjgbgojlhaapaaGreatDoorZJls22
import Derived.Test.YtjjgbgojlhaapaaGreatDoorZJls15
import Derived.Deep.CutBlock
import Derived.Test.YtjjgbgojlhaapaaGreatDoorZJls18
import Derived.Test.YtjjgbgojlhaapaaGreatDoorZJls0
import Derived.OrdersHeld
import Derived.Deep.Quiet
import Derived.Deep.RegionHeld3
namespace Go.Proofs.YtjjgbgojlhaapaaGreatDoor
open Go.RowKit Go.Lib

theorem ret_int {a b : Int} (h : a = b) : Ending.returned (.int .i64 a) = .returned (.int .i64 b) := by rw [h]
set_option maxRecDepth 100000 in
set_option maxHeartbeats 8000000 in
theorem count_zero (x : JV) (cs : List Value) (F : Nat → Prop) (w : World) (n : Int) (hn0 : -1048576 ≤ n) (hn1 : n ≤ 12000) (h : JR w F x cs) : Calls Tryz.prog 32 #[.agg cs.toArray, .int .i64 n, .int .i64 0] w fun e w' => e = .returned (.int .i64 (countB 0 x n)) ∧ Below w.heap.size w w' := by
    obtain ⟨vl, vm, ⟨rfl, hsz⟩, hl, hm⟩ := JR_iff.1 h
    obtain ⟨A1, c1, rfl, hl63, hel⟩ := val_cells hl
    obtain ⟨A2, c2, rfl, hm63, hem⟩ := mem_cells hm
    have HL := Lib.hid hel; have HM := Lib.hid hem
    have hcap := cap_range x.s
    have hcs : (min (x.s.size : Int) 1048576) = cap20 x.s := rfl
    obtain ⟨N1, hN1⟩ : ∃ z, z = n - 1 - cap20 x.s := ⟨_, rfl⟩
    have hw1 : wrap64 (n - 1) = n - 1 := by unfold wrap64; omega
    have hw2 : wrap64 (n - 1 - cap20 x.s) = N1 := by rw [← hN1]; unfold wrap64; omega
    have hr1 : -2097153 ≤ N1 ∧ N1 ≤ 12000 := by omega
    have HN1 := Lib.hid hr1
    clear hl hm h hsz hel hem hn0 hn1 hcap hN1 hr1
    go_enter Tryz.func32, Tryz.ntmps32
    have hbA : Below w.heap.size w (w.alloc (.cells #[.int .i64 x.k, .int .i64 x.n, .string x.s, .slice A1 x.l.length c1, .slice A2 x.m.length c2] 28)) := bel_alloc (Below.refl _ _) _
    have s0 := cell_newB w #[.int .i64 x.k, .int .i64 x.n, .string x.s, .slice A1 x.l.length c1, .slice A2 x.m.length c2] 28 2 _ rfl
    have l0 := cell_newB w #[.int .i64 x.k, .int .i64 x.n, .string x.s, .slice A1 x.l.length c1, .slice A2 x.m.length c2] 28 3 _ rfl
    have m0 := cell_newB w #[.int .i64 x.k, .int .i64 x.n, .string x.s, .slice A1 x.l.length c1, .slice A2 x.m.length c2] 28 4 _ rfl
    go_upto_region 1 with (fail)
    generalize w.alloc (.cells #[.int .i64 x.k, .int .i64 x.n, .string x.s, .slice A1 x.l.length c1, .slice A2 x.m.length c2] 28) = W at *
    generalize hn : x.l.length = ln at *
    generalize hnm : x.m.length = lm at *
    have Hn := Lib.hid hn; have Hm := Lib.hid hnm
    clear hn hnm
    go_wp2_with fail
    go_loopg [1, 7] ln (fun gg s1 s7 wr => ∃ (k : Nat) (z : Int), k ≤ ln ∧ ln - k ≤ gg ∧ s1 = .int .i64 z ∧ s7 = .int .i64 k ∧ (-2097153 ≤ z ∧ z ≤ 12000) ∧ Aside (Below W.heap.size W wr) ∧ Aside (cntL (fun (_ : JV) (z : Int) => z) x.l N1 = cntL (fun (_ : JV) (z : Int) => z) (x.l.drop k) z))
    case atStart => exact ⟨0, N1, Nat.zero_le _, by omega, congrArg (Value.int IntKind.i64) hw2, rfl, HN1.out, Below.refl _ _, rfl⟩
    case round =>
      clear hw1 hw2
      obtain ⟨k, z, hk, hgg, rfl, rfl, hz, HB, HA⟩ := hrel
      have hbw := bel_trans hbA HB.out
      have l2 := cell_later' HB.out l0
      have m2 := cell_later' HB.out m0
      have hzr : w.heap.size < wr.heap.size := World.block_lt_of_cell? _ _ l2
      have HZ := Lib.hid hz
      clear hz
      by_cases hlt : k < ln
      · have hltz : (k : Int) < (ln : Int) := by omega
        by_cases hpos : 0 < z
        · have hpz : decide (0 < z) = true := by simpa using hpos
          go_wp2_with fail
          go_loopg [1, 8] lm (fun gg s1 s8 wq => ∃ (k : Nat) (y : Int), k ≤ lm ∧ lm - k ≤ gg ∧ s1 = .int .i64 y ∧ s8 = .int .i64 k ∧ Aside (Below wr.heap.size wr wq))
          case atStart => exact ⟨0, z, Nat.zero_le _, by omega, rfl, rfl, Below.refl _ _⟩
          case round =>
            obtain ⟨k', y, hk', hgg', rfl, rfl, HB'⟩ := hrel
            have hbq := bel_trans hbw HB'.out
            have l3 := cell_later' HB'.out l2
            have m3 := cell_later' HB'.out m2
            have hzq : w.heap.size < wr.heap.size := World.block_lt_of_cell? _ _ l3
            by_cases hlt' : k' < lm
            · have hltz' : (k' : Int) < (lm : Int) := by omega
              by_cases hpos : 0 < y
              · have hpz : decide (0 < y) = true := by simpa using hpos
                go_wp2_with fail
                go_ret
                exact ⟨rfl, hbq⟩
              · have hpz : decide (0 < y) = false := by simpa using hpos
                go_wp2_with fail
                go_ret
                exact ⟨rfl, hbq⟩
            · have hltz' : ¬ (k' : Int) < (lm : Int) := by omega
              go_wp2_with fail
              go_ret
              exact ⟨rfl, hbq⟩
        · have hpz : decide (0 < z) = false := by simpa using hpos
          go_wp2_with fail
          go_loopg [1, 8] lm (fun gg s1 s8 wq => ∃ (k : Nat) (y : Int), k ≤ lm ∧ lm - k ≤ gg ∧ s1 = .int .i64 y ∧ s8 = .int .i64 k ∧ Aside (Below wr.heap.size wr wq))
          case atStart => exact ⟨0, z, Nat.zero_le _, by omega, rfl, rfl, Below.refl _ _⟩
          case round =>
            obtain ⟨k', y, hk', hgg', rfl, rfl, HB'⟩ := hrel
            have hbq := bel_trans hbw HB'.out
            have l3 := cell_later' HB'.out l2
            have m3 := cell_later' HB'.out m2
            have hzq : w.heap.size < wr.heap.size := World.block_lt_of_cell? _ _ l3
            by_cases hlt' : k' < lm
            · have hltz' : (k' : Int) < (lm : Int) := by omega
              by_cases hpos : 0 < y
              · have hpz : decide (0 < y) = true := by simpa using hpos
                go_wp2_with fail
                go_ret
                exact ⟨rfl, hbq⟩
              · have hpz : decide (0 < y) = false := by simpa using hpos
                go_wp2_with fail
                go_ret
                exact ⟨rfl, hbq⟩
            · have hltz' : ¬ (k' : Int) < (lm : Int) := by omega
              go_wp2_with fail
              go_ret
              exact ⟨rfl, hbq⟩
      · have hltz : ¬ (k : Int) < (ln : Int) := by omega
        go_wp2_with fail
        go_loopg [1, 8] lm (fun gg s1 s8 wq => ∃ (k : Nat) (y : Int), k ≤ lm ∧ lm - k ≤ gg ∧ s1 = .int .i64 y ∧ s8 = .int .i64 k ∧ Aside (Below wr.heap.size wr wq))
        case atStart => exact ⟨0, z, Nat.zero_le _, by omega, rfl, rfl, Below.refl _ _⟩
        case round =>
          obtain ⟨k', y, hk', hgg', rfl, rfl, HB'⟩ := hrel
          have hbq := bel_trans hbw HB'.out
          have l3 := cell_later' HB'.out l2
          have m3 := cell_later' HB'.out m2
          have hzq : w.heap.size < wr.heap.size := World.block_lt_of_cell? _ _ l3
          by_cases hlt' : k' < lm
          · have hltz' : (k' : Int) < (lm : Int) := by omega
            by_cases hpos : 0 < y
            · have hpz : decide (0 < y) = true := by simpa using hpos
              go_wp2_with fail
              go_ret
              exact ⟨rfl, hbq⟩
            · have hpz : decide (0 < y) = false := by simpa using hpos
              go_wp2_with fail
              go_ret
              exact ⟨rfl, hbq⟩
          · have hltz' : ¬ (k' : Int) < (lm : Int) := by omega
            go_wp2_with fail
            go_ret
            exact ⟨rfl, hbq⟩
set_option maxRecDepth 100000 in
set_option maxHeartbeats 8000000 in
theorem count_succ (d : Nat) (hd : d ≤ 1000000) (ih : ∀ (x : JV) (cs : List Value) (F : Nat → Prop) (w : World) (n : Int), -1048576 ≤ n → n ≤ 12000 → JR w F x cs → Calls Tryz.prog 32 #[.agg cs.toArray, .int .i64 n, .int .i64 (d : Int)] w fun e w' => e = .returned (.int .i64 (countB d x n)) ∧ Below w.heap.size w w' )
    (x : JV) (cs : List Value) (F : Nat → Prop) (w : World) (n : Int) (hn0 : -1048576 ≤ n) (hn1 : n ≤ 12000) (h : JR w F x cs) : Calls Tryz.prog 32 #[.agg cs.toArray, .int .i64 n, .int .i64 ((d : Int) + 1)] w fun e w' => e = .returned (.int .i64 (countB (d + 1) x n)) ∧ Below w.heap.size w w' := by
    obtain ⟨vl, vm, ⟨rfl, hsz⟩, hl, hm⟩ := JR_iff.1 h
    obtain ⟨A1, c1, rfl, hl63, hel⟩ := val_cells hl
    obtain ⟨A2, c2, rfl, hm63, hem⟩ := mem_cells hm
    have HL := Lib.hid hel; have HM := Lib.hid hem
    have hcap := cap_range x.s
    have hcs : (min (x.s.size : Int) 1048576) = cap20 x.s := rfl
    obtain ⟨N1, hN1⟩ : ∃ z, z = n - 1 - cap20 x.s := ⟨_, rfl⟩
    have hw1 : wrap64 (n - 1) = n - 1 := by unfold wrap64; omega
    have hw2 : wrap64 (n - 1 - cap20 x.s) = N1 := by rw [← hN1]; unfold wrap64; omega
    have hr1 : -2097153 ≤ N1 ∧ N1 ≤ 12000 := by omega
    have HR := Lib.hid (show countB (d + 1) x n = cntL (fun p n => countB d p.2 (n - cap20 p.1)) x.m (cntL (countB d) x.l N1) by rw [hN1]; rfl)
    have hwd : wrap64 ((d : Int) + 1 - 1) = (d : Int) := by unfold wrap64; omega
    have hd0 : decide (0 < (d : Int) + 1) = true := decide_eq_true (by omega)
    have hd1 : ((d : Int) + 1 == 0) = false := beq_false_of_ne (by omega)
    have hrg := fun x n => count_range d x n
    have HRG := Lib.hid hrg; have HWD := Lib.hid hwd; have HW := Lib.hid (show wrap64 (d : Int) = (d : Int) by unfold wrap64; omega); have HD1 := Lib.hid hd1
    clear hwd hd1
    have IH := Lib.hid ih
    clear ih hrg hd
    have HN1 := Lib.hid hr1
    clear hl hm h hsz hel hem hn0 hn1 hcap hN1 hr1
    go_enter Tryz.func32, Tryz.ntmps32
    have hbA : Below w.heap.size w (w.alloc (.cells #[.int .i64 x.k, .int .i64 x.n, .string x.s, .slice A1 x.l.length c1, .slice A2 x.m.length c2] 28)) := bel_alloc (Below.refl _ _) _
    have s0 := cell_newB w #[.int .i64 x.k, .int .i64 x.n, .string x.s, .slice A1 x.l.length c1, .slice A2 x.m.length c2] 28 2 _ rfl
    have l0 := cell_newB w #[.int .i64 x.k, .int .i64 x.n, .string x.s, .slice A1 x.l.length c1, .slice A2 x.m.length c2] 28 3 _ rfl
    have m0 := cell_newB w #[.int .i64 x.k, .int .i64 x.n, .string x.s, .slice A1 x.l.length c1, .slice A2 x.m.length c2] 28 4 _ rfl
    go_upto_region 1 with (fail)
    generalize w.alloc (.cells #[.int .i64 x.k, .int .i64 x.n, .string x.s, .slice A1 x.l.length c1, .slice A2 x.m.length c2] 28) = W at *
    generalize hn : x.l.length = ln at *
    generalize hnm : x.m.length = lm at *
    have Hn := Lib.hid hn; have Hm := Lib.hid hnm
    clear hn hnm
    go_wp2_with fail
    go_loopg [1, 7] ln (fun gg s1 s7 wr => ∃ (k : Nat) (z : Int), k ≤ ln ∧ ln - k ≤ gg ∧ s1 = .int .i64 z ∧ s7 = .int .i64 k ∧ (-2097153 ≤ z ∧ z ≤ 12000) ∧ Aside (Below W.heap.size W wr) ∧ Aside (cntL (countB d) x.l N1 = cntL (countB d) (x.l.drop k) z))
    case atStart => exact ⟨0, N1, Nat.zero_le _, by omega, congrArg (Value.int IntKind.i64) hw2, rfl, HN1.out, Below.refl _ _, rfl⟩
    case round =>
      clear hw1 hw2
      obtain ⟨k, z, hk, hgg, rfl, rfl, hz, HB, HA⟩ := hrel
      have hbw := bel_trans hbA HB.out
      have l2 := cell_later' HB.out l0
      have m2 := cell_later' HB.out m0
      have hzr : w.heap.size < wr.heap.size := World.block_lt_of_cell? _ _ l2
      have HZ := Lib.hid hz
      clear hz
      by_cases hlt : k < ln
      · have hltz : (k : Int) < (ln : Int) := by omega
        by_cases hpos : 0 < z
        · have hpz : decide (0 < z) = true := by simpa using hpos
          obtain ⟨q, hx⟩ : ∃ p, x.l[k]? = some p := get_ex (by have := Hn.out; omega)
          obtain ⟨b, o, B1, k1, d1, B2, k2, d2, rfl, e0, e1, e2, e3, e4, hjr⟩ := HL.out k q hx
          have r0 := cell_later' hbw e0
          have r1 := cell_later' hbw e1
          have r2 := cell_later' hbw e2
          have r3 := cell_later' hbw e3
          have r4 := cell_later' hbw e4
          have hbr : b < wr.heap.size := World.block_lt_of_cell? _ _ r0
          have hcall := fun V (hV : Below wr.heap.size wr V) => IH.out q _ F V z (by omega) HZ.out.2 (JR_later hjr (bel_trans hbw hV))
          have hrn := HRG.out q z (by omega) HZ.out.2
          have hstep : cntL (countB d) x.l N1 = cntL (countB d) (x.l.drop (k + 1)) (countB d q z) := HA.out.trans (cntL_drop _ hx hpos)
          have HC := Lib.hid hcall; have HRN := Lib.hid hrn; have HST := Lib.hid hstep
          clear hx hjr e0 e1 e2 e3 e4 hcall hrn hstep
          go_wp2_with fail
          rw [HW.out]
          refine (HC.out _ (Below.refl _ _)).mono ?_
          rintro e w5 ⟨rfl, hb5⟩
          go_wp2_with fail
          go_roundg (ln - (k + 1))
          case measure => omega
          case rel => exact ⟨k + 1, _, by omega, by omega, rfl, by simp, HRN.out, bel_trans HB.out hb5, HST.out⟩
        · have hpz : decide (0 < z) = false := by simpa using hpos
          have hmem : cntL (countB d) x.l N1 = z := HA.out.trans (cntL_neg _ hpos _)
          have HM1 := Lib.hid hmem
          clear hmem
          go_wp2_with fail
          go_loopg [1, 8] lm (fun gg s1 s8 wq => ∃ (k : Nat) (y : Int), k ≤ lm ∧ lm - k ≤ gg ∧ s1 = .int .i64 y ∧ s8 = .int .i64 k ∧ (-2097153 ≤ y ∧ y ≤ 12000) ∧ Aside (Below wr.heap.size wr wq) ∧ Aside (cntL (fun (p : ByteArray × JV) n => countB d p.2 (n - cap20 p.1)) x.m z = cntL (fun (p : ByteArray × JV) n => countB d p.2 (n - cap20 p.1)) (x.m.drop k) y))
          case atStart => exact ⟨0, z, Nat.zero_le _, by omega, rfl, rfl, HZ.out, Below.refl _ _, rfl⟩
          case round =>
            obtain ⟨k', y, hk', hgg', rfl, rfl, hz', HB', HA'⟩ := hrel
            have hbq := bel_trans hbw HB'.out
            have l3 := cell_later' HB'.out l2
            have m3 := cell_later' HB'.out m2
            have hzq : w.heap.size < wr.heap.size := World.block_lt_of_cell? _ _ l3
            have HZ' := Lib.hid hz'
            clear hz' 
            by_cases hlt' : k' < lm
            · have hltz' : (k' : Int) < (lm : Int) := by omega
              by_cases hpos : 0 < y
              · have hpz : decide (0 < y) = true := by simpa using hpos
                obtain ⟨⟨nm, q⟩, hx⟩ : ∃ p, x.m[k']? = some p := get_ex (by have := Hm.out; omega)
                obtain ⟨b, o, B1, k1, d1, B2, k2, d2, rfl, hnz, e0, e1, e2, e3, e4, e5, hjr⟩ := HM.out k' nm q hx
                have r0 := cell_later' hbq e0
                have r1 := cell_later' hbq e1
                have r2 := cell_later' hbq e2
                have r3 := cell_later' hbq e3
                have r4 := cell_later' hbq e4
                have r5 := cell_later' hbq e5
                have hbr : b < wr.heap.size := World.block_lt_of_cell? _ _ r0
                have hcn := cap_range nm
                have hcs2 : (min (nm.size : Int) 1048576) = cap20 nm := rfl
                have hcall := fun V (hV : Below wr.heap.size wr V) => IH.out q _ F V (y - cap20 nm) (by have := HZ'.out; omega) (by have := HZ'.out; omega) (JR_later hjr (bel_trans hbq hV))
                have hrn := HRG.out q (y - cap20 nm) (by have := HZ'.out; omega) (by have := HZ'.out; omega)
                have hstep : cntL (fun (p : ByteArray × JV) n => countB d p.2 (n - cap20 p.1)) x.m z = cntL (fun (p : ByteArray × JV) n => countB d p.2 (n - cap20 p.1)) (x.m.drop (k' + 1)) (countB d q (y - cap20 nm)) := HA'.out.trans (cntL_drop _ hx hpos)
                have hw3 : wrap64 (y - cap20 nm) = y - cap20 nm := by have := HZ'.out; unfold wrap64; omega
                have hw3' : IntKind.i64.wrap (y - cap20 nm) = y - cap20 nm := by rw [IntWalk.i64_left]; exact hw3
                have hwd' : IntKind.i64.wrap ((d : Int) + 1 - 1) = (d : Int) := by rw [IntWalk.i64_left]; exact HWD.out
                have HC := Lib.hid hcall; have HRN := Lib.hid hrn; have HST := Lib.hid hstep
                clear hx hjr e0 e1 e2 e3 e4 e5 hcall hnz hrn hstep hcn
                go_wp2_with fail
                go_still_tail 18, (by kernel_rfl)
                change wpList _ _ _ _ _ wr.drew
                go_wp2_with fail
                rw [HW.out]
                refine (HC.out _ (bel_drew (Below.refl _ _))).mono ?_
                rintro e w5 ⟨rfl, hb5⟩
                go_wp2_with fail
                go_roundg (lm - (k' + 1))
                case measure => omega
                case rel => exact ⟨k' + 1, _, by omega, by omega, rfl, by simp, HRN.out, bel_trans (bel_drew HB'.out) hb5, HST.out⟩
              · have hpz : decide (0 < y) = false := by simpa using hpos
                have hmem : cntL (fun (p : ByteArray × JV) n => countB d p.2 (n - cap20 p.1)) x.m z = y := HA'.out.trans (cntL_neg _ hpos _)
                have HM2 := Lib.hid hmem
                clear hmem
                go_wp2_with fail
                go_ret
                exact ⟨ret_int (by rw [HR.out, HM1.out, HM2.out]), hbq⟩
            · have hltz' : ¬ (k' : Int) < (lm : Int) := by omega
              have hmem : cntL (fun (p : ByteArray × JV) n => countB d p.2 (n - cap20 p.1)) x.m z = y := HA'.out.trans (cntL_end _ (by have := Hm.out; omega))
              have HM2 := Lib.hid hmem
              clear hmem
              go_wp2_with fail
              go_ret
              exact ⟨ret_int (by rw [HR.out, HM1.out, HM2.out]), hbq⟩
      · have hltz : ¬ (k : Int) < (ln : Int) := by omega
        have hmem : cntL (countB d) x.l N1 = z := HA.out.trans (cntL_end _ (by have := Hn.out; omega))
        have HM1 := Lib.hid hmem
        clear hmem
        go_wp2_with fail
        go_loopg [1, 8] lm (fun gg s1 s8 wq => ∃ (k : Nat) (y : Int), k ≤ lm ∧ lm - k ≤ gg ∧ s1 = .int .i64 y ∧ s8 = .int .i64 k ∧ (-2097153 ≤ y ∧ y ≤ 12000) ∧ Aside (Below wr.heap.size wr wq) ∧ Aside (cntL (fun (p : ByteArray × JV) n => countB d p.2 (n - cap20 p.1)) x.m z = cntL (fun (p : ByteArray × JV) n => countB d p.2 (n - cap20 p.1)) (x.m.drop k) y))
        case atStart => exact ⟨0, z, Nat.zero_le _, by omega, rfl, rfl, HZ.out, Below.refl _ _, rfl⟩
        case round =>
          obtain ⟨k', y, hk', hgg', rfl, rfl, hz', HB', HA'⟩ := hrel
          have hbq := bel_trans hbw HB'.out
          have l3 := cell_later' HB'.out l2
          have m3 := cell_later' HB'.out m2
          have hzq : w.heap.size < wr.heap.size := World.block_lt_of_cell? _ _ l3
          have HZ' := Lib.hid hz'
          clear hz' 
          by_cases hlt' : k' < lm
          · have hltz' : (k' : Int) < (lm : Int) := by omega
            by_cases hpos : 0 < y
            · have hpz : decide (0 < y) = true := by simpa using hpos
              obtain ⟨⟨nm, q⟩, hx⟩ : ∃ p, x.m[k']? = some p := get_ex (by have := Hm.out; omega)
              obtain ⟨b, o, B1, k1, d1, B2, k2, d2, rfl, hnz, e0, e1, e2, e3, e4, e5, hjr⟩ := HM.out k' nm q hx
              have r0 := cell_later' hbq e0
              have r1 := cell_later' hbq e1
              have r2 := cell_later' hbq e2
              have r3 := cell_later' hbq e3
              have r4 := cell_later' hbq e4
              have r5 := cell_later' hbq e5
              have hbr : b < wr.heap.size := World.block_lt_of_cell? _ _ r0
              have hcn := cap_range nm
              have hcs2 : (min (nm.size : Int) 1048576) = cap20 nm := rfl
              have hcall := fun V (hV : Below wr.heap.size wr V) => IH.out q _ F V (y - cap20 nm) (by have := HZ'.out; omega) (by have := HZ'.out; omega) (JR_later hjr (bel_trans hbq hV))
              have hrn := HRG.out q (y - cap20 nm) (by have := HZ'.out; omega) (by have := HZ'.out; omega)
              have hstep : cntL (fun (p : ByteArray × JV) n => countB d p.2 (n - cap20 p.1)) x.m z = cntL (fun (p : ByteArray × JV) n => countB d p.2 (n - cap20 p.1)) (x.m.drop (k' + 1)) (countB d q (y - cap20 nm)) := HA'.out.trans (cntL_drop _ hx hpos)
              have hw3 : wrap64 (y - cap20 nm) = y - cap20 nm := by have := HZ'.out; unfold wrap64; omega
              have hw3' : IntKind.i64.wrap (y - cap20 nm) = y - cap20 nm := by rw [IntWalk.i64_left]; exact hw3
              have hwd' : IntKind.i64.wrap ((d : Int) + 1 - 1) = (d : Int) := by rw [IntWalk.i64_left]; exact HWD.out
              have HC := Lib.hid hcall; have HRN := Lib.hid hrn; have HST := Lib.hid hstep
              clear hx hjr e0 e1 e2 e3 e4 e5 hcall hnz hrn hstep hcn
              go_wp2_with fail
              go_still_tail 18, (by kernel_rfl)
              change wpList _ _ _ _ _ wr.drew
              go_wp2_with fail
              rw [HW.out]
              refine (HC.out _ (bel_drew (Below.refl _ _))).mono ?_
              rintro e w5 ⟨rfl, hb5⟩
              go_wp2_with fail
              go_roundg (lm - (k' + 1))
              case measure => omega
              case rel => exact ⟨k' + 1, _, by omega, by omega, rfl, by simp, HRN.out, bel_trans (bel_drew HB'.out) hb5, HST.out⟩
            · have hpz : decide (0 < y) = false := by simpa using hpos
              have hmem : cntL (fun (p : ByteArray × JV) n => countB d p.2 (n - cap20 p.1)) x.m z = y := HA'.out.trans (cntL_neg _ hpos _)
              have HM2 := Lib.hid hmem
              clear hmem
              go_wp2_with fail
              go_ret
              exact ⟨ret_int (by rw [HR.out, HM1.out, HM2.out]), hbq⟩
          · have hltz' : ¬ (k' : Int) < (lm : Int) := by omega
            have hmem : cntL (fun (p : ByteArray × JV) n => countB d p.2 (n - cap20 p.1)) x.m z = y := HA'.out.trans (cntL_end _ (by have := Hm.out; omega))
            have HM2 := Lib.hid hmem
            clear hmem
            go_wp2_with fail
            go_ret
            exact ⟨ret_int (by rw [HR.out, HM1.out, HM2.out]), hbq⟩
theorem count_any : ∀ (d : Nat), d ≤ 1000000 → ∀ (x : JV) (cs : List Value) (F : Nat → Prop) (w : World) (n : Int), -1048576 ≤ n → n ≤ 12000 → JR w F x cs → Calls Tryz.prog 32 #[.agg cs.toArray, .int .i64 n, .int .i64 (d : Int)] w fun e w' => e = .returned (.int .i64 (countB d x n)) ∧ Below w.heap.size w w' 
  | 0, _, x, cs, F, w, n, h0, h1, h => count_zero x cs F w n h0 h1 h
  | d + 1, hd, x, cs, F, w, n, h0, h1, h => count_succ d (by omega) (count_any d (by omega)) x cs F w n h0 h1 h
def fewB (x : JV) : Bool := decide (0 < countB 100 x 12000)
set_option maxRecDepth 100000 in
set_option maxHeartbeats 4000000 in
theorem few_any (x : JV) (cs : List Value) (F : Nat → Prop) (w : World) (h : JR w F x cs) : Calls Tryz.prog 13 #[.agg cs.toArray] w fun e w' => e = .returned (.bool (fewB x)) ∧ Below w.heap.size w w' := by
  have hc := fun V hV => count_any 100 (by omega) x cs F V 12000 (by omega) (by omega) (JR_later h (w' := V) hV)
  obtain ⟨A1, n1, c1, A2, n2, c2, rfl⟩ := JR_form h
  have HC := Lib.hid hc
  clear hc h
  unfold fewB
  go_enter Tryz.func13, Tryz.ntmps13
  go_wp2_with fail
  refine (HC.out _ (bel_alloc (Below.refl _ _) _)).mono ?_
  rintro e w5 ⟨rfl, hb5⟩
  go_wp2_with fail
  go_ret
  exact ⟨rfl, bel_trans (bel_alloc (Below.refl _ _) _) hb5⟩
end Go.Proofs.YtjjgbgojlhaapaaGreatDoor
namespace Go.Proofs.YtjjgbgojlhaapaaGreatDoor
open Go.RowKit Go.Lib

/-! plain: what the loops gather -/
def lstL (l : List JV) (k : Nat) : List UInt8 := 91 :: joinFrom (printB 64) true (l.take k)
def txtM (q : ByteArray × JV) : List UInt8 := prMem 64 q
def objL (P : List (ByteArray × JV)) (k : Nat) : List UInt8 := 123 :: joinS [32] [10] (prMem 64) true (P.take k)
def szL (P : List (ByteArray × JV)) (k : Nat) : Nat := ((P.take k).map fun q => (printB 64 q.2).length + (quoteB q.1).length + 3).sum
def sepL (k : Nat) (s : List UInt8) : List UInt8 := if k = 0 then [] else s
theorem take_ne {α : Type} {l : List α} {k : Nat} {x : α} (h : l[k]? = some x) (hk : k ≠ 0) : l.take k ≠ [] := fun e => by
  have h1 := congrArg List.length e
  have h2 := lt_of_get h
  rw [List.length_take, List.length_nil] at h1
  omega
theorem lstL_succ {l : List JV} {k : Nat} {x : JV} (h : l[k]? = some x) : lstL l (k + 1) = lstL l k ++ sepL k [44] ++ printB 64 x := by
  unfold lstL sepL
  rw [take_snoc' h]
  by_cases hk : k = 0
  · subst hk; simp [joinFrom]
  · rw [joinF_snoc _ _ _ (take_ne h hk), if_neg hk]; simp
theorem objL_succ {l : List (ByteArray × JV)} {k : Nat} {x : ByteArray × JV} (h : l[k]? = some x) : objL l (k + 1) = objL l k ++ sepL k [32, 44, 10] ++ txtM x := by
  unfold objL sepL txtM
  rw [take_snoc' h]
  by_cases hk : k = 0
  · subst hk; simp [joinS]
  · rw [joinS_snoc _ _ _ _ _ (take_ne h hk), if_neg hk]; simp
theorem szL_succ {l : List (ByteArray × JV)} {k : Nat} {nm : ByteArray} {x : JV} (h : l[k]? = some (nm, x)) : szL l (k + 1) = szL l k + ((printB 64 x).length + (quoteB nm).length + 3) := by
  unfold szL
  rw [take_snoc' h]
  simp
theorem joinF_len {α : Type} (f : α → List UInt8) (l : List α) (b : Bool) : (joinFrom f b l).length ≤ (l.map fun x => (f x).length + 1).sum := by
  have := joinS_len [] [] f l b
  rw [joinS_nil] at this
  simpa using this
theorem lst_len : ∀ (ns : List ByteArray) (l : List JV) (k : Nat), ns.length = l.length → (lstL l k).length ≤ szL (ns.zip l) k + 1 := fun ns l k hn => by
  have h := joinF_len (printB 64) (l.take k) true
  have h2 : ((l.take k).map fun x => (printB 64 x).length + 1).sum ≤ szL (ns.zip l) k := by
    unfold szL
    have e : l.take k = ((ns.zip l).take k).map (·.2) := by rw [List.map_take, List.map_snd_zip (by omega)]
    rw [e, List.map_map]
    exact sum_le _ fun q _ => by simp only [Function.comp]; omega
  unfold lstL
  simp only [List.length_cons]
  omega
theorem obj_len (P : List (ByteArray × JV)) (turn : Nat) : (objL (rotB P turn) P.length).length ≤ szL P P.length + P.length + 1 := by
  have e1 : (rotB P turn).take P.length = rotB P turn := List.take_of_length_le (by rw [rot_length]; exact Nat.le_refl _)
  have h : (joinS [32] [10] (prMem 64) true (rotB P turn)).length ≤ ((rotB P turn).map fun x => (prMem 64 x).length + 3).sum := joinS_len [32] [10] (prMem 64) (rotB P turn) true
  have h3 : ((rotB P turn).map fun x => (prMem 64 x).length + 3).sum = (P.map fun x => (prMem 64 x).length + 3).sum := ((rot_perm P turn).map _).sum_nat
  have h4 : (P.map fun x => (prMem 64 x).length + 3).sum = szL P P.length + P.length := by
    unfold szL
    rw [List.take_length]
    clear h h3 e1
    induction P with
    | nil => rfl
    | cons q P ih =>
      simp only [List.map_cons, List.sum_cons, List.length_cons]
      rw [ih]
      unfold prMem
      simp
      omega
  unfold objL
  rw [e1]
  simp only [List.length_cons]
  omega
theorem szL_mono (P : List (ByteArray × JV)) (k : Nat) (h : ∀ q ∈ P.take k, (printB 64 q.2).length ≤ 360000 ∧ (quoteB q.1).length ≤ 1000) : szL P k ≤ k * 400000 := by
  unfold szL
  have h1 : ((P.take k).map fun q => (printB 64 q.2).length + (quoteB q.1).length + 3).sum ≤ ((P.take k).map fun _ => 400000).sum := sum_le _ fun q hq => by have := h q hq; omega
  have h2 : ((P.take k).map fun _ => 400000).sum = (P.take k).length * 400000 := by
    generalize P.take k = Q
    induction Q with
    | nil => rfl
    | cons q Q ih => simp only [List.map_cons, List.sum_cons, List.length_cons, ih]; omega
  have h3 : (P.take k).length ≤ k := List.length_take_le _ _
  calc _ ≤ _ := h1
    _ = _ := h2
    _ ≤ _ := Nat.mul_le_mul_right _ h3
end Go.Proofs.YtjjgbgojlhaapaaGreatDoor
namespace Go.Proofs.YtjjgbgojlhaapaaGreatDoor
open Go.RowKit Go.Lib

theorem objL_le {R : List (ByteArray × JV)} {j : Nat} : ∀ {k : Nat}, j ≤ k → k ≤ R.length → (objL R j).length ≤ (objL R k).length
  | 0, h, _ => by obtain rfl : j = 0 := by omega
                  exact Nat.le_refl _
  | k + 1, h, hk => by
    rcases Nat.lt_or_ge j (k + 1) with h2 | h2
    · have ih := objL_le (R := R) (j := j) (k := k) (by omega) (by omega)
      obtain ⟨q, hq⟩ : ∃ q, R[k]? = some q := get_ex (by omega)
      rw [objL_succ hq, List.length_append, List.length_append]
      omega
    · obtain rfl : j = k + 1 := by omega
      exact Nat.le_refl _
/-- what json.Get answers at the object's reading -/
def GetsL (l : List JV) (ns : List ByteArray) (W : JV) (once : Bool) : Prop :=
  ∀ (k : Nat) (x : JV) (nm : ByteArray), l[k]? = some x → ns[k]? = some nm → ∃ p, getB nm (memsOf W) = (p, once) ∧ (once = true → p = x)
theorem lists_read {l : List JV} {ns : List ByteArray} (tn : Nat) (hn : ns.length = l.length) (hl : l.length ≤ 12)
    (hall : ∀ q ∈ ns.zip l, mayJ 64 q.2 = true ∧ shortB q.1 = true ∧ (printB 64 q.2).length ≤ 360000 ∧ (quoteB q.1).length ≤ 1000) (hz : szL (ns.zip l) l.length ≤ 15000) :
    ∃ (V W : JV) (ev ew : Int), parseB ⟨(lstL l l.length ++ [93]).toArray⟩ = (V, ev) ∧ parseB ⟨(objL (rotB (ns.zip l) tn) l.length ++ [125]).toArray⟩ = (W, ew) ∧
      (ev = 10 ∨ ew = 10 ∨ (ev = 0 ∧ V = listV l ∧ ew ≠ 10 ∧ (ew = 0 ↔ (uniqB ns).length = ns.length) ∧ LnJ W ∧ (ew = 0 → W.m.length = l.length) ∧ GetsL l ns W (decide ((uniqB ns).length = ns.length)))) := by
  have hzl : (ns.zip l).length = l.length := by rw [List.length_zip]; omega
  have e1 : lstL l l.length ++ [93] = 91 :: (joinFrom (printB 64) true l ++ [93]) := by unfold lstL; rw [List.take_length]; rfl
  have e2 : objL (rotB (ns.zip l) tn) l.length ++ [125] = 123 :: (joinS [32] [10] (prMem 64) true (rotB (ns.zip l) tn) ++ [125]) := by
    unfold objL; rw [List.take_of_length_le (by rw [rot_length]; omega)]; rfl
  have l1 : (91 :: (joinFrom (printB 64) true l ++ [93])).length ≤ 20000 := by
    rw [← e1]
    have := lst_len ns l l.length hn
    rw [List.length_append, List.length_singleton]
    omega
  have l2 : (123 :: (joinS [32] [10] (prMem 64) true (rotB (ns.zip l) tn) ++ [125])).length ≤ 20000 := by
    rw [← e2]
    have := obj_len (ns.zip l) tn
    rw [hzl] at this
    rw [List.length_append, List.length_singleton]
    omega
  have hm : ∀ y ∈ l, mayJ 64 y = true := fun y hy => by
    have h : y ∈ (ns.zip l).map (·.2) := by rw [List.map_snd_zip (by omega)]; exact hy
    obtain ⟨q, hq, rfl⟩ := List.mem_map.1 h
    exact (hall q hq).1
  have hr : ∀ y ∈ rotB (ns.zip l) tn, mayJ 64 y.2 = true ∧ shortB y.1 = true := fun y hy => by
    have h := hall y ((rot_perm _ tn).mem_iff.1 hy)
    exact ⟨h.1, h.2.1⟩
  have hu : (rotB (ns.zip l) tn).Pairwise NmNe ↔ (uniqB ns).length = ns.length := ((rot_pairwise _ tn).trans (zip_names ns l hn)).trans (uniq_len ns).2.symm
  refine ⟨(parseB ⟨(lstL l l.length ++ [93]).toArray⟩).1, (parseB ⟨(objL (rotB (ns.zip l) tn) l.length ++ [125]).toArray⟩).1, (parseB ⟨(lstL l l.length ++ [93]).toArray⟩).2, (parseB ⟨(objL (rotB (ns.zip l) tn) l.length ++ [125]).toArray⟩).2, rfl, rfl, ?_⟩
  rw [e1, e2]
  rcases parse_list hm l1 with h | h
  case inr => exact .inl h
  rw [h]
  rcases parse_object (a := [32]) (b := [10]) (by simp [isBlank]) (by simp [isBlank]) hr l2 with ⟨h, hp⟩ | h | ⟨h, hp⟩
  · have ho := hu.1 hp
    rw [h]
    refine .inr (.inr ⟨rfl, rfl, (show (0 : Int) ≠ 10 by decide), ⟨fun _ => ho, fun _ => rfl⟩, ?_, fun _ => ?_, ?_⟩)
    · have hs := sort_length (rotB (ns.zip l) tn)
      rw [rot_length, hzl] at hs
      refine (LnJ_iff _).2 ⟨⟨by simp [objV, JV.l], ?_⟩, by simp [objV, JV.l], fun q hq => ?_⟩
      · show (sortNames (rotB (ns.zip l) tn)).length ≤ _
        omega
      · have hq' : q ∈ sortNames (rotB (ns.zip l) tn) := hq
        have k := hall q ((rot_perm _ tn).mem_iff.1 ((sort_mem q _).1 hq'))
        exact print_ln 64 q.2 k.1 (by omega)
    · show (sortNames (rotB (ns.zip l) tn)).length = _
      rw [sort_length, rot_length, hzl]
    · intro k x nm hx hnm
      have hq : (nm, x) ∈ rotB (ns.zip l) tn := (rot_perm _ tn).mem_iff.2 (List.mem_of_getElem? (i := k) (by rw [List.getElem?_zip_eq_some]; exact ⟨hnm, hx⟩))
      refine ⟨x, ?_, fun _ => rfl⟩
      rw [getB_sorted hp hq, decide_eq_true ho]
  · exact .inr (.inl h)
  · have ho : ¬ (uniqB ns).length = ns.length := fun h => hp (hu.2 h)
    have hz := parse_zeroV (s := ⟨(123 :: (joinS [32] [10] (prMem 64) true (rotB (ns.zip l) tn) ++ [125])).toArray⟩) (by rw [h]; decide)
    rw [h, hz]
    refine .inr (.inr ⟨rfl, rfl, by decide, ⟨fun h => absurd h (by decide), fun h => absurd h ho⟩, ?_, fun h => absurd h (by decide), ?_⟩)
    · exact (LnJ_iff _).2 ⟨⟨by simp [zeroV, JV.l], by simp [zeroV, JV.m]⟩, by simp [zeroV, JV.l], by simp [zeroV, JV.m]⟩
    · intro k x nm _ _
      refine ⟨zeroV, ?_, fun h => absurd h (by rw [decide_eq_false ho]; decide)⟩
      rw [decide_eq_false ho]
      unfold memsOf
      split <;> rfl
end Go.Proofs.YtjjgbgojlhaapaaGreatDoor
namespace Go.Proofs.YtjjgbgojlhaapaaGreatDoor
open Go.RowKit Go.Lib
section
variable {P : Program} {ops : Array Oper} {Q : Exit → Act → World → Prop} {md : Region.Mode} {E : World → World → Prop}

/-- in every world later than w the operation yields v and leaves a later world -/
def QuietE (P : Program) (ops : Array Oper) (E : World → World → Prop) (o : Oper) (v : Value) (a : Act) (w : World) : Prop :=
  (Region.wanted o (yielded ops a.tmps) = true ∧ ∀ w2, E w w2 → o.quietAt P a (E w2) w2 v) ∨
  (Region.wanted o (yielded ops a.tmps) = false ∧ v = undef)
/-- a frame that reads alike for the operation -/
def SameFor (ops : Array Oper) (o : Oper) (a a' : Act) : Prop :=
  execOp a'.eval o = execOp a.eval o ∧ Region.wanted o (yielded ops a'.tmps) = Region.wanted o (yielded ops a.tmps)
theorem QuietE.same {o : Oper} {v : Value} {a a' : Act} {w : World} (hy : QuietE P ops E o v a w) (h : SameFor ops o a a') : QuietE P ops E o v a' w := by
  unfold QuietE Oper.quietAt at *
  rw [h.1, h.2]
  exact hy
theorem QuietE.later {o : Oper} {v : Value} {a : Act} {w w2 : World} (ht : ∀ a b c, E a b → E b c → E a c) (hy : QuietE P ops E o v a w) (h : E w w2) : QuietE P ops E o v a w2 :=
  hy.imp (fun ⟨h1, h2⟩ => ⟨h1, fun w3 h3 => h2 w3 (ht _ _ _ h h3)⟩) id
theorem QuietE.wpOp {i : Nat} {o : Oper} {v : Value} {a : Act} {w w2 : World} (hr : ∀ w, E w w) (hi : ops[i]? = some o) (hy : QuietE P ops E o v a w) (hE : E w w2)
    {K : Act → World → Prop} (h : ∀ w3, E w2 w3 → K (a.put o.dst v) w3) : wpOp P ops Q i K a w2 := by
  unfold Go.wpOp
  simp only [hi]
  rcases hy with ⟨hw, hv⟩ | ⟨hw, rfl⟩
  · simp only [hw, if_true]
    refine .inl ?_
    have h3 := hv w2 hE
    unfold Oper.quietAt at h3
    unfold Oper.wp
    generalize (execOp a.eval o).run P w2 = r at *
    cases r with
    | ok n w' =>
      cases n <;> simp only [Oper.quietUpon] at h3 <;> simp only [Oper.upon]
      case value u => obtain ⟨rfl, rfl⟩ := h3; exact h _ (hr _)
      case skip => obtain ⟨rfl, rfl⟩ := h3; exact h _ (hr _)
      case enter f args =>
        obtain ⟨rfl, hc⟩ := h3
        exact hc.mono fun e w'' ⟨he, hw''⟩ => by subst he; exact h _ hw''
    | halt x w' => simp only [Oper.quietUpon] at h3
  · simp only [hw, Bool.false_eq_true, if_false]; exact h _ (hr _)
/-- what another operation leaves reads alike for this one -/
theorem wpOp_same {j : Nat} {oi oj : Oper} (hj : ops[j]? = some oj) (hap : oi.apart ops oj = true) (hsi : ∀ cs b, oi.op ≠ .select cs b)
    {K : Act → World → Prop} {a : Act} {w : World} (h : wpOp P ops Q j K a w) : wpOp P ops Q j (fun a' w' => SameFor ops oi a a' ∧ K a' w') a w := by
  obtain ⟨_, _, h3⟩ := Oper.apart_spec hap
  have keep : ∀ u, SameFor ops oi a (a.put oj.dst u) := fun u => ⟨execOp_put oi hsi a oj.dst u h3, wanted_put oi a oj.dst u h3⟩
  unfold Go.wpOp at *
  simp only [hj] at *
  split
  · rename_i hw
    simp only [hw, if_true] at h
    rcases h with h | h
    case inr => exact .inr h
    refine .inl ?_
    unfold Oper.wp at *
    generalize (execOp a.eval oj).run P w = r at *
    cases r with
    | ok n w' =>
      cases n <;> simp only [Oper.upon] at h ⊢
      case value u => exact ⟨keep u, h⟩
      case skip => exact ⟨keep _, h⟩
      case defer d => exact ⟨⟨execOp_put oi hsi { a with defers := d :: a.defers } oj.dst undef h3, wanted_put oi { a with defers := d :: a.defers } oj.dst undef h3⟩, h⟩
      case enter f args =>
        refine Calls.mono h fun e w'' he => ?_
        cases e with
        | returned u => exact ⟨keep u, he⟩
        | panicked c => exact he
        | outgrown => exact he
      case row row args => exact Rows.mono h fun u w'' he => ⟨keep u, he⟩
    | halt x w' => cases x <;> simp only [Oper.upon] at h ⊢ <;> exact h
  · rename_i hw
    simp only [hw] at h
    exact ⟨keep _, h⟩

/-- whatever order is picked from here on, from every later world -/
def wpAnyE (P : Program) (md : Region.Mode) (ops : Array Oper) (Q : Exit → Act → World → Prop) (E : World → World → Prop) : Nat → Array Bool → Act → World → Prop
  | 0, listed, a, w => ∀ w2, E w w2 → Region.ready md ops listed = [] ∧ Q .normal a w2
  | fuel + 1, listed, a, w => ∀ w2, E w w2 →
    (Region.ready md ops listed = [] → Q .normal a w2) ∧
    ∀ i ∈ Region.ready md ops listed, wpOp P ops Q i (fun a' w' => E w2 w' ∧ wpAnyE P md ops Q E fuel (listed.setIfInBounds i true) a' w') a w2
theorem wpAnyE.later (ht : ∀ a b c, E a b → E b c → E a c) : ∀ {fuel : Nat} {listed : Array Bool} {a : Act} {w w2 : World}, wpAnyE P md ops Q E fuel listed a w → E w w2 → wpAnyE P md ops Q E fuel listed a w2
  | 0, _, _, _, _, h, h2 => fun w3 h3 => h w3 (ht _ _ _ h2 h3)
  | _ + 1, _, _, _, _, h, h2 => fun w3 h3 => h w3 (ht _ _ _ h2 h3)
theorem wpAny_of_E (hr : ∀ w, E w w) : ∀ (fuel : Nat) (listed : Array Bool) (a : Act) (w : World), wpAnyE P md ops Q E fuel listed a w → wpAny P md ops Q fuel listed a w
  | 0, _, _, w, h => h w (hr w)
  | fuel + 1, _, _, w, h => ⟨(h w (hr w)).1, fun i hi => wpOp_mono (fun a' w' h' => wpAny_of_E hr fuel _ a' w' h'.2) ((h w (hr w)).2 i hi)⟩
theorem wpAnyE_first (hr : ∀ w, E w w) (ht : ∀ a b c, E a b → E b c → E a c) {i : Nat} {oi : Oper} {v : Value} (hi : ops[i]? = some oi) (hsel : ∀ (j : Nat) (o : Oper) cs b, ops[j]? = some o → o.op ≠ .select cs b)
    (hQ : ∀ c a w, Q (.panic c) (a.put oi.dst v) w → Q (.panic c) a w) :
    ∀ (fuel : Nat) (listed : Array Bool) (a : Act) (w : World),
      (∀ j oj, ops[j]? = some oj → j ≠ i → listed.getD j true = false → (∀ e ∈ oj.after, Region.binds md e = true → e.on ≠ i) → oi.apart ops oj = true) →
      i ∈ Region.ready md ops listed → QuietE P ops E oi v a w →
      wpAnyE P md ops Q E fuel (listed.setIfInBounds i true) (a.put oi.dst v) w → wpAnyE P md ops Q E (fuel + 1) listed a w := by
  intro fuel
  induction fuel with
  | zero =>
    intro listed a w _ hrd hy H w2 hE
    refine ⟨fun h => (by rw [h] at hrd; cases hrd), fun j hj => ?_⟩
    by_cases hji : j = i
    · subst hji; exact hy.wpOp hr hi hE fun w3 h3 => ⟨h3, H.later ht (ht _ _ _ hE h3)⟩
    · have := ready_mono hj hji
      rw [(H w2 hE).1] at this
      cases this
  | succ fuel ih =>
    intro listed a w hfree hrd hy H w2 hE
    refine ⟨fun h => (by rw [h] at hrd; cases hrd), fun j hj => ?_⟩
    by_cases hji : j = i
    · subst hji; exact hy.wpOp hr hi hE fun w3 h3 => ⟨h3, H.later ht (ht _ _ _ hE h3)⟩
    · have h1 := (H w2 hE).2 j (ready_mono hj hji)
      obtain ⟨hjun, oj, hoj, hall⟩ := mem_ready.1 hj
      have hnot : ∀ e ∈ oj.after, Region.binds md e = true → e.on ≠ i := fun e he hb heq => by
        have h1 := hall e he hb
        have h0 := (mem_ready.1 hrd).1
        rw [heq] at h1
        rcases Nat.lt_or_ge i listed.size with h' | h'
        · simp [h'] at h0 h1; rw [h0] at h1; cases h1
        · simp [Array.getElem?_eq_none h'] at h1
      have hap := hfree j oj hoj hji hjun hnot
      have hyF : YieldsIf P ops (fun _ => False) oi v a := hy.imp (fun ⟨hw, _⟩ => ⟨hw, fun _ h => h.elim⟩) id
      have h2 := wpOp_same hoj hap (fun cs b => hsel i oi cs b hi) (wpOp_putIf hoj hap (fun cs b => hsel i oi cs b hi) (fun cs b => hsel j oj cs b hoj) hQ hyF h1)
      have hfree' : ∀ k ok, ops[k]? = some ok → k ≠ i → (listed.setIfInBounds j true).getD k true = false →
          (∀ e ∈ ok.after, Region.binds md e = true → e.on ≠ i) → oi.apart ops ok = true := fun k ok hk hki hun hno => by
        refine hfree k ok hk hki ?_ hno
        by_cases hjk : j = k
        · subst hjk; exact hjun
        · rw [getD_set_ne true hjk] at hun; exact hun
      refine wpOp_mono (fun a' w' h3 => ⟨h3.2.2.1, ih (listed.setIfInBounds j true) a' w' hfree' (ready_mono hrd (Ne.symm hji)) ((hy.later ht (ht _ _ _ hE h3.2.2.1)).same h3.1) ?_⟩) h2
      rw [Array.setIfInBounds_comm _ _ hji]
      exact h3.2.2.2
end
/-- later: what stood stands -/
def Lat (w w2 : World) : Prop := Below w.heap.size w w2
theorem Lat.refl (w : World) : Lat w w := Below.refl _ _
theorem Lat.trans (a b c : World) (h : Lat a b) (k : Lat b c) : Lat a c := Below.trans h (Below.mono k (Below.size h))
section
variable {P : Program} {ops : Array Oper} {Q : Exit → Act → World → Prop} {md : Region.Mode}
theorem wpAnyE_take {i : Nat} {oi : Oper} {v : Value} {fuel : Nat} {listed : Array Bool} {a : Act} {w : World} (hi : ops[i]? = some oi)
    (hs : Region.noSelect ops = true) (hf : Region.free md ops listed i = true) (hr : (Region.ready md ops listed).contains i = true)
    (hQ : ∀ c a w, Q (.panic c) (a.put oi.dst v) w → Q (.panic c) a w) (hy : QuietE P ops Lat oi v a w)
    (h : wpAnyE P md ops Q Lat fuel (listed.setIfInBounds i true) (a.put oi.dst v) w) : wpAnyE P md ops Q Lat (fuel + 1) listed a w :=
  wpAnyE_first Lat.refl Lat.trans hi (Region.noSelect_spec hs) hQ fuel listed a w (Region.free_spec hi hf) (by simpa using hr) hy h
/-- wanted, one value -/
theorem wpAnyE_tk (i : Nat) {oi : Oper} {v : Value} {fuel : Nat} {listed : Array Bool} {a : Act} {w : World} (hi : ops[i]? = some oi)
    (hs : Region.noSelect ops = true) (hf : Region.free md ops listed i = true) (hr : (Region.ready md ops listed).contains i = true)
    (hw : Region.wanted oi (yielded ops a.tmps) = true) (hy : ∀ w2, Lat w w2 → oi.quietAt P a (Lat w2) w2 v)
    (h : wpAnyE P md ops Q Lat fuel (listed.setIfInBounds i true) (a.put oi.dst v) w) (hQ : ∀ c a w, Q (.panic c) (a.put oi.dst v) w → Q (.panic c) a w := by exact fun _ _ _ h => h) : wpAnyE P md ops Q Lat (fuel + 1) listed a w :=
  wpAnyE_take hi hs hf hr hQ (.inl ⟨hw, hy⟩) h
/-- not wanted -/
theorem wpAnyE_sk (i : Nat) {oi : Oper} {fuel : Nat} {listed : Array Bool} {a : Act} {w : World} (hi : ops[i]? = some oi)
    (hs : Region.noSelect ops = true) (hf : Region.free md ops listed i = true) (hr : (Region.ready md ops listed).contains i = true)
    (hw : Region.wanted oi (yielded ops a.tmps) = false)
    (h : wpAnyE P md ops Q Lat fuel (listed.setIfInBounds i true) (a.put oi.dst undef) w) (hQ : ∀ c a w, Q (.panic c) (a.put oi.dst undef) w → Q (.panic c) a w := by exact fun _ _ _ h => h) : wpAnyE P md ops Q Lat (fuel + 1) listed a w :=
  wpAnyE_take hi hs hf hr hQ (.inr ⟨hw, rfl⟩) h
theorem wpAnyE_done {listed : Array Bool} {a : Act} {w : World} (hr : Region.ready md ops listed = []) (h : ∀ w2, Lat w w2 → Q .normal a w2) :
    ∀ fuel, wpAnyE P md ops Q Lat fuel listed a w
  | 0 => fun w2 h2 => ⟨hr, h w2 h2⟩
  | _ + 1 => fun w2 h2 => ⟨fun _ => h w2 h2, by rw [hr]; simp⟩
theorem wp_region_E {id : Nat} {a : Act} {w : World} (hm : P.follows .mixedOrders = true)
    (h : wpAnyE P .any ops Q Lat ops.size (Array.replicate ops.size false) a w.drew) : (Code.region id ops true).wp P Q a w :=
  wp_region_any hm (wpAny_of_E Lat.refl _ _ _ _ h)
end
end Go.Proofs.YtjjgbgojlhaapaaGreatDoor
