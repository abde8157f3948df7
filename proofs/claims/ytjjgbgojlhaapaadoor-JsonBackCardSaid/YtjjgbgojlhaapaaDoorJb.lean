/- json: may: the whole tree. -/
import Derived.Test.YtjjgbgojlhaapaaDoorJa
namespace Go.Proofs.YtjjgbgojlhaapaaDoor
open Go.RowKit

theorem JR_later {w w' : World} {F : Nat → Prop} {x : JV} {cs : List Value} (h : JR w F x cs) (hb : Below w.heap.size w w') : JR w' F x cs :=
  JR_mono (fun _ h => h.1) _ _ (JR_frame (fun k hk => hb.block k hk.2) _ _ (JR_bound _ _ h))

def mayJ : Nat → JV → Bool
  | 0, _ => false
  | d + 1, x => oneB x && x.l.all (mayJ d) && x.m.all fun p => mayJ d p.2

theorem all_step {α : Type} {f : α → Bool} {l : List α} {k : Nat} {x : α} (h : l.all f = (l.drop k).all f) (hx : l[k]? = some x) (hf : f x = true) : l.all f = (l.drop (k + 1)).all f := by
  rw [h, drop_of_get hx]; simp [hf]
theorem all_fail {α : Type} {f : α → Bool} {l : List α} {k : Nat} {x : α} (h : l.all f = (l.drop k).all f) (hx : l[k]? = some x) (hf : f x = false) : l.all f = false := by
  rw [h, drop_of_get hx]; simp [hf]
theorem all_end {α : Type} {f : α → Bool} {l : List α} {k : Nat} (h : l.all f = (l.drop k).all f) (hx : l.length = k) : l.all f = true := by
  subst hx
  rw [h]; simp

set_option maxRecDepth 100000 in
set_option maxHeartbeats 4000000 in
theorem jmay_any : ∀ (d : Nat), d ≤ 9223372036854775807 → ∀ (x : JV) (cs : List Value) (F : Nat → Prop) (w : World), JR w F x cs → Tabs w →
    Calls Tryd.prog 56 #[.agg cs.toArray, .int .i64 d] w fun e w' => e = .returned (.bool (mayJ d x)) ∧ Below w.heap.size w w' := by
  intro d
  induction d with
  | zero =>
    intro hd x cs F w h hT
    obtain ⟨A1, n1, c1, A2, n2, c2, rfl⟩ := JR_form h
    clear h hT
    go_enter Tryd.func56, Tryd.ntmps56
    go_wp2_with fail
    go_ret
    exact ⟨rfl, bel_alloc (Below.refl _ _) _⟩
  | succ d ih =>
    intro hd x cs F w h hT
    have IH := Lib.hid (ih (by omega))
    have h0 := h
    obtain ⟨vl, vm, ⟨rfl, hsz⟩, hl, hm⟩ := JR_iff.1 h
    obtain ⟨A1, c1, rfl, hl63, hel⟩ := val_cells hl
    obtain ⟨A2, c2, rfl, hm63, hem⟩ := mem_cells hm
    have hone := fun V hV => one_any x _ F V (JR_later h0 (w' := V) hV) (hT.below hV)
    have HT := Lib.hid hT; have HL := Lib.hid hel; have HM := Lib.hid hem; have HO := Lib.hid hone
    have HD := Lib.hid hd
    have hd1 : ¬ ((d : Int) + 1 < 1) := by omega
    have hd2 : decide ((d : Int) + 1 < 1) = false := by simpa using hd1
    clear hl hm h hT hsz hel hem hone h0 ih hd
    go_enter Tryd.func56, Tryd.ntmps56
    go_wp2_with fail
    have hbA : Below w.heap.size w (w.alloc (.cells #[.int .i64 x.k, .int .i64 x.n, .string x.s, .slice A1 x.l.length c1, .slice A2 x.m.length c2] 55)) := bel_alloc (Below.refl _ _) _
    have l0 := cell_newB w #[.int .i64 x.k, .int .i64 x.n, .string x.s, .slice A1 x.l.length c1, .slice A2 x.m.length c2] 55 3 _ rfl
    have m0 := cell_newB w #[.int .i64 x.k, .int .i64 x.n, .string x.s, .slice A1 x.l.length c1, .slice A2 x.m.length c2] 55 4 _ rfl
    generalize w.alloc (.cells #[.int .i64 x.k, .int .i64 x.n, .string x.s, .slice A1 x.l.length c1, .slice A2 x.m.length c2] 55) = W at *
    cases hon : oneB x with
    | false =>
      have HN := Lib.hid hon
      clear hon
      refine (HO.out _ hbA).mono ?_
      rw [HN.out]
      rintro e w1 ⟨rfl, hb1⟩
      go_wp2_with fail
      go_ret
      exact ⟨ret_bool (by simp [mayJ, HN.out]), bel_trans hbA hb1⟩
    | true =>
      have HN := Lib.hid hon
      clear hon
      refine (HO.out _ hbA).mono ?_
      rw [HN.out]
      rintro e w1 ⟨rfl, hb1⟩
      have l1 := cell_later' hb1 l0
      have m1 := cell_later' hb1 m0
      have hbB := bel_trans hbA hb1
      have HR := Lib.hid (show mayJ (d + 1) x = (x.l.all (mayJ d) && x.m.all fun p => mayJ d p.2) by simp [mayJ, HN.out])
      have hzw : w.heap.size < w1.heap.size := World.block_lt_of_cell? _ _ l1
      clear l0 m0 hb1 HN HO
      generalize hn : x.l.length = n at *
      generalize hnm : x.m.length = m at *
      have Hn := Lib.hid hn; have Hm := Lib.hid hnm
      clear hn hnm
      have hw : wrap64 (d : Int) = (d : Int) := by have := HD.out; simp only [wrap64]; omega
      have HW := Lib.hid hw
      clear hw
      go_wp2_with fail
      go_loopg [6, 19] n (fun gg _ s19 wr => ∃ k : Nat, k ≤ n ∧ n - k ≤ gg ∧ s19 = .int .i64 k ∧ Aside (Below w1.heap.size w1 wr) ∧ Aside (x.l.all (mayJ d) = (x.l.drop k).all (mayJ d)))
      case atStart => exact ⟨0, Nat.zero_le _, by omega, rfl, Below.refl _ _, rfl⟩
      case round =>
        obtain ⟨k, hk, hgg, rfl, HB, HA⟩ := hrel
        have hbw := bel_trans hbB HB.out
        have l2 := cell_later' HB.out l1
        have m2 := cell_later' HB.out m1
        have hzr : w.heap.size < wr.heap.size := World.block_lt_of_cell? _ _ l2
        by_cases hlt : k < n
        · have hltz : (k : Int) < (n : Int) := by omega
          obtain ⟨y, hx⟩ : ∃ p, x.l[k]? = some p := get_ex (by have := Hn.out; omega)
          obtain ⟨b, o, B1, k1, d1, B2, k2, d2, rfl, e0, e1, e2, e3, e4, hjr⟩ := HL.out k y hx
          have r0 := cell_later' hbw e0
          have r1 := cell_later' hbw e1
          have r2 := cell_later' hbw e2
          have r3 := cell_later' hbw e3
          have r4 := cell_later' hbw e4
          have hbr : b < wr.heap.size := World.block_lt_of_cell? _ _ r0
          have hcall := fun V (hV : Below wr.heap.size wr V) => IH.out y _ F V (JR_later hjr (bel_trans hbw hV)) (HT.out.below (bel_trans hbw hV))
          have HX := Lib.hid hx; have HC := Lib.hid hcall
          clear hx hjr e0 e1 e2 e3 e4 hcall
          go_wp2_with fail
          rw [HW.out]
          cases hmy : mayJ d y with
          | false =>
            have HY := Lib.hid hmy
            clear hmy
            refine (HC.out _ (bel_alloc (Below.refl _ _) _)).mono ?_
            rw [HY.out]
            rintro e w5 ⟨rfl, hb5⟩
            go_wp2_with fail
            go_ret
            exact ⟨ret_bool (by rw [HR.out, all_fail HA HX.out HY.out]; rfl), bel_trans hbw (bel_trans (bel_alloc (Below.refl _ _) _) hb5)⟩
          | true =>
            have HY := Lib.hid hmy
            clear hmy
            refine (HC.out _ (bel_alloc (Below.refl _ _) _)).mono ?_
            rw [HY.out]
            rintro e w5 ⟨rfl, hb5⟩
            go_wp2_with fail
            go_roundg (n - (k + 1))
            case measure => omega
            case rel => exact ⟨k + 1, by omega, by omega, by simp, bel_trans HB.out (bel_trans (bel_alloc (Below.refl _ _) _) hb5), all_step HA HX.out HY.out⟩
        · have hmem := all_end HA.out (by have := Hn.out; omega : x.l.length = k)
          have hltz : ¬ ((k : Int) < (n : Int)) := by omega
          have HM1 := Lib.hid hmem
          clear hmem
          go_wp2_with fail
          go_loopg [8, 32] m (fun gg _ s32 wq => ∃ k : Nat, k ≤ m ∧ m - k ≤ gg ∧ s32 = .int .i64 k ∧ Aside (Below wr.heap.size wr wq) ∧ Aside (x.m.all (fun p => mayJ d p.2) = (x.m.drop k).all fun p => mayJ d p.2))
          case atStart => exact ⟨0, Nat.zero_le _, by omega, rfl, Below.refl _ _, rfl⟩
          case round =>
            obtain ⟨k', hk', hgg', rfl, HB', HA'⟩ := hrel
            have hbq := bel_trans hbw HB'.out
            have l3 := cell_later' HB'.out l2
            have m3 := cell_later' HB'.out m2
            have hzq : w.heap.size < wr.heap.size := World.block_lt_of_cell? _ _ l3
            by_cases hlt' : k' < m
            · have hltz' : (k' : Int) < (m : Int) := by omega
              obtain ⟨⟨nm, y⟩, hx⟩ : ∃ p, x.m[k']? = some p := get_ex (by have := Hm.out; omega)
              obtain ⟨b, o, B1, k1, d1, B2, k2, d2, rfl, hnz, e0, e1, e2, e3, e4, e5, hjr⟩ := HM.out k' nm y hx
              have r0 := cell_later' hbq e0
              have r1 := cell_later' hbq e1
              have r2 := cell_later' hbq e2
              have r3 := cell_later' hbq e3
              have r4 := cell_later' hbq e4
              have r5 := cell_later' hbq e5
              have hbr : b < wr.heap.size := World.block_lt_of_cell? _ _ r0
              have hcall := fun V (hV : Below wr.heap.size wr V) => IH.out y _ F V (JR_later hjr (bel_trans hbq hV)) (HT.out.below (bel_trans hbq hV))
              have HX := Lib.hid hx; have HC := Lib.hid hcall
              clear hx hjr e0 e1 e2 e3 e4 e5 hcall hnz
              go_wp2_with fail
              rw [HW.out]
              cases hmy : mayJ d y with
              | false =>
                have HY := Lib.hid hmy
                clear hmy
                refine (HC.out _ (bel_alloc (Below.refl _ _) _)).mono ?_
                rw [HY.out]
                rintro e w5 ⟨rfl, hb5⟩
                go_wp2_with fail
                go_ret
                exact ⟨ret_bool (by rw [HR.out, HM1.out, all_fail HA' HX.out HY.out]; rfl), bel_trans hbq (bel_trans (bel_alloc (Below.refl _ _) _) hb5)⟩
              | true =>
                have HY := Lib.hid hmy
                clear hmy
                refine (HC.out _ (bel_alloc (Below.refl _ _) _)).mono ?_
                rw [HY.out]
                rintro e w5 ⟨rfl, hb5⟩
                go_wp2_with fail
                go_roundg (m - (k' + 1))
                case measure => omega
                case rel => exact ⟨k' + 1, by omega, by omega, by simp, bel_trans HB'.out (bel_trans (bel_alloc (Below.refl _ _) _) hb5), all_step HA' HX.out HY.out⟩
            · have hmem := all_end HA'.out (by have := Hm.out; omega : x.m.length = k')
              have hltz' : ¬ ((k' : Int) < (m : Int)) := by omega
              have HM2 := Lib.hid hmem
              clear hmem
              go_wp2_with fail
              go_ret
              exact ⟨ret_bool (by rw [HR.out, HM1.out, HM2.out]; rfl), hbq⟩

theorem May_any (x : JV) (cs : List Value) (F : Nat → Prop) (w : World) (h : JR w F x cs) (hT : Tabs w) :
    Calls Tryd.prog 26 #[.agg cs.toArray] w fun e w' => e = .returned (.bool (mayJ 64 x)) ∧ Below w.heap.size w w' := by
  obtain ⟨A1, n1, c1, A2, n2, c2, rfl⟩ := JR_form h
  have hc := fun V hV => jmay_any 64 (by omega) x _ F V (JR_later h (w' := V) hV) (hT.below hV)
  have HC := Lib.hid hc
  clear hc h hT
  go_enter Tryd.func26, Tryd.ntmps26
  go_wp2_with fail
  refine (HC.out _ (bel_alloc (Below.refl _ _) _)).mono ?_
  rintro e w5 ⟨rfl, hb5⟩
  go_wp2_with fail
  go_ret
  exact ⟨rfl, bel_trans (bel_alloc (Below.refl _ _) _) hb5⟩
end Go.Proofs.YtjjgbgojlhaapaaDoor
