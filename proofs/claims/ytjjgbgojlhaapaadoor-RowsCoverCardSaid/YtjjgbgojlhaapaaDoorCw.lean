/- RowsCover: the walk. -/
import Derived.Test.YtjjgbgojlhaapaaDoorCv
import Derived.Test.YtjjgbgojlhaapaaDoorMkQ
import Derived.Test.YtjjgbgojlhaapaaDoorS
namespace Go.Proofs.YtjjgbgojlhaapaaDoor
open Go.RowKit Go.Lib

theorem i64_ne {a : Int} (h : ¬ a = 0) : (a != 0) = true := by simpa using h
set_option maxRecDepth 100000 in
set_option maxHeartbeats 4000000 in
theorem rowsCover_any (sv : Value) (F : Nat → Prop) (xs : List Mk) (m o : Mk) (num when : Int) (w : World) (hs : Sl mkTy w F sv xs) (hT : Tabs w) :
    Calls Tryd.prog 3 #[sv, .agg #[.int .i64 m.t, .int .i64 m.u], .agg #[.int .i64 o.t, .int .i64 o.u], .int .i64 num, .int .i64 when] w fun e w' => e = .returned (.bool true) ∧ Below w.heap.size w w' := by
  have hfirst := first_any
  obtain ⟨A, c, rfl⟩ := hs.form
  have hbA : Below w.heap.size w ((w.alloc (.cells #[.int .i64 m.t, .int .i64 m.u] 24)).alloc (.cells #[.int .i64 o.t, .int .i64 o.u] 24)) := bel_alloc (bel_alloc (Below.refl _ _) _) _
  have c0 : ((w.alloc (.cells #[.int .i64 m.t, .int .i64 m.u] 24)).alloc (.cells #[.int .i64 o.t, .int .i64 o.u] 24)).cell? ⟨w.heap.size, 0, none⟩ = some (.int .i64 m.t) := by simp
  have c1 : ((w.alloc (.cells #[.int .i64 m.t, .int .i64 m.u] 24)).alloc (.cells #[.int .i64 o.t, .int .i64 o.u] 24)).cell? ⟨w.heap.size, 1, none⟩ = some (.int .i64 m.u) := by simp
  have d0 : ((w.alloc (.cells #[.int .i64 m.t, .int .i64 m.u] 24)).alloc (.cells #[.int .i64 o.t, .int .i64 o.u] 24)).cell? ⟨w.heap.size + 1, 0, none⟩ = some (.int .i64 o.t) := by simp
  have d1 : ((w.alloc (.cells #[.int .i64 m.t, .int .i64 m.u] 24)).alloc (.cells #[.int .i64 o.t, .int .i64 o.u] 24)).cell? ⟨w.heap.size + 1, 1, none⟩ = some (.int .i64 o.u) := by simp
  have HA := Lib.hid hbA
  have SL := Lib.hid hs; have HT := Lib.hid hT
  have hadd := fun W (hW : Below w.heap.size w W) => add_any _ _ xs m W (hs.below hW)
  have haddo := fun W (hW : Below w.heap.size w W) => add_any _ _ xs o W (hs.below hW)
  have hcov := fun W (hW : Below w.heap.size w W) => covers_any _ num when _ xs W (hs.below hW)
  have HADD := Lib.hid hadd; have HADDO := Lib.hid haddo; have HCOV := Lib.hid hcov
  clear hs hT hadd haddo hcov hbA
  have hlaw := fun ra => cover_law (xs := xs) (ra := ra) (m := m)
  have hbad := fun zs e => addMk_bad (xs := xs) (zs := zs) (m := m) (e := e)
  have HLAW := Lib.hid hlaw; have HBAD := Lib.hid hbad
  clear hlaw hbad
  generalize hn : xs.length = n at *
  generalize h1 : addMk xs m = r1 at *
  generalize h2 : addMk xs o = r2 at *
  have HN := Lib.hid hn; have H1 := Lib.hid h1; have H2 := Lib.hid h2
  clear hn h1 h2
  obtain ⟨ra, e1⟩ := r1
  obtain ⟨rd, e3⟩ := r2
  rcases Nat.lt_or_ge 50 n with h50 | h50
  · have h50i : (50 : Int) < (n : Int) := by omega
    go_enter Tryd.func3, Tryd.ntmps3
    go_wp2_with fail
    refine Calls.mono (hfirst _) ?_
    rintro e w1 ⟨rfl, hb1⟩
    go_wp2_with fail
    refine Calls.mono (hfirst _) ?_
    rintro e w2 ⟨rfl, hb2⟩
    go_wp2_with fail
    go_ret
    exact ⟨rfl, bel_trans (bel_trans HA.out hb1) hb2⟩
  · have h50i : ¬ (50 : Int) < (n : Int) := by omega
    go_enter Tryd.func3, Tryd.ntmps3
    go_wp2_with fail
    refine Calls.mono (hfirst _) ?_
    rintro e w1 ⟨rfl, hb1⟩
    have c0 := cell_later' hb1 c0
    have c1 := cell_later' hb1 c1
    have d0 := cell_later' hb1 d0
    have d1 := cell_later' hb1 d1
    have hb1w := bel_trans HA.out hb1
    clear hb1
    go_wp2_with fail
    refine Calls.mono (HADD.out _ hb1w) ?_
    rintro e w2 ⟨va, rfl, hb2, ho2⟩
    have c0 := cell_later' hb2 c0
    have c1 := cell_later' hb2 c1
    have d0 := cell_later' hb2 d0
    have d1 := cell_later' hb2 d1
    have hb2w := bel_trans hb1w hb2
    have SA := Lib.hid (own_sl ho2)
    obtain ⟨A2, k2, rfl⟩ := (own_sl ho2).form
    clear hb2 ho2
    simp only at SA
    by_cases he : e1 = 0
    · subst he
      obtain ⟨hma, hcv, htw, hsw⟩ := HLAW.out ra rfl
      have HTW := Lib.hid htw; have HSW := Lib.hid hsw
      have hpm := fun W (hW : Below w2.heap.size w2 W) => putMarks_good _ _ ra W (SA.out.below hW) (HT.out.below (bel_trans hb2w hW)) hma
      have hca := fun W (hW : Below w2.heap.size w2 W) => covers_any _ num when _ ra W (SA.out.below hW)
      have hcx := hcv num when
      rw [hcx] at hca
      have hadm := fun W (hW : Below w2.heap.size w2 W) => add_any _ _ ra m W (SA.out.below hW)
      have hado := fun W (hW : Below w2.heap.size w2 W) => add_any _ _ ra o W (SA.out.below hW)
      have hmk := fun W (hW : Below w2.heap.size w2 W) => marks_any _ _ ra W (SA.out.below hW) (by have := mayB_len hma; omega)
      rw [htw] at hadm
      have HPM := Lib.hid hpm; have HCA := Lib.hid hca; have HADM := Lib.hid hadm; have HADO := Lib.hid hado; have HMK := Lib.hid hmk; have HMA := Lib.hid hma
      clear hpm hca hadm hado hmk hcv hcx htw hsw hma
      generalize hN2 : ra.length = N2 at *
      have HN2 := Lib.hid hN2; clear hN2
      generalize h3 : addMk ra o = r3 at *
      have H3 := Lib.hid h3; clear h3
      obtain ⟨rc, e2⟩ := r3
      go_wp2_with fail
      refine Calls.mono (HPM.out _ (Below.refl _ _)) ?_
      rintro e w3 ⟨rfl, hb3⟩
      have c0 := cell_later' hb3 c0
      have c1 := cell_later' hb3 c1
      have d0 := cell_later' hb3 d0
      have d1 := cell_later' hb3 d1
      go_wp2_with fail
      have hcl := fun W (hW : Below w2.heap.size w2 W) => HCOV.out W (bel_trans hb2w hW)
      have hca := HCA.out
      rw [show covB num when m = (decide (when ≤ m.t) && decide (num < m.u)) from rfl] at hca
      generalize xs.any (covB num when) = cv at *
      have hcase : (cv = true) ∨ (cv = false ∧ decide (num < m.u) = false) ∨ (cv = false ∧ decide (num < m.u) = true ∧ decide (when ≤ m.t) = true) ∨ (cv = false ∧ decide (num < m.u) = true ∧ decide (when ≤ m.t) = false) := by
        cases cv <;> cases decide (num < m.u) <;> cases decide (when ≤ m.t) <;> simp
      clear HCA HCOV HPM
      rcases hcase with rfl | ⟨rfl, ha⟩ | ⟨rfl, ha, hb⟩ | ⟨rfl, ha, hb⟩
      all_goals
        try rw [ha] at hca
        try rw [hb] at hca
        simp only [Bool.true_or, Bool.or_true, Bool.false_or, Bool.or_false, Bool.and_true, Bool.and_false, Bool.true_and, Bool.false_and] at hca
        have HCL := Lib.hid hcl; have HCA := Lib.hid hca
        clear hcl hca
        refine Calls.mono (HCA.out _ hb3) ?_
        rintro e w4 ⟨rfl, hb4⟩
        have c0 := cell_later' hb4 c0
        have c1 := cell_later' hb4 c1
        have d0 := cell_later' hb4 d0
        have d1 := cell_later' hb4 d1
        have hb4 := bel_trans hb3 hb4
        go_wp2_with fail
        refine Calls.mono (HCL.out _ hb4) ?_
        rintro e w5 ⟨rfl, hb5⟩
        have c0 := cell_later' hb5 c0
        have c1 := cell_later' hb5 c1
        have d0 := cell_later' hb5 d0
        have d1 := cell_later' hb5 d1
        have hb5 := bel_trans hb4 hb5
        go_wp2_with fail
        refine Calls.mono (HADM.out _ hb5) ?_
        rintro e w6 ⟨vb, rfl, hb6, ho6⟩
        have c0 := cell_later' hb6 c0
        have c1 := cell_later' hb6 c1
        have d0 := cell_later' hb6 d0
        have d1 := cell_later' hb6 d1
        have hb6 := bel_trans hb5 hb6
        have SB := Lib.hid (own_sl ho6)
        clear ho6
        go_wp2_with fail
        refine Calls.mono (HMK.out _ hb6) ?_
        rintro e w7 ⟨vm, rfl, hb7, ho7⟩
        have c0 := cell_later' hb7 c0
        have c1 := cell_later' hb7 c1
        have d0 := cell_later' hb7 d0
        have d1 := cell_later' hb7 d1
        have sb7 := SB.out.below hb7
        have hb7 := bel_trans hb6 hb7
        have SM := Lib.hid (own_sl ho7); have SB7 := Lib.hid sb7
        clear ho7 sb7
        go_wp2_with fail
        refine Calls.mono (same_true _ _ _ _ ra w7 SB7.out SM.out (by have := mayB_len HMA.out; omega)) ?_
        rintro e w8 ⟨rfl, hb8⟩
        have c0 := cell_later' hb8 c0
        have c1 := cell_later' hb8 c1
        have d0 := cell_later' hb8 d0
        have d1 := cell_later' hb8 d1
        have hb8 := bel_trans hb7 hb8
        go_wp2_with fail
        refine Calls.mono (HADO.out _ hb8) ?_
        rintro e w9 ⟨vc, rfl, hb9, ho9⟩
        have c0 := cell_later' hb9 c0
        have c1 := cell_later' hb9 c1
        have d0 := cell_later' hb9 d0
        have d1 := cell_later' hb9 d1
        have hb9 := bel_trans hb8 hb9
        have SC := Lib.hid (own_sl ho9)
        clear ho9
        go_wp2_with fail
        refine Calls.mono (HADDO.out _ (bel_trans hb2w hb9)) ?_
        rintro e w10 ⟨vd, rfl, hb10, ho10⟩
        have c0 := cell_later' hb10 c0
        have c1 := cell_later' hb10 c1
        have d0 := cell_later' hb10 d0
        have d1 := cell_later' hb10 d1
        have sc10 := SC.out.below hb10
        have hb10 := bel_trans hb9 hb10
        have SD := Lib.hid (own_sl ho10); have SC10 := Lib.hid sc10
        clear ho10 sc10
        by_cases hez : e2 = 0 ∧ e3 = 0
        · obtain ⟨rfl, rfl⟩ := hez
          have hsw := HSW.out o rc rd H3.out H2.out
          have hrc := (addMk_ok H3.out).2.2.1
          have hap := add_any _ _ rd m w10 SD.out
          rw [hsw] at hap
          have HAP := Lib.hid hap; have HRC := Lib.hid hrc
          clear hsw hrc hap
          go_wp2_with fail
          refine Calls.mono HAP.out ?_
          rintro e w11 ⟨vp, rfl, hb11, ho11⟩
          have sc11 := SC10.out.below hb11
          have hb11 := bel_trans hb10 hb11
          have SP := Lib.hid (own_sl ho11); have SC11 := Lib.hid sc11
          clear ho11 sc11
          go_wp2_with fail
          refine Calls.mono (hfirst _) ?_
          rintro e w12 ⟨rfl, hb12⟩
          have sc12 := SC11.out.below hb12
          have sp12 := SP.out.below hb12
          have hb12 := bel_trans hb11 hb12
          have hmk := marks_any _ _ rc w12 sc12 (by have := mayB_len HRC.out; omega)
          have HMK12 := Lib.hid hmk; have SP12 := Lib.hid sp12
          clear hmk sc12 sp12
          go_wp2_with fail
          refine Calls.mono HMK12.out ?_
          rintro e w13 ⟨vq, rfl, hb13, ho13⟩
          have sp13 := SP12.out.below hb13
          have hb13 := bel_trans hb12 hb13
          have SQ := Lib.hid (own_sl ho13); have SP13 := Lib.hid sp13
          clear ho13 sp13
          go_wp2_with fail
          refine Calls.mono (same_true _ _ _ _ rc w13 SP13.out SQ.out (by have := mayB_len HRC.out; omega)) ?_
          rintro e w14 ⟨rfl, hb14⟩
          have hb14 := bel_trans hb13 hb14
          go_wp2_with fail
          go_ret
          exact ⟨rfl, bel_trans hb2w hb14⟩
        · by_cases hz : e2 = 0
          · subst hz
            have he3 : (e3 != 0) = true := by
              have : ¬ e3 = 0 := fun h => hez ⟨rfl, h⟩
              simpa using this
            clear hez
            go_wp2_with fail
            refine Calls.mono (hfirst _) ?_
            rintro e w12 ⟨rfl, hb12⟩
            have hb12 := bel_trans hb10 hb12
            go_wp2_with fail
            go_ret
            exact ⟨rfl, bel_trans hb2w hb12⟩
          · have he2 : (e2 != 0) = true := by simpa using hz
            clear hez hz
            go_wp2_with fail
            refine Calls.mono (hfirst _) ?_
            rintro e w12 ⟨rfl, hb12⟩
            have hb12 := bel_trans hb10 hb12
            go_wp2_with fail
            go_ret
            exact ⟨rfl, bel_trans hb2w hb12⟩
    · have he' := i64_ne he
      have hra := HBAD.out ra e1 rfl he
      subst hra
      simp only [List.length_nil] at SA
      clear HBAD he
      go_wp2_with fail
      refine Calls.mono (hfirst _) ?_
      rintro e w3 ⟨rfl, hb3⟩
      go_wp2_with fail
      go_ret
      exact ⟨rfl, bel_trans hb2w hb3⟩
end Go.Proofs.YtjjgbgojlhaapaaDoor
