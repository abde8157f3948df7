/- Parts of the proof: Sj, MkM, Tw. -/
import Derived.Test.YtlihjmfdnkfmfaaGreatDoorZTwo24
import Derived.Test.YtlihjmfdnkfmfaaGreatDoorZTwo25
import Derived.Test.YtlihjmfdnkfmfaaGreatDoorZTwo23
namespace Go.Proofs.YtlihjmfdnkfmfaaGreatDoor
open Go.RowKit Go.Lib

set_option maxRecDepth 100000 in
set_option maxHeartbeats 16000000 in
theorem getState_any (s : ByteArray) (w : World) (hT : Tabs w) :
    Calls Tryz.prog 40 #[.string s] w fun e w' => e = .returned (.tuple #[(if isT s then .agg #[.int .i64 (gN s nmRead), .int .i64 (gN s nmStar)] else .agg #[.int .i64 0, .int .i64 0]), .bool (isT s)]) ∧ Below w.heap.size w w' := by
  obtain ⟨V, ev, hV⟩ : ∃ V ev, parseB s = (V, ev) := ⟨_, _, rfl⟩
  have hln : LnJ V := by have := parse_lnR s; rw [hV] at this; exact this
  obtain ⟨T1, h1⟩ : ∃ T, gN s nmRead = T := ⟨_, rfl⟩
  obtain ⟨T2, h2⟩ : ∃ T, gN s nmStar = T := ⟨_, rfl⟩
  have hg1 : (getB ⟨#[114, 101, 97, 100]⟩ (memsOf V)).1.n = T1 := by rw [← h1]; unfold gN; rw [hV]; rfl
  have hg2 : (getB ⟨#[115, 116, 97, 114]⟩ (memsOf V)).1.n = T2 := by rw [← h2]; unfold gN; rw [hV]; rfl
  have hU : isT s = isRow (stateOk T1 T2) (stateO T1 T2) s := by unfold isT; rw [h1, h2]
  rw [hU, h1, h2]
  obtain ⟨S, E, hp, hc⟩ := putB_cases (stateOk T1 T2) (stateO T1 T2)
  have HP := Lib.hid (fun (W : World) (hW : Tabs W) => jputState T1 T2 W hW (fun hm => state_len hm))
  rw [hp] at HP
  have hbA : Below w.heap.size w (w.alloc (.cells #[.int .i64 0, .int .i64 0] 89)) := bel_alloc (Below.refl _ _) _
  have hk := heap_alloc_new w (.cells #[.int .i64 0, .int .i64 0] 89)
  have HT := Lib.hid hT; have HV := Lib.hid hV; have HL := Lib.hid hln; have HG1 := Lib.hid hg1; have HG2 := Lib.hid hg2
  clear hT hV hln hg1 hg2 hU h1 h2 hp 
  generalize hR : isRow (stateOk T1 T2) (stateO T1 T2) s = R at *
  go_enter Tryz.func40, Tryz.ntmps40
  go_upto_region 1 with (fail)
  generalize w.alloc (.cells #[.int .i64 0, .int .i64 0] 89) = W0 at *
  have HB := Lib.hid hbA; have HK := Lib.hid hk
  clear hbA hk
  have hcl := rparse_s s HV.out W0 (HT.out.below HB.out)
  have HCL := Lib.hid hcl
  clear hcl
  go_wp2_with fail
  refine Calls.mono HCL.out ?_
  rintro e u ⟨A1, m1, c1, A2, m2, c2, rfl, hj, hb⟩
  obtain ⟨rfl, rfl⟩ := jr_lensR hj
  have hA2 := bel_alloc (Below.refl u.heap.size u) (.cells #[.int .i64 V.k, .int .i64 V.n, .string V.s, .slice A1 V.l.length c1, .slice A2 V.m.length c2] 43)
  have hb2 := bel_trans hb hA2
  have HB2 := Lib.hid (bel_trans HB.out hb2); have HK2 := Lib.hid (Below.at hb2 HK.out)
  have HC := Lib.hid (heap_alloc_new u (.cells #[.int .i64 V.k, .int .i64 V.n, .string V.s, .slice A1 V.l.length c1, .slice A2 V.m.length c2] 43)); have HJ := Lib.hid (JR_later hj hA2)
  clear hA2 hb2 hb hj HCL HB HK HV
  go_upto_region 2 with (fail)
  generalize u.heap.size = X4 at *
  generalize u.alloc (.cells #[.int .i64 V.k, .int .i64 V.n, .string V.s, .slice A1 V.l.length c1, .slice A2 V.m.length c2] 43) = W4 at *
  go_wp2_with fail
  go_cut [5] (fun s5 wx => GtR #[.int .i64 T1, .int .i64 T2] 89 W4 s5 wx)
  case first =>
    have HSS := Lib.hid (show GtS X4 #[.int .i64 V.k, .int .i64 V.n, .string V.s, .slice A1 V.l.length c1, .slice A2 V.m.length c2] W4.drew from HC.out)
    refine PrintLast.wp_region_last_drew (S := GtS X4 #[.int .i64 V.k, .int .i64 V.n, .string V.s, .slice A1 V.l.length c1, .slice A2 V.m.length c2]) (ds := [6]) (by kernel_rfl) HSS.out (fun hHeld => ?_)
    refine PrintLast.tk 0 (v := ?_) rfl (by assumption) ?_ ?_
    rotate_left
    · (intro wX hSw; obtain ⟨z0, z1, z2, z3, z4⟩ := (cells5 (show wX.heap[X4]? = _ from hSw)).1; go_simp; try (with_reducible rfl))
    try simp only [lay]
    refine PrintLast.tk 2 (v := ?_) rfl (by assumption) ?_ ?_
    rotate_left
    · (intro wX hSw; obtain ⟨z0, z1, z2, z3, z4⟩ := (cells5 (show wX.heap[X4]? = _ from hSw)).1; go_simp; try (with_reducible rfl))
    try simp only [lay]
    have HH := Lib.hid hHeld
    have HBD := Lib.hid (bel_drew (Below.refl W4.heap.size W4))
    clear hHeld HSS
    generalize W4.drew = q0 at *
    refine PrintLast.wpAnyLast_ready (rs := [1, 5]) (by kernel_rfl) (by simp) ?_
    refine PrintLast.AllReadyL.cons rfl (by decide) (fun K hK => ?_) (PrintLast.AllReadyL.cons rfl (by decide) (fun K hK => ?_) (PrintLast.AllReadyL.nil))
    · rw [if_pos (by kernel_rfl)]
      go_simp
      have hgc := rn_any V ⟨#[114, 101, 97, 100]⟩ _ _ q0 HL.out (JR_later HJ.out HBD.out)
      rw [HG1.out] at hgc
      go_at_call 92; refine hgc.mono ?_; rintro e q1 ⟨rfl, hbq⟩
      clear hgc
      go_wp2_with fail
      have HHn := Lib.hid (show GtS X4 #[.int .i64 V.k, .int .i64 V.n, .string V.s, .slice A1 V.l.length c1, .slice A2 V.m.length c2] q1 from Below.at hbq HH.out); have HBDn := Lib.hid (bel_trans HBD.out hbq)
      clear hbq HH HBD
      refine hK.out _ _ HHn.out (fun hHeld => ?_)
      clear hK K hHeld
      try simp only [lay]
      have HH := HHn; have HBD := HBDn
      clear HHn HBDn
      refine PrintLast.wpAnyLast_ready (rs := [3, 5]) (by kernel_rfl) (by simp) ?_
      refine PrintLast.AllReadyL.cons rfl (by decide) (fun K hK => ?_) (PrintLast.AllReadyL.cons rfl (by decide) (fun K hK => ?_) (PrintLast.AllReadyL.nil))
      · rw [if_pos (by kernel_rfl)]
        go_simp
        have hgc := rn_any V ⟨#[115, 116, 97, 114]⟩ _ _ q1 HL.out (JR_later HJ.out HBD.out)
        rw [HG2.out] at hgc
        go_at_call 92; refine hgc.mono ?_; rintro e q2 ⟨rfl, hbq⟩
        clear hgc
        go_wp2_with fail
        have HHn := Lib.hid (show GtS X4 #[.int .i64 V.k, .int .i64 V.n, .string V.s, .slice A1 V.l.length c1, .slice A2 V.m.length c2] q2 from Below.at hbq HH.out); have HBDn := Lib.hid (bel_trans HBD.out hbq)
        clear hbq HH HBD
        refine hK.out _ _ HHn.out (fun hHeld => ?_)
        clear hK K hHeld
        try simp only [lay]
        have HH := HHn; have HBD := HBDn
        clear HHn HBDn
        refine PrintLast.wpAnyLast_any (i := 4) (v := ?_) rfl (Region.noSelect_spec (by kernel_rfl)) (fun _ _ _ h => h) _ _ _ _ (Region.free_spec rfl (by kernel_rfl)) (List.contains_iff_mem.1 (by kernel_rfl)) (Or.inl ⟨by kernel_rfl, ?_⟩) ?_
        rotate_left
        · (intro wX; go_simp; try (with_reducible rfl))
        try simp only [lay]
        refine PrintLast.wpAnyLast_ready (rs := [5]) (by kernel_rfl) (by simp) ?_
        refine PrintLast.AllReadyL.cons rfl (by decide) (fun K hK => ?_) (PrintLast.AllReadyL.nil)
        rw [if_pos (by kernel_rfl)]
        go_simp
        have hal := bel_alloc (Below.refl q2.heap.size q2) (.cells #[.int .i64 0, .int .i64 0] 89)
        have HHn := Lib.hid (show GtS X4 #[.int .i64 V.k, .int .i64 V.n, .string V.s, .slice A1 V.l.length c1, .slice A2 V.m.length c2] (q2.alloc (.cells #[.int .i64 0, .int .i64 0] 89)) from Below.at hal HH.out); have HBDn := Lib.hid (bel_trans HBD.out hal)
        have HZ := Lib.hid (heap_alloc_new q2 (.cells #[.int .i64 0, .int .i64 0] 89))
        have HX := Lib.hid HBD.out.size
        clear hal HH HBD
        refine hK.out _ _ HHn.out (fun hHeld => ?_)
        clear hK K hHeld
        try simp only [lay]
        generalize q2.heap.size = X5 at *
        generalize q2.alloc (.cells #[.int .i64 0, .int .i64 0] 89) = q3 at *
        have HH := HHn; have HBD := HBDn
        clear HHn HBDn
        have HRR := Lib.hid (gt2_end (.int .i64 T1) (.int .i64 T2) HZ.out HBD.out HX.out)
        obtain ⟨p0, p1, q0', q1'⟩ := cells2 HZ.out
        clear HZ HBD HH HX
        refine PrintLast.wpAnyLast_ready (rs := [6]) (by kernel_rfl) (by simp) ?_
        refine PrintLast.AllReadyL.cons_last rfl (by decide) (fun K hK => ?_) PrintLast.AllReadyL.nil
        rw [if_pos (by kernel_rfl)]
        go_simp
        refine hK.out _ _ ?_
        clear hK K
        try simp only [lay]
        refine PrintLast.wpAnyLast_done (by kernel_rfl) ?_ _
        go_wp2_with fail
        go_meet
        case rel => exact ⟨X5, rfl, HRR.out⟩
      · rw [if_pos (by kernel_rfl)]
        go_simp
        have hal := bel_alloc (Below.refl q1.heap.size q1) (.cells #[.int .i64 0, .int .i64 0] 89)
        have HHn := Lib.hid (show GtS X4 #[.int .i64 V.k, .int .i64 V.n, .string V.s, .slice A1 V.l.length c1, .slice A2 V.m.length c2] (q1.alloc (.cells #[.int .i64 0, .int .i64 0] 89)) from Below.at hal HH.out); have HBDn := Lib.hid (bel_trans HBD.out hal)
        have HZ := Lib.hid (heap_alloc_new q1 (.cells #[.int .i64 0, .int .i64 0] 89))
        have HX := Lib.hid HBD.out.size
        clear hal HH HBD
        refine hK.out _ _ HHn.out (fun hHeld => ?_)
        clear hK K hHeld
        try simp only [lay]
        generalize q1.heap.size = X5 at *
        generalize q1.alloc (.cells #[.int .i64 0, .int .i64 0] 89) = q2 at *
        have HH := HHn; have HBD := HBDn
        clear HHn HBDn
        refine PrintLast.wpAnyLast_ready (rs := [3]) (by kernel_rfl) (by simp) ?_
        refine PrintLast.AllReadyL.cons rfl (by decide) (fun K hK => ?_) (PrintLast.AllReadyL.nil)
        rw [if_pos (by kernel_rfl)]
        go_simp
        have hgc := rn_any V ⟨#[115, 116, 97, 114]⟩ _ _ q2 HL.out (JR_later HJ.out HBD.out)
        rw [HG2.out] at hgc
        go_at_call 92; refine hgc.mono ?_; rintro e q3 ⟨rfl, hbq⟩
        clear hgc
        go_wp2_with fail
        have HHn := Lib.hid (show GtS X4 #[.int .i64 V.k, .int .i64 V.n, .string V.s, .slice A1 V.l.length c1, .slice A2 V.m.length c2] q3 from Below.at hbq HH.out); have HBDn := Lib.hid (bel_trans HBD.out hbq)
        have HZn := Lib.hid (Below.at hbq HZ.out)
        clear HZ
        clear hbq HH HBD
        refine hK.out _ _ HHn.out (fun hHeld => ?_)
        clear hK K hHeld
        try simp only [lay]
        have HH := HHn; have HBD := HBDn
        clear HHn HBDn
        have HZ := HZn
        clear HZn
        refine PrintLast.wpAnyLast_any (i := 4) (v := ?_) rfl (Region.noSelect_spec (by kernel_rfl)) (fun _ _ _ h => h) _ _ _ _ (Region.free_spec rfl (by kernel_rfl)) (List.contains_iff_mem.1 (by kernel_rfl)) (Or.inl ⟨by kernel_rfl, ?_⟩) ?_
        rotate_left
        · (intro wX; go_simp; try (with_reducible rfl))
        try simp only [lay]
        have HRR := Lib.hid (gt2_end (.int .i64 T1) (.int .i64 T2) HZ.out HBD.out HX.out)
        obtain ⟨p0, p1, q0', q1'⟩ := cells2 HZ.out
        clear HZ HBD HH HX
        refine PrintLast.wpAnyLast_ready (rs := [6]) (by kernel_rfl) (by simp) ?_
        refine PrintLast.AllReadyL.cons_last rfl (by decide) (fun K hK => ?_) PrintLast.AllReadyL.nil
        rw [if_pos (by kernel_rfl)]
        go_simp
        refine hK.out _ _ ?_
        clear hK K
        try simp only [lay]
        refine PrintLast.wpAnyLast_done (by kernel_rfl) ?_ _
        go_wp2_with fail
        go_meet
        case rel => exact ⟨X5, rfl, HRR.out⟩
    · rw [if_pos (by kernel_rfl)]
      go_simp
      have hal := bel_alloc (Below.refl q0.heap.size q0) (.cells #[.int .i64 0, .int .i64 0] 89)
      have HHn := Lib.hid (show GtS X4 #[.int .i64 V.k, .int .i64 V.n, .string V.s, .slice A1 V.l.length c1, .slice A2 V.m.length c2] (q0.alloc (.cells #[.int .i64 0, .int .i64 0] 89)) from Below.at hal HH.out); have HBDn := Lib.hid (bel_trans HBD.out hal)
      have HZ := Lib.hid (heap_alloc_new q0 (.cells #[.int .i64 0, .int .i64 0] 89))
      have HX := Lib.hid HBD.out.size
      clear hal HH HBD
      refine hK.out _ _ HHn.out (fun hHeld => ?_)
      clear hK K hHeld
      try simp only [lay]
      generalize q0.heap.size = X5 at *
      generalize q0.alloc (.cells #[.int .i64 0, .int .i64 0] 89) = q1 at *
      have HH := HHn; have HBD := HBDn
      clear HHn HBDn
      refine PrintLast.wpAnyLast_ready (rs := [1]) (by kernel_rfl) (by simp) ?_
      refine PrintLast.AllReadyL.cons rfl (by decide) (fun K hK => ?_) (PrintLast.AllReadyL.nil)
      rw [if_pos (by kernel_rfl)]
      go_simp
      have hgc := rn_any V ⟨#[114, 101, 97, 100]⟩ _ _ q1 HL.out (JR_later HJ.out HBD.out)
      rw [HG1.out] at hgc
      go_at_call 92; refine hgc.mono ?_; rintro e q2 ⟨rfl, hbq⟩
      clear hgc
      go_wp2_with fail
      have HHn := Lib.hid (show GtS X4 #[.int .i64 V.k, .int .i64 V.n, .string V.s, .slice A1 V.l.length c1, .slice A2 V.m.length c2] q2 from Below.at hbq HH.out); have HBDn := Lib.hid (bel_trans HBD.out hbq)
      have HZn := Lib.hid (Below.at hbq HZ.out)
      clear HZ
      clear hbq HH HBD
      refine hK.out _ _ HHn.out (fun hHeld => ?_)
      clear hK K hHeld
      try simp only [lay]
      have HH := HHn; have HBD := HBDn
      clear HHn HBDn
      have HZ := HZn
      clear HZn
      refine PrintLast.wpAnyLast_ready (rs := [3]) (by kernel_rfl) (by simp) ?_
      refine PrintLast.AllReadyL.cons rfl (by decide) (fun K hK => ?_) (PrintLast.AllReadyL.nil)
      rw [if_pos (by kernel_rfl)]
      go_simp
      have hgc := rn_any V ⟨#[115, 116, 97, 114]⟩ _ _ q2 HL.out (JR_later HJ.out HBD.out)
      rw [HG2.out] at hgc
      go_at_call 92; refine hgc.mono ?_; rintro e q3 ⟨rfl, hbq⟩
      clear hgc
      go_wp2_with fail
      have HHn := Lib.hid (show GtS X4 #[.int .i64 V.k, .int .i64 V.n, .string V.s, .slice A1 V.l.length c1, .slice A2 V.m.length c2] q3 from Below.at hbq HH.out); have HBDn := Lib.hid (bel_trans HBD.out hbq)
      have HZn := Lib.hid (Below.at hbq HZ.out)
      clear HZ
      clear hbq HH HBD
      refine hK.out _ _ HHn.out (fun hHeld => ?_)
      clear hK K hHeld
      try simp only [lay]
      have HH := HHn; have HBD := HBDn
      clear HHn HBDn
      have HZ := HZn
      clear HZn
      refine PrintLast.wpAnyLast_any (i := 4) (v := ?_) rfl (Region.noSelect_spec (by kernel_rfl)) (fun _ _ _ h => h) _ _ _ _ (Region.free_spec rfl (by kernel_rfl)) (List.contains_iff_mem.1 (by kernel_rfl)) (Or.inl ⟨by kernel_rfl, ?_⟩) ?_
      rotate_left
      · (intro wX; go_simp; try (with_reducible rfl))
      try simp only [lay]
      have HRR := Lib.hid (gt2_end (.int .i64 T1) (.int .i64 T2) HZ.out HBD.out HX.out)
      obtain ⟨p0, p1, q0', q1'⟩ := cells2 HZ.out
      clear HZ HBD HH HX
      refine PrintLast.wpAnyLast_ready (rs := [6]) (by kernel_rfl) (by simp) ?_
      refine PrintLast.AllReadyL.cons_last rfl (by decide) (fun K hK => ?_) PrintLast.AllReadyL.nil
      rw [if_pos (by kernel_rfl)]
      go_simp
      refine hK.out _ _ ?_
      clear hK K
      try simp only [lay]
      refine PrintLast.wpAnyLast_done (by kernel_rfl) ?_ _
      go_wp2_with fail
      go_meet
      case rel => exact ⟨X5, rfl, HRR.out⟩
  case rest =>
    obtain ⟨X5, rfl, hx5, hbr⟩ := hcut
    have HB3 := Lib.hid (bel_trans HB2.out hbr); have HK3 := Lib.hid (Below.at hbr HK2.out); have HX5 := Lib.hid hx5
    clear hbr hx5 HB2 HK2 HC HJ
    obtain ⟨p0, p1, _, _⟩ := cells2 HX5.out
    have hcl := HP.out wc (HT.out.below HB3.out)
    have HCL := Lib.hid hcl
    clear hcl
    go_wp2_with fail
    refine Calls.mono HCL.out ?_
    rintro e w6 ⟨rfl, hb6⟩
    have HB6 := Lib.hid (bel_trans HB3.out hb6); have HK6 := Lib.hid (Below.at hb6 HK3.out); have HX6 := Lib.hid (Below.at hb6 HX5.out)
    clear HCL hb6 HB3 HK3 HX5 p0 p1
    obtain ⟨p0, p1, _, _⟩ := cells2 HX6.out
    obtain ⟨u0, u1, t0, t1⟩ := cells2 HK6.out
    rcases hc with ⟨rfl, hc⟩ | ⟨rfl, hc⟩
    · have hr : R = false := by rw [← hR]; exact hc s
      subst hr
      clear hc hR
      have hf := gt2_end (.int .i64 0) (.int .i64 0) HK6.out HB6.out (Nat.le_refl _)
      go_wp2_with fail
      exact bodyPost_ret (results_row_tmp rfl _ _ w.heap.size 89 #[.int .i64 0, .int .i64 0] (0, 0) _ rfl hf.1 Tryz.underlying89 rfl (by kernel_rfl)) rfl ⟨rfl, hf.2⟩
    · have hr : (S.toList == s.toList) = R := by rw [← hR]; exact (hc s).symm
      have hr2 : (S.toList != s.toList) = !R := by rw [bne, hr]
      clear hc hR
      cases R with
      | false =>
        have hf := gt2_end (.int .i64 0) (.int .i64 0) HK6.out HB6.out (Nat.le_refl _)
        go_wp2_with fail
        exact bodyPost_ret (results_row_tmp rfl _ _ w.heap.size 89 #[.int .i64 0, .int .i64 0] (0, 0) _ rfl hf.1 Tryz.underlying89 rfl (by kernel_rfl)) rfl ⟨rfl, hf.2⟩
      | true =>
        have hf := gt2_end (.int .i64 T1) (.int .i64 T2) HK6.out HB6.out (Nat.le_refl _)
        go_wp2_with fail
        exact bodyPost_ret (results_row_tmp rfl _ _ w.heap.size 89 #[.int .i64 T1, .int .i64 T2] (0, 0) _ rfl hf.1 Tryz.underlying89 rfl (by kernel_rfl)) rfl ⟨rfl, hf.2⟩
end Go.Proofs.YtlihjmfdnkfmfaaGreatDoor
namespace Go.Proofs.YtlihjmfdnkfmfaaGreatDoor
open Go.RowKit

set_option maxRecDepth 100000 in
set_option maxHeartbeats 1000000 in
theorem rowsFirst_any (w : World) : Calls Tryz.prog 35 #[] w fun e w' => e = .returned (.bool true) ∧ Below w.heap.size w w' := by
  have a1 := fun (V : World) (B : Nat) h0 h1 => add_any _ _ [⟨100, 5⟩] ⟨50, 10⟩ V (sl_one (m := ⟨100, 5⟩) (B := B) h0 h1)
  have a2 := fun (V : World) (B : Nat) h0 h1 => add_any _ _ [⟨50, 5⟩] ⟨100, 10⟩ V (sl_one (m := ⟨50, 5⟩) (B := B) h0 h1)
  rw [show addMk [⟨100, 5⟩] ⟨50, 10⟩ = ([⟨100, 5⟩, ⟨50, 10⟩], 0) by decide +kernel] at a1
  rw [show addMk [⟨50, 5⟩] ⟨100, 10⟩ = ([⟨100, 10⟩], 0) by decide +kernel] at a2
  go_enter Tryz.func35, Tryz.ntmps35
  go_wp2_with fail
  refine Calls.mono (a1 _ w.heap.size (by simp) (by simp)) ?_
  rintro e w1 ⟨v1, rfl, hb1, ho1⟩
  obtain ⟨A1, c1, rfl, _, hel1⟩ := own_form ho1
  obtain ⟨g1, rfl, hg1, hm1⟩ := hel1 0 ⟨100, 5⟩ rfl
  have hbw1 := bel_trans (bel_alloc (Below.refl _ w) _) hb1
  have m1 := hm1.1
  rw [Nat.zero_mul] at m1
  clear hb1 ho1 hel1 hm1
  go_wp2_with fail
  refine Calls.mono (a2 _ w1.heap.size (by simp) (by simp)) ?_
  rintro e w2 ⟨v2, rfl, hb2, ho2⟩
  obtain ⟨A2, c2, rfl, _, hel2⟩ := own_form ho2
  obtain ⟨g2, rfl, hg2, hm2⟩ := hel2 0 ⟨100, 10⟩ rfl
  have m2 := hm2.2
  rw [Nat.zero_mul, Nat.zero_add] at m2
  have hbb := bel_trans (bel_alloc (Below.refl _ w1) _) hb2
  have m1' := cell_later' hbb m1
  have hbw2 := bel_trans hbw1 hbb
  clear hb2 ho2 hel2 hm2 hbb m1 hbw1 a1 a2
  go_wp2_with fail
  go_ret
  exact ⟨rfl, hbw2⟩
end Go.Proofs.YtlihjmfdnkfmfaaGreatDoor
namespace Go.Proofs.YtlihjmfdnkfmfaaGreatDoor
open Go.RowKit Go.Lib

theorem run_eq_feed (w : World) (a c : ByteArray) (b d : Int) : (binOp .eql 87 (.agg #[.string a, .int .i64 b]) (.agg #[.string c, .int .i64 d])).run Tryz.prog w = .ok (.bool (a.toList == c.toList && b == d)) w := by
  have hu := Tryz.underlying87
  rw [run_eql_struct, run_equalIn_struct (P := Tryz.prog) w 9999 87 _ _ (by kernel_rfl) (by kernel_rfl)]
  simp [Program.fieldsOf, hu, Op.eqFields, part, isAgg, sizeOf]
  go_simp
  by_cases h1 : a.toList = c.toList <;> by_cases h2 : b = d <;> simp [h1, h2]
theorem run_eq_state (w : World) (a c : Int) (b d : Int) : (binOp .eql 89 (.agg #[.int .i64 a, .int .i64 b]) (.agg #[.int .i64 c, .int .i64 d])).run Tryz.prog w = .ok (.bool (a == c && b == d)) w := by
  have hu := Tryz.underlying89
  rw [run_eql_struct, run_equalIn_struct (P := Tryz.prog) w 9999 89 _ _ (by kernel_rfl) (by kernel_rfl)]
  simp [Program.fieldsOf, hu, Op.eqFields, part, isAgg, sizeOf]
  go_simp
  by_cases h1 : a = c <;> by_cases h2 : b = d <;> simp [h1, h2]
set_option maxRecDepth 100000 in
set_option maxHeartbeats 16000000 in
theorem rowsTwo_over (t t' a b : ByteArray) (n n' r st r' st' : Int) (w : World)
    (z0 : t.size ≤ 140737488355328) (z1 : t'.size ≤ 140737488355328) (z2 : a.size ≤ 140737488355328) (z3 : b.size ≤ 140737488355328)
    (hov : 20000 < t.size + t'.size + a.size + b.size) :
    Calls Tryz.prog 8 #[.agg #[.string t, .int .i64 n], .agg #[.string t', .int .i64 n'], .agg #[.int .i64 r, .int .i64 st], .agg #[.int .i64 r', .int .i64 st'], .string a, .string b] w fun e w' => e = .returned (.bool true) ∧ Below w.heap.size w w' := by
  have hfirst := rowsFirst_any
  obtain ⟨s1, s2, s3⟩ := sums4w t.size t'.size a.size b.size z0 z1 z2 z3
  have b1 : decide ((20000 : Int) < (t.size : Int) + (t'.size : Int) + (a.size : Int) + (b.size : Int)) = true := decide_eq_true (by omega)
  have h4 := heap4 w (.cells #[.string t, .int .i64 n] 87) (.cells #[.string t', .int .i64 n'] 87) (.cells #[.int .i64 r, .int .i64 st] 89) (.cells #[.int .i64 r', .int .i64 st'] 89)
  have H4 := Lib.hid h4
  clear z0 z1 z2 z3 hov h4
  go_enter Tryz.func8, Tryz.ntmps8
  go_upto_region 1 with (fail)
  generalize (((w.alloc (.cells #[.string t, .int .i64 n] 87)).alloc (.cells #[.string t', .int .i64 n'] 87)).alloc (.cells #[.int .i64 r, .int .i64 st] 89)).alloc (.cells #[.int .i64 r', .int .i64 st'] 89) = W at *
  go_wp2_with fail
  refine Calls.mono (hfirst _) ?_
  rintro e w1 ⟨rfl, hb1⟩
  have HB1 := Lib.hid (bel_trans H4.out.1 hb1)
  obtain ⟨c0, c1, _, _⟩ := cells2 (Below.at hb1 H4.out.2.1)
  obtain ⟨d0, d1, _, _⟩ := cells2 (Below.at hb1 H4.out.2.2.1)
  clear hb1 H4
  go_wp2_with fail
  refine Calls.mono (hfirst _) ?_
  rintro e w2 ⟨rfl, hb2⟩
  have HB2 := Lib.hid (bel_trans HB1.out hb2)
  clear hb2
  go_wp2_with fail
  go_ret
  exact ⟨rfl, HB2.out⟩
set_option maxRecDepth 100000 in
set_option maxHeartbeats 64000000 in
theorem rowsTwo_in (t t' a b : ByteArray) (n n' r st r' st' : Int) (w : World) (hT : Tabs w) (hin : t.size + t'.size + a.size + b.size ≤ 20000) :
    Calls Tryz.prog 8 #[.agg #[.string t, .int .i64 n], .agg #[.string t', .int .i64 n'], .agg #[.int .i64 r, .int .i64 st], .agg #[.int .i64 r', .int .i64 st'], .string a, .string b] w fun e w' => e = .returned (.bool true) ∧ Below w.heap.size w w' := by
  have hfirst := rowsFirst_any
  obtain ⟨s1, s2, s3⟩ := sums4w t.size t'.size a.size b.size (by omega) (by omega) (by omega) (by omega)
  have b1 : decide ((20000 : Int) < (t.size : Int) + (t'.size : Int) + (a.size : Int) + (b.size : Int)) = false := decide_eq_false (by omega)
  obtain ⟨S0, E0, S1, E1, p0, p1, z0, z1, ways0⟩ := feed_pair n n' t t'
  obtain ⟨S2, E2, S3, E3, p2, p3, z2, z3, ways1⟩ := state_pair r st r' st'
  obtain ⟨S4, E4, S5, E5, p4, p5, z4, z5, ways2⟩ := sub_pair a b
  have hj0 := fun W (hW : Below w.heap.size w W) => jputFeed t n W (by omega) (hT.below hW) (feed_len (by omega))
  have hj1 := fun W (hW : Below w.heap.size w W) => jputFeed t' n' W (by omega) (hT.below hW) (feed_len (by omega))
  have hj2 := fun W (hW : Below w.heap.size w W) => jputState r st W (hT.below hW) state_len
  have hj3 := fun W (hW : Below w.heap.size w W) => jputState r' st' W (hT.below hW) state_len
  have hj4 := fun W (hW : Below w.heap.size w W) => jputSub a W (by omega) (hT.below hW) (sub_len' (by omega))
  have hj5 := fun W (hW : Below w.heap.size w W) => jputSub b W (by omega) (hT.below hW) (sub_len' (by omega))
  simp only [p0] at hj0; simp only [p1] at hj1; simp only [p2] at hj2; simp only [p3] at hj3; simp only [p4] at hj4; simp only [p5] at hj5
  have hg0 := fun W (hW : Below w.heap.size w W) => getFeed_any (S0 ++ ⟨#[32]⟩) W (hT.below hW)
  have hg1 := fun W (hW : Below w.heap.size w W) => getState_any (⟨#[32]⟩ ++ S2) W (hT.below hW)
  have hg2 := fun W (hW : Below w.heap.size w W) => getSub_any (S4 ++ ⟨#[10]⟩) W (hT.below hW)
  simp only [isF_end, isT_head, isU_end, Bool.false_eq_true, if_false] at hg0 hg1 hg2
  have c1 := fun W : World => run_string_add_sum (P := Tryz.prog) W S0 ⟨#[32]⟩ (show S0.size + 1 ≤ 9223372036854775807 by omega)
  have c2 := fun W : World => run_string_add_sum (P := Tryz.prog) W ⟨#[32]⟩ S2 (show 1 + S2.size ≤ 9223372036854775807 by omega)
  have c3 := fun W : World => run_string_add_sum (P := Tryz.prog) W S4 ⟨#[10]⟩ (show S4.size + 1 ≤ 9223372036854775807 by omega)
  have q0 := fun W : World => run_eq_feed W t t' n n'
  have q1 := fun W : World => run_eq_state W r r' st st'
  have H4 := Lib.hid (heap4 w (.cells #[.string t, .int .i64 n] 87) (.cells #[.string t', .int .i64 n'] 87) (.cells #[.int .i64 r, .int .i64 st] 89) (.cells #[.int .i64 r', .int .i64 st'] 89))
  have HJ0 := Lib.hid hj0; have HJ1 := Lib.hid hj1; have HJ2 := Lib.hid hj2; have HJ3 := Lib.hid hj3; have HJ4 := Lib.hid hj4; have HJ5 := Lib.hid hj5
  have HG0 := Lib.hid hg0; have HG1 := Lib.hid hg1; have HG2 := Lib.hid hg2
  have HC1 := Lib.hid c1; have HC2 := Lib.hid c2; have HC3 := Lib.hid c3
  obtain ⟨B0, hB0⟩ : ∃ B0, (t.toList == t'.toList && n == n') = B0 := ⟨_, rfl⟩
  obtain ⟨B1, hB1⟩ : ∃ B1, (r == r' && st == st') = B1 := ⟨_, rfl⟩
  obtain ⟨B2, hB2⟩ : ∃ B2, (a.toList == b.toList) = B2 := ⟨_, rfl⟩
  rw [hB0] at ways0; rw [hB1] at ways1; rw [hB2] at ways2
  simp only [hB0] at q0; simp only [hB1] at q1
  have HQ0 := Lib.hid q0; have HQ1 := Lib.hid q1; have HQ2 := Lib.hid hB2
  have WA0 := Lib.hid ways0; have WA1 := Lib.hid ways1; have WA2 := Lib.hid ways2
  have HN0 := Lib.hid (show (B0 != B0) = false by cases B0 <;> rfl); have HN1 := Lib.hid (show (B1 != B1) = false by cases B1 <;> rfl); have HN2 := Lib.hid (show (B2 != B2) = false by cases B2 <;> rfl)
  clear hj0 hj1 hj2 hj3 hj4 hj5 hg0 hg1 hg2 c1 c2 c3 q0 q1 ways0 ways1 ways2 p0 p1 p2 p3 p4 p5 z0 z1 z2 z3 z4 z5 hin hT hB0 hB1 hB2
  go_enter Tryz.func8, Tryz.ntmps8
  go_upto_region 1 with (fail)
  generalize (((w.alloc (.cells #[.string t, .int .i64 n] 87)).alloc (.cells #[.string t', .int .i64 n'] 87)).alloc (.cells #[.int .i64 r, .int .i64 st] 89)).alloc (.cells #[.int .i64 r', .int .i64 st'] 89) = W at *
  go_wp2_with fail
  refine Calls.mono (hfirst _) ?_
  rintro e w1 ⟨rfl, hb⟩
  have HB1 := Lib.hid (bel_trans H4.out.1 hb)
  have K10 := Lib.hid (Below.at hb H4.out.2.1); have K11 := Lib.hid (Below.at hb H4.out.2.2.1); have K12 := Lib.hid (Below.at hb H4.out.2.2.2.1); have K13 := Lib.hid (Below.at hb H4.out.2.2.2.2)
  clear hb H4
  obtain ⟨k0, k1, _, _⟩ := cells2 K10.out
  obtain ⟨k2, k3, _, _⟩ := cells2 K11.out
  obtain ⟨k4, k5, _, _⟩ := cells2 K12.out
  obtain ⟨k6, k7, _, _⟩ := cells2 K13.out
  go_wp2_with fail
  clear s1 s2 s3 b1
  refine Calls.mono (HJ0.out _ HB1.out) ?_
  rintro e w2 ⟨rfl, hb⟩
  have HB2 := Lib.hid (bel_trans HB1.out hb)
  have K20 := Lib.hid (Below.at hb K10.out)
  have K21 := Lib.hid (Below.at hb K11.out)
  have K22 := Lib.hid (Below.at hb K12.out)
  have K23 := Lib.hid (Below.at hb K13.out)
  clear hb HB1 K10 K11 K12 K13 k0 k1 k2 k3 k4 k5 k6 k7 HJ0
  obtain ⟨k0, k1, _, _⟩ := cells2 K20.out
  obtain ⟨k2, k3, _, _⟩ := cells2 K21.out
  obtain ⟨k4, k5, _, _⟩ := cells2 K22.out
  obtain ⟨k6, k7, _, _⟩ := cells2 K23.out
  go_wp2_with fail
  refine Calls.mono (HJ1.out _ HB2.out) ?_
  rintro e w3 ⟨rfl, hb⟩
  have HB3 := Lib.hid (bel_trans HB2.out hb)
  have K30 := Lib.hid (Below.at hb K20.out)
  have K31 := Lib.hid (Below.at hb K21.out)
  have K32 := Lib.hid (Below.at hb K22.out)
  have K33 := Lib.hid (Below.at hb K23.out)
  clear hb HB2 K20 K21 K22 K23 k0 k1 k2 k3 k4 k5 k6 k7 HJ1
  obtain ⟨k0, k1, _, _⟩ := cells2 K30.out
  obtain ⟨k2, k3, _, _⟩ := cells2 K31.out
  obtain ⟨k4, k5, _, _⟩ := cells2 K32.out
  obtain ⟨k6, k7, _, _⟩ := cells2 K33.out
  go_wp2_with fail
  refine Calls.mono (HJ2.out _ HB3.out) ?_
  rintro e w4 ⟨rfl, hb⟩
  have HB4 := Lib.hid (bel_trans HB3.out hb)
  have K40 := Lib.hid (Below.at hb K30.out)
  have K41 := Lib.hid (Below.at hb K31.out)
  have K42 := Lib.hid (Below.at hb K32.out)
  have K43 := Lib.hid (Below.at hb K33.out)
  clear hb HB3 K30 K31 K32 K33 k0 k1 k2 k3 k4 k5 k6 k7 HJ2
  obtain ⟨k0, k1, _, _⟩ := cells2 K40.out
  obtain ⟨k2, k3, _, _⟩ := cells2 K41.out
  obtain ⟨k4, k5, _, _⟩ := cells2 K42.out
  obtain ⟨k6, k7, _, _⟩ := cells2 K43.out
  go_wp2_with fail
  refine Calls.mono (HJ3.out _ HB4.out) ?_
  rintro e w5 ⟨rfl, hb⟩
  have HB5 := Lib.hid (bel_trans HB4.out hb)
  have K50 := Lib.hid (Below.at hb K40.out)
  have K51 := Lib.hid (Below.at hb K41.out)
  have K52 := Lib.hid (Below.at hb K42.out)
  have K53 := Lib.hid (Below.at hb K43.out)
  clear hb HB4 K40 K41 K42 K43 k0 k1 k2 k3 k4 k5 k6 k7 HJ3
  obtain ⟨k0, k1, _, _⟩ := cells2 K50.out
  obtain ⟨k2, k3, _, _⟩ := cells2 K51.out
  obtain ⟨k4, k5, _, _⟩ := cells2 K52.out
  obtain ⟨k6, k7, _, _⟩ := cells2 K53.out
  go_wp2_with fail
  refine Calls.mono (HJ4.out _ HB5.out) ?_
  rintro e w6 ⟨rfl, hb⟩
  have HB6 := Lib.hid (bel_trans HB5.out hb)
  have K60 := Lib.hid (Below.at hb K50.out)
  have K61 := Lib.hid (Below.at hb K51.out)
  have K62 := Lib.hid (Below.at hb K52.out)
  have K63 := Lib.hid (Below.at hb K53.out)
  clear hb HB5 K50 K51 K52 K53 k0 k1 k2 k3 k4 k5 k6 k7 HJ4
  obtain ⟨k0, k1, _, _⟩ := cells2 K60.out
  obtain ⟨k2, k3, _, _⟩ := cells2 K61.out
  obtain ⟨k4, k5, _, _⟩ := cells2 K62.out
  obtain ⟨k6, k7, _, _⟩ := cells2 K63.out
  go_wp2_with fail
  refine Calls.mono (HJ5.out _ HB6.out) ?_
  rintro e w7 ⟨rfl, hb⟩
  have HB7 := Lib.hid (bel_trans HB6.out hb)
  have K70 := Lib.hid (Below.at hb K60.out)
  have K71 := Lib.hid (Below.at hb K61.out)
  have K72 := Lib.hid (Below.at hb K62.out)
  have K73 := Lib.hid (Below.at hb K63.out)
  clear hb HB6 K60 K61 K62 K63 k0 k1 k2 k3 k4 k5 k6 k7 HJ5
  obtain ⟨k0, k1, _, _⟩ := cells2 K70.out
  obtain ⟨k2, k3, _, _⟩ := cells2 K71.out
  obtain ⟨k4, k5, _, _⟩ := cells2 K72.out
  obtain ⟨k6, k7, _, _⟩ := cells2 K73.out
  go_upto_region 11 with (fail)
  go_cut [126] (fun s126 wx => s126 = .bool false ∧ wx = w7)
  case first =>
    have q0 := HQ0.out; have q1 := HQ1.out; have q2 := HQ2.out; have n0 := HN0.out; have n1 := HN1.out; have n2 := HN2.out
    rcases WA0.out with rfl | ⟨rfl, rfl⟩ | ⟨rfl, rfl, y0⟩
    all_goals rcases WA1.out with rfl | ⟨rfl, rfl⟩ | ⟨rfl, rfl, y1⟩
    all_goals rcases WA2.out with rfl | ⟨rfl, rfl⟩ | ⟨rfl, rfl, y2⟩
    all_goals
      go_wp2_with fail
      go_meet
      exact ⟨rfl, rfl⟩
  case rest =>
    obtain ⟨rfl, rfl⟩ := hcut
    clear k0 k1 k2 k3 k4 k5 k6 k7 HQ0 HQ1 HQ2 HN0 HN1 HN2 WA0 WA1 WA2
    have c1 := HC1.out
    go_wp2_with fail
    clear c1
    refine Calls.mono (HG0.out _ HB7.out) ?_
    rintro e w8 ⟨rfl, hb⟩
    have HB8 := Lib.hid (bel_trans HB7.out hb)
    clear hb HB7
    have c2 := HC2.out
    go_wp2_with fail
    clear c2
    have HB9 := Lib.hid (bel_alloc HB8.out (.cells #[.string ⟨#[]⟩, .int .i64 0] 87))
    clear HB8
    generalize w8.alloc (.cells #[.string ⟨#[]⟩, .int .i64 0] 87) = w9 at *
    refine Calls.mono (HG1.out _ HB9.out) ?_
    rintro e w10 ⟨rfl, hb⟩
    have HB10 := Lib.hid (bel_trans HB9.out hb)
    clear hb HB9
    have c3 := HC3.out
    go_wp2_with fail
    clear c3
    have HB11 := Lib.hid (bel_alloc HB10.out (.cells #[.int .i64 0, .int .i64 0] 89))
    clear HB10
    generalize w10.alloc (.cells #[.int .i64 0, .int .i64 0] 89) = w11 at *
    refine Calls.mono (HG2.out _ HB11.out) ?_
    rintro e w12 ⟨rfl, hb⟩
    have HB12 := Lib.hid (bel_trans HB11.out hb)
    clear hb HB11
    go_wp2_with fail
    refine Calls.mono (hfirst _) ?_
    rintro e w13 ⟨rfl, hb⟩
    have HB13 := Lib.hid (bel_trans HB12.out hb)
    clear hb HB12
    go_wp2_with fail
    go_ret
    exact ⟨rfl, HB13.out⟩
theorem rowsTwo_any (t t' a b : ByteArray) (n n' r st r' st' : Int) (w : World) (hT : Tabs w)
    (z0 : t.size ≤ 140737488355328) (z1 : t'.size ≤ 140737488355328) (z2 : a.size ≤ 140737488355328) (z3 : b.size ≤ 140737488355328) :
    Calls Tryz.prog 8 #[.agg #[.string t, .int .i64 n], .agg #[.string t', .int .i64 n'], .agg #[.int .i64 r, .int .i64 st], .agg #[.int .i64 r', .int .i64 st'], .string a, .string b] w fun e w' => e = .returned (.bool true) ∧ Below w.heap.size w w' := by
  by_cases h : 20000 < t.size + t'.size + a.size + b.size
  · exact rowsTwo_over t t' a b n n' r st r' st' w z0 z1 z2 z3 h
  · exact rowsTwo_in t t' a b n n' r st r' st' w hT (by omega)
end Go.Proofs.YtlihjmfdnkfmfaaGreatDoor
