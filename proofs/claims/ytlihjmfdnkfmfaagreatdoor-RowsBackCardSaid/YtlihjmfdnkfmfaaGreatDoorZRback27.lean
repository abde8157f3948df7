/- Parts of the proof: Si, Hi, Sj. -/
import Derived.Test.YtlihjmfdnkfmfaaGreatDoorZRback26
import Derived.Test.YtlihjmfdnkfmfaaGreatDoorZRback24
namespace Go.Proofs.YtlihjmfdnkfmfaaGreatDoor
open Go.RowKit Go.Lib

set_option maxRecDepth 100000 in
set_option maxHeartbeats 16000000 in
theorem getFeed_any (s : ByteArray) (w : World) (hT : Tabs w) :
    Calls Tryz.prog 39 #[.string s] w fun e w' => e = .returned (.tuple #[(if isF s then .agg #[.string (gS s nmTitle), .int .i64 (gN s nmN)] else .agg #[.string ⟨#[]⟩, .int .i64 0]), .bool (isF s)]) ∧ Below w.heap.size w w' := by
  obtain ⟨V, ev, hV⟩ : ∃ V ev, parseB s = (V, ev) := ⟨_, _, rfl⟩
  have hln : LnJ V := by have := parse_lnR s; rw [hV] at this; exact this
  obtain ⟨T1, h1⟩ : ∃ T, gS s nmTitle = T := ⟨_, rfl⟩
  obtain ⟨T2, h2⟩ : ∃ T, gN s nmN = T := ⟨_, rfl⟩
  have hg1 : (getB ⟨#[116, 105, 116, 108, 101]⟩ (memsOf V)).1.s = T1 := by rw [← h1]; unfold gS; rw [hV]; rfl
  have hg2 : (getB ⟨#[110]⟩ (memsOf V)).1.n = T2 := by rw [← h2]; unfold gN; rw [hV]; rfl
  have hsz : T1.size ≤ 8000 := by rw [← h1]; exact gS_size _ _
  have hU : isF s = isRow (feedOk T2 T1) (feedO T2 T1) s := by unfold isF; rw [h1, h2]
  rw [hU, h1, h2]
  obtain ⟨S, E, hp, hc⟩ := putB_cases (feedOk T2 T1) (feedO T2 T1)
  have HP := Lib.hid (fun (W : World) (hW : Tabs W) => jputFeed T1 T2 W (by omega) hW (fun hm => feed_len (by omega) hm))
  rw [hp] at HP
  have hbA : Below w.heap.size w (w.alloc (.cells #[.string ⟨#[]⟩, .int .i64 0] 87)) := bel_alloc (Below.refl _ _) _
  have hk := heap_alloc_new w (.cells #[.string ⟨#[]⟩, .int .i64 0] 87)
  have HT := Lib.hid hT; have HV := Lib.hid hV; have HL := Lib.hid hln; have HG1 := Lib.hid hg1; have HG2 := Lib.hid hg2
  clear hT hV hln hg1 hg2 hU h1 h2 hp hsz
  generalize hR : isRow (feedOk T2 T1) (feedO T2 T1) s = R at *
  go_enter Tryz.func39, Tryz.ntmps39
  go_upto_region 1 with (fail)
  generalize w.alloc (.cells #[.string ⟨#[]⟩, .int .i64 0] 87) = W0 at *
  have HB := Lib.hid hbA; have HK := Lib.hid hk
  clear hbA hk
  have hcl := rparse_s s HV.out W0 (HT.out.below HB.out)
  have HCL := Lib.hid hcl
  clear hcl
  go_wp2_with fail
  refine Calls.mono HCL.out ?_
  rintro e u ⟨A1, m1, c1, A2, m2, c2, rfl, hj, hb⟩
  obtain ⟨rfl, rfl⟩ := jr_lensR hj
  have hA2 := bel_alloc (Below.refl u.heap.size u) (.cells #[.int .i64 V.k, .int .i64 V.n, .string V.s, .slice A1 V.l.length c1, .slice A2 V.m.length c2] 43)
  have hb2 := bel_trans hb hA2
  have HB2 := Lib.hid (bel_trans HB.out hb2); have HK2 := Lib.hid (Below.at hb2 HK.out)
  have HC := Lib.hid (heap_alloc_new u (.cells #[.int .i64 V.k, .int .i64 V.n, .string V.s, .slice A1 V.l.length c1, .slice A2 V.m.length c2] 43)); have HJ := Lib.hid (JR_later hj hA2)
  clear hA2 hb2 hb hj HCL HB HK HV
  go_upto_region 2 with (fail)
  generalize u.heap.size = X4 at *
  generalize u.alloc (.cells #[.int .i64 V.k, .int .i64 V.n, .string V.s, .slice A1 V.l.length c1, .slice A2 V.m.length c2] 43) = W4 at *
  go_wp2_with fail
  go_cut [5] (fun s5 wx => GtR #[.string T1, .int .i64 T2] 87 W4 s5 wx)
  case first =>
    have HSS := Lib.hid (show GtS X4 #[.int .i64 V.k, .int .i64 V.n, .string V.s, .slice A1 V.l.length c1, .slice A2 V.m.length c2] W4.drew from HC.out)
    refine PrintLast.wp_region_last_drew (S := GtS X4 #[.int .i64 V.k, .int .i64 V.n, .string V.s, .slice A1 V.l.length c1, .slice A2 V.m.length c2]) (ds := [6]) (by kernel_rfl) HSS.out (fun hHeld => ?_)
    refine PrintLast.tk 0 (v := ?_) rfl (by assumption) ?_ ?_
    rotate_left
    · (intro wX hSw; obtain ⟨z0, z1, z2, z3, z4⟩ := (cells5 (show wX.heap[X4]? = _ from hSw)).1; go_simp; try (with_reducible rfl))
    try simp only [lay]
    refine PrintLast.tk 2 (v := ?_) rfl (by assumption) ?_ ?_
    rotate_left
    · (intro wX hSw; obtain ⟨z0, z1, z2, z3, z4⟩ := (cells5 (show wX.heap[X4]? = _ from hSw)).1; go_simp; try (with_reducible rfl))
    try simp only [lay]
    have HH := Lib.hid hHeld
    have HBD := Lib.hid (bel_drew (Below.refl W4.heap.size W4))
    clear hHeld HSS
    generalize W4.drew = q0 at *
    refine PrintLast.wpAnyLast_ready (rs := [1, 5]) (by kernel_rfl) (by simp) ?_
    refine PrintLast.AllReadyL.cons rfl (by decide) (fun K hK => ?_) (PrintLast.AllReadyL.cons rfl (by decide) (fun K hK => ?_) (PrintLast.AllReadyL.nil))
    · rw [if_pos (by kernel_rfl)]
      go_simp
      have hgc := rs_any V ⟨#[116, 105, 116, 108, 101]⟩ _ _ q0 HL.out (JR_later HJ.out HBD.out)
      rw [HG1.out] at hgc
      go_at_call 91; refine hgc.mono ?_; rintro e q1 ⟨rfl, hbq⟩
      clear hgc
      go_wp2_with fail
      have HHn := Lib.hid (show GtS X4 #[.int .i64 V.k, .int .i64 V.n, .string V.s, .slice A1 V.l.length c1, .slice A2 V.m.length c2] q1 from Below.at hbq HH.out); have HBDn := Lib.hid (bel_trans HBD.out hbq)
      clear hbq HH HBD
      refine hK.out _ _ HHn.out (fun hHeld => ?_)
      clear hK K hHeld
      try simp only [lay]
      have HH := HHn; have HBD := HBDn
      clear HHn HBDn
      refine PrintLast.wpAnyLast_ready (rs := [3, 5]) (by kernel_rfl) (by simp) ?_
      refine PrintLast.AllReadyL.cons rfl (by decide) (fun K hK => ?_) (PrintLast.AllReadyL.cons rfl (by decide) (fun K hK => ?_) (PrintLast.AllReadyL.nil))
      · rw [if_pos (by kernel_rfl)]
        go_simp
        have hgc := rn_any V ⟨#[110]⟩ _ _ q1 HL.out (JR_later HJ.out HBD.out)
        rw [HG2.out] at hgc
        go_at_call 92; refine hgc.mono ?_; rintro e q2 ⟨rfl, hbq⟩
        clear hgc
        go_wp2_with fail
        have HHn := Lib.hid (show GtS X4 #[.int .i64 V.k, .int .i64 V.n, .string V.s, .slice A1 V.l.length c1, .slice A2 V.m.length c2] q2 from Below.at hbq HH.out); have HBDn := Lib.hid (bel_trans HBD.out hbq)
        clear hbq HH HBD
        refine hK.out _ _ HHn.out (fun hHeld => ?_)
        clear hK K hHeld
        try simp only [lay]
        have HH := HHn; have HBD := HBDn
        clear HHn HBDn
        refine PrintLast.wpAnyLast_any (i := 4) (v := ?_) rfl (Region.noSelect_spec (by kernel_rfl)) (fun _ _ _ h => h) _ _ _ _ (Region.free_spec rfl (by kernel_rfl)) (List.contains_iff_mem.1 (by kernel_rfl)) (Or.inl ⟨by kernel_rfl, ?_⟩) ?_
        rotate_left
        · (intro wX; go_simp; try (with_reducible rfl))
        try simp only [lay]
        refine PrintLast.wpAnyLast_ready (rs := [5]) (by kernel_rfl) (by simp) ?_
        refine PrintLast.AllReadyL.cons rfl (by decide) (fun K hK => ?_) (PrintLast.AllReadyL.nil)
        rw [if_pos (by kernel_rfl)]
        go_simp
        have hal := bel_alloc (Below.refl q2.heap.size q2) (.cells #[.string ⟨#[]⟩, .int .i64 0] 87)
        have HHn := Lib.hid (show GtS X4 #[.int .i64 V.k, .int .i64 V.n, .string V.s, .slice A1 V.l.length c1, .slice A2 V.m.length c2] (q2.alloc (.cells #[.string ⟨#[]⟩, .int .i64 0] 87)) from Below.at hal HH.out); have HBDn := Lib.hid (bel_trans HBD.out hal)
        have HZ := Lib.hid (heap_alloc_new q2 (.cells #[.string ⟨#[]⟩, .int .i64 0] 87))
        have HX := Lib.hid HBD.out.size
        clear hal HH HBD
        refine hK.out _ _ HHn.out (fun hHeld => ?_)
        clear hK K hHeld
        try simp only [lay]
        generalize q2.heap.size = X5 at *
        generalize q2.alloc (.cells #[.string ⟨#[]⟩, .int .i64 0] 87) = q3 at *
        have HH := HHn; have HBD := HBDn
        clear HHn HBDn
        have HRR := Lib.hid (gt2_end (.string T1) (.int .i64 T2) HZ.out HBD.out HX.out)
        obtain ⟨p0, p1, q0', q1'⟩ := cells2 HZ.out
        clear HZ HBD HH HX
        refine PrintLast.wpAnyLast_ready (rs := [6]) (by kernel_rfl) (by simp) ?_
        refine PrintLast.AllReadyL.cons_last rfl (by decide) (fun K hK => ?_) PrintLast.AllReadyL.nil
        rw [if_pos (by kernel_rfl)]
        go_simp
        refine hK.out _ _ ?_
        clear hK K
        try simp only [lay]
        refine PrintLast.wpAnyLast_done (by kernel_rfl) ?_ _
        go_wp2_with fail
        go_meet
        case rel => exact ⟨X5, rfl, HRR.out⟩
      · rw [if_pos (by kernel_rfl)]
        go_simp
        have hal := bel_alloc (Below.refl q1.heap.size q1) (.cells #[.string ⟨#[]⟩, .int .i64 0] 87)
        have HHn := Lib.hid (show GtS X4 #[.int .i64 V.k, .int .i64 V.n, .string V.s, .slice A1 V.l.length c1, .slice A2 V.m.length c2] (q1.alloc (.cells #[.string ⟨#[]⟩, .int .i64 0] 87)) from Below.at hal HH.out); have HBDn := Lib.hid (bel_trans HBD.out hal)
        have HZ := Lib.hid (heap_alloc_new q1 (.cells #[.string ⟨#[]⟩, .int .i64 0] 87))
        have HX := Lib.hid HBD.out.size
        clear hal HH HBD
        refine hK.out _ _ HHn.out (fun hHeld => ?_)
        clear hK K hHeld
        try simp only [lay]
        generalize q1.heap.size = X5 at *
        generalize q1.alloc (.cells #[.string ⟨#[]⟩, .int .i64 0] 87) = q2 at *
        have HH := HHn; have HBD := HBDn
        clear HHn HBDn
        refine PrintLast.wpAnyLast_ready (rs := [3]) (by kernel_rfl) (by simp) ?_
        refine PrintLast.AllReadyL.cons rfl (by decide) (fun K hK => ?_) (PrintLast.AllReadyL.nil)
        rw [if_pos (by kernel_rfl)]
        go_simp
        have hgc := rn_any V ⟨#[110]⟩ _ _ q2 HL.out (JR_later HJ.out HBD.out)
        rw [HG2.out] at hgc
        go_at_call 92; refine hgc.mono ?_; rintro e q3 ⟨rfl, hbq⟩
        clear hgc
        go_wp2_with fail
        have HHn := Lib.hid (show GtS X4 #[.int .i64 V.k, .int .i64 V.n, .string V.s, .slice A1 V.l.length c1, .slice A2 V.m.length c2] q3 from Below.at hbq HH.out); have HBDn := Lib.hid (bel_trans HBD.out hbq)
        have HZn := Lib.hid (Below.at hbq HZ.out)
        clear HZ
        clear hbq HH HBD
        refine hK.out _ _ HHn.out (fun hHeld => ?_)
        clear hK K hHeld
        try simp only [lay]
        have HH := HHn; have HBD := HBDn
        clear HHn HBDn
        have HZ := HZn
        clear HZn
        refine PrintLast.wpAnyLast_any (i := 4) (v := ?_) rfl (Region.noSelect_spec (by kernel_rfl)) (fun _ _ _ h => h) _ _ _ _ (Region.free_spec rfl (by kernel_rfl)) (List.contains_iff_mem.1 (by kernel_rfl)) (Or.inl ⟨by kernel_rfl, ?_⟩) ?_
        rotate_left
        · (intro wX; go_simp; try (with_reducible rfl))
        try simp only [lay]
        have HRR := Lib.hid (gt2_end (.string T1) (.int .i64 T2) HZ.out HBD.out HX.out)
        obtain ⟨p0, p1, q0', q1'⟩ := cells2 HZ.out
        clear HZ HBD HH HX
        refine PrintLast.wpAnyLast_ready (rs := [6]) (by kernel_rfl) (by simp) ?_
        refine PrintLast.AllReadyL.cons_last rfl (by decide) (fun K hK => ?_) PrintLast.AllReadyL.nil
        rw [if_pos (by kernel_rfl)]
        go_simp
        refine hK.out _ _ ?_
        clear hK K
        try simp only [lay]
        refine PrintLast.wpAnyLast_done (by kernel_rfl) ?_ _
        go_wp2_with fail
        go_meet
        case rel => exact ⟨X5, rfl, HRR.out⟩
    · rw [if_pos (by kernel_rfl)]
      go_simp
      have hal := bel_alloc (Below.refl q0.heap.size q0) (.cells #[.string ⟨#[]⟩, .int .i64 0] 87)
      have HHn := Lib.hid (show GtS X4 #[.int .i64 V.k, .int .i64 V.n, .string V.s, .slice A1 V.l.length c1, .slice A2 V.m.length c2] (q0.alloc (.cells #[.string ⟨#[]⟩, .int .i64 0] 87)) from Below.at hal HH.out); have HBDn := Lib.hid (bel_trans HBD.out hal)
      have HZ := Lib.hid (heap_alloc_new q0 (.cells #[.string ⟨#[]⟩, .int .i64 0] 87))
      have HX := Lib.hid HBD.out.size
      clear hal HH HBD
      refine hK.out _ _ HHn.out (fun hHeld => ?_)
      clear hK K hHeld
      try simp only [lay]
      generalize q0.heap.size = X5 at *
      generalize q0.alloc (.cells #[.string ⟨#[]⟩, .int .i64 0] 87) = q1 at *
      have HH := HHn; have HBD := HBDn
      clear HHn HBDn
      refine PrintLast.wpAnyLast_ready (rs := [1]) (by kernel_rfl) (by simp) ?_
      refine PrintLast.AllReadyL.cons rfl (by decide) (fun K hK => ?_) (PrintLast.AllReadyL.nil)
      rw [if_pos (by kernel_rfl)]
      go_simp
      have hgc := rs_any V ⟨#[116, 105, 116, 108, 101]⟩ _ _ q1 HL.out (JR_later HJ.out HBD.out)
      rw [HG1.out] at hgc
      go_at_call 91; refine hgc.mono ?_; rintro e q2 ⟨rfl, hbq⟩
      clear hgc
      go_wp2_with fail
      have HHn := Lib.hid (show GtS X4 #[.int .i64 V.k, .int .i64 V.n, .string V.s, .slice A1 V.l.length c1, .slice A2 V.m.length c2] q2 from Below.at hbq HH.out); have HBDn := Lib.hid (bel_trans HBD.out hbq)
      have HZn := Lib.hid (Below.at hbq HZ.out)
      clear HZ
      clear hbq HH HBD
      refine hK.out _ _ HHn.out (fun hHeld => ?_)
      clear hK K hHeld
      try simp only [lay]
      have HH := HHn; have HBD := HBDn
      clear HHn HBDn
      have HZ := HZn
      clear HZn
      refine PrintLast.wpAnyLast_ready (rs := [3]) (by kernel_rfl) (by simp) ?_
      refine PrintLast.AllReadyL.cons rfl (by decide) (fun K hK => ?_) (PrintLast.AllReadyL.nil)
      rw [if_pos (by kernel_rfl)]
      go_simp
      have hgc := rn_any V ⟨#[110]⟩ _ _ q2 HL.out (JR_later HJ.out HBD.out)
      rw [HG2.out] at hgc
      go_at_call 92; refine hgc.mono ?_; rintro e q3 ⟨rfl, hbq⟩
      clear hgc
      go_wp2_with fail
      have HHn := Lib.hid (show GtS X4 #[.int .i64 V.k, .int .i64 V.n, .string V.s, .slice A1 V.l.length c1, .slice A2 V.m.length c2] q3 from Below.at hbq HH.out); have HBDn := Lib.hid (bel_trans HBD.out hbq)
      have HZn := Lib.hid (Below.at hbq HZ.out)
      clear HZ
      clear hbq HH HBD
      refine hK.out _ _ HHn.out (fun hHeld => ?_)
      clear hK K hHeld
      try simp only [lay]
      have HH := HHn; have HBD := HBDn
      clear HHn HBDn
      have HZ := HZn
      clear HZn
      refine PrintLast.wpAnyLast_any (i := 4) (v := ?_) rfl (Region.noSelect_spec (by kernel_rfl)) (fun _ _ _ h => h) _ _ _ _ (Region.free_spec rfl (by kernel_rfl)) (List.contains_iff_mem.1 (by kernel_rfl)) (Or.inl ⟨by kernel_rfl, ?_⟩) ?_
      rotate_left
      · (intro wX; go_simp; try (with_reducible rfl))
      try simp only [lay]
      have HRR := Lib.hid (gt2_end (.string T1) (.int .i64 T2) HZ.out HBD.out HX.out)
      obtain ⟨p0, p1, q0', q1'⟩ := cells2 HZ.out
      clear HZ HBD HH HX
      refine PrintLast.wpAnyLast_ready (rs := [6]) (by kernel_rfl) (by simp) ?_
      refine PrintLast.AllReadyL.cons_last rfl (by decide) (fun K hK => ?_) PrintLast.AllReadyL.nil
      rw [if_pos (by kernel_rfl)]
      go_simp
      refine hK.out _ _ ?_
      clear hK K
      try simp only [lay]
      refine PrintLast.wpAnyLast_done (by kernel_rfl) ?_ _
      go_wp2_with fail
      go_meet
      case rel => exact ⟨X5, rfl, HRR.out⟩
  case rest =>
    obtain ⟨X5, rfl, hx5, hbr⟩ := hcut
    have HB3 := Lib.hid (bel_trans HB2.out hbr); have HK3 := Lib.hid (Below.at hbr HK2.out); have HX5 := Lib.hid hx5
    clear hbr hx5 HB2 HK2 HC HJ
    obtain ⟨p0, p1, _, _⟩ := cells2 HX5.out
    have hcl := HP.out wc (HT.out.below HB3.out)
    have HCL := Lib.hid hcl
    clear hcl
    go_wp2_with fail
    refine Calls.mono HCL.out ?_
    rintro e w6 ⟨rfl, hb6⟩
    have HB6 := Lib.hid (bel_trans HB3.out hb6); have HK6 := Lib.hid (Below.at hb6 HK3.out); have HX6 := Lib.hid (Below.at hb6 HX5.out)
    clear HCL hb6 HB3 HK3 HX5 p0 p1
    obtain ⟨p0, p1, _, _⟩ := cells2 HX6.out
    obtain ⟨u0, u1, t0, t1⟩ := cells2 HK6.out
    rcases hc with ⟨rfl, hc⟩ | ⟨rfl, hc⟩
    · have hr : R = false := by rw [← hR]; exact hc s
      subst hr
      clear hc hR
      have hf := gt2_end (.string ⟨#[]⟩) (.int .i64 0) HK6.out HB6.out (Nat.le_refl _)
      go_wp2_with fail
      exact bodyPost_ret (results_row_tmp rfl _ _ w.heap.size 87 #[.string ⟨#[]⟩, .int .i64 0] (0, 0) _ rfl hf.1 Tryz.underlying87 rfl (by kernel_rfl)) rfl ⟨rfl, hf.2⟩
    · have hr : (S.toList == s.toList) = R := by rw [← hR]; exact (hc s).symm
      have hr2 : (S.toList != s.toList) = !R := by rw [bne, hr]
      clear hc hR
      cases R with
      | false =>
        have hf := gt2_end (.string ⟨#[]⟩) (.int .i64 0) HK6.out HB6.out (Nat.le_refl _)
        go_wp2_with fail
        exact bodyPost_ret (results_row_tmp rfl _ _ w.heap.size 87 #[.string ⟨#[]⟩, .int .i64 0] (0, 0) _ rfl hf.1 Tryz.underlying87 rfl (by kernel_rfl)) rfl ⟨rfl, hf.2⟩
      | true =>
        have hf := gt2_end (.string T1) (.int .i64 T2) HK6.out HB6.out (Nat.le_refl _)
        go_wp2_with fail
        exact bodyPost_ret (results_row_tmp rfl _ _ w.heap.size 87 #[.string T1, .int .i64 T2] (0, 0) _ rfl hf.1 Tryz.underlying87 rfl (by kernel_rfl)) rfl ⟨rfl, hf.2⟩
end Go.Proofs.YtlihjmfdnkfmfaaGreatDoor
namespace Go.Proofs.YtlihjmfdnkfmfaaGreatDoor
open Go.RowKit Go.Lib

theorem jputState_ways : ∀ b7 b11 b16 b20 b29 : Bool, (b7 = false ∧ (b7 && b11 && (b16 || b20) && b29) = false) ∨ (b7 = true ∧ b11 = false ∧ (b7 && b11 && (b16 || b20) && b29) = false) ∨ (b7 = true ∧ b11 = true ∧ b16 = false ∧ b20 = false ∧ (b7 && b11 && (b16 || b20) && b29) = false) ∨ (b7 = true ∧ b11 = true ∧ b16 = false ∧ b20 = true ∧ b29 = false ∧ (b7 && b11 && (b16 || b20) && b29) = false) ∨ (b7 = true ∧ b11 = true ∧ b16 = false ∧ b20 = true ∧ b29 = true ∧ (b7 && b11 && (b16 || b20) && b29) = true) ∨ (b7 = true ∧ b11 = true ∧ b16 = true ∧ b29 = false ∧ (b7 && b11 && (b16 || b20) && b29) = false) ∨ (b7 = true ∧ b11 = true ∧ b16 = true ∧ b29 = true ∧ (b7 && b11 && (b16 || b20) && b29) = true) := by decide
set_option maxRecDepth 100000 in
set_option maxHeartbeats 64000000 in
theorem jputState (r s : Int) (w : World)  (hT : Tabs w) (hlen : mayJ 64 (stateO r s) = true → (printB 64 (stateO r s)).length ≤ 1000000000) :
    Calls Tryz.prog 37 #[.agg #[.int .i64 r, .int .i64 s]] w fun e w' => e = .returned (putB (stateOk r s) (stateO r s)) ∧ Below w.heap.size w w' := by
  have HT0 := Lib.hid hT
  clear hT
  obtain ⟨okv, hokv⟩ : ∃ okv, okv = (stateOk r s) := ⟨_, rfl⟩
  rw [← hokv]
  obtain ⟨S, E, hput, hp⟩ := printedJ _ okv (show mayJ 64 (stateO r s) = true → _ from hlen)
  replace hput : putB okv (stateO r s) = .tuple #[.string S, .int .i64 E] := hput
  rw [hput]
  have HP := Lib.hid hp; have HOK := Lib.hid hokv
  clear hp hput hlen hokv
  have n0 := cell_newB w #[.int .i64 r, .int .i64 s] 89 0 _ rfl
  have n1 := cell_newB w #[.int .i64 r, .int .i64 s] 89 1 _ rfl
  have HB := Lib.hid (bel_alloc (Below.refl w.heap.size w) (.cells #[.int .i64 r, .int .i64 s] 89))
  go_enter Tryz.func37, Tryz.ntmps37
  go_upto_region 1 with (fail)
  generalize w.alloc (.cells #[.int .i64 r, .int .i64 s] 89) = W at *
  go_cut [4] (fun s4 wx => s4 = .bool okv ∧ Below w.heap.size w wx ∧ wx.cell? ⟨w.heap.size, 0, none⟩ = some (.int .i64 r) ∧ wx.cell? ⟨w.heap.size, 1, none⟩ = some (.int .i64 s))
  case first =>
    clear HP
    rcases jputState_ways (decide (0 ≤ r)) (decide (r ≤ 2)) ((s == 0)) ((s == 1)) (decide (0 < r + s)) with ⟨h7, hk⟩ | ⟨h7, h11, hk⟩ | ⟨h7, h11, h16, h20, hk⟩ | ⟨h7, h11, h16, h20, h29, hk⟩ | ⟨h7, h11, h16, h20, h29, hk⟩ | ⟨h7, h11, h16, h29, hk⟩ | ⟨h7, h11, h16, h29, hk⟩
    all_goals
      first
        | (have hok : (stateOk r s) = false := hk; obtain rfl := HOK.out.trans hok; clear hok hk HOK)
        | (have hok : (stateOk r s) = true := hk; obtain rfl := HOK.out.trans hok; clear hok hk HOK)
      try (have HSW := stWrap r s (by assumption) (by assumption) (by first | exact Or.inl (by assumption) | exact Or.inr (by assumption)))
      go_wp2_with fail
      go_meet
      exact ⟨rfl, HB.out, n0, n1⟩
  case rest =>
    clear HB HOK n0 n1
    obtain ⟨wx, rfl⟩ : ∃ W, W = wc := ⟨_, rfl⟩
    obtain ⟨rfl, hbx, n0, n1⟩ := hcut
    have HB := Lib.hid hbx
    clear hbx
    go_wp2_with fail
    refine wp_region_E (by kernel_rfl) ?_
    have RC : ∀ w2, Lat wx.drew w2 → w2.cell? ⟨w.heap.size, 0, none⟩ = some (.int .i64 r) ∧ w2.cell? ⟨w.heap.size, 1, none⟩ = some (.int .i64 s) := fun w2 hE => ⟨cell_later' hE n0, cell_later' hE n1⟩
    clear n0 n1
    have HRC := Lib.hid RC
    clear RC
    have HBV := Lib.hid (bel_drew HB.out)
    clear HB
    generalize wx.drew = V at *
    refine wpAnyE_t 0 (v := ?_) rfl ?_ ?_
    rotate_left
    · intro w2 hE
      obtain ⟨q0, q1⟩ := HRC.out w2 hE
      go_simp
      try (with_reducible rfl)
    try simp only [lay]
    refine wpAnyE_t 1 (v := ?_) rfl ?_ ?_
    rotate_left
    · intro w2 hE
      obtain ⟨q0, q1⟩ := HRC.out w2 hE
      go_simp
      try (with_reducible rfl)
    try simp only [lay]
    refine wpAnyE_t 2 (v := ?_) rfl ?_ ?_
    rotate_left
    · intro w2 hE
      obtain ⟨q0, q1⟩ := HRC.out w2 hE
      go_simp
      try (with_reducible rfl)
    try simp only [lay]
    refine wpAnyE_t 3 (v := ?_) rfl ?_ ?_
    rotate_left
    · intro w2 hE
      obtain ⟨q0, q1⟩ := HRC.out w2 hE
      go_simp
      exact jnumber _ _
    try simp only [lay]
    refine wpAnyE_t 4 (v := ?_) rfl ?_ ?_
    rotate_left
    · intro w2 hE
      obtain ⟨q0, q1⟩ := HRC.out w2 hE
      go_simp
      exact part_any _ _ _ _ _ _ _ _ _ _ _
    try simp only [lay]
    refine wpAnyE_t 5 (v := ?_) rfl ?_ ?_
    rotate_left
    · intro w2 hE
      obtain ⟨q0, q1⟩ := HRC.out w2 hE
      go_simp
      try (with_reducible rfl)
    try simp only [lay]
    refine wpAnyE_t 6 (v := ?_) rfl ?_ ?_
    rotate_left
    · intro w2 hE
      obtain ⟨q0, q1⟩ := HRC.out w2 hE
      go_simp
      try (with_reducible rfl)
    try simp only [lay]
    refine wpAnyE_t 7 (v := ?_) rfl ?_ ?_
    rotate_left
    · intro w2 hE
      obtain ⟨q0, q1⟩ := HRC.out w2 hE
      go_simp
      exact jnumber _ _
    try simp only [lay]
    refine wpAnyE_t 8 (v := ?_) rfl ?_ ?_
    rotate_left
    · intro w2 hE
      obtain ⟨q0, q1⟩ := HRC.out w2 hE
      go_simp
      exact part_any _ _ _ _ _ _ _ _ _ _ _
    try simp only [lay]
    refine wpAnyE_one (i := 9) (by kernel_rfl) rfl (fun w2 hE K hK => ?_)
    rw [if_pos (by kernel_rfl)]
    obtain ⟨q0, q1⟩ := HRC.out w2 hE
    have HB2 := Lib.hid (bel_trans HBV.out hE)
    clear HBV hE HRC
    go_simp
    have hsl : Sl memTy (w2.alloc (Obj.cells #[.string ⟨#[114, 101, 97, 100]⟩, .int .i64 4, .int .i64 r, .string ⟨#[]⟩, .slice none 0 0, .slice none 0 0, .string ⟨#[115, 116, 97, 114]⟩, .int .i64 4, .int .i64 s, .string ⟨#[]⟩, .slice none 0 0, .slice none 0 0] 49)) (fun _ => True) (.slice (some ⟨w2.heap.size, 0, none⟩) 2 2) [(nmRead, numV r), (nmStar, numV s)] :=
      new_members (T := 49) w2 ([(nmRead, numV r)] ++ [(nmStar, numV s)]) _ (by simp) (fun W => (Chunks.append (mem_chunk nmRead (numV r) _ (by decide) (num_jr W _ r)) (mem_chunk nmStar (numV s) _ (by decide) (num_jr W _ s))))
    refine hK.out _ _ (bel_alloc (Below.refl _ _) _) ?_
    clear hK K
    have hbA := bel_trans HB2.out (bel_alloc (Below.refl _ w2) (Obj.cells #[.string ⟨#[114, 101, 97, 100]⟩, .int .i64 4, .int .i64 r, .string ⟨#[]⟩, .slice none 0 0, .slice none 0 0, .string ⟨#[115, 116, 97, 114]⟩, .int .i64 4, .int .i64 s, .string ⟨#[]⟩, .slice none 0 0, .slice none 0 0] 49))
    have hSC : ∀ w3, Lat (w2.alloc (Obj.cells #[.string ⟨#[114, 101, 97, 100]⟩, .int .i64 4, .int .i64 r, .string ⟨#[]⟩, .slice none 0 0, .slice none 0 0, .string ⟨#[115, 116, 97, 114]⟩, .int .i64 4, .int .i64 s, .string ⟨#[]⟩, .slice none 0 0, .slice none 0 0] 49)) w3 → w3.cell? ⟨w.heap.size, 0, none⟩ = some (.int .i64 r) ∧ w3.cell? ⟨w.heap.size, 1, none⟩ = some (.int .i64 s) := fun w3 hE => ⟨cell_later' (bel_trans (bel_alloc (Below.refl _ w2) (Obj.cells #[.string ⟨#[114, 101, 97, 100]⟩, .int .i64 4, .int .i64 r, .string ⟨#[]⟩, .slice none 0 0, .slice none 0 0, .string ⟨#[115, 116, 97, 114]⟩, .int .i64 4, .int .i64 s, .string ⟨#[]⟩, .slice none 0 0, .slice none 0 0] 49)) hE) q0, cell_later' (bel_trans (bel_alloc (Below.refl _ w2) (Obj.cells #[.string ⟨#[114, 101, 97, 100]⟩, .int .i64 4, .int .i64 r, .string ⟨#[]⟩, .slice none 0 0, .slice none 0 0, .string ⟨#[115, 116, 97, 114]⟩, .int .i64 4, .int .i64 s, .string ⟨#[]⟩, .slice none 0 0, .slice none 0 0] 49)) hE) q1⟩
    have HSC := Lib.hid hSC
    clear hSC q0 q1
    have hj := hsl
    have HB3 := Lib.hid hbA
    clear hsl hbA HB2
    generalize w2.alloc (Obj.cells #[.string ⟨#[114, 101, 97, 100]⟩, .int .i64 4, .int .i64 r, .string ⟨#[]⟩, .slice none 0 0, .slice none 0 0, .string ⟨#[115, 116, 97, 114]⟩, .int .i64 4, .int .i64 s, .string ⟨#[]⟩, .slice none 0 0, .slice none 0 0] 49) = W3 at *
    generalize w2.heap.size = gz at *
    have HJ := Lib.hid hj
    clear w2 hj
    refine wpAnyE_one (i := 10) (by kernel_rfl) rfl (fun w4 hE K hK => ?_)
    rw [if_pos (by kernel_rfl)]
    have HP4 := Lib.hid (HP.out _ _ w4 (Sl.below HJ.out hE) (HT0.out.below (bel_trans HB3.out hE)))
    have HB4 := Lib.hid (bel_trans HB3.out hE)
    clear hE HP HB3 HSC
    go_simp
    refine HP4.out.mono ?_
    rintro e w5 ⟨rfl, hb⟩
    refine hK.out _ _ hb ?_
    clear hK K
    have HB5 := Lib.hid (bel_trans HB4.out hb)
    clear hb HP4 HB4
    try simp only [lay]
    refine wpAnyE_t 11 (v := ?_) rfl ?_ ?_
    rotate_left
    · intro w2 hE
      go_simp
      try (with_reducible rfl)
    try simp only [lay]
    refine wpAnyE_t 12 (v := ?_) rfl ?_ ?_
    rotate_left
    · intro w2 hE
      go_simp
      try (with_reducible rfl)
    try simp only [lay]
    refine wpAnyE_t 13 (v := ?_) rfl ?_ ?_
    rotate_left
    · intro w2 hE
      go_simp
      try (with_reducible rfl)
    try simp only [lay]
    refine wpAnyE_t 14 (v := ?_) rfl ?_ ?_
    rotate_left
    · intro w2 hE
      go_simp
      try (with_reducible rfl)
    try simp only [lay]
    refine wpAnyE_done (by kernel_rfl) (fun w6 hE6 => ?_) _
    have HB6 := Lib.hid (bel_trans HB5.out hE6)
    clear hE6
    go_wp2_with fail
    go_ret2
    exact ⟨rfl, HB6.out⟩
end Go.Proofs.YtlihjmfdnkfmfaaGreatDoor
namespace Go.Proofs.YtlihjmfdnkfmfaaGreatDoor
open Go.RowKit Go.Lib

set_option maxRecDepth 100000 in
set_option maxHeartbeats 16000000 in
theorem getState_any (s : ByteArray) (w : World) (hT : Tabs w) :
    Calls Tryz.prog 40 #[.string s] w fun e w' => e = .returned (.tuple #[(if isT s then .agg #[.int .i64 (gN s nmRead), .int .i64 (gN s nmStar)] else .agg #[.int .i64 0, .int .i64 0]), .bool (isT s)]) ∧ Below w.heap.size w w' := by
  obtain ⟨V, ev, hV⟩ : ∃ V ev, parseB s = (V, ev) := ⟨_, _, rfl⟩
  have hln : LnJ V := by have := parse_lnR s; rw [hV] at this; exact this
  obtain ⟨T1, h1⟩ : ∃ T, gN s nmRead = T := ⟨_, rfl⟩
  obtain ⟨T2, h2⟩ : ∃ T, gN s nmStar = T := ⟨_, rfl⟩
  have hg1 : (getB ⟨#[114, 101, 97, 100]⟩ (memsOf V)).1.n = T1 := by rw [← h1]; unfold gN; rw [hV]; rfl
  have hg2 : (getB ⟨#[115, 116, 97, 114]⟩ (memsOf V)).1.n = T2 := by rw [← h2]; unfold gN; rw [hV]; rfl
  have hU : isT s = isRow (stateOk T1 T2) (stateO T1 T2) s := by unfold isT; rw [h1, h2]
  rw [hU, h1, h2]
  obtain ⟨S, E, hp, hc⟩ := putB_cases (stateOk T1 T2) (stateO T1 T2)
  have HP := Lib.hid (fun (W : World) (hW : Tabs W) => jputState T1 T2 W hW (fun hm => state_len hm))
  rw [hp] at HP
  have hbA : Below w.heap.size w (w.alloc (.cells #[.int .i64 0, .int .i64 0] 89)) := bel_alloc (Below.refl _ _) _
  have hk := heap_alloc_new w (.cells #[.int .i64 0, .int .i64 0] 89)
  have HT := Lib.hid hT; have HV := Lib.hid hV; have HL := Lib.hid hln; have HG1 := Lib.hid hg1; have HG2 := Lib.hid hg2
  clear hT hV hln hg1 hg2 hU h1 h2 hp 
  generalize hR : isRow (stateOk T1 T2) (stateO T1 T2) s = R at *
  go_enter Tryz.func40, Tryz.ntmps40
  go_upto_region 1 with (fail)
  generalize w.alloc (.cells #[.int .i64 0, .int .i64 0] 89) = W0 at *
  have HB := Lib.hid hbA; have HK := Lib.hid hk
  clear hbA hk
  have hcl := rparse_s s HV.out W0 (HT.out.below HB.out)
  have HCL := Lib.hid hcl
  clear hcl
  go_wp2_with fail
  refine Calls.mono HCL.out ?_
  rintro e u ⟨A1, m1, c1, A2, m2, c2, rfl, hj, hb⟩
  obtain ⟨rfl, rfl⟩ := jr_lensR hj
  have hA2 := bel_alloc (Below.refl u.heap.size u) (.cells #[.int .i64 V.k, .int .i64 V.n, .string V.s, .slice A1 V.l.length c1, .slice A2 V.m.length c2] 43)
  have hb2 := bel_trans hb hA2
  have HB2 := Lib.hid (bel_trans HB.out hb2); have HK2 := Lib.hid (Below.at hb2 HK.out)
  have HC := Lib.hid (heap_alloc_new u (.cells #[.int .i64 V.k, .int .i64 V.n, .string V.s, .slice A1 V.l.length c1, .slice A2 V.m.length c2] 43)); have HJ := Lib.hid (JR_later hj hA2)
  clear hA2 hb2 hb hj HCL HB HK HV
  go_upto_region 2 with (fail)
  generalize u.heap.size = X4 at *
  generalize u.alloc (.cells #[.int .i64 V.k, .int .i64 V.n, .string V.s, .slice A1 V.l.length c1, .slice A2 V.m.length c2] 43) = W4 at *
  go_wp2_with fail
  go_cut [5] (fun s5 wx => GtR #[.int .i64 T1, .int .i64 T2] 89 W4 s5 wx)
  case first =>
    have HSS := Lib.hid (show GtS X4 #[.int .i64 V.k, .int .i64 V.n, .string V.s, .slice A1 V.l.length c1, .slice A2 V.m.length c2] W4.drew from HC.out)
    refine PrintLast.wp_region_last_drew (S := GtS X4 #[.int .i64 V.k, .int .i64 V.n, .string V.s, .slice A1 V.l.length c1, .slice A2 V.m.length c2]) (ds := [6]) (by kernel_rfl) HSS.out (fun hHeld => ?_)
    refine PrintLast.tk 0 (v := ?_) rfl (by assumption) ?_ ?_
    rotate_left
    · (intro wX hSw; obtain ⟨z0, z1, z2, z3, z4⟩ := (cells5 (show wX.heap[X4]? = _ from hSw)).1; go_simp; try (with_reducible rfl))
    try simp only [lay]
    refine PrintLast.tk 2 (v := ?_) rfl (by assumption) ?_ ?_
    rotate_left
    · (intro wX hSw; obtain ⟨z0, z1, z2, z3, z4⟩ := (cells5 (show wX.heap[X4]? = _ from hSw)).1; go_simp; try (with_reducible rfl))
    try simp only [lay]
    have HH := Lib.hid hHeld
    have HBD := Lib.hid (bel_drew (Below.refl W4.heap.size W4))
    clear hHeld HSS
    generalize W4.drew = q0 at *
    refine PrintLast.wpAnyLast_ready (rs := [1, 5]) (by kernel_rfl) (by simp) ?_
    refine PrintLast.AllReadyL.cons rfl (by decide) (fun K hK => ?_) (PrintLast.AllReadyL.cons rfl (by decide) (fun K hK => ?_) (PrintLast.AllReadyL.nil))
    · rw [if_pos (by kernel_rfl)]
      go_simp
      have hgc := rn_any V ⟨#[114, 101, 97, 100]⟩ _ _ q0 HL.out (JR_later HJ.out HBD.out)
      rw [HG1.out] at hgc
      go_at_call 92; refine hgc.mono ?_; rintro e q1 ⟨rfl, hbq⟩
      clear hgc
      go_wp2_with fail
      have HHn := Lib.hid (show GtS X4 #[.int .i64 V.k, .int .i64 V.n, .string V.s, .slice A1 V.l.length c1, .slice A2 V.m.length c2] q1 from Below.at hbq HH.out); have HBDn := Lib.hid (bel_trans HBD.out hbq)
      clear hbq HH HBD
      refine hK.out _ _ HHn.out (fun hHeld => ?_)
      clear hK K hHeld
      try simp only [lay]
      have HH := HHn; have HBD := HBDn
      clear HHn HBDn
      refine PrintLast.wpAnyLast_ready (rs := [3, 5]) (by kernel_rfl) (by simp) ?_
      refine PrintLast.AllReadyL.cons rfl (by decide) (fun K hK => ?_) (PrintLast.AllReadyL.cons rfl (by decide) (fun K hK => ?_) (PrintLast.AllReadyL.nil))
      · rw [if_pos (by kernel_rfl)]
        go_simp
        have hgc := rn_any V ⟨#[115, 116, 97, 114]⟩ _ _ q1 HL.out (JR_later HJ.out HBD.out)
        rw [HG2.out] at hgc
        go_at_call 92; refine hgc.mono ?_; rintro e q2 ⟨rfl, hbq⟩
        clear hgc
        go_wp2_with fail
        have HHn := Lib.hid (show GtS X4 #[.int .i64 V.k, .int .i64 V.n, .string V.s, .slice A1 V.l.length c1, .slice A2 V.m.length c2] q2 from Below.at hbq HH.out); have HBDn := Lib.hid (bel_trans HBD.out hbq)
        clear hbq HH HBD
        refine hK.out _ _ HHn.out (fun hHeld => ?_)
        clear hK K hHeld
        try simp only [lay]
        have HH := HHn; have HBD := HBDn
        clear HHn HBDn
        refine PrintLast.wpAnyLast_any (i := 4) (v := ?_) rfl (Region.noSelect_spec (by kernel_rfl)) (fun _ _ _ h => h) _ _ _ _ (Region.free_spec rfl (by kernel_rfl)) (List.contains_iff_mem.1 (by kernel_rfl)) (Or.inl ⟨by kernel_rfl, ?_⟩) ?_
        rotate_left
        · (intro wX; go_simp; try (with_reducible rfl))
        try simp only [lay]
        refine PrintLast.wpAnyLast_ready (rs := [5]) (by kernel_rfl) (by simp) ?_
        refine PrintLast.AllReadyL.cons rfl (by decide) (fun K hK => ?_) (PrintLast.AllReadyL.nil)
        rw [if_pos (by kernel_rfl)]
        go_simp
        have hal := bel_alloc (Below.refl q2.heap.size q2) (.cells #[.int .i64 0, .int .i64 0] 89)
        have HHn := Lib.hid (show GtS X4 #[.int .i64 V.k, .int .i64 V.n, .string V.s, .slice A1 V.l.length c1, .slice A2 V.m.length c2] (q2.alloc (.cells #[.int .i64 0, .int .i64 0] 89)) from Below.at hal HH.out); have HBDn := Lib.hid (bel_trans HBD.out hal)
        have HZ := Lib.hid (heap_alloc_new q2 (.cells #[.int .i64 0, .int .i64 0] 89))
        have HX := Lib.hid HBD.out.size
        clear hal HH HBD
        refine hK.out _ _ HHn.out (fun hHeld => ?_)
        clear hK K hHeld
        try simp only [lay]
        generalize q2.heap.size = X5 at *
        generalize q2.alloc (.cells #[.int .i64 0, .int .i64 0] 89) = q3 at *
        have HH := HHn; have HBD := HBDn
        clear HHn HBDn
        have HRR := Lib.hid (gt2_end (.int .i64 T1) (.int .i64 T2) HZ.out HBD.out HX.out)
        obtain ⟨p0, p1, q0', q1'⟩ := cells2 HZ.out
        clear HZ HBD HH HX
        refine PrintLast.wpAnyLast_ready (rs := [6]) (by kernel_rfl) (by simp) ?_
        refine PrintLast.AllReadyL.cons_last rfl (by decide) (fun K hK => ?_) PrintLast.AllReadyL.nil
        rw [if_pos (by kernel_rfl)]
        go_simp
        refine hK.out _ _ ?_
        clear hK K
        try simp only [lay]
        refine PrintLast.wpAnyLast_done (by kernel_rfl) ?_ _
        go_wp2_with fail
        go_meet
        case rel => exact ⟨X5, rfl, HRR.out⟩
      · rw [if_pos (by kernel_rfl)]
        go_simp
        have hal := bel_alloc (Below.refl q1.heap.size q1) (.cells #[.int .i64 0, .int .i64 0] 89)
        have HHn := Lib.hid (show GtS X4 #[.int .i64 V.k, .int .i64 V.n, .string V.s, .slice A1 V.l.length c1, .slice A2 V.m.length c2] (q1.alloc (.cells #[.int .i64 0, .int .i64 0] 89)) from Below.at hal HH.out); have HBDn := Lib.hid (bel_trans HBD.out hal)
        have HZ := Lib.hid (heap_alloc_new q1 (.cells #[.int .i64 0, .int .i64 0] 89))
        have HX := Lib.hid HBD.out.size
        clear hal HH HBD
        refine hK.out _ _ HHn.out (fun hHeld => ?_)
        clear hK K hHeld
        try simp only [lay]
        generalize q1.heap.size = X5 at *
        generalize q1.alloc (.cells #[.int .i64 0, .int .i64 0] 89) = q2 at *
        have HH := HHn; have HBD := HBDn
        clear HHn HBDn
        refine PrintLast.wpAnyLast_ready (rs := [3]) (by kernel_rfl) (by simp) ?_
        refine PrintLast.AllReadyL.cons rfl (by decide) (fun K hK => ?_) (PrintLast.AllReadyL.nil)
        rw [if_pos (by kernel_rfl)]
        go_simp
        have hgc := rn_any V ⟨#[115, 116, 97, 114]⟩ _ _ q2 HL.out (JR_later HJ.out HBD.out)
        rw [HG2.out] at hgc
        go_at_call 92; refine hgc.mono ?_; rintro e q3 ⟨rfl, hbq⟩
        clear hgc
        go_wp2_with fail
        have HHn := Lib.hid (show GtS X4 #[.int .i64 V.k, .int .i64 V.n, .string V.s, .slice A1 V.l.length c1, .slice A2 V.m.length c2] q3 from Below.at hbq HH.out); have HBDn := Lib.hid (bel_trans HBD.out hbq)
        have HZn := Lib.hid (Below.at hbq HZ.out)
        clear HZ
        clear hbq HH HBD
        refine hK.out _ _ HHn.out (fun hHeld => ?_)
        clear hK K hHeld
        try simp only [lay]
        have HH := HHn; have HBD := HBDn
        clear HHn HBDn
        have HZ := HZn
        clear HZn
        refine PrintLast.wpAnyLast_any (i := 4) (v := ?_) rfl (Region.noSelect_spec (by kernel_rfl)) (fun _ _ _ h => h) _ _ _ _ (Region.free_spec rfl (by kernel_rfl)) (List.contains_iff_mem.1 (by kernel_rfl)) (Or.inl ⟨by kernel_rfl, ?_⟩) ?_
        rotate_left
        · (intro wX; go_simp; try (with_reducible rfl))
        try simp only [lay]
        have HRR := Lib.hid (gt2_end (.int .i64 T1) (.int .i64 T2) HZ.out HBD.out HX.out)
        obtain ⟨p0, p1, q0', q1'⟩ := cells2 HZ.out
        clear HZ HBD HH HX
        refine PrintLast.wpAnyLast_ready (rs := [6]) (by kernel_rfl) (by simp) ?_
        refine PrintLast.AllReadyL.cons_last rfl (by decide) (fun K hK => ?_) PrintLast.AllReadyL.nil
        rw [if_pos (by kernel_rfl)]
        go_simp
        refine hK.out _ _ ?_
        clear hK K
        try simp only [lay]
        refine PrintLast.wpAnyLast_done (by kernel_rfl) ?_ _
        go_wp2_with fail
        go_meet
        case rel => exact ⟨X5, rfl, HRR.out⟩
    · rw [if_pos (by kernel_rfl)]
      go_simp
      have hal := bel_alloc (Below.refl q0.heap.size q0) (.cells #[.int .i64 0, .int .i64 0] 89)
      have HHn := Lib.hid (show GtS X4 #[.int .i64 V.k, .int .i64 V.n, .string V.s, .slice A1 V.l.length c1, .slice A2 V.m.length c2] (q0.alloc (.cells #[.int .i64 0, .int .i64 0] 89)) from Below.at hal HH.out); have HBDn := Lib.hid (bel_trans HBD.out hal)
      have HZ := Lib.hid (heap_alloc_new q0 (.cells #[.int .i64 0, .int .i64 0] 89))
      have HX := Lib.hid HBD.out.size
      clear hal HH HBD
      refine hK.out _ _ HHn.out (fun hHeld => ?_)
      clear hK K hHeld
      try simp only [lay]
      generalize q0.heap.size = X5 at *
      generalize q0.alloc (.cells #[.int .i64 0, .int .i64 0] 89) = q1 at *
      have HH := HHn; have HBD := HBDn
      clear HHn HBDn
      refine PrintLast.wpAnyLast_ready (rs := [1]) (by kernel_rfl) (by simp) ?_
      refine PrintLast.AllReadyL.cons rfl (by decide) (fun K hK => ?_) (PrintLast.AllReadyL.nil)
      rw [if_pos (by kernel_rfl)]
      go_simp
      have hgc := rn_any V ⟨#[114, 101, 97, 100]⟩ _ _ q1 HL.out (JR_later HJ.out HBD.out)
      rw [HG1.out] at hgc
      go_at_call 92; refine hgc.mono ?_; rintro e q2 ⟨rfl, hbq⟩
      clear hgc
      go_wp2_with fail
      have HHn := Lib.hid (show GtS X4 #[.int .i64 V.k, .int .i64 V.n, .string V.s, .slice A1 V.l.length c1, .slice A2 V.m.length c2] q2 from Below.at hbq HH.out); have HBDn := Lib.hid (bel_trans HBD.out hbq)
      have HZn := Lib.hid (Below.at hbq HZ.out)
      clear HZ
      clear hbq HH HBD
      refine hK.out _ _ HHn.out (fun hHeld => ?_)
      clear hK K hHeld
      try simp only [lay]
      have HH := HHn; have HBD := HBDn
      clear HHn HBDn
      have HZ := HZn
      clear HZn
      refine PrintLast.wpAnyLast_ready (rs := [3]) (by kernel_rfl) (by simp) ?_
      refine PrintLast.AllReadyL.cons rfl (by decide) (fun K hK => ?_) (PrintLast.AllReadyL.nil)
      rw [if_pos (by kernel_rfl)]
      go_simp
      have hgc := rn_any V ⟨#[115, 116, 97, 114]⟩ _ _ q2 HL.out (JR_later HJ.out HBD.out)
      rw [HG2.out] at hgc
      go_at_call 92; refine hgc.mono ?_; rintro e q3 ⟨rfl, hbq⟩
      clear hgc
      go_wp2_with fail
      have HHn := Lib.hid (show GtS X4 #[.int .i64 V.k, .int .i64 V.n, .string V.s, .slice A1 V.l.length c1, .slice A2 V.m.length c2] q3 from Below.at hbq HH.out); have HBDn := Lib.hid (bel_trans HBD.out hbq)
      have HZn := Lib.hid (Below.at hbq HZ.out)
      clear HZ
      clear hbq HH HBD
      refine hK.out _ _ HHn.out (fun hHeld => ?_)
      clear hK K hHeld
      try simp only [lay]
      have HH := HHn; have HBD := HBDn
      clear HHn HBDn
      have HZ := HZn
      clear HZn
      refine PrintLast.wpAnyLast_any (i := 4) (v := ?_) rfl (Region.noSelect_spec (by kernel_rfl)) (fun _ _ _ h => h) _ _ _ _ (Region.free_spec rfl (by kernel_rfl)) (List.contains_iff_mem.1 (by kernel_rfl)) (Or.inl ⟨by kernel_rfl, ?_⟩) ?_
      rotate_left
      · (intro wX; go_simp; try (with_reducible rfl))
      try simp only [lay]
      have HRR := Lib.hid (gt2_end (.int .i64 T1) (.int .i64 T2) HZ.out HBD.out HX.out)
      obtain ⟨p0, p1, q0', q1'⟩ := cells2 HZ.out
      clear HZ HBD HH HX
      refine PrintLast.wpAnyLast_ready (rs := [6]) (by kernel_rfl) (by simp) ?_
      refine PrintLast.AllReadyL.cons_last rfl (by decide) (fun K hK => ?_) PrintLast.AllReadyL.nil
      rw [if_pos (by kernel_rfl)]
      go_simp
      refine hK.out _ _ ?_
      clear hK K
      try simp only [lay]
      refine PrintLast.wpAnyLast_done (by kernel_rfl) ?_ _
      go_wp2_with fail
      go_meet
      case rel => exact ⟨X5, rfl, HRR.out⟩
  case rest =>
    obtain ⟨X5, rfl, hx5, hbr⟩ := hcut
    have HB3 := Lib.hid (bel_trans HB2.out hbr); have HK3 := Lib.hid (Below.at hbr HK2.out); have HX5 := Lib.hid hx5
    clear hbr hx5 HB2 HK2 HC HJ
    obtain ⟨p0, p1, _, _⟩ := cells2 HX5.out
    have hcl := HP.out wc (HT.out.below HB3.out)
    have HCL := Lib.hid hcl
    clear hcl
    go_wp2_with fail
    refine Calls.mono HCL.out ?_
    rintro e w6 ⟨rfl, hb6⟩
    have HB6 := Lib.hid (bel_trans HB3.out hb6); have HK6 := Lib.hid (Below.at hb6 HK3.out); have HX6 := Lib.hid (Below.at hb6 HX5.out)
    clear HCL hb6 HB3 HK3 HX5 p0 p1
    obtain ⟨p0, p1, _, _⟩ := cells2 HX6.out
    obtain ⟨u0, u1, t0, t1⟩ := cells2 HK6.out
    rcases hc with ⟨rfl, hc⟩ | ⟨rfl, hc⟩
    · have hr : R = false := by rw [← hR]; exact hc s
      subst hr
      clear hc hR
      have hf := gt2_end (.int .i64 0) (.int .i64 0) HK6.out HB6.out (Nat.le_refl _)
      go_wp2_with fail
      exact bodyPost_ret (results_row_tmp rfl _ _ w.heap.size 89 #[.int .i64 0, .int .i64 0] (0, 0) _ rfl hf.1 Tryz.underlying89 rfl (by kernel_rfl)) rfl ⟨rfl, hf.2⟩
    · have hr : (S.toList == s.toList) = R := by rw [← hR]; exact (hc s).symm
      have hr2 : (S.toList != s.toList) = !R := by rw [bne, hr]
      clear hc hR
      cases R with
      | false =>
        have hf := gt2_end (.int .i64 0) (.int .i64 0) HK6.out HB6.out (Nat.le_refl _)
        go_wp2_with fail
        exact bodyPost_ret (results_row_tmp rfl _ _ w.heap.size 89 #[.int .i64 0, .int .i64 0] (0, 0) _ rfl hf.1 Tryz.underlying89 rfl (by kernel_rfl)) rfl ⟨rfl, hf.2⟩
      | true =>
        have hf := gt2_end (.int .i64 T1) (.int .i64 T2) HK6.out HB6.out (Nat.le_refl _)
        go_wp2_with fail
        exact bodyPost_ret (results_row_tmp rfl _ _ w.heap.size 89 #[.int .i64 T1, .int .i64 T2] (0, 0) _ rfl hf.1 Tryz.underlying89 rfl (by kernel_rfl)) rfl ⟨rfl, hf.2⟩
end Go.Proofs.YtlihjmfdnkfmfaaGreatDoor
