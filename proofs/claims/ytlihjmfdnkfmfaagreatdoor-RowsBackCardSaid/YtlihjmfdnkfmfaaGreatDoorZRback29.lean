/- Parts of the proof: Se, Hm, MkM. -/
import Derived.Test.YtlihjmfdnkfmfaaGreatDoorZRback26
import Derived.Test.YtlihjmfdnkfmfaaGreatDoorZRback28
import Derived.Test.YtlihjmfdnkfmfaaGreatDoorZRback1
import Derived.Test.YtlihjmfdnkfmfaaGreatDoorZRback24
namespace Go.Proofs.YtlihjmfdnkfmfaaGreatDoor
open Go.RowKit Go.Lib

theorem gt5_end {W wq : World} {X : Nat} {T : TypeId} {a0 a1 a2 a3 a4 : Value} (v0 v1 v2 v3 v4 : Value) (h : wq.heap[X]? = some (.cells #[a0, a1, a2, a3, a4] T (0, 0))) (hb : Below W.heap.size W wq) (hX : W.heap.size ≤ X) :
    (((((wq.setCell ⟨X, 0, none⟩ v0).setCell ⟨X, 1, none⟩ v1).setCell ⟨X, 2, none⟩ v2).setCell ⟨X, 3, none⟩ v3).setCell ⟨X, 4, none⟩ v4).heap[X]? = some (.cells #[v0, v1, v2, v3, v4] T (0, 0)) ∧ Below W.heap.size W (((((wq.setCell ⟨X, 0, none⟩ v0).setCell ⟨X, 1, none⟩ v1).setCell ⟨X, 2, none⟩ v2).setCell ⟨X, 3, none⟩ v3).setCell ⟨X, 4, none⟩ v4) := by
  refine ⟨?_, bel_set (p := ⟨X, 4, none⟩) (bel_set (p := ⟨X, 3, none⟩) (bel_set (p := ⟨X, 2, none⟩) (bel_set (p := ⟨X, 1, none⟩) (bel_set (p := ⟨X, 0, none⟩) hb hX v0) hX v1) hX v2) hX v3) hX v4⟩
  have h1 : (wq.setCell ⟨X, 0, none⟩ v0).heap[X]? = some (.cells #[v0, a1, a2, a3, a4] T (0, 0)) := by simpa using heap_setCell_row (i := 0) (v := v0) h
  have h2 : ((wq.setCell ⟨X, 0, none⟩ v0).setCell ⟨X, 1, none⟩ v1).heap[X]? = some (.cells #[v0, v1, a2, a3, a4] T (0, 0)) := by simpa using heap_setCell_row (i := 1) (v := v1) h1
  have h3 : (((wq.setCell ⟨X, 0, none⟩ v0).setCell ⟨X, 1, none⟩ v1).setCell ⟨X, 2, none⟩ v2).heap[X]? = some (.cells #[v0, v1, v2, a3, a4] T (0, 0)) := by simpa using heap_setCell_row (i := 2) (v := v2) h2
  have h4 : ((((wq.setCell ⟨X, 0, none⟩ v0).setCell ⟨X, 1, none⟩ v1).setCell ⟨X, 2, none⟩ v2).setCell ⟨X, 3, none⟩ v3).heap[X]? = some (.cells #[v0, v1, v2, v3, a4] T (0, 0)) := by simpa using heap_setCell_row (i := 3) (v := v3) h3
  simpa using heap_setCell_row (i := 4) (v := v4) h4
theorem cells5e {w : World} {B : Nat} {T : TypeId} {a0 a1 a2 a3 a4 : Value} (h : w.heap[B]? = some (.cells #[a0, a1, a2, a3, a4] T (0, 0))) :
    (w.cell? ⟨B, 0, none⟩ = some a0 ∧ w.cell? ⟨B, 1, none⟩ = some a1 ∧ w.cell? ⟨B, 2, none⟩ = some a2 ∧ w.cell? ⟨B, 3, none⟩ = some a3 ∧ w.cell? ⟨B, 4, none⟩ = some a4) ∧
    (w.frozen? ⟨B, 0, none⟩ = false ∧ w.frozen? ⟨B, 1, none⟩ = false ∧ w.frozen? ⟨B, 2, none⟩ = false ∧ w.frozen? ⟨B, 3, none⟩ = false ∧ w.frozen? ⟨B, 4, none⟩ = false) := by
  simp [World.cell?, World.frozen?, h]
set_option maxRecDepth 100000 in
set_option maxHeartbeats 16000000 in
theorem getEntry_any (s : ByteArray) (num : Int) (w : World) (hT : Tabs w) :
    Calls Tryz.prog 43 #[.string s, .int .i64 num] w fun e w' => e = .returned (.tuple #[(if isE s then .agg #[.int .i64 num, .string (gS s nmGuid), .string (gS s nmTitle), .string (gS s nmLink), .int .i64 (gN s nmWhen)] else .agg #[.int .i64 0, .string ⟨#[]⟩, .string ⟨#[]⟩, .string ⟨#[]⟩, .int .i64 0]), .bool (isE s)]) ∧ Below w.heap.size w w' := by
  obtain ⟨V, ev, hV⟩ : ∃ V ev, parseB s = (V, ev) := ⟨_, _, rfl⟩
  have hln : LnJ V := by have := parse_lnR s; rw [hV] at this; exact this
  obtain ⟨T1, h1⟩ : ∃ T, gS s nmGuid = T := ⟨_, rfl⟩
  obtain ⟨T2, h2⟩ : ∃ T, gS s nmTitle = T := ⟨_, rfl⟩
  obtain ⟨T3, h3⟩ : ∃ T, gS s nmLink = T := ⟨_, rfl⟩
  obtain ⟨T4, h4⟩ : ∃ T, gN s nmWhen = T := ⟨_, rfl⟩
  have hg1 : (getB ⟨#[103, 117, 105, 100]⟩ (memsOf V)).1.s = T1 := by rw [← h1]; unfold gS; rw [hV]; rfl
  have hg2 : (getB ⟨#[116, 105, 116, 108, 101]⟩ (memsOf V)).1.s = T2 := by rw [← h2]; unfold gS; rw [hV]; rfl
  have hg3 : (getB ⟨#[108, 105, 110, 107]⟩ (memsOf V)).1.s = T3 := by rw [← h3]; unfold gS; rw [hV]; rfl
  have hg4 : (getB ⟨#[119, 104, 101, 110]⟩ (memsOf V)).1.n = T4 := by rw [← h4]; unfold gN; rw [hV]; rfl
  have hsz1 : T1.size ≤ 8000 := by rw [← h1]; exact gS_size _ _
  have hsz2 : T2.size ≤ 8000 := by rw [← h2]; exact gS_size _ _
  have hsz3 : T3.size ≤ 8000 := by rw [← h3]; exact gS_size _ _
  have hU : isE s = isRow (entryOk T1 T3 T2 T4) (entryO T1 T3 T2 T4) s := by unfold isE; rw [h1, h2, h3, h4]
  rw [hU, h1, h2, h3, h4]
  obtain ⟨S, E, hp, hc⟩ := putB_cases (entryOk T1 T3 T2 T4) (entryO T1 T3 T2 T4)
  have HP := Lib.hid (fun (W : World) (hW : Tabs W) => jputEntry num T4 T1 T2 T3 W (by omega) (by omega) (by omega) hW (fun hm => entry_len (by omega) (by omega) (by omega) hm))
  rw [hp] at HP
  have hbA : Below w.heap.size w (w.alloc (.cells #[.int .i64 0, .string ⟨#[]⟩, .string ⟨#[]⟩, .string ⟨#[]⟩, .int .i64 0] 59)) := bel_alloc (Below.refl _ _) _
  have hk := heap_alloc_new w (.cells #[.int .i64 0, .string ⟨#[]⟩, .string ⟨#[]⟩, .string ⟨#[]⟩, .int .i64 0] 59)
  have HT := Lib.hid hT; have HV := Lib.hid hV; have HL := Lib.hid hln; have HG1 := Lib.hid hg1; have HG2 := Lib.hid hg2; have HG3 := Lib.hid hg3; have HG4 := Lib.hid hg4
  clear hT hV hln hg1 hg2 hg3 hg4 hU h1 h2 h3 h4 hp hsz1 hsz2 hsz3
  generalize hR : isRow (entryOk T1 T3 T2 T4) (entryO T1 T3 T2 T4) s = R at *
  go_enter Tryz.func43, Tryz.ntmps43
  go_upto_region 1 with (fail)
  generalize w.alloc (.cells #[.int .i64 0, .string ⟨#[]⟩, .string ⟨#[]⟩, .string ⟨#[]⟩, .int .i64 0] 59) = W0 at *
  have HB := Lib.hid hbA; have HK := Lib.hid hk
  clear hbA hk
  have hcl := rparse_s s HV.out W0 (HT.out.below HB.out)
  have HCL := Lib.hid hcl
  clear hcl
  go_wp2_with fail
  refine Calls.mono HCL.out ?_
  rintro e u ⟨A1, m1, c1, A2, m2, c2, rfl, hj, hb⟩
  obtain ⟨rfl, rfl⟩ := jr_lensR hj
  have hA2 := bel_alloc (Below.refl u.heap.size u) (.cells #[.int .i64 V.k, .int .i64 V.n, .string V.s, .slice A1 V.l.length c1, .slice A2 V.m.length c2] 43)
  have hb2 := bel_trans hb hA2
  have HB2 := Lib.hid (bel_trans HB.out hb2); have HK2 := Lib.hid (Below.at hb2 HK.out)
  have HC := Lib.hid (heap_alloc_new u (.cells #[.int .i64 V.k, .int .i64 V.n, .string V.s, .slice A1 V.l.length c1, .slice A2 V.m.length c2] 43)); have HJ := Lib.hid (JR_later hj hA2)
  clear hA2 hb2 hb hj HCL HB HK HV
  go_upto_region 2 with (fail)
  generalize u.heap.size = X4 at *
  generalize u.alloc (.cells #[.int .i64 V.k, .int .i64 V.n, .string V.s, .slice A1 V.l.length c1, .slice A2 V.m.length c2] 43) = W4 at *
  go_wp2_with fail
  go_cut [7] (fun s5 wx => GtR #[.int .i64 num, .string T1, .string T2, .string T3, .int .i64 T4] 59 W4 s5 wx)
  case first =>
    have HSS := Lib.hid (show GtS X4 #[.int .i64 V.k, .int .i64 V.n, .string V.s, .slice A1 V.l.length c1, .slice A2 V.m.length c2] W4.drew from HC.out)
    refine PrintLast.wp_region_last_drew (S := GtS X4 #[.int .i64 V.k, .int .i64 V.n, .string V.s, .slice A1 V.l.length c1, .slice A2 V.m.length c2]) (ds := [11]) (by kernel_rfl) HSS.out (fun hHeld => ?_)
    refine PrintLast.tk 1 (v := ?_) rfl (by assumption) ?_ ?_
    rotate_left
    · (intro wX hSw; obtain ⟨z0, z1, z2, z3, z4⟩ := (cells5 (show wX.heap[X4]? = _ from hSw)).1; go_simp; try (with_reducible rfl))
    try simp only [lay]
    refine PrintLast.tk 3 (v := ?_) rfl (by assumption) ?_ ?_
    rotate_left
    · (intro wX hSw; obtain ⟨z0, z1, z2, z3, z4⟩ := (cells5 (show wX.heap[X4]? = _ from hSw)).1; go_simp; try (with_reducible rfl))
    try simp only [lay]
    refine PrintLast.tk 5 (v := ?_) rfl (by assumption) ?_ ?_
    rotate_left
    · (intro wX hSw; obtain ⟨z0, z1, z2, z3, z4⟩ := (cells5 (show wX.heap[X4]? = _ from hSw)).1; go_simp; try (with_reducible rfl))
    try simp only [lay]
    refine PrintLast.tk 7 (v := ?_) rfl (by assumption) ?_ ?_
    rotate_left
    · (intro wX hSw; obtain ⟨z0, z1, z2, z3, z4⟩ := (cells5 (show wX.heap[X4]? = _ from hSw)).1; go_simp; try (with_reducible rfl))
    try simp only [lay]
    refine PrintLast.wpAnyLast_any (i := 0) (v := ?_) rfl (Region.noSelect_spec (by kernel_rfl)) (fun _ _ _ h => h) _ _ _ _ (Region.free_spec rfl (by kernel_rfl)) (List.contains_iff_mem.1 (by kernel_rfl)) (Or.inl ⟨by kernel_rfl, ?_⟩) ?_
    rotate_left
    · (intro wX; go_simp; try (with_reducible rfl))
    try simp only [lay]
    have HH := Lib.hid hHeld
    have HBD := Lib.hid (bel_drew (Below.refl W4.heap.size W4))
    clear hHeld HSS
    generalize W4.drew = q0 at *
    refine PrintLast.wpAnyLast_ready (rs := [2, 10]) (by kernel_rfl) (by simp) ?_
    refine PrintLast.AllReadyL.cons rfl (by decide) (fun K hK => ?_) (PrintLast.AllReadyL.cons rfl (by decide) (fun K hK => ?_) (PrintLast.AllReadyL.nil))
    · rw [if_pos (by kernel_rfl)]
      go_simp
      have hgc := rs_any V ⟨#[103, 117, 105, 100]⟩ _ _ q0 HL.out (JR_later HJ.out HBD.out)
      rw [HG1.out] at hgc
      go_at_call 91; refine hgc.mono ?_; rintro e q1 ⟨rfl, hbq⟩
      clear hgc
      go_wp2_with fail
      have HHn := Lib.hid (show GtS X4 #[.int .i64 V.k, .int .i64 V.n, .string V.s, .slice A1 V.l.length c1, .slice A2 V.m.length c2] q1 from Below.at hbq HH.out); have HBDn := Lib.hid (bel_trans HBD.out hbq)
      clear hbq HH HBD
      refine hK.out _ _ HHn.out (fun hHeld => ?_)
      clear hK K hHeld
      try simp only [lay]
      have HH := HHn; have HBD := HBDn
      clear HHn HBDn
      refine PrintLast.wpAnyLast_ready (rs := [4, 10]) (by kernel_rfl) (by simp) ?_
      refine PrintLast.AllReadyL.cons rfl (by decide) (fun K hK => ?_) (PrintLast.AllReadyL.cons rfl (by decide) (fun K hK => ?_) (PrintLast.AllReadyL.nil))
      · rw [if_pos (by kernel_rfl)]
        go_simp
        have hgc := rs_any V ⟨#[116, 105, 116, 108, 101]⟩ _ _ q1 HL.out (JR_later HJ.out HBD.out)
        rw [HG2.out] at hgc
        go_at_call 91; refine hgc.mono ?_; rintro e q2 ⟨rfl, hbq⟩
        clear hgc
        go_wp2_with fail
        have HHn := Lib.hid (show GtS X4 #[.int .i64 V.k, .int .i64 V.n, .string V.s, .slice A1 V.l.length c1, .slice A2 V.m.length c2] q2 from Below.at hbq HH.out); have HBDn := Lib.hid (bel_trans HBD.out hbq)
        clear hbq HH HBD
        refine hK.out _ _ HHn.out (fun hHeld => ?_)
        clear hK K hHeld
        try simp only [lay]
        have HH := HHn; have HBD := HBDn
        clear HHn HBDn
        refine PrintLast.wpAnyLast_ready (rs := [6, 10]) (by kernel_rfl) (by simp) ?_
        refine PrintLast.AllReadyL.cons rfl (by decide) (fun K hK => ?_) (PrintLast.AllReadyL.cons rfl (by decide) (fun K hK => ?_) (PrintLast.AllReadyL.nil))
        · rw [if_pos (by kernel_rfl)]
          go_simp
          have hgc := rs_any V ⟨#[108, 105, 110, 107]⟩ _ _ q2 HL.out (JR_later HJ.out HBD.out)
          rw [HG3.out] at hgc
          go_at_call 91; refine hgc.mono ?_; rintro e q3 ⟨rfl, hbq⟩
          clear hgc
          go_wp2_with fail
          have HHn := Lib.hid (show GtS X4 #[.int .i64 V.k, .int .i64 V.n, .string V.s, .slice A1 V.l.length c1, .slice A2 V.m.length c2] q3 from Below.at hbq HH.out); have HBDn := Lib.hid (bel_trans HBD.out hbq)
          clear hbq HH HBD
          refine hK.out _ _ HHn.out (fun hHeld => ?_)
          clear hK K hHeld
          try simp only [lay]
          have HH := HHn; have HBD := HBDn
          clear HHn HBDn
          refine PrintLast.wpAnyLast_ready (rs := [8, 10]) (by kernel_rfl) (by simp) ?_
          refine PrintLast.AllReadyL.cons rfl (by decide) (fun K hK => ?_) (PrintLast.AllReadyL.cons rfl (by decide) (fun K hK => ?_) (PrintLast.AllReadyL.nil))
          · rw [if_pos (by kernel_rfl)]
            go_simp
            have hgc := rn_any V ⟨#[119, 104, 101, 110]⟩ _ _ q3 HL.out (JR_later HJ.out HBD.out)
            rw [HG4.out] at hgc
            go_at_call 92; refine hgc.mono ?_; rintro e q4 ⟨rfl, hbq⟩
            clear hgc
            go_wp2_with fail
            have HHn := Lib.hid (show GtS X4 #[.int .i64 V.k, .int .i64 V.n, .string V.s, .slice A1 V.l.length c1, .slice A2 V.m.length c2] q4 from Below.at hbq HH.out); have HBDn := Lib.hid (bel_trans HBD.out hbq)
            clear hbq HH HBD
            refine hK.out _ _ HHn.out (fun hHeld => ?_)
            clear hK K hHeld
            try simp only [lay]
            have HH := HHn; have HBD := HBDn
            clear HHn HBDn
            refine PrintLast.wpAnyLast_any (i := 9) (v := ?_) rfl (Region.noSelect_spec (by kernel_rfl)) (fun _ _ _ h => h) _ _ _ _ (Region.free_spec rfl (by kernel_rfl)) (List.contains_iff_mem.1 (by kernel_rfl)) (Or.inl ⟨by kernel_rfl, ?_⟩) ?_
            rotate_left
            · (intro wX; go_simp; try (with_reducible rfl))
            try simp only [lay]
            refine PrintLast.wpAnyLast_ready (rs := [10]) (by kernel_rfl) (by simp) ?_
            refine PrintLast.AllReadyL.cons rfl (by decide) (fun K hK => ?_) (PrintLast.AllReadyL.nil)
            rw [if_pos (by kernel_rfl)]
            go_simp
            have hal := bel_alloc (Below.refl q4.heap.size q4) (.cells #[.int .i64 0, .string ⟨#[]⟩, .string ⟨#[]⟩, .string ⟨#[]⟩, .int .i64 0] 59)
            have HHn := Lib.hid (show GtS X4 #[.int .i64 V.k, .int .i64 V.n, .string V.s, .slice A1 V.l.length c1, .slice A2 V.m.length c2] (q4.alloc (.cells #[.int .i64 0, .string ⟨#[]⟩, .string ⟨#[]⟩, .string ⟨#[]⟩, .int .i64 0] 59)) from Below.at hal HH.out); have HBDn := Lib.hid (bel_trans HBD.out hal)
            have HZ := Lib.hid (heap_alloc_new q4 (.cells #[.int .i64 0, .string ⟨#[]⟩, .string ⟨#[]⟩, .string ⟨#[]⟩, .int .i64 0] 59))
            have HX := Lib.hid HBD.out.size
            clear hal HH HBD
            refine hK.out _ _ HHn.out (fun hHeld => ?_)
            clear hK K hHeld
            try simp only [lay]
            generalize q4.heap.size = X5 at *
            generalize q4.alloc (.cells #[.int .i64 0, .string ⟨#[]⟩, .string ⟨#[]⟩, .string ⟨#[]⟩, .int .i64 0] 59) = q5 at *
            have HH := HHn; have HBD := HBDn
            clear HHn HBDn
            have HRR := Lib.hid (gt5_end (.int .i64 num) (.string T1) (.string T2) (.string T3) (.int .i64 T4) HZ.out HBD.out HX.out)
            obtain ⟨⟨p0, p1, p2, p3, p4⟩, q0', q1', q2', q3', q4'⟩ := cells5e HZ.out
            clear HZ HBD HH HX
            refine PrintLast.wpAnyLast_ready (rs := [11]) (by kernel_rfl) (by simp) ?_
            refine PrintLast.AllReadyL.cons_last rfl (by decide) (fun K hK => ?_) PrintLast.AllReadyL.nil
            rw [if_pos (by kernel_rfl)]
            go_simp
            refine hK.out _ _ ?_
            clear hK K
            try simp only [lay]
            refine PrintLast.wpAnyLast_done (by kernel_rfl) ?_ _
            go_wp2_with fail
            go_meet
            case rel => exact ⟨X5, rfl, HRR.out⟩
          · rw [if_pos (by kernel_rfl)]
            go_simp
            have hal := bel_alloc (Below.refl q3.heap.size q3) (.cells #[.int .i64 0, .string ⟨#[]⟩, .string ⟨#[]⟩, .string ⟨#[]⟩, .int .i64 0] 59)
            have HHn := Lib.hid (show GtS X4 #[.int .i64 V.k, .int .i64 V.n, .string V.s, .slice A1 V.l.length c1, .slice A2 V.m.length c2] (q3.alloc (.cells #[.int .i64 0, .string ⟨#[]⟩, .string ⟨#[]⟩, .string ⟨#[]⟩, .int .i64 0] 59)) from Below.at hal HH.out); have HBDn := Lib.hid (bel_trans HBD.out hal)
            have HZ := Lib.hid (heap_alloc_new q3 (.cells #[.int .i64 0, .string ⟨#[]⟩, .string ⟨#[]⟩, .string ⟨#[]⟩, .int .i64 0] 59))
            have HX := Lib.hid HBD.out.size
            clear hal HH HBD
            refine hK.out _ _ HHn.out (fun hHeld => ?_)
            clear hK K hHeld
            try simp only [lay]
            generalize q3.heap.size = X5 at *
            generalize q3.alloc (.cells #[.int .i64 0, .string ⟨#[]⟩, .string ⟨#[]⟩, .string ⟨#[]⟩, .int .i64 0] 59) = q4 at *
            have HH := HHn; have HBD := HBDn
            clear HHn HBDn
            refine PrintLast.wpAnyLast_ready (rs := [8]) (by kernel_rfl) (by simp) ?_
            refine PrintLast.AllReadyL.cons rfl (by decide) (fun K hK => ?_) (PrintLast.AllReadyL.nil)
            rw [if_pos (by kernel_rfl)]
            go_simp
            have hgc := rn_any V ⟨#[119, 104, 101, 110]⟩ _ _ q4 HL.out (JR_later HJ.out HBD.out)
            rw [HG4.out] at hgc
            go_at_call 92; refine hgc.mono ?_; rintro e q5 ⟨rfl, hbq⟩
            clear hgc
            go_wp2_with fail
            have HHn := Lib.hid (show GtS X4 #[.int .i64 V.k, .int .i64 V.n, .string V.s, .slice A1 V.l.length c1, .slice A2 V.m.length c2] q5 from Below.at hbq HH.out); have HBDn := Lib.hid (bel_trans HBD.out hbq)
            have HZn := Lib.hid (Below.at hbq HZ.out)
            clear HZ
            clear hbq HH HBD
            refine hK.out _ _ HHn.out (fun hHeld => ?_)
            clear hK K hHeld
            try simp only [lay]
            have HH := HHn; have HBD := HBDn
            clear HHn HBDn
            have HZ := HZn
            clear HZn
            refine PrintLast.wpAnyLast_any (i := 9) (v := ?_) rfl (Region.noSelect_spec (by kernel_rfl)) (fun _ _ _ h => h) _ _ _ _ (Region.free_spec rfl (by kernel_rfl)) (List.contains_iff_mem.1 (by kernel_rfl)) (Or.inl ⟨by kernel_rfl, ?_⟩) ?_
            rotate_left
            · (intro wX; go_simp; try (with_reducible rfl))
            try simp only [lay]
            have HRR := Lib.hid (gt5_end (.int .i64 num) (.string T1) (.string T2) (.string T3) (.int .i64 T4) HZ.out HBD.out HX.out)
            obtain ⟨⟨p0, p1, p2, p3, p4⟩, q0', q1', q2', q3', q4'⟩ := cells5e HZ.out
            clear HZ HBD HH HX
            refine PrintLast.wpAnyLast_ready (rs := [11]) (by kernel_rfl) (by simp) ?_
            refine PrintLast.AllReadyL.cons_last rfl (by decide) (fun K hK => ?_) PrintLast.AllReadyL.nil
            rw [if_pos (by kernel_rfl)]
            go_simp
            refine hK.out _ _ ?_
            clear hK K
            try simp only [lay]
            refine PrintLast.wpAnyLast_done (by kernel_rfl) ?_ _
            go_wp2_with fail
            go_meet
            case rel => exact ⟨X5, rfl, HRR.out⟩
        · rw [if_pos (by kernel_rfl)]
          go_simp
          have hal := bel_alloc (Below.refl q2.heap.size q2) (.cells #[.int .i64 0, .string ⟨#[]⟩, .string ⟨#[]⟩, .string ⟨#[]⟩, .int .i64 0] 59)
          have HHn := Lib.hid (show GtS X4 #[.int .i64 V.k, .int .i64 V.n, .string V.s, .slice A1 V.l.length c1, .slice A2 V.m.length c2] (q2.alloc (.cells #[.int .i64 0, .string ⟨#[]⟩, .string ⟨#[]⟩, .string ⟨#[]⟩, .int .i64 0] 59)) from Below.at hal HH.out); have HBDn := Lib.hid (bel_trans HBD.out hal)
          have HZ := Lib.hid (heap_alloc_new q2 (.cells #[.int .i64 0, .string ⟨#[]⟩, .string ⟨#[]⟩, .string ⟨#[]⟩, .int .i64 0] 59))
          have HX := Lib.hid HBD.out.size
          clear hal HH HBD
          refine hK.out _ _ HHn.out (fun hHeld => ?_)
          clear hK K hHeld
          try simp only [lay]
          generalize q2.heap.size = X5 at *
          generalize q2.alloc (.cells #[.int .i64 0, .string ⟨#[]⟩, .string ⟨#[]⟩, .string ⟨#[]⟩, .int .i64 0] 59) = q3 at *
          have HH := HHn; have HBD := HBDn
          clear HHn HBDn
          refine PrintLast.wpAnyLast_ready (rs := [6]) (by kernel_rfl) (by simp) ?_
          refine PrintLast.AllReadyL.cons rfl (by decide) (fun K hK => ?_) (PrintLast.AllReadyL.nil)
          rw [if_pos (by kernel_rfl)]
          go_simp
          have hgc := rs_any V ⟨#[108, 105, 110, 107]⟩ _ _ q3 HL.out (JR_later HJ.out HBD.out)
          rw [HG3.out] at hgc
          go_at_call 91; refine hgc.mono ?_; rintro e q4 ⟨rfl, hbq⟩
          clear hgc
          go_wp2_with fail
          have HHn := Lib.hid (show GtS X4 #[.int .i64 V.k, .int .i64 V.n, .string V.s, .slice A1 V.l.length c1, .slice A2 V.m.length c2] q4 from Below.at hbq HH.out); have HBDn := Lib.hid (bel_trans HBD.out hbq)
          have HZn := Lib.hid (Below.at hbq HZ.out)
          clear HZ
          clear hbq HH HBD
          refine hK.out _ _ HHn.out (fun hHeld => ?_)
          clear hK K hHeld
          try simp only [lay]
          have HH := HHn; have HBD := HBDn
          clear HHn HBDn
          have HZ := HZn
          clear HZn
          refine PrintLast.wpAnyLast_ready (rs := [8]) (by kernel_rfl) (by simp) ?_
          refine PrintLast.AllReadyL.cons rfl (by decide) (fun K hK => ?_) (PrintLast.AllReadyL.nil)
          rw [if_pos (by kernel_rfl)]
          go_simp
          have hgc := rn_any V ⟨#[119, 104, 101, 110]⟩ _ _ q4 HL.out (JR_later HJ.out HBD.out)
          rw [HG4.out] at hgc
          go_at_call 92; refine hgc.mono ?_; rintro e q5 ⟨rfl, hbq⟩
          clear hgc
          go_wp2_with fail
          have HHn := Lib.hid (show GtS X4 #[.int .i64 V.k, .int .i64 V.n, .string V.s, .slice A1 V.l.length c1, .slice A2 V.m.length c2] q5 from Below.at hbq HH.out); have HBDn := Lib.hid (bel_trans HBD.out hbq)
          have HZn := Lib.hid (Below.at hbq HZ.out)
          clear HZ
          clear hbq HH HBD
          refine hK.out _ _ HHn.out (fun hHeld => ?_)
          clear hK K hHeld
          try simp only [lay]
          have HH := HHn; have HBD := HBDn
          clear HHn HBDn
          have HZ := HZn
          clear HZn
          refine PrintLast.wpAnyLast_any (i := 9) (v := ?_) rfl (Region.noSelect_spec (by kernel_rfl)) (fun _ _ _ h => h) _ _ _ _ (Region.free_spec rfl (by kernel_rfl)) (List.contains_iff_mem.1 (by kernel_rfl)) (Or.inl ⟨by kernel_rfl, ?_⟩) ?_
          rotate_left
          · (intro wX; go_simp; try (with_reducible rfl))
          try simp only [lay]
          have HRR := Lib.hid (gt5_end (.int .i64 num) (.string T1) (.string T2) (.string T3) (.int .i64 T4) HZ.out HBD.out HX.out)
          obtain ⟨⟨p0, p1, p2, p3, p4⟩, q0', q1', q2', q3', q4'⟩ := cells5e HZ.out
          clear HZ HBD HH HX
          refine PrintLast.wpAnyLast_ready (rs := [11]) (by kernel_rfl) (by simp) ?_
          refine PrintLast.AllReadyL.cons_last rfl (by decide) (fun K hK => ?_) PrintLast.AllReadyL.nil
          rw [if_pos (by kernel_rfl)]
          go_simp
          refine hK.out _ _ ?_
          clear hK K
          try simp only [lay]
          refine PrintLast.wpAnyLast_done (by kernel_rfl) ?_ _
          go_wp2_with fail
          go_meet
          case rel => exact ⟨X5, rfl, HRR.out⟩
      · rw [if_pos (by kernel_rfl)]
        go_simp
        have hal := bel_alloc (Below.refl q1.heap.size q1) (.cells #[.int .i64 0, .string ⟨#[]⟩, .string ⟨#[]⟩, .string ⟨#[]⟩, .int .i64 0] 59)
        have HHn := Lib.hid (show GtS X4 #[.int .i64 V.k, .int .i64 V.n, .string V.s, .slice A1 V.l.length c1, .slice A2 V.m.length c2] (q1.alloc (.cells #[.int .i64 0, .string ⟨#[]⟩, .string ⟨#[]⟩, .string ⟨#[]⟩, .int .i64 0] 59)) from Below.at hal HH.out); have HBDn := Lib.hid (bel_trans HBD.out hal)
        have HZ := Lib.hid (heap_alloc_new q1 (.cells #[.int .i64 0, .string ⟨#[]⟩, .string ⟨#[]⟩, .string ⟨#[]⟩, .int .i64 0] 59))
        have HX := Lib.hid HBD.out.size
        clear hal HH HBD
        refine hK.out _ _ HHn.out (fun hHeld => ?_)
        clear hK K hHeld
        try simp only [lay]
        generalize q1.heap.size = X5 at *
        generalize q1.alloc (.cells #[.int .i64 0, .string ⟨#[]⟩, .string ⟨#[]⟩, .string ⟨#[]⟩, .int .i64 0] 59) = q2 at *
        have HH := HHn; have HBD := HBDn
        clear HHn HBDn
        refine PrintLast.wpAnyLast_ready (rs := [4]) (by kernel_rfl) (by simp) ?_
        refine PrintLast.AllReadyL.cons rfl (by decide) (fun K hK => ?_) (PrintLast.AllReadyL.nil)
        rw [if_pos (by kernel_rfl)]
        go_simp
        have hgc := rs_any V ⟨#[116, 105, 116, 108, 101]⟩ _ _ q2 HL.out (JR_later HJ.out HBD.out)
        rw [HG2.out] at hgc
        go_at_call 91; refine hgc.mono ?_; rintro e q3 ⟨rfl, hbq⟩
        clear hgc
        go_wp2_with fail
        have HHn := Lib.hid (show GtS X4 #[.int .i64 V.k, .int .i64 V.n, .string V.s, .slice A1 V.l.length c1, .slice A2 V.m.length c2] q3 from Below.at hbq HH.out); have HBDn := Lib.hid (bel_trans HBD.out hbq)
        have HZn := Lib.hid (Below.at hbq HZ.out)
        clear HZ
        clear hbq HH HBD
        refine hK.out _ _ HHn.out (fun hHeld => ?_)
        clear hK K hHeld
        try simp only [lay]
        have HH := HHn; have HBD := HBDn
        clear HHn HBDn
        have HZ := HZn
        clear HZn
        refine PrintLast.wpAnyLast_ready (rs := [6]) (by kernel_rfl) (by simp) ?_
        refine PrintLast.AllReadyL.cons rfl (by decide) (fun K hK => ?_) (PrintLast.AllReadyL.nil)
        rw [if_pos (by kernel_rfl)]
        go_simp
        have hgc := rs_any V ⟨#[108, 105, 110, 107]⟩ _ _ q3 HL.out (JR_later HJ.out HBD.out)
        rw [HG3.out] at hgc
        go_at_call 91; refine hgc.mono ?_; rintro e q4 ⟨rfl, hbq⟩
        clear hgc
        go_wp2_with fail
        have HHn := Lib.hid (show GtS X4 #[.int .i64 V.k, .int .i64 V.n, .string V.s, .slice A1 V.l.length c1, .slice A2 V.m.length c2] q4 from Below.at hbq HH.out); have HBDn := Lib.hid (bel_trans HBD.out hbq)
        have HZn := Lib.hid (Below.at hbq HZ.out)
        clear HZ
        clear hbq HH HBD
        refine hK.out _ _ HHn.out (fun hHeld => ?_)
        clear hK K hHeld
        try simp only [lay]
        have HH := HHn; have HBD := HBDn
        clear HHn HBDn
        have HZ := HZn
        clear HZn
        refine PrintLast.wpAnyLast_ready (rs := [8]) (by kernel_rfl) (by simp) ?_
        refine PrintLast.AllReadyL.cons rfl (by decide) (fun K hK => ?_) (PrintLast.AllReadyL.nil)
        rw [if_pos (by kernel_rfl)]
        go_simp
        have hgc := rn_any V ⟨#[119, 104, 101, 110]⟩ _ _ q4 HL.out (JR_later HJ.out HBD.out)
        rw [HG4.out] at hgc
        go_at_call 92; refine hgc.mono ?_; rintro e q5 ⟨rfl, hbq⟩
        clear hgc
        go_wp2_with fail
        have HHn := Lib.hid (show GtS X4 #[.int .i64 V.k, .int .i64 V.n, .string V.s, .slice A1 V.l.length c1, .slice A2 V.m.length c2] q5 from Below.at hbq HH.out); have HBDn := Lib.hid (bel_trans HBD.out hbq)
        have HZn := Lib.hid (Below.at hbq HZ.out)
        clear HZ
        clear hbq HH HBD
        refine hK.out _ _ HHn.out (fun hHeld => ?_)
        clear hK K hHeld
        try simp only [lay]
        have HH := HHn; have HBD := HBDn
        clear HHn HBDn
        have HZ := HZn
        clear HZn
        refine PrintLast.wpAnyLast_any (i := 9) (v := ?_) rfl (Region.noSelect_spec (by kernel_rfl)) (fun _ _ _ h => h) _ _ _ _ (Region.free_spec rfl (by kernel_rfl)) (List.contains_iff_mem.1 (by kernel_rfl)) (Or.inl ⟨by kernel_rfl, ?_⟩) ?_
        rotate_left
        · (intro wX; go_simp; try (with_reducible rfl))
        try simp only [lay]
        have HRR := Lib.hid (gt5_end (.int .i64 num) (.string T1) (.string T2) (.string T3) (.int .i64 T4) HZ.out HBD.out HX.out)
        obtain ⟨⟨p0, p1, p2, p3, p4⟩, q0', q1', q2', q3', q4'⟩ := cells5e HZ.out
        clear HZ HBD HH HX
        refine PrintLast.wpAnyLast_ready (rs := [11]) (by kernel_rfl) (by simp) ?_
        refine PrintLast.AllReadyL.cons_last rfl (by decide) (fun K hK => ?_) PrintLast.AllReadyL.nil
        rw [if_pos (by kernel_rfl)]
        go_simp
        refine hK.out _ _ ?_
        clear hK K
        try simp only [lay]
        refine PrintLast.wpAnyLast_done (by kernel_rfl) ?_ _
        go_wp2_with fail
        go_meet
        case rel => exact ⟨X5, rfl, HRR.out⟩
    · rw [if_pos (by kernel_rfl)]
      go_simp
      have hal := bel_alloc (Below.refl q0.heap.size q0) (.cells #[.int .i64 0, .string ⟨#[]⟩, .string ⟨#[]⟩, .string ⟨#[]⟩, .int .i64 0] 59)
      have HHn := Lib.hid (show GtS X4 #[.int .i64 V.k, .int .i64 V.n, .string V.s, .slice A1 V.l.length c1, .slice A2 V.m.length c2] (q0.alloc (.cells #[.int .i64 0, .string ⟨#[]⟩, .string ⟨#[]⟩, .string ⟨#[]⟩, .int .i64 0] 59)) from Below.at hal HH.out); have HBDn := Lib.hid (bel_trans HBD.out hal)
      have HZ := Lib.hid (heap_alloc_new q0 (.cells #[.int .i64 0, .string ⟨#[]⟩, .string ⟨#[]⟩, .string ⟨#[]⟩, .int .i64 0] 59))
      have HX := Lib.hid HBD.out.size
      clear hal HH HBD
      refine hK.out _ _ HHn.out (fun hHeld => ?_)
      clear hK K hHeld
      try simp only [lay]
      generalize q0.heap.size = X5 at *
      generalize q0.alloc (.cells #[.int .i64 0, .string ⟨#[]⟩, .string ⟨#[]⟩, .string ⟨#[]⟩, .int .i64 0] 59) = q1 at *
      have HH := HHn; have HBD := HBDn
      clear HHn HBDn
      refine PrintLast.wpAnyLast_ready (rs := [2]) (by kernel_rfl) (by simp) ?_
      refine PrintLast.AllReadyL.cons rfl (by decide) (fun K hK => ?_) (PrintLast.AllReadyL.nil)
      rw [if_pos (by kernel_rfl)]
      go_simp
      have hgc := rs_any V ⟨#[103, 117, 105, 100]⟩ _ _ q1 HL.out (JR_later HJ.out HBD.out)
      rw [HG1.out] at hgc
      go_at_call 91; refine hgc.mono ?_; rintro e q2 ⟨rfl, hbq⟩
      clear hgc
      go_wp2_with fail
      have HHn := Lib.hid (show GtS X4 #[.int .i64 V.k, .int .i64 V.n, .string V.s, .slice A1 V.l.length c1, .slice A2 V.m.length c2] q2 from Below.at hbq HH.out); have HBDn := Lib.hid (bel_trans HBD.out hbq)
      have HZn := Lib.hid (Below.at hbq HZ.out)
      clear HZ
      clear hbq HH HBD
      refine hK.out _ _ HHn.out (fun hHeld => ?_)
      clear hK K hHeld
      try simp only [lay]
      have HH := HHn; have HBD := HBDn
      clear HHn HBDn
      have HZ := HZn
      clear HZn
      refine PrintLast.wpAnyLast_ready (rs := [4]) (by kernel_rfl) (by simp) ?_
      refine PrintLast.AllReadyL.cons rfl (by decide) (fun K hK => ?_) (PrintLast.AllReadyL.nil)
      rw [if_pos (by kernel_rfl)]
      go_simp
      have hgc := rs_any V ⟨#[116, 105, 116, 108, 101]⟩ _ _ q2 HL.out (JR_later HJ.out HBD.out)
      rw [HG2.out] at hgc
      go_at_call 91; refine hgc.mono ?_; rintro e q3 ⟨rfl, hbq⟩
      clear hgc
      go_wp2_with fail
      have HHn := Lib.hid (show GtS X4 #[.int .i64 V.k, .int .i64 V.n, .string V.s, .slice A1 V.l.length c1, .slice A2 V.m.length c2] q3 from Below.at hbq HH.out); have HBDn := Lib.hid (bel_trans HBD.out hbq)
      have HZn := Lib.hid (Below.at hbq HZ.out)
      clear HZ
      clear hbq HH HBD
      refine hK.out _ _ HHn.out (fun hHeld => ?_)
      clear hK K hHeld
      try simp only [lay]
      have HH := HHn; have HBD := HBDn
      clear HHn HBDn
      have HZ := HZn
      clear HZn
      refine PrintLast.wpAnyLast_ready (rs := [6]) (by kernel_rfl) (by simp) ?_
      refine PrintLast.AllReadyL.cons rfl (by decide) (fun K hK => ?_) (PrintLast.AllReadyL.nil)
      rw [if_pos (by kernel_rfl)]
      go_simp
      have hgc := rs_any V ⟨#[108, 105, 110, 107]⟩ _ _ q3 HL.out (JR_later HJ.out HBD.out)
      rw [HG3.out] at hgc
      go_at_call 91; refine hgc.mono ?_; rintro e q4 ⟨rfl, hbq⟩
      clear hgc
      go_wp2_with fail
      have HHn := Lib.hid (show GtS X4 #[.int .i64 V.k, .int .i64 V.n, .string V.s, .slice A1 V.l.length c1, .slice A2 V.m.length c2] q4 from Below.at hbq HH.out); have HBDn := Lib.hid (bel_trans HBD.out hbq)
      have HZn := Lib.hid (Below.at hbq HZ.out)
      clear HZ
      clear hbq HH HBD
      refine hK.out _ _ HHn.out (fun hHeld => ?_)
      clear hK K hHeld
      try simp only [lay]
      have HH := HHn; have HBD := HBDn
      clear HHn HBDn
      have HZ := HZn
      clear HZn
      refine PrintLast.wpAnyLast_ready (rs := [8]) (by kernel_rfl) (by simp) ?_
      refine PrintLast.AllReadyL.cons rfl (by decide) (fun K hK => ?_) (PrintLast.AllReadyL.nil)
      rw [if_pos (by kernel_rfl)]
      go_simp
      have hgc := rn_any V ⟨#[119, 104, 101, 110]⟩ _ _ q4 HL.out (JR_later HJ.out HBD.out)
      rw [HG4.out] at hgc
      go_at_call 92; refine hgc.mono ?_; rintro e q5 ⟨rfl, hbq⟩
      clear hgc
      go_wp2_with fail
      have HHn := Lib.hid (show GtS X4 #[.int .i64 V.k, .int .i64 V.n, .string V.s, .slice A1 V.l.length c1, .slice A2 V.m.length c2] q5 from Below.at hbq HH.out); have HBDn := Lib.hid (bel_trans HBD.out hbq)
      have HZn := Lib.hid (Below.at hbq HZ.out)
      clear HZ
      clear hbq HH HBD
      refine hK.out _ _ HHn.out (fun hHeld => ?_)
      clear hK K hHeld
      try simp only [lay]
      have HH := HHn; have HBD := HBDn
      clear HHn HBDn
      have HZ := HZn
      clear HZn
      refine PrintLast.wpAnyLast_any (i := 9) (v := ?_) rfl (Region.noSelect_spec (by kernel_rfl)) (fun _ _ _ h => h) _ _ _ _ (Region.free_spec rfl (by kernel_rfl)) (List.contains_iff_mem.1 (by kernel_rfl)) (Or.inl ⟨by kernel_rfl, ?_⟩) ?_
      rotate_left
      · (intro wX; go_simp; try (with_reducible rfl))
      try simp only [lay]
      have HRR := Lib.hid (gt5_end (.int .i64 num) (.string T1) (.string T2) (.string T3) (.int .i64 T4) HZ.out HBD.out HX.out)
      obtain ⟨⟨p0, p1, p2, p3, p4⟩, q0', q1', q2', q3', q4'⟩ := cells5e HZ.out
      clear HZ HBD HH HX
      refine PrintLast.wpAnyLast_ready (rs := [11]) (by kernel_rfl) (by simp) ?_
      refine PrintLast.AllReadyL.cons_last rfl (by decide) (fun K hK => ?_) PrintLast.AllReadyL.nil
      rw [if_pos (by kernel_rfl)]
      go_simp
      refine hK.out _ _ ?_
      clear hK K
      try simp only [lay]
      refine PrintLast.wpAnyLast_done (by kernel_rfl) ?_ _
      go_wp2_with fail
      go_meet
      case rel => exact ⟨X5, rfl, HRR.out⟩
  case rest =>
    obtain ⟨X5, rfl, hx5, hbr⟩ := hcut
    have HB3 := Lib.hid (bel_trans HB2.out hbr); have HK3 := Lib.hid (Below.at hbr HK2.out); have HX5 := Lib.hid hx5
    clear hbr hx5 HB2 HK2 HC HJ
    obtain ⟨⟨p0, p1, p2, p3, p4⟩, _⟩ := cells5e HX5.out
    have hcl := HP.out wc (HT.out.below HB3.out)
    have HCL := Lib.hid hcl
    clear hcl
    go_wp2_with fail
    refine Calls.mono HCL.out ?_
    rintro e w6 ⟨rfl, hb6⟩
    have HB6 := Lib.hid (bel_trans HB3.out hb6); have HK6 := Lib.hid (Below.at hb6 HK3.out); have HX6 := Lib.hid (Below.at hb6 HX5.out)
    clear HCL hb6 HB3 HK3 HX5 p0 p1 p2 p3 p4
    obtain ⟨⟨p0, p1, p2, p3, p4⟩, _⟩ := cells5e HX6.out
    obtain ⟨⟨u0, u1, u2, u3, u4⟩, t0, t1, t2, t3, t4⟩ := cells5e HK6.out
    rcases hc with ⟨rfl, hc⟩ | ⟨rfl, hc⟩
    · have hr : R = false := by rw [← hR]; exact hc s
      subst hr
      clear hc hR
      have hf := gt5_end (.int .i64 0) (.string ⟨#[]⟩) (.string ⟨#[]⟩) (.string ⟨#[]⟩) (.int .i64 0) HK6.out HB6.out (Nat.le_refl _)
      go_wp2_with fail
      exact bodyPost_ret (results_row_tmp rfl _ _ w.heap.size 59 #[.int .i64 0, .string ⟨#[]⟩, .string ⟨#[]⟩, .string ⟨#[]⟩, .int .i64 0] (0, 0) _ rfl hf.1 Tryz.underlying59 rfl (by kernel_rfl)) rfl ⟨rfl, hf.2⟩
    · have hr : (S.toList == s.toList) = R := by rw [← hR]; exact (hc s).symm
      have hr2 : (S.toList != s.toList) = !R := by rw [bne, hr]
      clear hc hR
      cases R with
      | false =>
        have hf := gt5_end (.int .i64 0) (.string ⟨#[]⟩) (.string ⟨#[]⟩) (.string ⟨#[]⟩) (.int .i64 0) HK6.out HB6.out (Nat.le_refl _)
        go_wp2_with fail
        exact bodyPost_ret (results_row_tmp rfl _ _ w.heap.size 59 #[.int .i64 0, .string ⟨#[]⟩, .string ⟨#[]⟩, .string ⟨#[]⟩, .int .i64 0] (0, 0) _ rfl hf.1 Tryz.underlying59 rfl (by kernel_rfl)) rfl ⟨rfl, hf.2⟩
      | true =>
        have hf := gt5_end (.int .i64 num) (.string T1) (.string T2) (.string T3) (.int .i64 T4) HK6.out HB6.out (Nat.le_refl _)
        go_wp2_with fail
        exact bodyPost_ret (results_row_tmp rfl _ _ w.heap.size 59 #[.int .i64 num, .string T1, .string T2, .string T3, .int .i64 T4] (0, 0) _ rfl hf.1 Tryz.underlying59 rfl (by kernel_rfl)) rfl ⟨rfl, hf.2⟩
end Go.Proofs.YtlihjmfdnkfmfaaGreatDoor
namespace Go.Proofs.YtlihjmfdnkfmfaaGreatDoor
open Go.RowKit Go.Lib

set_option maxRecDepth 100000 in
theorem putMarks_bad (sv : Value) (F : Nat → Prop) (xs : List Mk) (w : World) (hs : Sl mkTy w F sv xs) (hm : mayB xs = false) :
    Calls Tryz.prog 52 #[sv] w fun e w' => e = .returned (.tuple #[.string ⟨#[]⟩, .int .i64 4]) ∧ Below w.heap.size w w' := by
  have hmay := may_any sv F xs w hs
  rw [hm] at hmay
  obtain ⟨A, c, rfl⟩ := hs.form
  clear hs hm
  go_enter Tryz.func52, Tryz.ntmps52
  go_wp2_with fail
  refine Calls.mono hmay ?_
  rintro e w1 ⟨rfl, hb1⟩
  go_wp2_with fail
  go_ret2
  exact ⟨rfl, hb1⟩
end Go.Proofs.YtlihjmfdnkfmfaaGreatDoor
namespace Go.Proofs.YtlihjmfdnkfmfaaGreatDoor
open Go.RowKit

set_option maxRecDepth 100000 in
set_option maxHeartbeats 1000000 in
theorem rowsFirst_any (w : World) : Calls Tryz.prog 35 #[] w fun e w' => e = .returned (.bool true) ∧ Below w.heap.size w w' := by
  have a1 := fun (V : World) (B : Nat) h0 h1 => add_any _ _ [⟨100, 5⟩] ⟨50, 10⟩ V (sl_one (m := ⟨100, 5⟩) (B := B) h0 h1)
  have a2 := fun (V : World) (B : Nat) h0 h1 => add_any _ _ [⟨50, 5⟩] ⟨100, 10⟩ V (sl_one (m := ⟨50, 5⟩) (B := B) h0 h1)
  rw [show addMk [⟨100, 5⟩] ⟨50, 10⟩ = ([⟨100, 5⟩, ⟨50, 10⟩], 0) by decide +kernel] at a1
  rw [show addMk [⟨50, 5⟩] ⟨100, 10⟩ = ([⟨100, 10⟩], 0) by decide +kernel] at a2
  go_enter Tryz.func35, Tryz.ntmps35
  go_wp2_with fail
  refine Calls.mono (a1 _ w.heap.size (by simp) (by simp)) ?_
  rintro e w1 ⟨v1, rfl, hb1, ho1⟩
  obtain ⟨A1, c1, rfl, _, hel1⟩ := own_form ho1
  obtain ⟨g1, rfl, hg1, hm1⟩ := hel1 0 ⟨100, 5⟩ rfl
  have hbw1 := bel_trans (bel_alloc (Below.refl _ w) _) hb1
  have m1 := hm1.1
  rw [Nat.zero_mul] at m1
  clear hb1 ho1 hel1 hm1
  go_wp2_with fail
  refine Calls.mono (a2 _ w1.heap.size (by simp) (by simp)) ?_
  rintro e w2 ⟨v2, rfl, hb2, ho2⟩
  obtain ⟨A2, c2, rfl, _, hel2⟩ := own_form ho2
  obtain ⟨g2, rfl, hg2, hm2⟩ := hel2 0 ⟨100, 10⟩ rfl
  have m2 := hm2.2
  rw [Nat.zero_mul, Nat.zero_add] at m2
  have hbb := bel_trans (bel_alloc (Below.refl _ w1) _) hb2
  have m1' := cell_later' hbb m1
  have hbw2 := bel_trans hbw1 hbb
  clear hb2 ho2 hel2 hm2 hbb m1 hbw1 a1 a2
  go_wp2_with fail
  go_ret
  exact ⟨rfl, hbw2⟩
end Go.Proofs.YtlihjmfdnkfmfaaGreatDoor
