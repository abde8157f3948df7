/- Parts of the proof: Bw. -/
import Derived.Test.YtlihjmfdnkfmfaaGreatDoorZRback26
import Derived.Test.YtlihjmfdnkfmfaaGreatDoorZRback27
import Derived.Test.YtlihjmfdnkfmfaaGreatDoorZRback29
import Derived.Test.YtlihjmfdnkfmfaaGreatDoorZRback30
namespace Go.Proofs.YtlihjmfdnkfmfaaGreatDoor
open Go.RowKit Go.Lib

def BwS (X Y k : Nat) (T : ByteArray) (m : Int) (w : World) : Prop := w.cell? ⟨X, k, none⟩ = some (.string T) ∧ w.cell? ⟨Y, 0, none⟩ = some (.int .i64 m)
theorem BwS.later {X Y k : Nat} {T : ByteArray} {m : Int} {w W : World} (h : BwS X Y k T m w) (hb : Below w.heap.size w W) : BwS X Y k T m W := ⟨cell_later' hb h.1, cell_later' hb h.2⟩

set_option maxRecDepth 100000 in
set_option maxHeartbeats 16000000 in
theorem entry_same (m wn : Int) (g et l : ByteArray) (w : World) :
    Calls Tryz.prog 49 #[.agg #[.int .i64 m, .string g, .string et, .string l, .int .i64 wn], .agg #[.int .i64 m, .string g, .string et, .string l, .int .i64 wn]] w fun e w' => e = .returned (.bool true) ∧ Below w.heap.size w w' := by
  have h2 := two_new w (.cells #[.int .i64 m, .string g, .string et, .string l, .int .i64 wn] 59) (.cells #[.int .i64 m, .string g, .string et, .string l, .int .i64 wn] 59)
  have H2 := Lib.hid h2
  clear h2
  go_enter Tryz.func49, Tryz.ntmps49
  go_upto_region 1 with (fail)
  generalize (w.alloc (.cells #[.int .i64 m, .string g, .string et, .string l, .int .i64 wn] 59)).alloc (.cells #[.int .i64 m, .string g, .string et, .string l, .int .i64 wn] 59) = W at *
  obtain ⟨⟨p0, p1, p2, p3, p4⟩, _⟩ := cells5 H2.out.2.1
  obtain ⟨⟨q0, q1, q2, q3, q4⟩, _⟩ := cells5 H2.out.2.2
  have b0 : (m == m) = true := by simp
  have b1 : (wn == wn) = true := by simp
  have b2 : (g.toList == g.toList) = true := by simp
  have b3 : (et.toList == et.toList) = true := by simp
  have b4 : (l.toList == l.toList) = true := by simp
  go_wp2_with fail
  go_ret
  exact ⟨rfl, H2.out.1⟩
set_option maxRecDepth 100000 in
set_option maxHeartbeats 16000000 in
theorem rowsBack_over (t g et l fo : ByteArray) (n m wn r st : Int) (sv : Value) (F : Nat → Prop) (xs : List Mk) (w : World) (hs : Sl mkTy w F sv xs)
    (zt : t.size ≤ 140737488355328) (zg : g.size ≤ 140737488355328) (ze : et.size ≤ 140737488355328) (zl : l.size ≤ 140737488355328) (zf : fo.size ≤ 140737488355328)
    (hov : 20000 < t.size + g.size + et.size + l.size + fo.size ∨ 50 < xs.length) :
    Calls Tryz.prog 10 #[.agg #[.string t, .int .i64 n], .agg #[.int .i64 m, .string g, .string et, .string l, .int .i64 wn], .string fo, .agg #[.int .i64 r, .int .i64 st], sv] w fun e w' => e = .returned (.bool true) ∧ Below w.heap.size w w' := by
  have hfirst := rowsFirst_any
  obtain ⟨A, c, rfl⟩ := hs.form
  clear hs
  obtain ⟨s1, s2, s3, s4⟩ := sums5w t.size g.size et.size l.size fo.size zt zg ze zl zf
  generalize xs.length = q at *
  obtain ⟨bz, hbz⟩ : ∃ bz, decide ((20000 : Int) < (t.size : Int) + (g.size : Int) + (et.size : Int) + (l.size : Int) + (fo.size : Int)) = bz := ⟨_, rfl⟩
  have hq : bz = false → decide ((50 : Int) < (q : Int)) = true := fun h => decide_eq_true (by rw [h] at hbz; have := of_decide_eq_false hbz; omega)
  have H3 := Lib.hid (heap3 w (.cells #[.string t, .int .i64 n] 87) (.cells #[.int .i64 m, .string g, .string et, .string l, .int .i64 wn] 59) (.cells #[.int .i64 r, .int .i64 st] 89))
  clear zt zg ze zl zf hov
  cases bz with
  | false =>
    have hq2 := hq rfl
    clear hq
    go_enter Tryz.func10, Tryz.ntmps10
    go_upto_region 1 with (fail)
    generalize ((w.alloc (.cells #[.string t, .int .i64 n] 87)).alloc (.cells #[.int .i64 m, .string g, .string et, .string l, .int .i64 wn] 59)).alloc (.cells #[.int .i64 r, .int .i64 st] 89) = W at *
    go_wp2_with fail
    refine Calls.mono (hfirst _) ?_
    rintro e w1 ⟨rfl, hb1⟩
    have HB1 := Lib.hid (bel_trans H3.out.1 hb1)
    obtain ⟨c0, c1, _, _⟩ := cells2 (Below.at hb1 H3.out.2.1)
    obtain ⟨⟨d0, d1, d2, d3, d4⟩, _⟩ := cells5 (Below.at hb1 H3.out.2.2.1)
    clear hb1 H3
    go_wp2_with fail
    refine Calls.mono (hfirst _) ?_
    rintro e w2 ⟨rfl, hb2⟩
    have HB2 := Lib.hid (bel_trans HB1.out hb2)
    clear hb2
    go_wp2_with fail
    go_ret
    exact ⟨rfl, HB2.out⟩
  | true =>
    clear hq
    go_enter Tryz.func10, Tryz.ntmps10
    go_upto_region 1 with (fail)
    generalize ((w.alloc (.cells #[.string t, .int .i64 n] 87)).alloc (.cells #[.int .i64 m, .string g, .string et, .string l, .int .i64 wn] 59)).alloc (.cells #[.int .i64 r, .int .i64 st] 89) = W at *
    go_wp2_with fail
    refine Calls.mono (hfirst _) ?_
    rintro e w1 ⟨rfl, hb1⟩
    have HB1 := Lib.hid (bel_trans H3.out.1 hb1)
    obtain ⟨c0, c1, _, _⟩ := cells2 (Below.at hb1 H3.out.2.1)
    obtain ⟨⟨d0, d1, d2, d3, d4⟩, _⟩ := cells5 (Below.at hb1 H3.out.2.2.1)
    clear hb1 H3
    go_wp2_with fail
    refine Calls.mono (hfirst _) ?_
    rintro e w2 ⟨rfl, hb2⟩
    have HB2 := Lib.hid (bel_trans HB1.out hb2)
    clear hb2
    go_wp2_with fail
    go_ret
    exact ⟨rfl, HB2.out⟩
set_option maxRecDepth 100000 in
set_option maxHeartbeats 64000000 in
theorem rowsBack_in (t g et l fo : ByteArray) (n m wn r st : Int) (sv : Value) (F : Nat → Prop) (xs : List Mk) (w : World) (hs : Sl mkTy w F sv xs) (hT : Tabs w)
    (hin : t.size + g.size + et.size + l.size + fo.size ≤ 20000) (hx : xs.length ≤ 50) :
    Calls Tryz.prog 10 #[.agg #[.string t, .int .i64 n], .agg #[.int .i64 m, .string g, .string et, .string l, .int .i64 wn], .string fo, .agg #[.int .i64 r, .int .i64 st], sv] w fun e w' => e = .returned (.bool true) ∧ Below w.heap.size w w' := by
  have hfirst := rowsFirst_any
  have hslb := fun (V : World) (hV : Below w.heap.size w V) => hs.below hV
  have hmarks := fun (V : World) (hV : Below w.heap.size w V) => marks_any sv F xs V (hs.below hV) (by omega)
  have hsame := fun v u G K W (h1 : Sl mkTy W G v xs) (h2 : Sl mkTy W K u xs) => same_true v u G K xs W h1 h2 (by omega)
  obtain ⟨A, c, rfl⟩ := hs.form
  obtain ⟨s1, s2, s3, s4⟩ := sums5w t.size g.size et.size l.size fo.size (by omega) (by omega) (by omega) (by omega) (by omega)
  obtain ⟨S0, E0, p0, y0⟩ := putB_back (feedOk n t) (feedO n t)
  obtain ⟨S1, E1, p1, y1⟩ := putB_back (entryOk g l et wn) (entryO g l et wn)
  obtain ⟨S2, E2, p2, y2⟩ := putB_back (subOk fo) (subO fo)
  obtain ⟨S3, E3, p3, y3⟩ := putB_back (stateOk r st) (stateO r st)
  obtain ⟨S4, E4, p4, y4⟩ := putB_back (mayB xs) (marksO xs)
  have hj0 := fun W (hW : Below w.heap.size w W) => jputFeed t n W (by omega) (hT.below hW) (feed_len (by omega))
  have hj1 := fun W (hW : Below w.heap.size w W) => jputEntry m wn g et l W (by omega) (by omega) (by omega) (hT.below hW) (entry_len (by omega) (by omega) (by omega))
  have hj2 := fun W (hW : Below w.heap.size w W) => jputSub fo W (by omega) (hT.below hW) (sub_len' (by omega))
  have hj3 := fun W (hW : Below w.heap.size w W) => jputState r st W (hT.below hW) state_len
  have hj4 := fun W (hW : Below w.heap.size w W) => jputMarks _ F xs W (hs.below hW) (hT.below hW)
  simp only [p0] at hj0; simp only [p1] at hj1; simp only [p2] at hj2; simp only [p3] at hj3; simp only [p4] at hj4
  have b1 : decide ((20000 : Int) < (t.size : Int) + (g.size : Int) + (et.size : Int) + (l.size : Int) + (fo.size : Int)) = false := decide_eq_false (by omega)
  have b2 : decide ((50 : Int) < (xs.length : Int)) = false := decide_eq_false (by omega)
  have hbk := fun k (hk : k < 5) => back_all (t := t) (n := n) (g := g) (et := et) (l := l) (wn := wn) (fo := fo) (r := r) (st := st) (xs := xs) y0 y1 y2 y3 y4 k hk
  have HJ0 := Lib.hid hj0; have HJ1 := Lib.hid hj1; have HJ2 := Lib.hid hj2; have HJ3 := Lib.hid hj3; have HJ4 := Lib.hid hj4
  have HSL := Lib.hid hslb; have HMK := Lib.hid hmarks; have HSAME := Lib.hid hsame; have HBK := Lib.hid hbk; have HT := Lib.hid hT
  have H3 := Lib.hid (heap3 w (.cells #[.string t, .int .i64 n] 87) (.cells #[.int .i64 m, .string g, .string et, .string l, .int .i64 wn] 59) (.cells #[.int .i64 r, .int .i64 st] 89))
  clear hj0 hj1 hj2 hj3 hj4 p0 p1 p2 p3 p4 y0 y1 y2 y3 y4 hbk hslb hmarks hsame hs hT hin hx
  generalize xs.length = q at *
  go_enter Tryz.func10, Tryz.ntmps10
  go_upto_region 1 with (fail)
  generalize ((w.alloc (.cells #[.string t, .int .i64 n] 87)).alloc (.cells #[.int .i64 m, .string g, .string et, .string l, .int .i64 wn] 59)).alloc (.cells #[.int .i64 r, .int .i64 st] 89) = W at *
  go_wp2_with fail
  refine Calls.mono (hfirst _) ?_
  rintro e w1 ⟨rfl, hb⟩
  have HB1 := Lib.hid (bel_trans H3.out.1 hb)
  have K10 := Lib.hid (Below.at hb H3.out.2.1); have K11 := Lib.hid (Below.at hb H3.out.2.2.1); have K12 := Lib.hid (Below.at hb H3.out.2.2.2)
  clear hb H3
  obtain ⟨k0, k1, _, _⟩ := cells2 K10.out
  obtain ⟨⟨k2, k3, k4, k5, k6⟩, _⟩ := cells5 K11.out
  obtain ⟨k7, k8, _, _⟩ := cells2 K12.out
  go_wp2_with fail
  clear s1 s2 s3 s4 b1 b2
  refine Calls.mono (HJ0.out _ HB1.out) ?_
  rintro e w2 ⟨rfl, hb⟩
  have HB2 := Lib.hid (bel_trans HB1.out hb)
  have K20 := Lib.hid (Below.at hb K10.out)
  have K21 := Lib.hid (Below.at hb K11.out)
  have K22 := Lib.hid (Below.at hb K12.out)
  clear hb HB1 K10 K11 K12 k0 k1 k2 k3 k4 k5 k6 k7 k8 HJ0
  obtain ⟨k0, k1, _, _⟩ := cells2 K20.out
  obtain ⟨⟨k2, k3, k4, k5, k6⟩, _⟩ := cells5 K21.out
  obtain ⟨k7, k8, _, _⟩ := cells2 K22.out
  go_wp2_with fail
  refine Calls.mono (HJ1.out _ HB2.out) ?_
  rintro e w3 ⟨rfl, hb⟩
  have HB3 := Lib.hid (bel_trans HB2.out hb)
  have K30 := Lib.hid (Below.at hb K20.out)
  have K31 := Lib.hid (Below.at hb K21.out)
  have K32 := Lib.hid (Below.at hb K22.out)
  clear hb HB2 K20 K21 K22 k0 k1 k2 k3 k4 k5 k6 k7 k8 HJ1
  obtain ⟨k0, k1, _, _⟩ := cells2 K30.out
  obtain ⟨⟨k2, k3, k4, k5, k6⟩, _⟩ := cells5 K31.out
  obtain ⟨k7, k8, _, _⟩ := cells2 K32.out
  go_wp2_with fail
  refine Calls.mono (HJ2.out _ HB3.out) ?_
  rintro e w4 ⟨rfl, hb⟩
  have HB4 := Lib.hid (bel_trans HB3.out hb)
  have K40 := Lib.hid (Below.at hb K30.out)
  have K41 := Lib.hid (Below.at hb K31.out)
  have K42 := Lib.hid (Below.at hb K32.out)
  clear hb HB3 K30 K31 K32 k0 k1 k2 k3 k4 k5 k6 k7 k8 HJ2
  obtain ⟨k0, k1, _, _⟩ := cells2 K40.out
  obtain ⟨⟨k2, k3, k4, k5, k6⟩, _⟩ := cells5 K41.out
  obtain ⟨k7, k8, _, _⟩ := cells2 K42.out
  go_wp2_with fail
  refine Calls.mono (HJ3.out _ HB4.out) ?_
  rintro e w5 ⟨rfl, hb⟩
  have HB5 := Lib.hid (bel_trans HB4.out hb)
  have K50 := Lib.hid (Below.at hb K40.out)
  have K51 := Lib.hid (Below.at hb K41.out)
  have K52 := Lib.hid (Below.at hb K42.out)
  clear hb HB4 K40 K41 K42 k0 k1 k2 k3 k4 k5 k6 k7 k8 HJ3
  obtain ⟨k0, k1, _, _⟩ := cells2 K50.out
  obtain ⟨⟨k2, k3, k4, k5, k6⟩, _⟩ := cells5 K51.out
  obtain ⟨k7, k8, _, _⟩ := cells2 K52.out
  go_wp2_with fail
  refine Calls.mono (HJ4.out _ HB5.out) ?_
  rintro e w6 ⟨rfl, hb⟩
  have HB6 := Lib.hid (bel_trans HB5.out hb)
  have K60 := Lib.hid (Below.at hb K50.out)
  have K61 := Lib.hid (Below.at hb K51.out)
  have K62 := Lib.hid (Below.at hb K52.out)
  clear hb HB5 K50 K51 K52 k0 k1 k2 k3 k4 k5 k6 k7 k8 HJ4
  have H2 := Lib.hid (two_new w6 (.cells #[.string S0, .string S1, .string S2, .string S3, .string S4] 9) (.cells #[.int .i64 E0, .int .i64 E1, .int .i64 E2, .int .i64 E3, .int .i64 E4] 27))
  go_upto_region 12 with (fail)
  have HB7 := Lib.hid (bel_trans HB6.out H2.out.1)
  have K70 := Lib.hid (Below.at H2.out.1 K60.out); have K71 := Lib.hid (Below.at H2.out.1 K61.out); have K72 := Lib.hid (Below.at H2.out.1 K62.out)
  have Q1 := Lib.hid H2.out.2.1; have Q2 := Lib.hid H2.out.2.2
  clear H2 HB6 K60 K61 K62
  generalize (w6.alloc (.cells #[.string S0, .string S1, .string S2, .string S3, .string S4] 9)).alloc (.cells #[.int .i64 E0, .int .i64 E1, .int .i64 E2, .int .i64 E3, .int .i64 E4] 27) = w7 at *
  generalize w6.heap.size = X6 at *
  go_wp2_with fail
  go_loopg [23, 24, 25, 26, 27, 28, 29, 30, 31, 32, 33] 5 (fun gg s23 _ _ _ _ _ _ _ _ _ _ wr => ∃ k : Nat, k ≤ 5 ∧ 5 - k ≤ gg ∧ s23 = .int .i64 k ∧ Aside (Below w7.heap.size w7 wr))
  case atStart => exact ⟨0, Nat.zero_le _, by omega, rfl, Below.refl _ _⟩
  case round =>
    obtain ⟨k, hk, hgg, rfl, HB⟩ := hrel
    have HBW := Lib.hid (bel_trans HB7.out HB.out)
    by_cases hlt : k < 5
    · have hltz : (k : Int) < 5 := by omega
      obtain ⟨T, E, hc, he, hw⟩ := HBK.out k hlt
      have c0 := row5 hc (Below.at HB.out Q1.out)
      have c1 := row5 he (Below.at HB.out Q2.out)
      clear hc he
      rcases hw with ⟨rfl, rfl⟩ | ⟨rfl, hw⟩
      · go_wp2_with fail
        go_roundg (5 - (k + 1))
        case measure => omega
        case rel => exact ⟨k + 1, by omega, by omega, by go_num, HB.out⟩
      · skip
        obtain ⟨f1, f2, hf, ef⟩ := feed_form T
        obtain ⟨x0, x1, x2, x3, x4, hen, een⟩ := entry_form T m
        obtain ⟨u1, hu, eu⟩ := sub_form T
        obtain ⟨a1, a2, ha, ea⟩ := state_form T
        obtain ⟨ms, bM, hMB⟩ : ∃ ms bM, getMarksB T = (ms, bM) := ⟨_, _, rfl⟩
        have g0 := fun W (hW : Below w.heap.size w W) => getFeed_any T W (HT.out.below hW)
        have g1 := fun W (hW : Below w.heap.size w W) => getEntry_any T m W (HT.out.below hW)
        have g2 := fun W (hW : Below w.heap.size w W) => getSub_any T W (HT.out.below hW)
        have g3 := fun W (hW : Below w.heap.size w W) => getState_any T W (HT.out.below hW)
        have g4 := fun W (hW : Below w.heap.size w W) => getMarks_any T W (HT.out.below hW)
        simp only [ef] at g0; simp only [een] at g1; simp only [eu] at g2; simp only [ea] at g3; simp only [hMB] at g4
        unfold BackW at hw
        simp only [hMB] at hw
        clear ef een eu ea hMB
        generalize isF T = bF at *; generalize isE T = bE at *; generalize isU T = bU at *; generalize isT T = bT at *
        have HW := Lib.hid hw; have G0 := Lib.hid g0; have G1 := Lib.hid g1; have G2 := Lib.hid g2; have G3 := Lib.hid g3; have G4 := Lib.hid g4
        have FF := Lib.hid hf; have FE := Lib.hid hen; have FU := Lib.hid hu; have FA := Lib.hid ha
        clear hw g0 g1 g2 g3 g4 hf hen hu ha
        go_wp2_with fail
        refine Calls.mono (G0.out _ HBW.out) ?_
        rintro e v1 ⟨rfl, hb⟩
        have hal := bel_alloc (Below.refl v1.heap.size v1) (.cells #[.string f1, .int .i64 f2] 87)
        have HBL := Lib.hid (bel_trans (bel_trans HB.out hb) hal)
        have HBV := Lib.hid (bel_trans HB7.out HBL.out)
        have c0 := cell_later' (bel_trans hb hal) c0
        have KF := Lib.hid (heap_alloc_new v1 (.cells #[.string f1, .int .i64 f2] 87))
        clear c1 hb hal HBW
        go_upto_region 19 with (fail)
        generalize v1.alloc (.cells #[.string f1, .int .i64 f2] 87) = v2 at *
        generalize v1.heap.size = XF at *
        obtain ⟨⟨k2, _⟩, _⟩ := cells5 (Below.at HBL.out K71.out)
        go_cut [26, 27] from 98 to 240 (fun s26 s27 wx => s27 = .bool bE ∧ ∃ XE, s26 = .pointer (some ⟨XE, 0, none⟩) ∧ wx.heap[XE]? = some (.cells #[.int .i64 x0, .string x1, .string x2, .string x3, .int .i64 x4] 59 (0, 0)) ∧ Below v2.heap.size v2 wx)
        case first =>
          have HSS := Lib.hid (show BwS X6 (w.heap.size + 1) k T m v2.drew from ⟨cell_later' (bel_drew (Below.refl _ _)) c0, cell_later' (bel_drew (Below.refl _ _)) k2⟩)
          refine PrintLast.wp_region_last_drew (S := BwS X6 (w.heap.size + 1) k T m) (ds := [11]) (by kernel_rfl) HSS.out (fun hHeld => ?_)
          refine PrintLast.tk 0 (v := ?_) rfl (by assumption) ?_ ?_
          rotate_left
          · (intro wX hSw; obtain ⟨z0, z1⟩ := hSw; go_simp; try (with_reducible rfl))
          try simp only [lay]
          refine PrintLast.tk 1 (v := ?_) rfl (by assumption) ?_ ?_
          rotate_left
          · (intro wX hSw; obtain ⟨z0, z1⟩ := hSw; go_simp; try (with_reducible rfl))
          try simp only [lay]
          refine PrintLast.tk 2 (v := ?_) rfl (by assumption) ?_ ?_
          rotate_left
          · (intro wX hSw; obtain ⟨z0, z1⟩ := hSw; go_simp; try (with_reducible rfl))
          try simp only [lay]
          refine PrintLast.tk 3 (v := ?_) rfl (by assumption) ?_ ?_
          rotate_left
          · (intro wX hSw; obtain ⟨z0, z1⟩ := hSw; go_simp; try (with_reducible rfl))
          try simp only [lay]
          refine PrintLast.tk 4 (v := ?_) rfl (by assumption) ?_ ?_
          rotate_left
          · (intro wX hSw; obtain ⟨z0, z1⟩ := hSw; go_simp; try (with_reducible rfl))
          try simp only [lay]
          refine PrintLast.tk 5 (v := ?_) rfl (by assumption) ?_ ?_
          rotate_left
          · (intro wX hSw; obtain ⟨z0, z1⟩ := hSw; go_simp; try (with_reducible rfl))
          try simp only [lay]
          have HH := Lib.hid hHeld
          have HBD := Lib.hid (bel_drew (Below.refl v2.heap.size v2))
          clear hHeld HSS
          generalize v2.drew = q0 at *
          refine PrintLast.wpAnyLast_ready (rs := [6, 10]) (by kernel_rfl) (by simp) ?_
          refine PrintLast.AllReadyL.cons rfl (by decide) (fun K hK => ?_) (PrintLast.AllReadyL.cons rfl (by decide) (fun K hK => ?_) (PrintLast.AllReadyL.nil))
          · rw [if_pos (by kernel_rfl)]
            go_simp
            go_at_call 43; refine (G1.out _ (bel_trans HBV.out HBD.out)).mono ?_; rintro e q1 ⟨rfl, hbq⟩
            go_wp2_with fail
            have HHn := Lib.hid (BwS.later HH.out hbq); have HBDn := Lib.hid (bel_trans HBD.out hbq)
            clear hbq HH HBD
            refine hK.out _ _ HHn.out (fun hHeld => ?_)
            clear hK K hHeld
            try simp only [lay]
            have HH := HHn; have HBD := HBDn
            clear HHn HBDn
            refine PrintLast.wpAnyLast_any (i := 7) (v := ?_) rfl (Region.noSelect_spec (by kernel_rfl)) (fun _ _ _ h => h) _ _ _ _ (Region.free_spec rfl (by kernel_rfl)) (List.contains_iff_mem.1 (by kernel_rfl)) (Or.inl ⟨by kernel_rfl, ?_⟩) ?_
            rotate_left
            · (intro wX; go_simp; try (with_reducible rfl))
            try simp only [lay]
            refine PrintLast.wpAnyLast_any (i := 8) (v := ?_) rfl (Region.noSelect_spec (by kernel_rfl)) (fun _ _ _ h => h) _ _ _ _ (Region.free_spec rfl (by kernel_rfl)) (List.contains_iff_mem.1 (by kernel_rfl)) (Or.inl ⟨by kernel_rfl, ?_⟩) ?_
            rotate_left
            · (intro wX; go_simp; try (with_reducible rfl))
            try simp only [lay]
            refine PrintLast.wpAnyLast_any (i := 9) (v := ?_) rfl (Region.noSelect_spec (by kernel_rfl)) (fun _ _ _ h => h) _ _ _ _ (Region.free_spec rfl (by kernel_rfl)) (List.contains_iff_mem.1 (by kernel_rfl)) (Or.inl ⟨by kernel_rfl, ?_⟩) ?_
            rotate_left
            · (intro wX; go_simp; try (with_reducible rfl))
            try simp only [lay]
            refine PrintLast.wpAnyLast_ready (rs := [10]) (by kernel_rfl) (by simp) ?_
            refine PrintLast.AllReadyL.cons rfl (by decide) (fun K hK => ?_) (PrintLast.AllReadyL.nil)
            rw [if_pos (by kernel_rfl)]
            go_simp
            have hal := bel_alloc (Below.refl q1.heap.size q1) (.cells #[.int .i64 0, .string ⟨#[]⟩, .string ⟨#[]⟩, .string ⟨#[]⟩, .int .i64 0] 59)
            have HHn := Lib.hid (BwS.later HH.out hal); have HBDn := Lib.hid (bel_trans HBD.out hal)
            have HZ := Lib.hid (heap_alloc_new q1 (.cells #[.int .i64 0, .string ⟨#[]⟩, .string ⟨#[]⟩, .string ⟨#[]⟩, .int .i64 0] 59))
            have HX := Lib.hid HBD.out.size
            clear hal HH HBD
            refine hK.out _ _ HHn.out (fun hHeld => ?_)
            clear hK K hHeld
            try simp only [lay]
            generalize q1.heap.size = X5 at *
            generalize q1.alloc (.cells #[.int .i64 0, .string ⟨#[]⟩, .string ⟨#[]⟩, .string ⟨#[]⟩, .int .i64 0] 59) = q2 at *
            have HH := HHn; have HBD := HBDn
            clear HHn HBDn
            have HRR := Lib.hid (gt5_end (.int .i64 x0) (.string x1) (.string x2) (.string x3) (.int .i64 x4) HZ.out HBD.out HX.out)
            obtain ⟨⟨p0, p1, p2, p3, p4⟩, q0', q1', q2', q3', q4'⟩ := cells5e HZ.out
            clear HZ HBD HH HX
            refine PrintLast.wpAnyLast_ready (rs := [11]) (by kernel_rfl) (by simp) ?_
            refine PrintLast.AllReadyL.cons_last rfl (by decide) (fun K hK => ?_) PrintLast.AllReadyL.nil
            rw [if_pos (by kernel_rfl)]
            go_simp
            refine hK.out _ _ ?_
            clear hK K
            try simp only [lay]
            refine PrintLast.wpAnyLast_any (i := 12) (v := ?_) rfl (Region.noSelect_spec (by kernel_rfl)) (fun _ _ _ h => h) _ _ _ _ (Region.free_spec rfl (by kernel_rfl)) (List.contains_iff_mem.1 (by kernel_rfl)) (Or.inl ⟨by kernel_rfl, ?_⟩) ?_
            rotate_left
            · (intro wX; go_simp; try (with_reducible rfl))
            try simp only [lay]
            refine PrintLast.wpAnyLast_done (by kernel_rfl) ?_ _
            go_wp2_with fail
            go_meet
            case rel => exact ⟨rfl, X5, rfl, HRR.out⟩
          · rw [if_pos (by kernel_rfl)]
            go_simp
            have hal := bel_alloc (Below.refl q0.heap.size q0) (.cells #[.int .i64 0, .string ⟨#[]⟩, .string ⟨#[]⟩, .string ⟨#[]⟩, .int .i64 0] 59)
            have HHn := Lib.hid (BwS.later HH.out hal); have HBDn := Lib.hid (bel_trans HBD.out hal)
            have HZ := Lib.hid (heap_alloc_new q0 (.cells #[.int .i64 0, .string ⟨#[]⟩, .string ⟨#[]⟩, .string ⟨#[]⟩, .int .i64 0] 59))
            have HX := Lib.hid HBD.out.size
            clear hal HH HBD
            refine hK.out _ _ HHn.out (fun hHeld => ?_)
            clear hK K hHeld
            try simp only [lay]
            generalize q0.heap.size = X5 at *
            generalize q0.alloc (.cells #[.int .i64 0, .string ⟨#[]⟩, .string ⟨#[]⟩, .string ⟨#[]⟩, .int .i64 0] 59) = q1 at *
            have HH := HHn; have HBD := HBDn
            clear HHn HBDn
            refine PrintLast.wpAnyLast_ready (rs := [6]) (by kernel_rfl) (by simp) ?_
            refine PrintLast.AllReadyL.cons rfl (by decide) (fun K hK => ?_) (PrintLast.AllReadyL.nil)
            rw [if_pos (by kernel_rfl)]
            go_simp
            go_at_call 43; refine (G1.out _ (bel_trans HBV.out HBD.out)).mono ?_; rintro e q2 ⟨rfl, hbq⟩
            go_wp2_with fail
            have HHn := Lib.hid (BwS.later HH.out hbq); have HBDn := Lib.hid (bel_trans HBD.out hbq)
            have HZn := Lib.hid (Below.at hbq HZ.out)
            clear HZ
            clear hbq HH HBD
            refine hK.out _ _ HHn.out (fun hHeld => ?_)
            clear hK K hHeld
            try simp only [lay]
            have HH := HHn; have HBD := HBDn
            clear HHn HBDn
            have HZ := HZn
            clear HZn
            refine PrintLast.wpAnyLast_any (i := 7) (v := ?_) rfl (Region.noSelect_spec (by kernel_rfl)) (fun _ _ _ h => h) _ _ _ _ (Region.free_spec rfl (by kernel_rfl)) (List.contains_iff_mem.1 (by kernel_rfl)) (Or.inl ⟨by kernel_rfl, ?_⟩) ?_
            rotate_left
            · (intro wX; go_simp; try (with_reducible rfl))
            try simp only [lay]
            refine PrintLast.wpAnyLast_any (i := 8) (v := ?_) rfl (Region.noSelect_spec (by kernel_rfl)) (fun _ _ _ h => h) _ _ _ _ (Region.free_spec rfl (by kernel_rfl)) (List.contains_iff_mem.1 (by kernel_rfl)) (Or.inl ⟨by kernel_rfl, ?_⟩) ?_
            rotate_left
            · (intro wX; go_simp; try (with_reducible rfl))
            try simp only [lay]
            refine PrintLast.wpAnyLast_any (i := 9) (v := ?_) rfl (Region.noSelect_spec (by kernel_rfl)) (fun _ _ _ h => h) _ _ _ _ (Region.free_spec rfl (by kernel_rfl)) (List.contains_iff_mem.1 (by kernel_rfl)) (Or.inl ⟨by kernel_rfl, ?_⟩) ?_
            rotate_left
            · (intro wX; go_simp; try (with_reducible rfl))
            try simp only [lay]
            have HRR := Lib.hid (gt5_end (.int .i64 x0) (.string x1) (.string x2) (.string x3) (.int .i64 x4) HZ.out HBD.out HX.out)
            obtain ⟨⟨p0, p1, p2, p3, p4⟩, q0', q1', q2', q3', q4'⟩ := cells5e HZ.out
            clear HZ HBD HH HX
            refine PrintLast.wpAnyLast_ready (rs := [11]) (by kernel_rfl) (by simp) ?_
            refine PrintLast.AllReadyL.cons_last rfl (by decide) (fun K hK => ?_) PrintLast.AllReadyL.nil
            rw [if_pos (by kernel_rfl)]
            go_simp
            refine hK.out _ _ ?_
            clear hK K
            try simp only [lay]
            refine PrintLast.wpAnyLast_any (i := 12) (v := ?_) rfl (Region.noSelect_spec (by kernel_rfl)) (fun _ _ _ h => h) _ _ _ _ (Region.free_spec rfl (by kernel_rfl)) (List.contains_iff_mem.1 (by kernel_rfl)) (Or.inl ⟨by kernel_rfl, ?_⟩) ?_
            rotate_left
            · (intro wX; go_simp; try (with_reducible rfl))
            try simp only [lay]
            refine PrintLast.wpAnyLast_done (by kernel_rfl) ?_ _
            go_wp2_with fail
            go_meet
            case rel => exact ⟨rfl, X5, rfl, HRR.out⟩
        case rest =>
          obtain ⟨rfl, XE, rfl, hxe, hbr⟩ := hcut
          have HBL3 := Lib.hid (bel_trans HBL.out hbr); have HBV3 := Lib.hid (bel_trans HBV.out hbr); have KF3 := Lib.hid (Below.at hbr KF.out); have KE3 := Lib.hid hxe
          have c0 := cell_later' hbr c0
          clear hbr hxe HBL HBV KF k2
          go_wp2_with fail
          refine Calls.mono (G2.out _ HBV3.out) ?_
          rintro e v4 ⟨rfl, hb⟩
          have HBL4 := Lib.hid (bel_trans HBL3.out hb); have HBV4 := Lib.hid (bel_trans HBV3.out hb); have KF4 := Lib.hid (Below.at hb KF3.out); have KE4 := Lib.hid (Below.at hb KE3.out)
          have c0 := cell_later' hb c0
          clear hb HBL3 HBV3 KF3 KE3
          go_wp2_with fail
          refine Calls.mono (G3.out _ HBV4.out) ?_
          rintro e v5 ⟨rfl, hb⟩
          have hal := bel_alloc (Below.refl v5.heap.size v5) (.cells #[.int .i64 a1, .int .i64 a2] 89)
          have hb6 := bel_trans hb hal
          have HBL6 := Lib.hid (bel_trans HBL4.out hb6); have HBV6 := Lib.hid (bel_trans HBV4.out hb6); have KF6 := Lib.hid (Below.at hb6 KF4.out); have KE6 := Lib.hid (Below.at hb6 KE4.out)
          have KA6 := Lib.hid (heap_alloc_new v5 (.cells #[.int .i64 a1, .int .i64 a2] 89))
          have c0 := cell_later' hb6 c0
          clear hb hal hb6 HBL4 HBV4 KF4 KE4
          go_upto_region 22 with (fail)
          generalize v5.alloc (.cells #[.int .i64 a1, .int .i64 a2] 89) = v6 at *
          generalize v5.heap.size = XA at *
          go_wp2_with fail
          refine Calls.mono (G4.out _ HBV6.out) ?_
          rintro e v7 ⟨vm, rfl, hsm, hb⟩
          have HBL7 := Lib.hid (bel_trans HBL6.out hb); have HBV7 := Lib.hid (bel_trans HBV6.out hb); have KF7 := Lib.hid (Below.at hb KF6.out); have KE7 := Lib.hid (Below.at hb KE6.out); have KA7 := Lib.hid (Below.at hb KA6.out)
          obtain ⟨Am, cm, rfl⟩ := hsm.form
          have HSM := Lib.hid hsm
          clear hb hsm HBL6 HBV6 KF6 KE6 KA6 c0
          go_upto_region 23 with (fail)
          obtain ⟨f0, f1', _, _⟩ := cells2 KF7.out
          obtain ⟨⟨e0, e1, e2, e3, e4⟩, _⟩ := cells5 KE7.out
          obtain ⟨s0, s1, _, _⟩ := cells2 KA7.out
          obtain ⟨k0, k1, _, _⟩ := cells2 (Below.at HBL7.out K70.out)
          obtain ⟨⟨k2, k3, k4, k5, k6⟩, _⟩ := cells5 (Below.at HBL7.out K71.out)
          obtain ⟨k7, k8, _, _⟩ := cells2 (Below.at HBL7.out K72.out)
          rcases HW.out with hw | hw | hw | hw | hw
          · obtain ⟨rfl, rfl, rfl, rfl, rfl, rfl, h1, h2⟩ := hw
            obtain ⟨e1', e2'⟩ := FF.out rfl
            obtain rfl : f1 = t := e1'.trans h1
            obtain rfl : f2 = n := e2'.trans h2
            have n0 : (f1.toList != f1.toList) = false := by simp
            have n1 : (f2 != f2) = false := by simp
            clear h1 h2 e1' e2' HW FF FE FU FA
            go_wp2_with fail
            go_roundg 4
            case measure => omega
            case rel => exact ⟨1, by omega, by omega, by go_num, HBL7.out⟩
          · obtain ⟨rfl, rfl, rfl, rfl, rfl, rfl, h1, h2, h3, h4⟩ := hw
            obtain ⟨e0', e1', e2', e3', e4'⟩ := FE.out rfl
            obtain rfl : x0 = m := e0'
            obtain rfl : x1 = g := e1'.trans h1
            obtain rfl : x2 = et := e2'.trans h2
            obtain rfl : x3 = l := e3'.trans h3
            obtain rfl : x4 = wn := e4'.trans h4
            clear h1 h2 h3 h4 e1' e2' e3' e4' HW FF FE FU FA
            go_wp2_with fail
            refine Calls.mono (entry_same _ _ _ _ _ _) ?_
            rintro e v8 ⟨rfl, hb⟩
            have HBL8 := Lib.hid (bel_trans HBL7.out hb)
            clear hb
            go_wp2_with fail
            go_roundg 3
            case measure => omega
            case rel => exact ⟨2, by omega, by omega, by go_num, HBL8.out⟩
          · obtain ⟨rfl, rfl, rfl, rfl, rfl, rfl, h1⟩ := hw
            obtain rfl : u1 = fo := (FU.out rfl).trans h1
            have n0 : (u1.toList != u1.toList) = false := by simp
            clear h1 HW FF FE FU FA
            go_wp2_with fail
            go_roundg 2
            case measure => omega
            case rel => exact ⟨3, by omega, by omega, by go_num, HBL7.out⟩
          · obtain ⟨rfl, rfl, rfl, rfl, rfl, rfl, h1, h2⟩ := hw
            obtain ⟨e1', e2'⟩ := FA.out rfl
            obtain rfl : a1 = r := e1'.trans h1
            obtain rfl : a2 = st := e2'.trans h2
            have n0 : (a1 != a1) = false := by simp
            have n1 : (a2 != a2) = false := by simp
            clear h1 h2 e1' e2' HW FF FE FU FA
            go_wp2_with fail
            go_roundg 1
            case measure => omega
            case rel => exact ⟨4, by omega, by omega, by go_num, HBL7.out⟩
          · obtain ⟨rfl, rfl, rfl, rfl, rfl, rfl, rfl⟩ := hw
            clear HW FF FE FU FA
            go_wp2_with fail
            refine Calls.mono (HMK.out _ HBV7.out) ?_
            rintro e v8 ⟨v10, rfl, hb, ho10⟩
            have SL10 := Lib.hid (own_sl ho10); have SM := Lib.hid (HSM.out.below hb); have HBL8 := Lib.hid (bel_trans HBL7.out hb)
            clear hb ho10 HSM
            go_wp2_with fail
            refine Calls.mono (HSAME.out _ _ _ _ _ SM.out SL10.out) ?_
            rintro e v9 ⟨rfl, hb⟩
            have HBL9 := Lib.hid (bel_trans HBL8.out hb)
            clear hb
            go_wp2_with fail
            go_roundg 0
            case measure => omega
            case rel => exact ⟨5, by omega, by omega, by go_num, HBL9.out⟩
    · have hltz : ¬ (k : Int) < 5 := by omega
      go_wp2_with fail
      refine Calls.mono (hfirst _) ?_
      rintro e w9 ⟨rfl, hb⟩
      have HB9 := Lib.hid (bel_trans HBW.out hb)
      clear hb
      go_wp2_with fail
      go_ret
      exact ⟨rfl, HB9.out⟩
theorem rowsBack_any (t g et l fo : ByteArray) (n m wn r st : Int) (sv : Value) (F : Nat → Prop) (xs : List Mk) (w : World) (hs : Sl mkTy w F sv xs) (hT : Tabs w)
    (zt : t.size ≤ 140737488355328) (zg : g.size ≤ 140737488355328) (ze : et.size ≤ 140737488355328) (zl : l.size ≤ 140737488355328) (zf : fo.size ≤ 140737488355328) :
    Calls Tryz.prog 10 #[.agg #[.string t, .int .i64 n], .agg #[.int .i64 m, .string g, .string et, .string l, .int .i64 wn], .string fo, .agg #[.int .i64 r, .int .i64 st], sv] w fun e w' => e = .returned (.bool true) ∧ Below w.heap.size w w' := by
  by_cases h : 20000 < t.size + g.size + et.size + l.size + fo.size ∨ 50 < xs.length
  · exact rowsBack_over t g et l fo n m wn r st sv F xs w hs zt zg ze zl zf h
  · exact rowsBack_in t g et l fo n m wn r st sv F xs w hs hT (by omega) (by omega)
end Go.Proofs.YtlihjmfdnkfmfaaGreatDoor
