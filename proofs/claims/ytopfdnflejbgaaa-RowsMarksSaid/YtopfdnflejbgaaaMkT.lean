/- The law RowsMarks: the walk. -/
import Derived.Test.YtopfdnflejbgaaaMkS
namespace Go.Proofs.Ytopfdnflejbgaaa
open Go.RowKit

theorem addMk_len (xs : List Mk) (m : Mk) : (addMk xs m).1.length ≤ 8 := by
  unfold addMk
  cases h : mayB xs && mayB [m] with
  | false => simp
  | true =>
    have h1 : mayB xs = true := by simp at h; exact h.1
    have := mayB_len h1
    simp only [if_true]
    cases h3 : xs.any (fun x => domB x m) with
    | true => simpa using this
    | false =>
      simp only [Bool.false_eq_true, if_false]
      split
      · assumption
      · simp

def BothRel (w0 : World) (r : List Mk × Int) (v12 v13 : Value) (wx : World) : Prop :=
  Below w0.heap.size w0 wx ∧ v13 = .int .i64 r.2 ∧ Sl mkTy wx (fun _ => True) v12 r.1

set_option maxHeartbeats 4000000 in
theorem rowsMarks_any (sv : Value) (F : Nat → Prop) (xs : List Mk) (m : Mk) (num when : Int) (w : World) (hs : Sl mkTy w F sv xs) :
    Calls Try.prog 3 #[sv, .agg #[.int .i64 m.t, .int .i64 m.u], .int .i64 num, .int .i64 when] w fun e w' => e = .returned (.bool true) ∧ Below w.heap.size w w' := by
  obtain ⟨i0, hi, hz0, hz1, hz2⟩ := info_parts mkInfo
  have hfirst := first_any
  have hslb := fun (V : World) (hV : Below w.heap.size w V) => hs.below hV
  obtain ⟨A, c, hform⟩ := hs.form
  have hmarks := fun (V : World) (hV : Below w.heap.size w V) (h50 : xs.length ≤ 50) => marks_any sv F xs V (hs.below hV) (by omega)
  subst hform
  clear hs
  rcases Nat.lt_or_ge 50 xs.length with h50 | h50
  · have h50i : (50 : Int) < (xs.length : Int) := by omega
    clear hmarks hslb
    generalize xs.length = n at *
    go_enter Try.func3, Try.ntmps3
    go_wp2_with fail
    refine Calls.mono (hfirst _) ?_
    rintro e w1 ⟨rfl, hb1⟩
    go_wp2_with fail
    refine Calls.mono (hfirst _) ?_
    rintro e w2 ⟨rfl, hb2⟩
    go_wp2_with fail
    go_ret
    exact ⟨rfl, bel_trans (bel_trans (bel_alloc (Below.refl _ _) _) hb1) hb2⟩
  · have h50i : ¬ (50 : Int) < (xs.length : Int) := by omega
    have hM := fun V hV => hmarks V hV h50
    clear hmarks
    have HM := Lib.hid hM; have HS := Lib.hid hslb
    clear hM hslb
    generalize hn : xs.length = n at *
    have Hn := Lib.hid hn
    clear hn
    go_enter Try.func3, Try.ntmps3
    go_wp2_with fail
    refine Calls.mono (hfirst _) ?_
    rintro e w1 ⟨rfl, hb1⟩
    have c0 : w1.cell? ⟨w.heap.size, 0, none⟩ = some (.int .i64 m.t) := cell_later' hb1 (by simp)
    have c1 : w1.cell? ⟨w.heap.size, 1, none⟩ = some (.int .i64 m.u) := cell_later' hb1 (by simp)
    have hbw1 := bel_trans (bel_alloc (Below.refl _ w) _) hb1
    have hz1' : w.heap.size < w1.heap.size := World.block_lt_of_cell? _ _ c0
    clear hb1
    have hown0 : (w1.alloc (.cells #[] 24)).ownsRow w1.heap.size 24 2 (.slice (some ⟨w1.heap.size, 0, none⟩) 0 0) 0 [] := World.ownsRow_made w1 #[] 0 (Nat.le_refl _) (by decide) (by simp)
    have hsl1 := HS.out _ (bel_alloc hbw1 (.cells #[] 24))
    have s1 : 0 + xs.length ≤ maxLen := by rw [Hn.out]; simp only [maxLen]; omega
    have s2 : (0 + xs.length) * 16 ≤ 140737488355328 := by rw [Hn.out]; omega
    have s3 : w1.heap.size ≤ (w1.alloc (.cells #[] 24)).heap.size := (bel_alloc (Below.refl _ w1) _).size
    have O0 := Lib.hid hown0; have SL := Lib.hid hsl1; have S1 := Lib.hid s1; have S2 := Lib.hid s2; have S3 := Lib.hid s3
    clear hown0 hsl1 s1 s2 s3
    go_wp2_with (at_builtin; refine wpList_append_sl (T := mkTy) rfl _ _ 22 rfl w1.heap.size 24 i0 (.agg #[.int .i64 0, .int .i64 0]) 2 16 Try.underlying22 hi hz0 hz1 hz2 rfl rfl _ _ _ rfl O0.out _ _ xs rfl SL.out S1.out S2.out S3.out ?_)
    intro v2 w2 cs hch ho2 hg2 _
    have hb2 : Below w.heap.size w w2 := bel_grown (bel_alloc hbw1 _) hg2 (fun k hk => Nat.le_trans hbw1.size (own_base O0.out k hk))
    have ho2' : w2.ownsRow w1.heap.size 24 2 v2 xs.length (mkCells xs) := by rw [← mkCells_of_chunks hch]; simpa using ho2
    have d0 := hg2.cell (cell_later' (bel_alloc (Below.refl _ w1) _) c0) (by simp [Value.ownBlock]; omega)
    have d1 := hg2.cell (cell_later' (bel_alloc (Below.refl _ w1) _) c1) (by simp [Value.ownBlock]; omega)
    have IN := Lib.hid (own_sl ho2')
    have hadd := add_any v2 _ xs m w2 (own_sl ho2')
    have hlr := addMk_len xs m
    have href := fun v4 W hW => refAdd_any v4 (fun _ => True) xs m W hW
    clear hch ho2 hg2 ho2' c0 c1 SL O0
    generalize addMk xs m = r at hadd hlr href
    obtain ⟨ra, re⟩ := r
    have Href := Lib.hid href
    clear href
    go_wp2_with fail
    refine Calls.mono hadd ?_
    rintro e w3 ⟨v3, rfl, hb3, ho3⟩
    have e0 := cell_later' hb3 d0
    have e1 := cell_later' hb3 d1
    have hb3w := bel_trans hb2 hb3
    have IN3 := Lib.hid (IN.out.below hb3)
    have RA := Lib.hid (own_sl ho3)
    clear hb3 ho3 d0 d1 IN hadd
    go_wp2_with fail
    go_cut [12, 13] (fun s12 s13 wx => BothRel w3 (ra, re) s12 s13 wx)
    case first =>
      go_region_with (first
        | (go_at_call 8; refine (HM.out _ ?_).mono ?_; exact bel_drew hb3w; rintro e w4 ⟨v4, rfl, hb4, ho4⟩; have f0 := cell_later' hb4 e0; have f1 := cell_later' hb4 e1)
        | (go_at_call 7; refine (Href.out v4 w4 (own_sl ho4)).mono ?_; rintro e w5 ⟨v5, rfl, hb5, ho5⟩))
      all_goals
        go_wp2_with fail
        go_meet
        exact ⟨bel_trans (bel_trans (bel_drew (Below.refl _ _)) hb4) hb5, rfl, own_sl ho5⟩
    case rest =>
      obtain ⟨wx, rfl⟩ : ∃ W, W = wc := ⟨_, rfl⟩
      obtain ⟨hbx, rfl, hslx⟩ := hcut
      have RB := Lib.hid hslx
      have hbxw := bel_trans hb3w hbx
      have hree : (re == re) = true := by simp
      clear hslx Href e0 e1
      go_wp2_with fail
      -- first
      refine Calls.mono (hfirst _) ?_
      rintro e y1 ⟨rfl, hy1⟩
      have hx1 := bel_trans hbx hy1
      have RA1 := Lib.hid (RA.out.below hx1)
      have RB1 := Lib.hid (RB.out.below hy1)
      go_wp2_with fail
      -- same(a, b)
      refine Calls.mono (same_true _ _ _ _ ra y1 RA1.out RB1.out (Nat.le_trans (Nat.mul_le_mul_right _ hlr) (by decide))) ?_
      rintro e y2 ⟨rfl, hy2⟩
      have hx2 := bel_trans hx1 hy2
      have IN4 := Lib.hid (IN3.out.below hx2)
      clear RA1 RB1
      go_wp2_with fail
      -- Covers(in, ..)
      refine Calls.mono (covers_any _ num when _ xs y2 IN4.out) ?_
      rintro e y3 ⟨rfl, hy3⟩
      have hx3 := bel_trans hx2 hy3
      have hw3 := bel_trans hb3w hx3
      clear IN4
      go_wp2_with fail
      -- Marks(l)
      refine Calls.mono (HM.out y3 hw3) ?_
      rintro e y4 ⟨v4, rfl, hy4, ho4⟩
      have SL4 := Lib.hid (own_sl ho4)
      have hx4 := bel_trans hx3 hy4
      clear ho4
      go_wp2_with fail
      refine Calls.mono (refCovers_any _ num when _ xs y4 SL4.out) ?_
      rintro e y5 ⟨rfl, hy5⟩
      have hx5 := bel_trans hx4 hy5
      have hw5 := bel_trans hb3w hx5
      have IN5 := IN3.out.below hx5
      have hcc : ((xs.any (covB num when)) == (xs.any (covB num when))) = true := by simp
      clear SL4
      generalize xs.any (covB num when) = cv at *
      go_wp2_with fail
      refine Calls.mono (HM.out y5 hw5) ?_
      rintro e y6 ⟨v6, rfl, hy6, ho6⟩
      have SL6 := Lib.hid (own_sl ho6)
      have IN6 := Lib.hid (IN5.below hy6)
      have hw6 := bel_trans hw5 hy6
      clear ho6 IN5
      go_wp2_with fail
      refine Calls.mono (same_true _ _ _ _ xs y6 IN6.out SL6.out (by rw [Hn.out]; omega)) ?_
      rintro e y7 ⟨rfl, hy7⟩
      go_wp2_with fail
      go_ret
      exact ⟨rfl, bel_trans hw6 hy7⟩
end Go.Proofs.Ytopfdnflejbgaaa
