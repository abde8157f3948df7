/- Marks: the walk of Add, behind its tests. -/
import Derived.Test.YtjjgbgojlhaapaaDoorMkJ
import Derived.Deep.DeepCutAuto
namespace Go.Proofs.YtjjgbgojlhaapaaDoor
open Go.RowKit

set_option maxRecDepth 100000 in
set_option maxHeartbeats 1000000 in
theorem add_there (sv : Value) (F : Nat → Prop) (xs : List Mk) (m : Mk) (w : World) (hs : Sl mkTy w F sv xs) (h1 : mayB xs = true) (h2 : mayB [m] = true) (h3 : xs.any (fun x => domB x m) = true) :
    Calls Tryd.prog 10 #[sv, .agg #[.int .i64 m.t, .int .i64 m.u]] w (AddPost w (xs, 0)) := by
  have hmay := fun (V : World) (hV : Below w.heap.size w V) => may_any sv F xs V (hs.below hV)
  rw [h1] at hmay
  have hmay2 := fun (V : World) (B : Nat) h0 h1 => may_any _ _ [m] V (sl_one (B := B) h0 h1)
  rw [h2] at hmay2
  have hlen := mayB_len h1
  have hcon := fun (V : World) (hV : Below w.heap.size w V) (fv : Value) (hf : Pred1 fv (fun x => domB x m) V) => containsFunc_any fv sv _ F xs V (hs.below hV) hf
  rw [h3] at hcon
  have hcl := fun (V : World) (hV : Below w.heap.size w V) => cloneMk_any sv F xs V (hs.below hV) (by omega)
  have hadd := fun (V W : World) (A : Nat) (hb : Below V.heap.size V W) h0 h1 x => add1_any x m A W (cell_later' (w := V) hb h0) (cell_later' (w := V) hb h1)
  clear h1 h2 h3 hs
  go_enter Tryd.func10, Tryd.ntmps10
  go_wp2_with fail
  refine Calls.mono (hmay _ (bel_alloc (Below.refl _ _) _)) ?_
  rintro e w1 ⟨rfl, hb1⟩
  have c0 : w1.cell? ⟨w.heap.size, 0, none⟩ = some (.int .i64 m.t) := cell_later' hb1 (by simp)
  have c1 : w1.cell? ⟨w.heap.size, 1, none⟩ = some (.int .i64 m.u) := cell_later' hb1 (by simp)
  have hbw := bel_trans (bel_alloc (Below.refl _ w) _) hb1
  have hz2 : w.heap.size < w1.heap.size := World.block_lt_of_cell? _ _ c0
  clear hb1
  go_wp2_with fail
  refine Calls.mono (hmay2 _ _ (by simp) (by simp)) ?_
  rintro e w2 ⟨rfl, hb2⟩
  have hb2' : Below w1.heap.size w1 w2 := bel_trans (bel_alloc (Below.refl _ _) _) hb2
  have d0 := cell_later' hb2' c0
  have d1 := cell_later' hb2' c1
  have hbw2 := bel_trans hbw hb2'
  clear hb2 hb2' c0 c1 hbw hz2
  go_wp2_with fail
  refine Calls.mono (hcon w2 hbw2 _ ⟨_, _, _, rfl, enters_of Tryd.func34 (by kernel_rfl) rfl, fun W x hW => hadd w2 W _ hW d0 d1 x⟩) ?_
  rintro e w3 ⟨rfl, hb3⟩
  have hbw3 := bel_trans hbw2 hb3
  clear hb3
  go_wp2_with fail
  refine Calls.mono (hcl w3 hbw3) ?_
  rintro e w4 ⟨v, cs, rfl, hb4, ho, hc⟩
  have hbw4 := bel_trans hbw3 hb4
  have ho' := own_lower ho hbw3.size
  rw [mkCells_of_chunks hc] at ho'
  have Ho := Lib.hid ho'
  clear ho hc ho' hb4
  go_wp2_with fail
  go_ret2
  exact ⟨_, rfl, hbw4, Ho.out⟩

theorem placeMk_eq {xs : List Mk} {m x : Mk} {k : Nat} (hx : xs[k]? = some x) (h1 : x.t ≤ m.t) (h : ∀ j y, j < k → xs[j]? = some y → m.t < y.t) : placeMk xs m = k := by
  unfold placeMk
  have hk := lt_of_get hx
  rw [List.findIdx_eq hk]
  have e : xs[k] = x := by simpa [List.getElem?_eq_getElem hk] using hx
  refine ⟨by rw [e]; simpa using h1, fun j hj => ?_⟩
  have := h j xs[j] hj (List.getElem?_eq_getElem _)
  simpa using this
theorem placeMk_end {xs : List Mk} {m : Mk} (h : ∀ j y, j < xs.length → xs[j]? = some y → m.t < y.t) : placeMk xs m = xs.length := by
  unfold placeMk
  rw [List.findIdx_eq_length]
  intro x hx
  obtain ⟨j, hj, rfl⟩ := List.mem_iff_getElem.1 hx
  have := h j xs[j] hj (List.getElem?_eq_getElem _)
  simpa using this
theorem cell_new (w : World) (cs : Array Value) (t : TypeId) (i : Nat) (v : Value) (h : cs[i]? = some v) : (w.alloc (.cells cs t)).cell? ⟨w.heap.size, i, none⟩ = some v := by
  have := heap_alloc_new w (.cells cs t)
  unfold World.cell?
  simp only [this]
  exact h
theorem own_later {w W : World} {base : Nat} {e : TypeId} {size n : Nat} {v : Value} {xs : List Value} (h : w.ownsRow base e size v n xs) (hb : Below w.heap.size w W) : W.ownsRow base e size v n xs := by
  obtain ⟨h1, h2⟩ := h
  refine ⟨h1, ?_⟩
  rcases h2 with h2 | ⟨g, cap, cur, e, hg, hh, r⟩
  · exact .inl h2
  · exact .inr ⟨g, cap, cur, e, hg, (hb.block g (Array.getElem?_eq_some_iff.1 hh).1).trans hh, r⟩
theorem own_lt {w : World} {base : Nat} {e : TypeId} {size n : Nat} {v : Value} {xs : List Value} (h : w.ownsRow base e size v n xs) : ∀ k, v.ownBlock = some k → k < w.heap.size := fun k hk => (h.lt k hk).2
/-- a row of marks as a slice -/
theorem own_form {w : World} {base : Nat} {e : TypeId} {v : Value} {ys : List Mk} (h : w.ownsRow base e 2 v ys.length (mkCells ys)) : ∃ A c, v = .slice A ys.length c ∧ ys.length ≤ 9223372036854775807 ∧ ∀ k x, ys[k]? = some x → ∃ g, A = some ⟨g, 0, none⟩ ∧ g < w.heap.size ∧ MkAt w g k x := by
  rcases h.2 with ⟨rfl, h0⟩ | ⟨g, cap, cur, rfl, _⟩
  · exact ⟨none, 0, by rw [h0], by omega, fun k x hk => by have := lt_of_get hk; omega⟩
  · obtain ⟨hr, _, hl, hc, _, ha⟩ := mkAt_of_own h
    exact ⟨_, _, rfl, by omega, fun k x hk => ⟨g, rfl, hr.lt, ha k x hk⟩⟩

def DelRel (w : World) (m : Mk) (ys : List Mk) (v : Value) (wx : World) : Prop :=
  Below w.heap.size w wx ∧ wx.ownsRow w.heap.size 24 2 v ys.length (mkCells ys) ∧ wx.cell? ⟨w.heap.size, 0, none⟩ = some (.int .i64 m.t) ∧ wx.cell? ⟨w.heap.size, 1, none⟩ = some (.int .i64 m.u) ∧ (v.ownBlock ≠ some w.heap.size)

set_option maxRecDepth 100000 in
set_option maxHeartbeats 2000000 in
theorem add_new (sv : Value) (F : Nat → Prop) (xs : List Mk) (m : Mk) (w : World) (hs : Sl mkTy w F sv xs) (h1 : mayB xs = true) (h2 : mayB [m] = true) (h3 : xs.any (fun x => domB x m) = false) :
    Calls Tryd.prog 10 #[sv, .agg #[.int .i64 m.t, .int .i64 m.u]] w (AddPost w (addMk xs m)) := by
  have hmay := fun (V : World) (hV : Below w.heap.size w V) => may_any sv F xs V (hs.below hV)
  rw [h1] at hmay
  have hmay2 := fun (V : World) (B : Nat) h0 h1 => may_any _ _ [m] V (sl_one (B := B) h0 h1)
  rw [h2] at hmay2
  have hlen := mayB_len h1
  have hcon := fun (V : World) (hV : Below w.heap.size w V) (fv : Value) (hf : Pred1 fv (fun x => domB x m) V) => containsFunc_any fv sv _ F xs V (hs.below hV) hf
  rw [h3] at hcon
  have hcl := fun (V : World) (hV : Below w.heap.size w V) => cloneMk_any sv F xs V (hs.below hV) (by omega)
  have hadd := fun (V W : World) (A : Nat) (hb : Below V.heap.size V W) h0 h1 x => add1_any x m A W (cell_later' (w := V) hb h0) (cell_later' (w := V) hb h1)
  have hres : addMk xs m = if (insMk (xs.filter (fun x => !domB m x)) (placeMk (xs.filter (fun x => !domB m x)) m) m).length ≤ 8 then (insMk (xs.filter (fun x => !domB m x)) (placeMk (xs.filter (fun x => !domB m x)) m) m, 0) else ([], 17) := by
    simp [addMk, h1, h2, h3]
  have Hres := Lib.hid hres
  clear h1 h2 h3 hs hres
  go_enter Tryd.func10, Tryd.ntmps10
  go_wp2_with fail
  refine Calls.mono (hmay _ (bel_alloc (Below.refl _ _) _)) ?_
  rintro e w1 ⟨rfl, hb1⟩
  have c0 : w1.cell? ⟨w.heap.size, 0, none⟩ = some (.int .i64 m.t) := cell_later' hb1 (by simp)
  have c1 : w1.cell? ⟨w.heap.size, 1, none⟩ = some (.int .i64 m.u) := cell_later' hb1 (by simp)
  have hbw := bel_trans (bel_alloc (Below.refl _ w) _) hb1
  have hz2 : w.heap.size < w1.heap.size := World.block_lt_of_cell? _ _ c0
  clear hb1
  go_wp2_with fail
  refine Calls.mono (hmay2 _ _ (by simp) (by simp)) ?_
  rintro e w2 ⟨rfl, hb2⟩
  have hb2' : Below w1.heap.size w1 w2 := bel_trans (bel_alloc (Below.refl _ _) _) hb2
  have d0 := cell_later' hb2' c0
  have d1 := cell_later' hb2' c1
  have hbw2 := bel_trans hbw hb2'
  clear hb2 hb2' c0 c1 hbw hz2
  go_wp2_with fail
  refine Calls.mono (hcon w2 hbw2 _ ⟨_, _, _, rfl, enters_of Tryd.func34 (by kernel_rfl) rfl, fun W x hW => hadd w2 W _ hW d0 d1 x⟩) ?_
  rintro e w3 ⟨rfl, hb3⟩
  have hbw3 := bel_trans hbw2 hb3
  have f0 := cell_later' hb3 d0
  have f1 := cell_later' hb3 d1
  clear hb3 d0 d1 hcon hadd hmay hmay2
  go_wp2_with fail
  obtain ⟨ys, hys⟩ : ∃ ys, ys = xs.filter (fun x => !domB m x) := ⟨_, rfl⟩
  have Hys := Lib.hid hys
  clear hys
  have hzz : w.heap.size < w3.heap.size := World.block_lt_of_cell? _ _ f0
  go_cut [0] (fun s0 wx => DelRel w m ys s0 wx)
  case first =>
    go_region_with (first
      | (go_at_call 36; refine (hcl _ ?_).mono ?_; exact bel_drew hbw3; rintro e w4 ⟨v, cs, rfl, hb4, ho, hc⟩; have f0' := cell_later' hb4 f0; have f1' := cell_later' hb4 f1; have hvb := own_base ho; have ho' := own_lower ho hbw3.size; have hbw4 := bel_trans (bel_drew hbw3) hb4; rw [mkCells_of_chunks hc] at ho'; clear ho hc hb4)
      | (go_at_call 37; refine (deleteMk_any _ v _ w.heap.size xs w4 ho' (dom_pred0 m)).mono ?_; rintro e w5 ⟨v5, zs, rfl, hy5, hg5, hv5, ho5⟩; clear ho'))
    all_goals
      have hne : v.ownBlock ≠ some w.heap.size := fun e => by have := hvb _ e; simp at this; omega
      go_wp2_with fail
      go_meet
      rw [hy5, ← Hys.out] at ho5
      exact ⟨bel_grown hbw4 hg5 (fun k hk => by have := hvb _ hk; simp at this; omega), ho5, hg5.cell f0' (fun e => hne e.symm), hg5.cell f1' (fun e => hne e.symm), fun e => hne (hv5 ▸ e)⟩
  case rest =>
    obtain ⟨wx, rfl⟩ : ∃ W, W = wc := ⟨_, rfl⟩
    obtain ⟨hbx, hox, m0, m1, hne⟩ := hcut
    obtain ⟨A, c, rfl, hmx, hel⟩ := own_form hox
    have hyl : ys.length ≤ 8 := by rw [Hys.out]; exact Nat.le_trans (List.length_filter_le _ _) hlen
    have hwx : w.heap.size < wx.heap.size := World.block_lt_of_cell? _ _ m0
    have Hox := Lib.hid hox; have Hne := Lib.hid hne; have Hel := Lib.hid hel
    have HR : Hid (addMk xs m = if (insMk ys (placeMk ys m) m).length ≤ 8 then (insMk ys (placeMk ys m) m, 0) else ([], 17)) := by rw [Hys.out]; exact Hres.out
    clear hox hne hel f0 f1 hbw3 hcl Hys Hres hbw2 hzz
    generalize hn : ys.length = n at *
    have Hn := Lib.hid hn
    clear hn
    go_wp2_with fail
    go_loopg [6] n (fun gg s6 wr => ∃ k : Nat, k ≤ n ∧ n - k ≤ gg ∧ s6 = .int .i64 k ∧ Aside (Below wx.heap.size wx wr) ∧ Aside (∀ j y, j < k → ys[j]? = some y → m.t < y.t))
    case atStart => exact ⟨0, Nat.zero_le _, by omega, rfl, Below.refl _ _, fun j y hj => absurd hj (Nat.not_lt_zero _)⟩
    case round =>
      obtain ⟨k, hk, hgg, rfl, HB, HA⟩ := hrel
      have g0 := cell_later' HB.out m0
      have g1 := cell_later' HB.out m1
      by_cases hlt : k < n
      · obtain ⟨x, hx⟩ : ∃ x, ys[k]? = some x := get_ex (by have := Hn.out; omega)
        obtain ⟨g, rfl, hgl, hat⟩ := Hel.out k x hx
        have a0 := cell_later' HB.out hat.1
        have hki : (k : Int) < (n : Int) := by omega
        have hkd : decide ((k : Int) < (n : Int)) = true := by simpa using hki
        have HX := Lib.hid hx
        clear hat hx
        cases ht : decide (m.t < x.t) with
        | true =>
          have Ht := Lib.hid ht
          go_wp2_with fail
          go_quiet (fail)
          go_wp2_with fail
          go_roundg (n - (k + 1))
          case measure => omega
          case rel =>
            refine ⟨k + 1, by omega, by omega, by go_num, bel_drewN HB.out _, ?_⟩
            show ∀ j y, _
            intro j y hj hy
            rcases Nat.lt_or_ge j k with h | h
            · exact HA.out j y h hy
            · obtain rfl : j = k := by omega
              obtain rfl := Option.some.inj (HX.out.symm.trans hy)
              exact of_decide_eq_true Ht.out
        | false =>
          have Ht := Lib.hid ht
          go_wp2_with fail
          go_quiet (fail)
          go_wp2_with fail
          have hnn := Hn.out
          subst hnn
          have hbb : ∀ q, Below wx.heap.size wx ((wr.drewN q).alloc (.cells #[.int .i64 m.t, .int .i64 m.u] 24)) := fun q => bel_alloc (bel_drewN HB.out q) _
          have hins : ∀ q, Calls Tryd.prog 38 #[_, .int .i64 (k : Nat), .slice (some ⟨wr.heap.size, 0, none⟩) 1 1] ((wr.drewN q).alloc (.cells #[.int .i64 m.t, .int .i64 m.u] 24)) _ := fun q =>
            insertMk_any w.heap.size wr.heap.size k _ ys m _ (own_later Hox.out (hbb q)) ⟨cell_new (wr.drewN q) _ _ 0 _ rfl, cell_new (wr.drewN q) _ _ 1 _ rfl⟩ ⟨#[.int .i64 m.t, .int .i64 m.u], by simp [World.alloc], rfl⟩ (fun e => by have := own_lt Hox.out _ e.symm; have := HB.out.size; omega) (Nat.le_trans hbx.size (hbb q).size) (by omega) (by omega)
          refine Calls.mono (hins _) ?_
          rintro e w9 ⟨v9, rfl, hg9, ho9⟩
          have hpl : placeMk ys m = k := placeMk_eq HX.out (by have := of_decide_eq_false Ht.out; omega) HA.out
          have hR := HR.out
          rw [hpl] at hR
          have hb9 : Below w.heap.size w w9 := bel_grown (bel_trans hbx (hbb _)) hg9 (fun q hq => own_base Hox.out q hq)
          have hl9 := insMk_len ys k m (by omega)
          have Hb9 := Lib.hid hb9
          generalize insMk ys k m = R at *
          obtain ⟨A9, c9, rfl, _, _⟩ := own_form ho9
          have Ho9 := Lib.hid ho9; have HRR := Lib.hid hR; have Hl9 := Lib.hid hl9
          clear ho9 hR hg9 hl9 hb9 hins hbb
          rcases Nat.lt_or_ge 8 R.length with h8 | h8
          · have h8i : (8 : Int) < (R.length : Int) := by omega
            go_wp2_with fail
            go_ret2
            rw [HRR.out, if_neg (by omega)]
            exact ⟨_, rfl, Hb9.out, World.ownsRow_nil _ _ _ _⟩
          · have h8i : ¬ (8 : Int) < (R.length : Int) := by omega
            go_wp2_with fail
            go_ret2
            rw [HRR.out, if_pos h8]
            exact ⟨_, rfl, Hb9.out, Ho9.out⟩
      · obtain rfl : k = n := by omega
        have hki : ¬ (k : Int) < (k : Int) := by omega
        have hkd : decide ((k : Int) < (k : Int)) = false := by simp
        go_wp2_with fail
        go_quiet (fail)
        go_wp2_with fail
        have hnn := Hn.out
        subst hnn
        have hbb : ∀ q, Below wx.heap.size wx ((wr.drewN q).alloc (.cells #[.int .i64 m.t, .int .i64 m.u] 24)) := fun q => bel_alloc (bel_drewN HB.out q) _
        have hins : ∀ q, Calls Tryd.prog 38 #[_, .int .i64 (ys.length : Nat), .slice (some ⟨wr.heap.size, 0, none⟩) 1 1] ((wr.drewN q).alloc (.cells #[.int .i64 m.t, .int .i64 m.u] 24)) _ := fun q =>
          insertMk_any w.heap.size wr.heap.size ys.length _ ys m _ (own_later Hox.out (hbb q)) ⟨cell_new (wr.drewN q) _ _ 0 _ rfl, cell_new (wr.drewN q) _ _ 1 _ rfl⟩ ⟨#[.int .i64 m.t, .int .i64 m.u], by simp [World.alloc], rfl⟩ (fun e => by have := own_lt Hox.out _ e.symm; have := HB.out.size; omega) (Nat.le_trans hbx.size (hbb q).size) (by omega) (by omega)
        refine Calls.mono (hins _) ?_
        rintro e w9 ⟨v9, rfl, hg9, ho9⟩
        have hpl : placeMk ys m = ys.length := placeMk_end HA.out
        have hR := HR.out
        rw [hpl] at hR
        have hb9 : Below w.heap.size w w9 := bel_grown (bel_trans hbx (hbb _)) hg9 (fun q hq => own_base Hox.out q hq)
        have hl9 := insMk_len ys ys.length m (by omega)
        have Hb9 := Lib.hid hb9
        generalize insMk ys ys.length m = R at *
        obtain ⟨A9, c9, rfl, _, _⟩ := own_form ho9
        have Ho9 := Lib.hid ho9; have HRR := Lib.hid hR; have Hl9 := Lib.hid hl9
        clear ho9 hR hg9 hl9 hb9 hins hbb
        rcases Nat.lt_or_ge 8 R.length with h8 | h8
        · have h8i : (8 : Int) < (R.length : Int) := by omega
          go_wp2_with fail
          go_ret2
          rw [HRR.out, if_neg (by omega)]
          exact ⟨_, rfl, Hb9.out, World.ownsRow_nil _ _ _ _⟩
        · have h8i : ¬ (8 : Int) < (R.length : Int) := by omega
          go_wp2_with fail
          go_ret2
          rw [HRR.out, if_pos h8]
          exact ⟨_, rfl, Hb9.out, Ho9.out⟩

/-- Add, at whatever marks -/
theorem add_any (sv : Value) (F : Nat → Prop) (xs : List Mk) (m : Mk) (w : World) (hs : Sl mkTy w F sv xs) :
    Calls Tryd.prog 10 #[sv, .agg #[.int .i64 m.t, .int .i64 m.u]] w (AddPost w (addMk xs m)) := by
  cases h : mayB xs && mayB [m] with
  | false =>
    have e : addMk xs m = ([], 4) := by simp [addMk, h]
    rw [e]; exact add_no sv F xs m w hs h
  | true =>
    have h1 : mayB xs = true := by simp at h; exact h.1
    have h2 : mayB [m] = true := by simp at h; exact h.2
    cases h3 : xs.any (fun x => domB x m) with
    | true =>
      have e : addMk xs m = (xs, 0) := by simp [addMk, h1, h2, h3]
      rw [e]; exact add_there sv F xs m w hs h1 h2 h3
    | false => exact add_new sv F xs m w hs h1 h2 h3
end Go.Proofs.YtjjgbgojlhaapaaDoor
