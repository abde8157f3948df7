/- Parts of the proof: MkK, MkL, Rl, Rv, Hj, Hk, Rc. -/
import Derived.Test.YtlihjmfdnkfmfaaGreatDoorZRback23
import Derived.Deep.DeepCutAuto
import Derived.Test.YtlihjmfdnkfmfaaGreatDoorZRback22
import Derived.Lib.ItoaLen
import Derived.Test.YtlihjmfdnkfmfaaGreatDoorZRback18
namespace Go.Proofs.YtlihjmfdnkfmfaaGreatDoor
open Go.RowKit

set_option maxRecDepth 100000 in
set_option maxHeartbeats 1000000 in
theorem add_there (sv : Value) (F : Nat → Prop) (xs : List Mk) (m : Mk) (w : World) (hs : Sl mkTy w F sv xs) (h1 : mayB xs = true) (h2 : mayB [m] = true) (h3 : xs.any (fun x => domB x m) = true) :
    Calls Tryz.prog 83 #[sv, .agg #[.int .i64 m.t, .int .i64 m.u]] w (AddPost w (xs, 0)) := by
  have hmay := fun (V : World) (hV : Below w.heap.size w V) => may_any sv F xs V (hs.below hV)
  rw [h1] at hmay
  have hmay2 := fun (V : World) (B : Nat) h0 h1 => may_any _ _ [m] V (sl_one (B := B) h0 h1)
  rw [h2] at hmay2
  have hlen := mayB_len h1
  have hcon := fun (V : World) (hV : Below w.heap.size w V) (fv : Value) (hf : Pred1 fv (fun x => domB x m) V) => containsFunc_any fv sv _ F xs V (hs.below hV) hf
  rw [h3] at hcon
  have hcl := fun (V : World) (hV : Below w.heap.size w V) => cloneMk_any sv F xs V (hs.below hV) (by omega)
  have hadd := fun (V W : World) (A : Nat) (hb : Below V.heap.size V W) h0 h1 x => add1_any x m A W (cell_later' (w := V) hb h0) (cell_later' (w := V) hb h1)
  clear h1 h2 h3 hs
  go_enter Tryz.func83, Tryz.ntmps83
  go_wp2_with fail
  refine Calls.mono (hmay _ (bel_alloc (Below.refl _ _) _)) ?_
  rintro e w1 ⟨rfl, hb1⟩
  have c0 : w1.cell? ⟨w.heap.size, 0, none⟩ = some (.int .i64 m.t) := cell_later' hb1 (by simp)
  have c1 : w1.cell? ⟨w.heap.size, 1, none⟩ = some (.int .i64 m.u) := cell_later' hb1 (by simp)
  have hbw := bel_trans (bel_alloc (Below.refl _ w) _) hb1
  have hz2 : w.heap.size < w1.heap.size := World.block_lt_of_cell? _ _ c0
  clear hb1
  go_wp2_with fail
  refine Calls.mono (hmay2 _ _ (by simp) (by simp)) ?_
  rintro e w2 ⟨rfl, hb2⟩
  have hb2' : Below w1.heap.size w1 w2 := bel_trans (bel_alloc (Below.refl _ _) _) hb2
  have d0 := cell_later' hb2' c0
  have d1 := cell_later' hb2' c1
  have hbw2 := bel_trans hbw hb2'
  clear hb2 hb2' c0 c1 hbw hz2
  go_wp2_with fail
  refine Calls.mono (hcon w2 hbw2 _ ⟨_, _, _, rfl, enters_of Tryz.func127 (by kernel_rfl) rfl, fun W x hW => hadd w2 W _ hW d0 d1 x⟩) ?_
  rintro e w3 ⟨rfl, hb3⟩
  have hbw3 := bel_trans hbw2 hb3
  clear hb3
  go_wp2_with fail
  refine Calls.mono (hcl w3 hbw3) ?_
  rintro e w4 ⟨v, cs, rfl, hb4, ho, hc⟩
  have hbw4 := bel_trans hbw3 hb4
  have ho' := own_lower ho hbw3.size
  rw [mkCells_of_chunks hc] at ho'
  have Ho := Lib.hid ho'
  clear ho hc ho' hb4
  go_wp2_with fail
  go_ret2
  exact ⟨_, rfl, hbw4, Ho.out⟩

theorem placeMk_eq {xs : List Mk} {m x : Mk} {k : Nat} (hx : xs[k]? = some x) (h1 : x.t ≤ m.t) (h : ∀ j y, j < k → xs[j]? = some y → m.t < y.t) : placeMk xs m = k := by
  unfold placeMk
  have hk := lt_of_get hx
  rw [List.findIdx_eq hk]
  have e : xs[k] = x := by simpa [List.getElem?_eq_getElem hk] using hx
  refine ⟨by rw [e]; simpa using h1, fun j hj => ?_⟩
  have := h j xs[j] hj (List.getElem?_eq_getElem _)
  simpa using this
theorem placeMk_end {xs : List Mk} {m : Mk} (h : ∀ j y, j < xs.length → xs[j]? = some y → m.t < y.t) : placeMk xs m = xs.length := by
  unfold placeMk
  rw [List.findIdx_eq_length]
  intro x hx
  obtain ⟨j, hj, rfl⟩ := List.mem_iff_getElem.1 hx
  have := h j xs[j] hj (List.getElem?_eq_getElem _)
  simpa using this
theorem cell_new (w : World) (cs : Array Value) (t : TypeId) (i : Nat) (v : Value) (h : cs[i]? = some v) : (w.alloc (.cells cs t)).cell? ⟨w.heap.size, i, none⟩ = some v := by
  have := heap_alloc_new w (.cells cs t)
  unfold World.cell?
  simp only [this]
  exact h
theorem own_later {w W : World} {base : Nat} {e : TypeId} {size n : Nat} {v : Value} {xs : List Value} (h : w.ownsRow base e size v n xs) (hb : Below w.heap.size w W) : W.ownsRow base e size v n xs := by
  obtain ⟨h1, h2⟩ := h
  refine ⟨h1, ?_⟩
  rcases h2 with h2 | ⟨g, cap, cur, e, hg, hh, r⟩
  · exact .inl h2
  · exact .inr ⟨g, cap, cur, e, hg, (hb.block g (Array.getElem?_eq_some_iff.1 hh).1).trans hh, r⟩
theorem own_lt {w : World} {base : Nat} {e : TypeId} {size n : Nat} {v : Value} {xs : List Value} (h : w.ownsRow base e size v n xs) : ∀ k, v.ownBlock = some k → k < w.heap.size := fun k hk => (h.lt k hk).2
/-- a row of marks as a slice -/
theorem own_form {w : World} {base : Nat} {e : TypeId} {v : Value} {ys : List Mk} (h : w.ownsRow base e 2 v ys.length (mkCells ys)) : ∃ A c, v = .slice A ys.length c ∧ ys.length ≤ 9223372036854775807 ∧ ∀ k x, ys[k]? = some x → ∃ g, A = some ⟨g, 0, none⟩ ∧ g < w.heap.size ∧ MkAt w g k x := by
  rcases h.2 with ⟨rfl, h0⟩ | ⟨g, cap, cur, rfl, _⟩
  · exact ⟨none, 0, by rw [h0], by omega, fun k x hk => by have := lt_of_get hk; omega⟩
  · obtain ⟨hr, _, hl, hc, _, ha⟩ := mkAt_of_own h
    exact ⟨_, _, rfl, by omega, fun k x hk => ⟨g, rfl, hr.lt, ha k x hk⟩⟩

def DelRel (w : World) (m : Mk) (ys : List Mk) (v : Value) (wx : World) : Prop :=
  Below w.heap.size w wx ∧ wx.ownsRow w.heap.size 170 2 v ys.length (mkCells ys) ∧ wx.cell? ⟨w.heap.size, 0, none⟩ = some (.int .i64 m.t) ∧ wx.cell? ⟨w.heap.size, 1, none⟩ = some (.int .i64 m.u) ∧ (v.ownBlock ≠ some w.heap.size)

set_option maxRecDepth 100000 in
set_option maxHeartbeats 2000000 in
theorem add_new (sv : Value) (F : Nat → Prop) (xs : List Mk) (m : Mk) (w : World) (hs : Sl mkTy w F sv xs) (h1 : mayB xs = true) (h2 : mayB [m] = true) (h3 : xs.any (fun x => domB x m) = false) :
    Calls Tryz.prog 83 #[sv, .agg #[.int .i64 m.t, .int .i64 m.u]] w (AddPost w (addMk xs m)) := by
  have hmay := fun (V : World) (hV : Below w.heap.size w V) => may_any sv F xs V (hs.below hV)
  rw [h1] at hmay
  have hmay2 := fun (V : World) (B : Nat) h0 h1 => may_any _ _ [m] V (sl_one (B := B) h0 h1)
  rw [h2] at hmay2
  have hlen := mayB_len h1
  have hcon := fun (V : World) (hV : Below w.heap.size w V) (fv : Value) (hf : Pred1 fv (fun x => domB x m) V) => containsFunc_any fv sv _ F xs V (hs.below hV) hf
  rw [h3] at hcon
  have hcl := fun (V : World) (hV : Below w.heap.size w V) => cloneMk_any sv F xs V (hs.below hV) (by omega)
  have hadd := fun (V W : World) (A : Nat) (hb : Below V.heap.size V W) h0 h1 x => add1_any x m A W (cell_later' (w := V) hb h0) (cell_later' (w := V) hb h1)
  have hres : addMk xs m = if (insMk (xs.filter (fun x => !domB m x)) (placeMk (xs.filter (fun x => !domB m x)) m) m).length ≤ 8 then (insMk (xs.filter (fun x => !domB m x)) (placeMk (xs.filter (fun x => !domB m x)) m) m, 0) else ([], 17) := by
    simp [addMk, h1, h2, h3]
  have Hres := Lib.hid hres
  clear h1 h2 h3 hs hres
  go_enter Tryz.func83, Tryz.ntmps83
  go_wp2_with fail
  refine Calls.mono (hmay _ (bel_alloc (Below.refl _ _) _)) ?_
  rintro e w1 ⟨rfl, hb1⟩
  have c0 : w1.cell? ⟨w.heap.size, 0, none⟩ = some (.int .i64 m.t) := cell_later' hb1 (by simp)
  have c1 : w1.cell? ⟨w.heap.size, 1, none⟩ = some (.int .i64 m.u) := cell_later' hb1 (by simp)
  have hbw := bel_trans (bel_alloc (Below.refl _ w) _) hb1
  have hz2 : w.heap.size < w1.heap.size := World.block_lt_of_cell? _ _ c0
  clear hb1
  go_wp2_with fail
  refine Calls.mono (hmay2 _ _ (by simp) (by simp)) ?_
  rintro e w2 ⟨rfl, hb2⟩
  have hb2' : Below w1.heap.size w1 w2 := bel_trans (bel_alloc (Below.refl _ _) _) hb2
  have d0 := cell_later' hb2' c0
  have d1 := cell_later' hb2' c1
  have hbw2 := bel_trans hbw hb2'
  clear hb2 hb2' c0 c1 hbw hz2
  go_wp2_with fail
  refine Calls.mono (hcon w2 hbw2 _ ⟨_, _, _, rfl, enters_of Tryz.func127 (by kernel_rfl) rfl, fun W x hW => hadd w2 W _ hW d0 d1 x⟩) ?_
  rintro e w3 ⟨rfl, hb3⟩
  have hbw3 := bel_trans hbw2 hb3
  have f0 := cell_later' hb3 d0
  have f1 := cell_later' hb3 d1
  clear hb3 d0 d1 hcon hadd hmay hmay2
  go_wp2_with fail
  obtain ⟨ys, hys⟩ : ∃ ys, ys = xs.filter (fun x => !domB m x) := ⟨_, rfl⟩
  have Hys := Lib.hid hys
  clear hys
  have hzz : w.heap.size < w3.heap.size := World.block_lt_of_cell? _ _ f0
  go_cut [0] (fun s0 wx => DelRel w m ys s0 wx)
  case first =>
    go_region_with (first
      | (go_at_call 129; refine (hcl _ ?_).mono ?_; exact bel_drew hbw3; rintro e w4 ⟨v, cs, rfl, hb4, ho, hc⟩; have f0' := cell_later' hb4 f0; have f1' := cell_later' hb4 f1; have hvb := own_base ho; have ho' := own_lower ho hbw3.size; have hbw4 := bel_trans (bel_drew hbw3) hb4; rw [mkCells_of_chunks hc] at ho'; clear ho hc hb4)
      | (go_at_call 130; refine (deleteMk_any _ v _ w.heap.size xs w4 ho' (dom_pred0 m)).mono ?_; rintro e w5 ⟨v5, zs, rfl, hy5, hg5, hv5, ho5⟩; clear ho'))
    all_goals
      have hne : v.ownBlock ≠ some w.heap.size := fun e => by have := hvb _ e; simp at this; omega
      go_wp2_with fail
      go_meet
      rw [hy5, ← Hys.out] at ho5
      exact ⟨bel_grown hbw4 hg5 (fun k hk => by have := hvb _ hk; simp at this; omega), ho5, hg5.cell f0' (fun e => hne e.symm), hg5.cell f1' (fun e => hne e.symm), fun e => hne (hv5 ▸ e)⟩
  case rest =>
    obtain ⟨wx, rfl⟩ : ∃ W, W = wc := ⟨_, rfl⟩
    obtain ⟨hbx, hox, m0, m1, hne⟩ := hcut
    obtain ⟨A, c, rfl, hmx, hel⟩ := own_form hox
    have hyl : ys.length ≤ 8 := by rw [Hys.out]; exact Nat.le_trans (List.length_filter_le _ _) hlen
    have hwx : w.heap.size < wx.heap.size := World.block_lt_of_cell? _ _ m0
    have Hox := Lib.hid hox; have Hne := Lib.hid hne; have Hel := Lib.hid hel
    have HR : Hid (addMk xs m = if (insMk ys (placeMk ys m) m).length ≤ 8 then (insMk ys (placeMk ys m) m, 0) else ([], 17)) := by rw [Hys.out]; exact Hres.out
    clear hox hne hel f0 f1 hbw3 hcl Hys Hres hbw2 hzz
    generalize hn : ys.length = n at *
    have Hn := Lib.hid hn
    clear hn
    go_wp2_with fail
    go_loopg [6] n (fun gg s6 wr => ∃ k : Nat, k ≤ n ∧ n - k ≤ gg ∧ s6 = .int .i64 k ∧ Aside (Below wx.heap.size wx wr) ∧ Aside (∀ j y, j < k → ys[j]? = some y → m.t < y.t))
    case atStart => exact ⟨0, Nat.zero_le _, by omega, rfl, Below.refl _ _, fun j y hj => absurd hj (Nat.not_lt_zero _)⟩
    case round =>
      obtain ⟨k, hk, hgg, rfl, HB, HA⟩ := hrel
      have g0 := cell_later' HB.out m0
      have g1 := cell_later' HB.out m1
      by_cases hlt : k < n
      · obtain ⟨x, hx⟩ : ∃ x, ys[k]? = some x := get_ex (by have := Hn.out; omega)
        obtain ⟨g, rfl, hgl, hat⟩ := Hel.out k x hx
        have a0 := cell_later' HB.out hat.1
        have hki : (k : Int) < (n : Int) := by omega
        have hkd : decide ((k : Int) < (n : Int)) = true := by simpa using hki
        have HX := Lib.hid hx
        clear hat hx
        cases ht : decide (m.t < x.t) with
        | true =>
          have Ht := Lib.hid ht
          go_wp2_with fail
          go_quiet (fail)
          go_wp2_with fail
          go_roundg (n - (k + 1))
          case measure => omega
          case rel =>
            refine ⟨k + 1, by omega, by omega, by go_num, bel_drewN HB.out _, ?_⟩
            show ∀ j y, _
            intro j y hj hy
            rcases Nat.lt_or_ge j k with h | h
            · exact HA.out j y h hy
            · obtain rfl : j = k := by omega
              obtain rfl := Option.some.inj (HX.out.symm.trans hy)
              exact of_decide_eq_true Ht.out
        | false =>
          have Ht := Lib.hid ht
          go_wp2_with fail
          go_quiet (fail)
          go_wp2_with fail
          have hnn := Hn.out
          subst hnn
          have hbb : ∀ q, Below wx.heap.size wx ((wr.drewN q).alloc (.cells #[.int .i64 m.t, .int .i64 m.u] 170)) := fun q => bel_alloc (bel_drewN HB.out q) _
          have hins : ∀ q, Calls Tryz.prog 131 #[_, .int .i64 (k : Nat), .slice (some ⟨wr.heap.size, 0, none⟩) 1 1] ((wr.drewN q).alloc (.cells #[.int .i64 m.t, .int .i64 m.u] 170)) _ := fun q =>
            insertMk_any w.heap.size wr.heap.size k _ ys m _ (own_later Hox.out (hbb q)) ⟨cell_new (wr.drewN q) _ _ 0 _ rfl, cell_new (wr.drewN q) _ _ 1 _ rfl⟩ ⟨#[.int .i64 m.t, .int .i64 m.u], by simp [World.alloc], rfl⟩ (fun e => by have := own_lt Hox.out _ e.symm; have := HB.out.size; omega) (Nat.le_trans hbx.size (hbb q).size) (by omega) (by omega)
          refine Calls.mono (hins _) ?_
          rintro e w9 ⟨v9, rfl, hg9, ho9⟩
          have hpl : placeMk ys m = k := placeMk_eq HX.out (by have := of_decide_eq_false Ht.out; omega) HA.out
          have hR := HR.out
          rw [hpl] at hR
          have hb9 : Below w.heap.size w w9 := bel_grown (bel_trans hbx (hbb _)) hg9 (fun q hq => own_base Hox.out q hq)
          have hl9 := insMk_len ys k m (by omega)
          have Hb9 := Lib.hid hb9
          generalize insMk ys k m = R at *
          obtain ⟨A9, c9, rfl, _, _⟩ := own_form ho9
          have Ho9 := Lib.hid ho9; have HRR := Lib.hid hR; have Hl9 := Lib.hid hl9
          clear ho9 hR hg9 hl9 hb9 hins hbb
          rcases Nat.lt_or_ge 8 R.length with h8 | h8
          · have h8i : (8 : Int) < (R.length : Int) := by omega
            go_wp2_with fail
            go_ret2
            rw [HRR.out, if_neg (by omega)]
            exact ⟨_, rfl, Hb9.out, World.ownsRow_nil _ _ _ _⟩
          · have h8i : ¬ (8 : Int) < (R.length : Int) := by omega
            go_wp2_with fail
            go_ret2
            rw [HRR.out, if_pos h8]
            exact ⟨_, rfl, Hb9.out, Ho9.out⟩
      · obtain rfl : k = n := by omega
        have hki : ¬ (k : Int) < (k : Int) := by omega
        have hkd : decide ((k : Int) < (k : Int)) = false := by simp
        go_wp2_with fail
        go_quiet (fail)
        go_wp2_with fail
        have hnn := Hn.out
        subst hnn
        have hbb : ∀ q, Below wx.heap.size wx ((wr.drewN q).alloc (.cells #[.int .i64 m.t, .int .i64 m.u] 170)) := fun q => bel_alloc (bel_drewN HB.out q) _
        have hins : ∀ q, Calls Tryz.prog 131 #[_, .int .i64 (ys.length : Nat), .slice (some ⟨wr.heap.size, 0, none⟩) 1 1] ((wr.drewN q).alloc (.cells #[.int .i64 m.t, .int .i64 m.u] 170)) _ := fun q =>
          insertMk_any w.heap.size wr.heap.size ys.length _ ys m _ (own_later Hox.out (hbb q)) ⟨cell_new (wr.drewN q) _ _ 0 _ rfl, cell_new (wr.drewN q) _ _ 1 _ rfl⟩ ⟨#[.int .i64 m.t, .int .i64 m.u], by simp [World.alloc], rfl⟩ (fun e => by have := own_lt Hox.out _ e.symm; have := HB.out.size; omega) (Nat.le_trans hbx.size (hbb q).size) (by omega) (by omega)
        refine Calls.mono (hins _) ?_
        rintro e w9 ⟨v9, rfl, hg9, ho9⟩
        have hpl : placeMk ys m = ys.length := placeMk_end HA.out
        have hR := HR.out
        rw [hpl] at hR
        have hb9 : Below w.heap.size w w9 := bel_grown (bel_trans hbx (hbb _)) hg9 (fun q hq => own_base Hox.out q hq)
        have hl9 := insMk_len ys ys.length m (by omega)
        have Hb9 := Lib.hid hb9
        generalize insMk ys ys.length m = R at *
        obtain ⟨A9, c9, rfl, _, _⟩ := own_form ho9
        have Ho9 := Lib.hid ho9; have HRR := Lib.hid hR; have Hl9 := Lib.hid hl9
        clear ho9 hR hg9 hl9 hb9 hins hbb
        rcases Nat.lt_or_ge 8 R.length with h8 | h8
        · have h8i : (8 : Int) < (R.length : Int) := by omega
          go_wp2_with fail
          go_ret2
          rw [HRR.out, if_neg (by omega)]
          exact ⟨_, rfl, Hb9.out, World.ownsRow_nil _ _ _ _⟩
        · have h8i : ¬ (8 : Int) < (R.length : Int) := by omega
          go_wp2_with fail
          go_ret2
          rw [HRR.out, if_pos h8]
          exact ⟨_, rfl, Hb9.out, Ho9.out⟩

/-- Add, at whatever marks -/
theorem add_any (sv : Value) (F : Nat → Prop) (xs : List Mk) (m : Mk) (w : World) (hs : Sl mkTy w F sv xs) :
    Calls Tryz.prog 83 #[sv, .agg #[.int .i64 m.t, .int .i64 m.u]] w (AddPost w (addMk xs m)) := by
  cases h : mayB xs && mayB [m] with
  | false =>
    have e : addMk xs m = ([], 4) := by simp [addMk, h]
    rw [e]; exact add_no sv F xs m w hs h
  | true =>
    have h1 : mayB xs = true := by simp at h; exact h.1
    have h2 : mayB [m] = true := by simp at h; exact h.2
    cases h3 : xs.any (fun x => domB x m) with
    | true =>
      have e : addMk xs m = (xs, 0) := by simp [addMk, h1, h2, h3]
      rw [e]; exact add_there sv F xs m w hs h1 h2 h3
    | false => exact add_new sv F xs m w hs h1 h2 h3
end Go.Proofs.YtlihjmfdnkfmfaaGreatDoor
namespace Go.Proofs.YtlihjmfdnkfmfaaGreatDoor
open Go.RowKit

theorem own_sl {w : World} {base : Nat} {v : Value} {ms : List Mk} {e : TypeId} (h : w.ownsRow base e 2 v ms.length (mkCells ms)) : Sl mkTy w (fun _ => True) v ms :=
  (own_to_sl (T := mkTy) (F := fun _ => False) h (mkCells_chunks w _ ms)).mono (fun _ _ => trivial)

/-! the staircase -/
def stair (l : List Mk) : Prop := l.Pairwise (fun a b => b.t < a.t ∧ a.u < b.u) ∧ ∀ x, x ∈ l → okOne x = true
theorem okFrom_stair : ∀ (l : List Mk) (p : Option Mk), okFrom p l = true ↔ (stair l ∧ ∀ a, p = some a → ∀ x, x ∈ l → x.t < a.t ∧ a.u < x.u)
  | [], p => by simp [okFrom, stair]
  | x :: r, p => by
    have ih := okFrom_stair r (some x)
    have h2 : okFrom p (x :: r) = true ↔ okOne x = true ∧ (∀ a, p = some a → okTwo a x = true) ∧ okFrom (some x) r = true := by
      cases p <;> simp [okFrom, and_assoc]
    rw [h2, ih]
    constructor
    · rintro ⟨ho, hp, ⟨hs1, hs2⟩, hr⟩
      refine ⟨⟨List.pairwise_cons.2 ⟨fun y hy => hr x rfl y hy, hs1⟩, fun y hy => ?_⟩, fun a ha y hy => ?_⟩
      · rcases List.mem_cons.1 hy with rfl | hy
        · exact ho
        · exact hs2 y hy
      · have h3 := hp a ha
        simp [okTwo] at h3
        rcases List.mem_cons.1 hy with rfl | hy
        · exact h3
        · have := hr x rfl y hy; omega
    · rintro ⟨⟨hs1, hs2⟩, hp⟩
      have hc := List.pairwise_cons.1 hs1
      refine ⟨hs2 x (List.mem_cons_self), fun a ha => ?_, ⟨hc.2, fun y hy => hs2 y (List.mem_cons_of_mem _ hy)⟩, fun a ha y hy => ?_⟩
      · have := hp a ha x (List.mem_cons_self); simp [okTwo]; omega
      · obtain rfl := Option.some.inj ha
        exact hc.1 y hy
theorem mayB_iff (l : List Mk) : mayB l = true ↔ stair l ∧ l.length ≤ 8 := by
  unfold mayB
  have := okFrom_stair l none
  simp at this ⊢
  rw [this]
  exact fun _ => Iff.rfl

end Go.Proofs.YtlihjmfdnkfmfaaGreatDoor
namespace Go.Proofs.YtlihjmfdnkfmfaaGreatDoor
open Go.RowKit Go.Lib

def markV (m : Mk) : JV := .mk 6 0 ⟨#[]⟩ [numV m.t, numV m.u] []
def marksV (l : List Mk) : JV := .mk 6 0 ⟨#[]⟩ (l.map markV) []
def nmMarks : ByteArray := ⟨#[109, 97, 114, 107, 115]⟩
def marksO (l : List Mk) : JV := .mk 7 0 ⟨#[]⟩ [] [(nmMarks, marksV l)]

theorem short_marks : shortB nmMarks = true := by decide +kernel
theorem may_markV {d : Nat} {m : Mk} (h : okOne m = true) : mayJ (d + 2) (markV m) = true := by
  simp [okOne] at h
  rw [markV, may_list]
  simp only [List.all_cons, List.all_nil, Bool.and_true, Bool.and_eq_true]
  exact ⟨may_numV (by omega) (by omega), may_numV (by omega) (by omega)⟩
theorem may_marksO {xs : List Mk} (h : mayB xs = true) : mayJ 64 (marksO xs) = true := by
  have hst := ((mayB_iff xs).1 h).1
  rw [marksO, may_obj (by simp [membersB, short_marks])]
  simp only [List.all_cons, List.all_nil, Bool.and_true]
  rw [marksV, may_list, List.all_eq_true]
  intro x hx
  obtain ⟨m, hm, rfl⟩ := List.mem_map.1 hx
  exact may_markV (hst.2 m hm)

theorem print_wordV (d : Nat) (s : ByteArray) : printB (d + 1) (wordV s) = quoteB s := by rw [printB.eq_2]; simp [wordV, JV.k, JV.s]
theorem print_list (d : Nat) (l : List JV) : printB (d + 1) (.mk 6 0 ⟨#[]⟩ l []) = 91 :: (joinFrom (printB d) true l ++ [93]) := by rw [printB.eq_2]; simp [JV.k, JV.l]
theorem print_obj (d : Nat) (m : List (ByteArray × JV)) : printB (d + 1) (.mk 7 0 ⟨#[]⟩ [] m) = 123 :: (joinFrom (fun p => quoteB p.1 ++ 58 :: printB d p.2) true m ++ [125]) := by rw [printB.eq_2]; simp [JV.k, JV.m]
theorem print_marks_len {xs : List Mk} (h : mayB xs = true) : (printB 64 (marksO xs)).length ≤ 140737488355328 := by
  have h8 := mayB_len h
  have hst := ((mayB_iff xs).1 h).1
  have hq : (quoteB nmMarks).length = 7 := by decide +kernel
  rw [marksO, print_obj]
  simp only [joinFrom, if_true, List.length_cons, List.length_append, List.append_nil, List.length_nil]
  rw [hq, marksV, print_list]
  have h1 := join_len (printB 62) 50 true (xs.map markV) (fun x hx => by
    obtain ⟨m, hm, rfl⟩ := List.mem_map.1 hx
    have ho := hst.2 m hm
    simp [okOne] at ho
    rw [markV, print_list]
    have l1 := itoa_length_le m.t (by omega) (by omega)
    have l2 := itoa_length_le m.u (by omega) (by omega)
    simp only [joinFrom, print_numV, if_true, List.length_cons, List.length_append, List.append_nil, List.length_nil, Bool.false_eq_true, if_false]
    omega)
  rw [List.length_map] at h1
  simp only [List.length_cons, List.length_append, List.length_nil]
  omega
end Go.Proofs.YtlihjmfdnkfmfaaGreatDoor
namespace Go.Proofs.YtlihjmfdnkfmfaaGreatDoor
open Go.RowKit Go.Lib

theorem cap_le (s : ByteArray) : cap20 s ≤ (s.size : Int) := by unfold cap20; omega
theorem obj_len {d : Nat} {x : JV} (h : 0 < countB d x 1000000) (hm : mayJ 64 x = true) : (printB 64 x).length ≤ 1000000000 := by
  have := count_len d 64 x 1000000 hm h
  omega
theorem feed_len {n : Int} {t : ByteArray} (ht : t.size ≤ 20000) (hm : mayJ 64 (feedO n t) = true) : (printB 64 (feedO n t)).length ≤ 1000000000 := by
  refine obj_len (d := 2) ?_ hm
  have h1 := cap_le t
  have h2 := cap_le nmN
  have h3 := cap_le nmTitle
  have h4 := cap_le ⟨#[]⟩
  have e2 : nmN.size = 1 := by decide
  have e3 : nmTitle.size = 5 := by decide
  have e4 : (⟨#[]⟩ : ByteArray).size = 0 := rfl
  simp only [feedO, countB, cntL, JV.m, JV.l, JV.s, numV, wordV]
  (repeat' split) <;> omega
theorem state_len {r s : Int} (hm : mayJ 64 (stateO r s) = true) : (printB 64 (stateO r s)).length ≤ 1000000000 := by
  refine obj_len (d := 2) ?_ hm
  have h2 := cap_le nmRead
  have h3 := cap_le nmStar
  have h4 := cap_le ⟨#[]⟩
  have e2 : nmRead.size = 4 := by decide
  have e3 : nmStar.size = 4 := by decide
  have e4 : (⟨#[]⟩ : ByteArray).size = 0 := rfl
  simp only [stateO, countB, cntL, JV.m, JV.l, JV.s, numV]
  (repeat' split) <;> omega
theorem entry_len {g l t : ByteArray} {n : Int} (hg : g.size ≤ 20000) (hl : l.size ≤ 20000) (ht : t.size ≤ 20000) (hm : mayJ 64 (entryO g l t n) = true) : (printB 64 (entryO g l t n)).length ≤ 1000000000 := by
  refine obj_len (d := 2) ?_ hm
  have h1 := cap_le t
  have h5 := cap_le g
  have h6 := cap_le l
  have h2 := cap_le nmGuid
  have h3 := cap_le nmLink
  have h7 := cap_le nmTitle
  have h8 := cap_le nmWhen
  have h4 := cap_le ⟨#[]⟩
  have e2 : nmGuid.size = 4 := by decide
  have e3 : nmLink.size = 4 := by decide
  have e5 : nmTitle.size = 5 := by decide
  have e6 : nmWhen.size = 4 := by decide
  have e4 : (⟨#[]⟩ : ByteArray).size = 0 := rfl
  simp only [entryO, countB, cntL, JV.m, JV.l, JV.s, numV, wordV]
  (repeat' split) <;> omega
theorem cap_zero : cap20 ⟨#[]⟩ = 0 := cap_nil
theorem mark_cnt : ∀ (xs : List Mk) (n : Int), 3 * (xs.length : Int) < n → cntL (countB 2) (xs.map markV) n = n - 3 * (xs.length : Int)
  | [], n, _ => by simp [cntL]
  | m :: xs, n, h => by
    have h' : 3 * (xs.length : Int) + 3 < n := by simp only [List.length_cons] at h; omega
    have e : countB 2 (markV m) n = n - 3 := by
      simp only [markV, countB, cntL, JV.m, JV.l, JV.s, numV, cap_zero]
      (repeat' split) <;> omega
    simp only [List.map_cons, cntL, List.length_cons]
    rw [if_pos (by omega), e, mark_cnt xs (n - 3) (by omega)]
    omega
end Go.Proofs.YtlihjmfdnkfmfaaGreatDoor
namespace Go.Proofs.YtlihjmfdnkfmfaaGreatDoor
open Go.RowKit Go.Lib

theorem jnumber (n : Int) (w : World) : Calls Tryz.prog 87 #[.int .i64 n] w fun e w' => e = .returned (.agg #[.int .i64 4, .int .i64 n, .string ⟨#[]⟩, .slice none 0 0, .slice none 0 0]) ∧ Below w.heap.size w w' := number_any n w
theorem jwords (s : ByteArray) (w : World) : Calls Tryz.prog 88 #[.string s] w fun e w' => e = .returned (.agg #[.int .i64 5, .int .i64 0, .string s, .slice none 0 0, .slice none 0 0]) ∧ Below w.heap.size w w' := words_any s w
theorem jshort (s : ByteArray) (hs : s.size ≤ 1000000000) (w : World) (hT : Tabs w) : Calls Tryz.prog 85 #[.string s] w fun e w' => e = .returned (.bool (short5R s)) ∧ Below w.heap.size w w' := by
  have hv := valid_any s w (by omega) hT
  unfold short5R
  cases h1 : validB s with
  | false =>
    rw [h1] at hv
    rw [Bool.and_false]
    go_enter Tryz.func85, Tryz.ntmps85
    go_wp2_with fail
    refine Calls.mono hv ?_
    rintro e w' ⟨rfl, hb⟩
    go_wp2_with fail
    go_ret
    exact ⟨rfl, hb⟩
  | true =>
    rw [h1] at hv
    rw [Bool.and_true]
    go_enter Tryz.func85, Tryz.ntmps85
    go_wp2_with fail
    refine Calls.mono hv ?_
    rintro e w' ⟨rfl, hb⟩
    go_wp2_with fail
    go_ret
    exact ⟨ret_bool (by simp; omega), hb⟩
theorem jprint_false (A : Option Addr) (n c : Nat) (w : World) : Calls Tryz.prog 84 #[.bool false, .slice A n c] w fun e w' => e = .returned (.tuple #[.string ⟨#[]⟩, .int .i64 4]) ∧ Below w.heap.size w w' := by
  go_enter Tryz.func84, Tryz.ntmps84
  go_wp2_with fail
  go_ret2
  exact ⟨rfl, Below.refl _ _⟩
theorem printedJ (ms : List (ByteArray × JV)) (ok : Bool) (hlen : mayJ 64 (.mk 7 0 ⟨#[]⟩ [] ms) = true → (printB 64 (.mk 7 0 ⟨#[]⟩ [] ms)).length ≤ 1000000000) :
    ∃ S E, putB ok (.mk 7 0 ⟨#[]⟩ [] ms) = .tuple #[.string S, .int .i64 E] ∧ ∀ (v : Value) (F : Nat → Prop) (w : World), Sl memTy w F v ms → Tabs w → Calls Tryz.prog 84 #[.bool ok, v] w fun e w' => e = .returned (.tuple #[.string S, .int .i64 E]) ∧ Below w.heap.size w w' := by
  cases ok with
  | false =>
    refine ⟨_, _, rfl, fun v F w h _ => ?_⟩
    obtain ⟨A, c, rfl⟩ := h.form
    exact jprint_false A _ c w
  | true => exact ⟨_, _, rfl, fun v F w h hT => rprint_any v ms F w h hT fun hm => Nat.le_trans (hlen hm) (by decide)⟩
end Go.Proofs.YtlihjmfdnkfmfaaGreatDoor
namespace Go.Proofs.YtlihjmfdnkfmfaaGreatDoor
open Go.RowKit Go.Lib

def nmFolder : ByteArray := ⟨#[102, 111, 108, 100, 101, 114]⟩
def subO (f : ByteArray) : JV := .mk 7 0 ⟨#[]⟩ [] [(nmFolder, wordV f)]
def subOk (f : ByteArray) : Bool := f.toList.isEmpty || nameB f
theorem sub_new {T : TypeId} (w : World) (f : ByteArray) (hf : f.size ≤ 1000000) : Sl memTy (w.alloc (Obj.cells #[.string ⟨#[102, 111, 108, 100, 101, 114]⟩, .int .i64 5, .int .i64 0, .string f, .slice none 0 0, .slice none 0 0] T)) (fun _ => True) (.slice (some ⟨w.heap.size, 0, none⟩) 1 1) [(nmFolder, wordV f)] :=
  new_members (T := T) w [(nmFolder, wordV f)] _ (by simp) (fun W => mem_chunk nmFolder (wordV f) _ (by decide) (word_jr W _ (nm := f) (by omega)))
set_option maxRecDepth 100000 in
set_option maxHeartbeats 16000000 in
theorem jputSub (f : ByteArray) (w : World) (hf : f.size ≤ 1000000) (hT : Tabs w) (hlen : mayJ 64 (subO f) = true → (printB 64 (subO f)).length ≤ 1000000000) :
    Calls Tryz.prog 38 #[.string f] w fun e w' => e = .returned (putB (subOk f) (subO f)) ∧ Below w.heap.size w w' := by
  cases h10 : f.toList.isEmpty with
  | true =>
    have hok : (subOk f) = true := by simp [subOk, h10]
    rw [hok]
    obtain ⟨S, E, hput, hp⟩ := printedJ _ true (show mayJ 64 (subO f) = true → _ from hlen)
    replace hput : putB true (subO f) = .tuple #[.string S, .int .i64 E] := hput
    rw [hput]
    have HP := Lib.hid hp
    have HT0 := Lib.hid hT
    clear hp hput hlen hT hok
    go_enter Tryz.func38, Tryz.ntmps38
    go_wp2_with fail
    refine Calls.mono (jwords f _) ?_
    rintro e w1 ⟨rfl, hb1⟩
    go_wp2_with fail
    refine Calls.mono (part_any _ _ _ _ _ _ _ _ _ _ _) ?_
    rintro e w2 ⟨rfl, hb2⟩
    have HB2 := Lib.hid (bel_trans hb1 hb2)
    clear hb1 hb2 w1
    go_wp2_with fail
    have hsl := sub_new (T := 49) w2 f hf
    have hba := bel_trans HB2.out (bel_alloc (Below.refl _ w2) (Obj.cells #[.string ⟨#[102, 111, 108, 100, 101, 114]⟩, .int .i64 5, .int .i64 0, .string f, .slice none 0 0, .slice none 0 0] 49))
    refine Calls.mono (HP.out _ _ _ hsl (HT0.out.below hba)) ?_
    rintro e w5 ⟨rfl, hb5⟩
    have HB5 := Lib.hid (bel_trans hba hb5)
    clear hb5 hba hsl
    go_wp2_with fail
    go_ret2
    exact ⟨rfl, HB5.out⟩
  | false =>
    cases h13 : nameB f with
    | true =>
      have hok : (subOk f) = true := by simp [subOk, h10, h13]
      rw [hok]
      obtain ⟨S, E, hput, hp⟩ := printedJ _ true (show mayJ 64 (subO f) = true → _ from hlen)
      replace hput : putB true (subO f) = .tuple #[.string S, .int .i64 E] := hput
      rw [hput]
      have HP := Lib.hid hp
      have HT0 := Lib.hid hT
      clear hp hput hlen hT hok
      go_enter Tryz.func38, Tryz.ntmps38
      go_wp2_with fail
      have hv := jname f (by omega) w
      rw [h13] at hv
      refine Calls.mono hv ?_
      clear hv
      rintro e w0 ⟨rfl, hw⟩
      replace hw := hw.symm
      subst hw
      go_wp2_with fail
      refine Calls.mono (jwords f _) ?_
      rintro e w1 ⟨rfl, hb1⟩
      go_wp2_with fail
      refine Calls.mono (part_any _ _ _ _ _ _ _ _ _ _ _) ?_
      rintro e w2 ⟨rfl, hb2⟩
      have HB2 := Lib.hid (bel_trans hb1 hb2)
      clear hb1 hb2 w1
      go_wp2_with fail
      have hsl := sub_new (T := 49) w2 f hf
      have hba := bel_trans HB2.out (bel_alloc (Below.refl _ w2) (Obj.cells #[.string ⟨#[102, 111, 108, 100, 101, 114]⟩, .int .i64 5, .int .i64 0, .string f, .slice none 0 0, .slice none 0 0] 49))
      refine Calls.mono (HP.out _ _ _ hsl (HT0.out.below hba)) ?_
      rintro e w5 ⟨rfl, hb5⟩
      have HB5 := Lib.hid (bel_trans hba hb5)
      clear hb5 hba hsl
      go_wp2_with fail
      go_ret2
      exact ⟨rfl, HB5.out⟩
    | false =>
      have hok : (subOk f) = false := by simp [subOk, h10, h13]
      rw [hok]
      obtain ⟨S, E, hput, hp⟩ := printedJ _ false (show mayJ 64 (subO f) = true → _ from hlen)
      replace hput : putB false (subO f) = .tuple #[.string S, .int .i64 E] := hput
      rw [hput]
      have HP := Lib.hid hp
      have HT0 := Lib.hid hT
      clear hp hput hlen hT hok
      go_enter Tryz.func38, Tryz.ntmps38
      go_wp2_with fail
      have hv := jname f (by omega) w
      rw [h13] at hv
      refine Calls.mono hv ?_
      clear hv
      rintro e w0 ⟨rfl, hw⟩
      replace hw := hw.symm
      subst hw
      go_wp2_with fail
      refine Calls.mono (jwords f _) ?_
      rintro e w1 ⟨rfl, hb1⟩
      go_wp2_with fail
      refine Calls.mono (part_any _ _ _ _ _ _ _ _ _ _ _) ?_
      rintro e w2 ⟨rfl, hb2⟩
      have HB2 := Lib.hid (bel_trans hb1 hb2)
      clear hb1 hb2 w1
      go_wp2_with fail
      have hsl := sub_new (T := 49) w2 f hf
      have hba := bel_trans HB2.out (bel_alloc (Below.refl _ w2) (Obj.cells #[.string ⟨#[102, 111, 108, 100, 101, 114]⟩, .int .i64 5, .int .i64 0, .string f, .slice none 0 0, .slice none 0 0] 49))
      refine Calls.mono (HP.out _ _ _ hsl (HT0.out.below hba)) ?_
      rintro e w5 ⟨rfl, hb5⟩
      have HB5 := Lib.hid (bel_trans hba hb5)
      clear hb5 hba hsl
      go_wp2_with fail
      go_ret2
      exact ⟨rfl, HB5.out⟩
end Go.Proofs.YtlihjmfdnkfmfaaGreatDoor
namespace Go.Proofs.YtlihjmfdnkfmfaaGreatDoor
open Go.RowKit Go.Lib

theorem ne2 : (2 : Int) ≠ 0 := by decide
theorem ne4 : (4 : Int) ≠ 0 := by decide
/-! blanks -/
theorem skip_pre {s : ByteArray} : ∀ (pre : List UInt8) (p : Nat) (r : List UInt8), (∀ b ∈ pre, isBlank b = true) → rest s p = pre ++ r → skipB s (s.size - p) p = skipB s (s.size - (p + pre.length)) (p + pre.length)
  | [], _, _, _, _ => rfl
  | b :: pre, p, r, hb, h => by
    have hl := rest_lt h
    rw [skip_step hl (by rw [rest_byte h]; exact hb b (List.mem_cons_self ..)), skip_pre pre (p + 1) r (fun c hc => hb c (List.mem_cons_of_mem _ hc)) (rest_next h)]
    rw [show p + 1 + pre.length = p + (b :: pre).length by simp only [List.length_cons]; omega]
theorem blanks_pre {s : ByteArray} {pre r : List UInt8} {p : Nat} (e : Int) (hb : ∀ b ∈ pre, isBlank b = true) (h : rest s p = pre ++ r) : St.blanks s ⟨p, e⟩ = St.blanks s ⟨p + pre.length, e⟩ := by
  unfold St.blanks
  simp only
  rw [skip_pre pre p r hb h]
theorem see_pre {s : ByteArray} {pre r : List UInt8} {p : Nat} (e : Int) (hb : ∀ b ∈ pre, isBlank b = true) (h : rest s p = pre ++ r) : St.see s ⟨p, e⟩ = St.see s ⟨p + pre.length, e⟩ := by
  unfold St.see
  rw [blanks_pre e hb h]
theorem value_see {s : ByteArray} {x y : St} (h : x.see s = y.see s) : ∀ d, valueB s d x = valueB s d y
  | 0 => by simp only [valueB, h]
  | d + 1 => by simp only [valueB, h]
theorem blank_end {c : UInt8} (h : isBlank c = true) : isDigit c = false ∧ [46, 101, 69].contains c = false := by
  simp only [isBlank, List.contains_iff_mem, List.mem_cons, List.not_mem_nil, or_false] at h
  rcases h with rfl | rfl | rfl | rfl <;> decide
theorem rest_le {s : ByteArray} {p : Nat} {l r : List UInt8} (hp : p ≤ s.size) (h : rest s p = l ++ r) : p + l.length ≤ s.size := by
  have hz : s.data.size = s.size := rfl
  have := congrArg List.length h
  unfold rest at this
  simp only [List.length_drop, Array.length_toList, hz, List.length_append] at this
  omega
theorem endB_blank {s : ByteArray} {q : Nat} {post : List UInt8} (_hq : q ≤ s.size) (hb : ∀ b ∈ post, isBlank b = true) (h : rest s q = post) : (endB s ⟨q, 0⟩).e = 0 := by
  have h' : rest s q = post ++ [] := by rw [h, List.append_nil]
  have h1 := blanks_pre 0 hb h'
  have h2 : rest s (q + post.length) = [] := drop_rest h'
  rw [see_end h2] at h1
  have := rest_nil h2
  unfold endB
  rw [h1, if_neg (by simp only; omega)]
/-- a printed value with blanks around it -/
theorem parse_around {x : JV} {pre post : List UInt8} (hpre : ∀ b ∈ pre, isBlank b = true) (hpost : ∀ b ∈ post, isBlank b = true) (hm : mayJ 64 x = true) (hlen : (pre ++ (printB 64 x ++ post)).length ≤ 20000) :
    parseB ⟨(pre ++ (printB 64 x ++ post)).toArray⟩ = (x, 0) := by
  have hz := list_size (pre ++ (printB 64 x ++ post))
  have hr := rest_zero (pre ++ (printB 64 x ++ post))
  generalize (⟨(pre ++ (printB 64 x ++ post)).toArray⟩ : ByteArray) = s at *
  have h1 := drop_rest hr
  have hsee := see_pre 0 hpre hr
  have hv := value_reads s 64 x _ post hm h1 (fun _ c r e => blank_end (hpost c (by rw [e]; exact List.mem_cons_self ..)))
  have h2 := drop_rest h1
  have hq := rest_le (Nat.zero_le _) hr
  have he := endB_blank (rest_le hq h1) hpost h2
  unfold parseB
  rw [if_neg (by omega), value_see hsee, hv]
  simp only
  rw [if_neg (by rw [he]; decide)]
theorem parse_print {x : JV} (hm : mayJ 64 x = true) (hlen : (printB 64 x).length ≤ 20000) : parseB ⟨(printB 64 x).toArray⟩ = (x, 0) := by
  have h := parse_around (x := x) (pre := []) (post := []) (by simp) (by simp) hm (by simpa using hlen)
  simpa using h
theorem numEnd_p (s : ByteArray) (neg : Bool) (x : St) : (numEnd s neg x).2.p = (numLoop s (anyB s [48] x.p) x.p (s.size - x.p) 0 x.p).2 := by
  unfold numEnd
  simp only
  split
  · exact fail_p _ _
  · split
    · exact fail_p _ _
    · rfl
theorem fail_ne {x : St} {e : Int} (h : x.e ≠ 0) : (x.fail e).e ≠ 0 := by unfold St.fail; rw [if_neg h]; exact h
theorem member_text {s : ByteArray} {pv : St → JV × St} {acc : List (ByteArray × JV)} {x : St} (h : (textB s (if (x.see s).1 ≠ 34 then (x.see s).2.fail 4 else (x.see s).2)).2.e ≠ 0) : (memberB s pv acc x).2.e ≠ 0 := by
  have hz : ∀ b : Bool, (if b = true then (textB s (if (x.see s).1 ≠ 34 then (x.see s).2.fail 4 else (x.see s).2)).2.fail 4 else (textB s (if (x.see s).1 ≠ 34 then (x.see s).2.fail 4 else (x.see s).2)).2).e ≠ 0 := fun b => by
    cases b
    · exact h
    · exact fail_ne h
  unfold memberB
  simp only
  rw [if_neg (hz _), if_neg (hz _)]
  exact hz _
end Go.Proofs.YtlihjmfdnkfmfaaGreatDoor
