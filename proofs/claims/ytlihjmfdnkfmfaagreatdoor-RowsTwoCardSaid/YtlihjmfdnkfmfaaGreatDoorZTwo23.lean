/- Parts of the proof: MkK, MkL, Rl, Rv, Hj, Hk, Rc, Rm. -/
import Derived.Test.YtlihjmfdnkfmfaaGreatDoorZTwo22
import Derived.Deep.DeepCutAuto
import Derived.Test.YtlihjmfdnkfmfaaGreatDoorZTwo21
import Derived.Lib.ItoaLen
import Derived.Test.YtlihjmfdnkfmfaaGreatDoorZTwo17
namespace Go.Proofs.YtlihjmfdnkfmfaaGreatDoor
open Go.RowKit

set_option maxRecDepth 100000 in
set_option maxHeartbeats 1000000 in
theorem add_there (sv : Value) (F : Nat → Prop) (xs : List Mk) (m : Mk) (w : World) (hs : Sl mkTy w F sv xs) (h1 : mayB xs = true) (h2 : mayB [m] = true) (h3 : xs.any (fun x => domB x m) = true) :
    Calls Tryz.prog 83 #[sv, .agg #[.int .i64 m.t, .int .i64 m.u]] w (AddPost w (xs, 0)) := by
  have hmay := fun (V : World) (hV : Below w.heap.size w V) => may_any sv F xs V (hs.below hV)
  rw [h1] at hmay
  have hmay2 := fun (V : World) (B : Nat) h0 h1 => may_any _ _ [m] V (sl_one (B := B) h0 h1)
  rw [h2] at hmay2
  have hlen := mayB_len h1
  have hcon := fun (V : World) (hV : Below w.heap.size w V) (fv : Value) (hf : Pred1 fv (fun x => domB x m) V) => containsFunc_any fv sv _ F xs V (hs.below hV) hf
  rw [h3] at hcon
  have hcl := fun (V : World) (hV : Below w.heap.size w V) => cloneMk_any sv F xs V (hs.below hV) (by omega)
  have hadd := fun (V W : World) (A : Nat) (hb : Below V.heap.size V W) h0 h1 x => add1_any x m A W (cell_later' (w := V) hb h0) (cell_later' (w := V) hb h1)
  clear h1 h2 h3 hs
  go_enter Tryz.func83, Tryz.ntmps83
  go_wp2_with fail
  refine Calls.mono (hmay _ (bel_alloc (Below.refl _ _) _)) ?_
  rintro e w1 ⟨rfl, hb1⟩
  have c0 : w1.cell? ⟨w.heap.size, 0, none⟩ = some (.int .i64 m.t) := cell_later' hb1 (by simp)
  have c1 : w1.cell? ⟨w.heap.size, 1, none⟩ = some (.int .i64 m.u) := cell_later' hb1 (by simp)
  have hbw := bel_trans (bel_alloc (Below.refl _ w) _) hb1
  have hz2 : w.heap.size < w1.heap.size := World.block_lt_of_cell? _ _ c0
  clear hb1
  go_wp2_with fail
  refine Calls.mono (hmay2 _ _ (by simp) (by simp)) ?_
  rintro e w2 ⟨rfl, hb2⟩
  have hb2' : Below w1.heap.size w1 w2 := bel_trans (bel_alloc (Below.refl _ _) _) hb2
  have d0 := cell_later' hb2' c0
  have d1 := cell_later' hb2' c1
  have hbw2 := bel_trans hbw hb2'
  clear hb2 hb2' c0 c1 hbw hz2
  go_wp2_with fail
  refine Calls.mono (hcon w2 hbw2 _ ⟨_, _, _, rfl, enters_of Tryz.func127 (by kernel_rfl) rfl, fun W x hW => hadd w2 W _ hW d0 d1 x⟩) ?_
  rintro e w3 ⟨rfl, hb3⟩
  have hbw3 := bel_trans hbw2 hb3
  clear hb3
  go_wp2_with fail
  refine Calls.mono (hcl w3 hbw3) ?_
  rintro e w4 ⟨v, cs, rfl, hb4, ho, hc⟩
  have hbw4 := bel_trans hbw3 hb4
  have ho' := own_lower ho hbw3.size
  rw [mkCells_of_chunks hc] at ho'
  have Ho := Lib.hid ho'
  clear ho hc ho' hb4
  go_wp2_with fail
  go_ret2
  exact ⟨_, rfl, hbw4, Ho.out⟩

theorem placeMk_eq {xs : List Mk} {m x : Mk} {k : Nat} (hx : xs[k]? = some x) (h1 : x.t ≤ m.t) (h : ∀ j y, j < k → xs[j]? = some y → m.t < y.t) : placeMk xs m = k := by
  unfold placeMk
  have hk := lt_of_get hx
  rw [List.findIdx_eq hk]
  have e : xs[k] = x := by simpa [List.getElem?_eq_getElem hk] using hx
  refine ⟨by rw [e]; simpa using h1, fun j hj => ?_⟩
  have := h j xs[j] hj (List.getElem?_eq_getElem _)
  simpa using this
theorem placeMk_end {xs : List Mk} {m : Mk} (h : ∀ j y, j < xs.length → xs[j]? = some y → m.t < y.t) : placeMk xs m = xs.length := by
  unfold placeMk
  rw [List.findIdx_eq_length]
  intro x hx
  obtain ⟨j, hj, rfl⟩ := List.mem_iff_getElem.1 hx
  have := h j xs[j] hj (List.getElem?_eq_getElem _)
  simpa using this
theorem cell_new (w : World) (cs : Array Value) (t : TypeId) (i : Nat) (v : Value) (h : cs[i]? = some v) : (w.alloc (.cells cs t)).cell? ⟨w.heap.size, i, none⟩ = some v := by
  have := heap_alloc_new w (.cells cs t)
  unfold World.cell?
  simp only [this]
  exact h
theorem own_later {w W : World} {base : Nat} {e : TypeId} {size n : Nat} {v : Value} {xs : List Value} (h : w.ownsRow base e size v n xs) (hb : Below w.heap.size w W) : W.ownsRow base e size v n xs := by
  obtain ⟨h1, h2⟩ := h
  refine ⟨h1, ?_⟩
  rcases h2 with h2 | ⟨g, cap, cur, e, hg, hh, r⟩
  · exact .inl h2
  · exact .inr ⟨g, cap, cur, e, hg, (hb.block g (Array.getElem?_eq_some_iff.1 hh).1).trans hh, r⟩
theorem own_lt {w : World} {base : Nat} {e : TypeId} {size n : Nat} {v : Value} {xs : List Value} (h : w.ownsRow base e size v n xs) : ∀ k, v.ownBlock = some k → k < w.heap.size := fun k hk => (h.lt k hk).2
/-- a row of marks as a slice -/
theorem own_form {w : World} {base : Nat} {e : TypeId} {v : Value} {ys : List Mk} (h : w.ownsRow base e 2 v ys.length (mkCells ys)) : ∃ A c, v = .slice A ys.length c ∧ ys.length ≤ 9223372036854775807 ∧ ∀ k x, ys[k]? = some x → ∃ g, A = some ⟨g, 0, none⟩ ∧ g < w.heap.size ∧ MkAt w g k x := by
  rcases h.2 with ⟨rfl, h0⟩ | ⟨g, cap, cur, rfl, _⟩
  · exact ⟨none, 0, by rw [h0], by omega, fun k x hk => by have := lt_of_get hk; omega⟩
  · obtain ⟨hr, _, hl, hc, _, ha⟩ := mkAt_of_own h
    exact ⟨_, _, rfl, by omega, fun k x hk => ⟨g, rfl, hr.lt, ha k x hk⟩⟩

def DelRel (w : World) (m : Mk) (ys : List Mk) (v : Value) (wx : World) : Prop :=
  Below w.heap.size w wx ∧ wx.ownsRow w.heap.size 170 2 v ys.length (mkCells ys) ∧ wx.cell? ⟨w.heap.size, 0, none⟩ = some (.int .i64 m.t) ∧ wx.cell? ⟨w.heap.size, 1, none⟩ = some (.int .i64 m.u) ∧ (v.ownBlock ≠ some w.heap.size)

set_option maxRecDepth 100000 in
set_option maxHeartbeats 2000000 in
theorem add_new (sv : Value) (F : Nat → Prop) (xs : List Mk) (m : Mk) (w : World) (hs : Sl mkTy w F sv xs) (h1 : mayB xs = true) (h2 : mayB [m] = true) (h3 : xs.any (fun x => domB x m) = false) :
    Calls Tryz.prog 83 #[sv, .agg #[.int .i64 m.t, .int .i64 m.u]] w (AddPost w (addMk xs m)) := by
  have hmay := fun (V : World) (hV : Below w.heap.size w V) => may_any sv F xs V (hs.below hV)
  rw [h1] at hmay
  have hmay2 := fun (V : World) (B : Nat) h0 h1 => may_any _ _ [m] V (sl_one (B := B) h0 h1)
  rw [h2] at hmay2
  have hlen := mayB_len h1
  have hcon := fun (V : World) (hV : Below w.heap.size w V) (fv : Value) (hf : Pred1 fv (fun x => domB x m) V) => containsFunc_any fv sv _ F xs V (hs.below hV) hf
  rw [h3] at hcon
  have hcl := fun (V : World) (hV : Below w.heap.size w V) => cloneMk_any sv F xs V (hs.below hV) (by omega)
  have hadd := fun (V W : World) (A : Nat) (hb : Below V.heap.size V W) h0 h1 x => add1_any x m A W (cell_later' (w := V) hb h0) (cell_later' (w := V) hb h1)
  have hres : addMk xs m = if (insMk (xs.filter (fun x => !domB m x)) (placeMk (xs.filter (fun x => !domB m x)) m) m).length ≤ 8 then (insMk (xs.filter (fun x => !domB m x)) (placeMk (xs.filter (fun x => !domB m x)) m) m, 0) else ([], 17) := by
    simp [addMk, h1, h2, h3]
  have Hres := Lib.hid hres
  clear h1 h2 h3 hs hres
  go_enter Tryz.func83, Tryz.ntmps83
  go_wp2_with fail
  refine Calls.mono (hmay _ (bel_alloc (Below.refl _ _) _)) ?_
  rintro e w1 ⟨rfl, hb1⟩
  have c0 : w1.cell? ⟨w.heap.size, 0, none⟩ = some (.int .i64 m.t) := cell_later' hb1 (by simp)
  have c1 : w1.cell? ⟨w.heap.size, 1, none⟩ = some (.int .i64 m.u) := cell_later' hb1 (by simp)
  have hbw := bel_trans (bel_alloc (Below.refl _ w) _) hb1
  have hz2 : w.heap.size < w1.heap.size := World.block_lt_of_cell? _ _ c0
  clear hb1
  go_wp2_with fail
  refine Calls.mono (hmay2 _ _ (by simp) (by simp)) ?_
  rintro e w2 ⟨rfl, hb2⟩
  have hb2' : Below w1.heap.size w1 w2 := bel_trans (bel_alloc (Below.refl _ _) _) hb2
  have d0 := cell_later' hb2' c0
  have d1 := cell_later' hb2' c1
  have hbw2 := bel_trans hbw hb2'
  clear hb2 hb2' c0 c1 hbw hz2
  go_wp2_with fail
  refine Calls.mono (hcon w2 hbw2 _ ⟨_, _, _, rfl, enters_of Tryz.func127 (by kernel_rfl) rfl, fun W x hW => hadd w2 W _ hW d0 d1 x⟩) ?_
  rintro e w3 ⟨rfl, hb3⟩
  have hbw3 := bel_trans hbw2 hb3
  have f0 := cell_later' hb3 d0
  have f1 := cell_later' hb3 d1
  clear hb3 d0 d1 hcon hadd hmay hmay2
  go_wp2_with fail
  obtain ⟨ys, hys⟩ : ∃ ys, ys = xs.filter (fun x => !domB m x) := ⟨_, rfl⟩
  have Hys := Lib.hid hys
  clear hys
  have hzz : w.heap.size < w3.heap.size := World.block_lt_of_cell? _ _ f0
  go_cut [0] (fun s0 wx => DelRel w m ys s0 wx)
  case first =>
    go_region_with (first
      | (go_at_call 129; refine (hcl _ ?_).mono ?_; exact bel_drew hbw3; rintro e w4 ⟨v, cs, rfl, hb4, ho, hc⟩; have f0' := cell_later' hb4 f0; have f1' := cell_later' hb4 f1; have hvb := own_base ho; have ho' := own_lower ho hbw3.size; have hbw4 := bel_trans (bel_drew hbw3) hb4; rw [mkCells_of_chunks hc] at ho'; clear ho hc hb4)
      | (go_at_call 130; refine (deleteMk_any _ v _ w.heap.size xs w4 ho' (dom_pred0 m)).mono ?_; rintro e w5 ⟨v5, zs, rfl, hy5, hg5, hv5, ho5⟩; clear ho'))
    all_goals
      have hne : v.ownBlock ≠ some w.heap.size := fun e => by have := hvb _ e; simp at this; omega
      go_wp2_with fail
      go_meet
      rw [hy5, ← Hys.out] at ho5
      exact ⟨bel_grown hbw4 hg5 (fun k hk => by have := hvb _ hk; simp at this; omega), ho5, hg5.cell f0' (fun e => hne e.symm), hg5.cell f1' (fun e => hne e.symm), fun e => hne (hv5 ▸ e)⟩
  case rest =>
    obtain ⟨wx, rfl⟩ : ∃ W, W = wc := ⟨_, rfl⟩
    obtain ⟨hbx, hox, m0, m1, hne⟩ := hcut
    obtain ⟨A, c, rfl, hmx, hel⟩ := own_form hox
    have hyl : ys.length ≤ 8 := by rw [Hys.out]; exact Nat.le_trans (List.length_filter_le _ _) hlen
    have hwx : w.heap.size < wx.heap.size := World.block_lt_of_cell? _ _ m0
    have Hox := Lib.hid hox; have Hne := Lib.hid hne; have Hel := Lib.hid hel
    have HR : Hid (addMk xs m = if (insMk ys (placeMk ys m) m).length ≤ 8 then (insMk ys (placeMk ys m) m, 0) else ([], 17)) := by rw [Hys.out]; exact Hres.out
    clear hox hne hel f0 f1 hbw3 hcl Hys Hres hbw2 hzz
    generalize hn : ys.length = n at *
    have Hn := Lib.hid hn
    clear hn
    go_wp2_with fail
    go_loopg [6] n (fun gg s6 wr => ∃ k : Nat, k ≤ n ∧ n - k ≤ gg ∧ s6 = .int .i64 k ∧ Aside (Below wx.heap.size wx wr) ∧ Aside (∀ j y, j < k → ys[j]? = some y → m.t < y.t))
    case atStart => exact ⟨0, Nat.zero_le _, by omega, rfl, Below.refl _ _, fun j y hj => absurd hj (Nat.not_lt_zero _)⟩
    case round =>
      obtain ⟨k, hk, hgg, rfl, HB, HA⟩ := hrel
      have g0 := cell_later' HB.out m0
      have g1 := cell_later' HB.out m1
      by_cases hlt : k < n
      · obtain ⟨x, hx⟩ : ∃ x, ys[k]? = some x := get_ex (by have := Hn.out; omega)
        obtain ⟨g, rfl, hgl, hat⟩ := Hel.out k x hx
        have a0 := cell_later' HB.out hat.1
        have hki : (k : Int) < (n : Int) := by omega
        have hkd : decide ((k : Int) < (n : Int)) = true := by simpa using hki
        have HX := Lib.hid hx
        clear hat hx
        cases ht : decide (m.t < x.t) with
        | true =>
          have Ht := Lib.hid ht
          go_wp2_with fail
          go_quiet (fail)
          go_wp2_with fail
          go_roundg (n - (k + 1))
          case measure => omega
          case rel =>
            refine ⟨k + 1, by omega, by omega, by go_num, bel_drewN HB.out _, ?_⟩
            show ∀ j y, _
            intro j y hj hy
            rcases Nat.lt_or_ge j k with h | h
            · exact HA.out j y h hy
            · obtain rfl : j = k := by omega
              obtain rfl := Option.some.inj (HX.out.symm.trans hy)
              exact of_decide_eq_true Ht.out
        | false =>
          have Ht := Lib.hid ht
          go_wp2_with fail
          go_quiet (fail)
          go_wp2_with fail
          have hnn := Hn.out
          subst hnn
          have hbb : ∀ q, Below wx.heap.size wx ((wr.drewN q).alloc (.cells #[.int .i64 m.t, .int .i64 m.u] 170)) := fun q => bel_alloc (bel_drewN HB.out q) _
          have hins : ∀ q, Calls Tryz.prog 131 #[_, .int .i64 (k : Nat), .slice (some ⟨wr.heap.size, 0, none⟩) 1 1] ((wr.drewN q).alloc (.cells #[.int .i64 m.t, .int .i64 m.u] 170)) _ := fun q =>
            insertMk_any w.heap.size wr.heap.size k _ ys m _ (own_later Hox.out (hbb q)) ⟨cell_new (wr.drewN q) _ _ 0 _ rfl, cell_new (wr.drewN q) _ _ 1 _ rfl⟩ ⟨#[.int .i64 m.t, .int .i64 m.u], by simp [World.alloc], rfl⟩ (fun e => by have := own_lt Hox.out _ e.symm; have := HB.out.size; omega) (Nat.le_trans hbx.size (hbb q).size) (by omega) (by omega)
          refine Calls.mono (hins _) ?_
          rintro e w9 ⟨v9, rfl, hg9, ho9⟩
          have hpl : placeMk ys m = k := placeMk_eq HX.out (by have := of_decide_eq_false Ht.out; omega) HA.out
          have hR := HR.out
          rw [hpl] at hR
          have hb9 : Below w.heap.size w w9 := bel_grown (bel_trans hbx (hbb _)) hg9 (fun q hq => own_base Hox.out q hq)
          have hl9 := insMk_len ys k m (by omega)
          have Hb9 := Lib.hid hb9
          generalize insMk ys k m = R at *
          obtain ⟨A9, c9, rfl, _, _⟩ := own_form ho9
          have Ho9 := Lib.hid ho9; have HRR := Lib.hid hR; have Hl9 := Lib.hid hl9
          clear ho9 hR hg9 hl9 hb9 hins hbb
          rcases Nat.lt_or_ge 8 R.length with h8 | h8
          · have h8i : (8 : Int) < (R.length : Int) := by omega
            go_wp2_with fail
            go_ret2
            rw [HRR.out, if_neg (by omega)]
            exact ⟨_, rfl, Hb9.out, World.ownsRow_nil _ _ _ _⟩
          · have h8i : ¬ (8 : Int) < (R.length : Int) := by omega
            go_wp2_with fail
            go_ret2
            rw [HRR.out, if_pos h8]
            exact ⟨_, rfl, Hb9.out, Ho9.out⟩
      · obtain rfl : k = n := by omega
        have hki : ¬ (k : Int) < (k : Int) := by omega
        have hkd : decide ((k : Int) < (k : Int)) = false := by simp
        go_wp2_with fail
        go_quiet (fail)
        go_wp2_with fail
        have hnn := Hn.out
        subst hnn
        have hbb : ∀ q, Below wx.heap.size wx ((wr.drewN q).alloc (.cells #[.int .i64 m.t, .int .i64 m.u] 170)) := fun q => bel_alloc (bel_drewN HB.out q) _
        have hins : ∀ q, Calls Tryz.prog 131 #[_, .int .i64 (ys.length : Nat), .slice (some ⟨wr.heap.size, 0, none⟩) 1 1] ((wr.drewN q).alloc (.cells #[.int .i64 m.t, .int .i64 m.u] 170)) _ := fun q =>
          insertMk_any w.heap.size wr.heap.size ys.length _ ys m _ (own_later Hox.out (hbb q)) ⟨cell_new (wr.drewN q) _ _ 0 _ rfl, cell_new (wr.drewN q) _ _ 1 _ rfl⟩ ⟨#[.int .i64 m.t, .int .i64 m.u], by simp [World.alloc], rfl⟩ (fun e => by have := own_lt Hox.out _ e.symm; have := HB.out.size; omega) (Nat.le_trans hbx.size (hbb q).size) (by omega) (by omega)
        refine Calls.mono (hins _) ?_
        rintro e w9 ⟨v9, rfl, hg9, ho9⟩
        have hpl : placeMk ys m = ys.length := placeMk_end HA.out
        have hR := HR.out
        rw [hpl] at hR
        have hb9 : Below w.heap.size w w9 := bel_grown (bel_trans hbx (hbb _)) hg9 (fun q hq => own_base Hox.out q hq)
        have hl9 := insMk_len ys ys.length m (by omega)
        have Hb9 := Lib.hid hb9
        generalize insMk ys ys.length m = R at *
        obtain ⟨A9, c9, rfl, _, _⟩ := own_form ho9
        have Ho9 := Lib.hid ho9; have HRR := Lib.hid hR; have Hl9 := Lib.hid hl9
        clear ho9 hR hg9 hl9 hb9 hins hbb
        rcases Nat.lt_or_ge 8 R.length with h8 | h8
        · have h8i : (8 : Int) < (R.length : Int) := by omega
          go_wp2_with fail
          go_ret2
          rw [HRR.out, if_neg (by omega)]
          exact ⟨_, rfl, Hb9.out, World.ownsRow_nil _ _ _ _⟩
        · have h8i : ¬ (8 : Int) < (R.length : Int) := by omega
          go_wp2_with fail
          go_ret2
          rw [HRR.out, if_pos h8]
          exact ⟨_, rfl, Hb9.out, Ho9.out⟩

/-- Add, at whatever marks -/
theorem add_any (sv : Value) (F : Nat → Prop) (xs : List Mk) (m : Mk) (w : World) (hs : Sl mkTy w F sv xs) :
    Calls Tryz.prog 83 #[sv, .agg #[.int .i64 m.t, .int .i64 m.u]] w (AddPost w (addMk xs m)) := by
  cases h : mayB xs && mayB [m] with
  | false =>
    have e : addMk xs m = ([], 4) := by simp [addMk, h]
    rw [e]; exact add_no sv F xs m w hs h
  | true =>
    have h1 : mayB xs = true := by simp at h; exact h.1
    have h2 : mayB [m] = true := by simp at h; exact h.2
    cases h3 : xs.any (fun x => domB x m) with
    | true =>
      have e : addMk xs m = (xs, 0) := by simp [addMk, h1, h2, h3]
      rw [e]; exact add_there sv F xs m w hs h1 h2 h3
    | false => exact add_new sv F xs m w hs h1 h2 h3
end Go.Proofs.YtlihjmfdnkfmfaaGreatDoor
namespace Go.Proofs.YtlihjmfdnkfmfaaGreatDoor
open Go.RowKit

end Go.Proofs.YtlihjmfdnkfmfaaGreatDoor
namespace Go.Proofs.YtlihjmfdnkfmfaaGreatDoor
open Go.RowKit Go.Lib

end Go.Proofs.YtlihjmfdnkfmfaaGreatDoor
namespace Go.Proofs.YtlihjmfdnkfmfaaGreatDoor
open Go.RowKit Go.Lib

theorem cap_le (s : ByteArray) : cap20 s ≤ (s.size : Int) := by unfold cap20; omega
theorem obj_len {d : Nat} {x : JV} (h : 0 < countB d x 1000000) (hm : mayJ 64 x = true) : (printB 64 x).length ≤ 1000000000 := by
  have := count_len d 64 x 1000000 hm h
  omega
theorem feed_len {n : Int} {t : ByteArray} (ht : t.size ≤ 20000) (hm : mayJ 64 (feedO n t) = true) : (printB 64 (feedO n t)).length ≤ 1000000000 := by
  refine obj_len (d := 2) ?_ hm
  have h1 := cap_le t
  have h2 := cap_le nmN
  have h3 := cap_le nmTitle
  have h4 := cap_le ⟨#[]⟩
  have e2 : nmN.size = 1 := by decide
  have e3 : nmTitle.size = 5 := by decide
  have e4 : (⟨#[]⟩ : ByteArray).size = 0 := rfl
  simp only [feedO, countB, cntL, JV.m, JV.l, JV.s, numV, wordV]
  (repeat' split) <;> omega
theorem state_len {r s : Int} (hm : mayJ 64 (stateO r s) = true) : (printB 64 (stateO r s)).length ≤ 1000000000 := by
  refine obj_len (d := 2) ?_ hm
  have h2 := cap_le nmRead
  have h3 := cap_le nmStar
  have h4 := cap_le ⟨#[]⟩
  have e2 : nmRead.size = 4 := by decide
  have e3 : nmStar.size = 4 := by decide
  have e4 : (⟨#[]⟩ : ByteArray).size = 0 := rfl
  simp only [stateO, countB, cntL, JV.m, JV.l, JV.s, numV]
  (repeat' split) <;> omega
end Go.Proofs.YtlihjmfdnkfmfaaGreatDoor
namespace Go.Proofs.YtlihjmfdnkfmfaaGreatDoor
open Go.RowKit Go.Lib

theorem jnumber (n : Int) (w : World) : Calls Tryz.prog 87 #[.int .i64 n] w fun e w' => e = .returned (.agg #[.int .i64 4, .int .i64 n, .string ⟨#[]⟩, .slice none 0 0, .slice none 0 0]) ∧ Below w.heap.size w w' := number_any n w
theorem jwords (s : ByteArray) (w : World) : Calls Tryz.prog 88 #[.string s] w fun e w' => e = .returned (.agg #[.int .i64 5, .int .i64 0, .string s, .slice none 0 0, .slice none 0 0]) ∧ Below w.heap.size w w' := words_any s w
theorem jshort (s : ByteArray) (hs : s.size ≤ 1000000000) (w : World) (hT : Tabs w) : Calls Tryz.prog 85 #[.string s] w fun e w' => e = .returned (.bool (short5R s)) ∧ Below w.heap.size w w' := by
  have hv := valid_any s w (by omega) hT
  unfold short5R
  cases h1 : validB s with
  | false =>
    rw [h1] at hv
    rw [Bool.and_false]
    go_enter Tryz.func85, Tryz.ntmps85
    go_wp2_with fail
    refine Calls.mono hv ?_
    rintro e w' ⟨rfl, hb⟩
    go_wp2_with fail
    go_ret
    exact ⟨rfl, hb⟩
  | true =>
    rw [h1] at hv
    rw [Bool.and_true]
    go_enter Tryz.func85, Tryz.ntmps85
    go_wp2_with fail
    refine Calls.mono hv ?_
    rintro e w' ⟨rfl, hb⟩
    go_wp2_with fail
    go_ret
    exact ⟨ret_bool (by simp; omega), hb⟩
theorem jprint_false (A : Option Addr) (n c : Nat) (w : World) : Calls Tryz.prog 84 #[.bool false, .slice A n c] w fun e w' => e = .returned (.tuple #[.string ⟨#[]⟩, .int .i64 4]) ∧ Below w.heap.size w w' := by
  go_enter Tryz.func84, Tryz.ntmps84
  go_wp2_with fail
  go_ret2
  exact ⟨rfl, Below.refl _ _⟩
theorem printedJ (ms : List (ByteArray × JV)) (ok : Bool) (hlen : mayJ 64 (.mk 7 0 ⟨#[]⟩ [] ms) = true → (printB 64 (.mk 7 0 ⟨#[]⟩ [] ms)).length ≤ 1000000000) :
    ∃ S E, putB ok (.mk 7 0 ⟨#[]⟩ [] ms) = .tuple #[.string S, .int .i64 E] ∧ ∀ (v : Value) (F : Nat → Prop) (w : World), Sl memTy w F v ms → Tabs w → Calls Tryz.prog 84 #[.bool ok, v] w fun e w' => e = .returned (.tuple #[.string S, .int .i64 E]) ∧ Below w.heap.size w w' := by
  cases ok with
  | false =>
    refine ⟨_, _, rfl, fun v F w h _ => ?_⟩
    obtain ⟨A, c, rfl⟩ := h.form
    exact jprint_false A _ c w
  | true => exact ⟨_, _, rfl, fun v F w h hT => rprint_any v ms F w h hT fun hm => Nat.le_trans (hlen hm) (by decide)⟩
end Go.Proofs.YtlihjmfdnkfmfaaGreatDoor
namespace Go.Proofs.YtlihjmfdnkfmfaaGreatDoor
open Go.RowKit Go.Lib

def nmFolder : ByteArray := ⟨#[102, 111, 108, 100, 101, 114]⟩
def subO (f : ByteArray) : JV := .mk 7 0 ⟨#[]⟩ [] [(nmFolder, wordV f)]
def subOk (f : ByteArray) : Bool := f.toList.isEmpty || nameB f
theorem sub_new {T : TypeId} (w : World) (f : ByteArray) (hf : f.size ≤ 1000000) : Sl memTy (w.alloc (Obj.cells #[.string ⟨#[102, 111, 108, 100, 101, 114]⟩, .int .i64 5, .int .i64 0, .string f, .slice none 0 0, .slice none 0 0] T)) (fun _ => True) (.slice (some ⟨w.heap.size, 0, none⟩) 1 1) [(nmFolder, wordV f)] :=
  new_members (T := T) w [(nmFolder, wordV f)] _ (by simp) (fun W => mem_chunk nmFolder (wordV f) _ (by decide) (word_jr W _ (nm := f) (by omega)))
set_option maxRecDepth 100000 in
set_option maxHeartbeats 16000000 in
theorem jputSub (f : ByteArray) (w : World) (hf : f.size ≤ 1000000) (hT : Tabs w) (hlen : mayJ 64 (subO f) = true → (printB 64 (subO f)).length ≤ 1000000000) :
    Calls Tryz.prog 38 #[.string f] w fun e w' => e = .returned (putB (subOk f) (subO f)) ∧ Below w.heap.size w w' := by
  cases h10 : f.toList.isEmpty with
  | true =>
    have hok : (subOk f) = true := by simp [subOk, h10]
    rw [hok]
    obtain ⟨S, E, hput, hp⟩ := printedJ _ true (show mayJ 64 (subO f) = true → _ from hlen)
    replace hput : putB true (subO f) = .tuple #[.string S, .int .i64 E] := hput
    rw [hput]
    have HP := Lib.hid hp
    have HT0 := Lib.hid hT
    clear hp hput hlen hT hok
    go_enter Tryz.func38, Tryz.ntmps38
    go_wp2_with fail
    refine Calls.mono (jwords f _) ?_
    rintro e w1 ⟨rfl, hb1⟩
    go_wp2_with fail
    refine Calls.mono (part_any _ _ _ _ _ _ _ _ _ _ _) ?_
    rintro e w2 ⟨rfl, hb2⟩
    have HB2 := Lib.hid (bel_trans hb1 hb2)
    clear hb1 hb2 w1
    go_wp2_with fail
    have hsl := sub_new (T := 49) w2 f hf
    have hba := bel_trans HB2.out (bel_alloc (Below.refl _ w2) (Obj.cells #[.string ⟨#[102, 111, 108, 100, 101, 114]⟩, .int .i64 5, .int .i64 0, .string f, .slice none 0 0, .slice none 0 0] 49))
    refine Calls.mono (HP.out _ _ _ hsl (HT0.out.below hba)) ?_
    rintro e w5 ⟨rfl, hb5⟩
    have HB5 := Lib.hid (bel_trans hba hb5)
    clear hb5 hba hsl
    go_wp2_with fail
    go_ret2
    exact ⟨rfl, HB5.out⟩
  | false =>
    cases h13 : nameB f with
    | true =>
      have hok : (subOk f) = true := by simp [subOk, h10, h13]
      rw [hok]
      obtain ⟨S, E, hput, hp⟩ := printedJ _ true (show mayJ 64 (subO f) = true → _ from hlen)
      replace hput : putB true (subO f) = .tuple #[.string S, .int .i64 E] := hput
      rw [hput]
      have HP := Lib.hid hp
      have HT0 := Lib.hid hT
      clear hp hput hlen hT hok
      go_enter Tryz.func38, Tryz.ntmps38
      go_wp2_with fail
      have hv := jname f (by omega) w
      rw [h13] at hv
      refine Calls.mono hv ?_
      clear hv
      rintro e w0 ⟨rfl, hw⟩
      replace hw := hw.symm
      subst hw
      go_wp2_with fail
      refine Calls.mono (jwords f _) ?_
      rintro e w1 ⟨rfl, hb1⟩
      go_wp2_with fail
      refine Calls.mono (part_any _ _ _ _ _ _ _ _ _ _ _) ?_
      rintro e w2 ⟨rfl, hb2⟩
      have HB2 := Lib.hid (bel_trans hb1 hb2)
      clear hb1 hb2 w1
      go_wp2_with fail
      have hsl := sub_new (T := 49) w2 f hf
      have hba := bel_trans HB2.out (bel_alloc (Below.refl _ w2) (Obj.cells #[.string ⟨#[102, 111, 108, 100, 101, 114]⟩, .int .i64 5, .int .i64 0, .string f, .slice none 0 0, .slice none 0 0] 49))
      refine Calls.mono (HP.out _ _ _ hsl (HT0.out.below hba)) ?_
      rintro e w5 ⟨rfl, hb5⟩
      have HB5 := Lib.hid (bel_trans hba hb5)
      clear hb5 hba hsl
      go_wp2_with fail
      go_ret2
      exact ⟨rfl, HB5.out⟩
    | false =>
      have hok : (subOk f) = false := by simp [subOk, h10, h13]
      rw [hok]
      obtain ⟨S, E, hput, hp⟩ := printedJ _ false (show mayJ 64 (subO f) = true → _ from hlen)
      replace hput : putB false (subO f) = .tuple #[.string S, .int .i64 E] := hput
      rw [hput]
      have HP := Lib.hid hp
      have HT0 := Lib.hid hT
      clear hp hput hlen hT hok
      go_enter Tryz.func38, Tryz.ntmps38
      go_wp2_with fail
      have hv := jname f (by omega) w
      rw [h13] at hv
      refine Calls.mono hv ?_
      clear hv
      rintro e w0 ⟨rfl, hw⟩
      replace hw := hw.symm
      subst hw
      go_wp2_with fail
      refine Calls.mono (jwords f _) ?_
      rintro e w1 ⟨rfl, hb1⟩
      go_wp2_with fail
      refine Calls.mono (part_any _ _ _ _ _ _ _ _ _ _ _) ?_
      rintro e w2 ⟨rfl, hb2⟩
      have HB2 := Lib.hid (bel_trans hb1 hb2)
      clear hb1 hb2 w1
      go_wp2_with fail
      have hsl := sub_new (T := 49) w2 f hf
      have hba := bel_trans HB2.out (bel_alloc (Below.refl _ w2) (Obj.cells #[.string ⟨#[102, 111, 108, 100, 101, 114]⟩, .int .i64 5, .int .i64 0, .string f, .slice none 0 0, .slice none 0 0] 49))
      refine Calls.mono (HP.out _ _ _ hsl (HT0.out.below hba)) ?_
      rintro e w5 ⟨rfl, hb5⟩
      have HB5 := Lib.hid (bel_trans hba hb5)
      clear hb5 hba hsl
      go_wp2_with fail
      go_ret2
      exact ⟨rfl, HB5.out⟩
end Go.Proofs.YtlihjmfdnkfmfaaGreatDoor
namespace Go.Proofs.YtlihjmfdnkfmfaaGreatDoor
open Go.RowKit Go.Lib

theorem ne2 : (2 : Int) ≠ 0 := by decide
theorem ne4 : (4 : Int) ≠ 0 := by decide
/-! blanks -/
theorem skip_pre {s : ByteArray} : ∀ (pre : List UInt8) (p : Nat) (r : List UInt8), (∀ b ∈ pre, isBlank b = true) → rest s p = pre ++ r → skipB s (s.size - p) p = skipB s (s.size - (p + pre.length)) (p + pre.length)
  | [], _, _, _, _ => rfl
  | b :: pre, p, r, hb, h => by
    have hl := rest_lt h
    rw [skip_step hl (by rw [rest_byte h]; exact hb b (List.mem_cons_self ..)), skip_pre pre (p + 1) r (fun c hc => hb c (List.mem_cons_of_mem _ hc)) (rest_next h)]
    rw [show p + 1 + pre.length = p + (b :: pre).length by simp only [List.length_cons]; omega]
theorem blanks_pre {s : ByteArray} {pre r : List UInt8} {p : Nat} (e : Int) (hb : ∀ b ∈ pre, isBlank b = true) (h : rest s p = pre ++ r) : St.blanks s ⟨p, e⟩ = St.blanks s ⟨p + pre.length, e⟩ := by
  unfold St.blanks
  simp only
  rw [skip_pre pre p r hb h]
theorem see_pre {s : ByteArray} {pre r : List UInt8} {p : Nat} (e : Int) (hb : ∀ b ∈ pre, isBlank b = true) (h : rest s p = pre ++ r) : St.see s ⟨p, e⟩ = St.see s ⟨p + pre.length, e⟩ := by
  unfold St.see
  rw [blanks_pre e hb h]
theorem value_see {s : ByteArray} {x y : St} (h : x.see s = y.see s) : ∀ d, valueB s d x = valueB s d y
  | 0 => by simp only [valueB, h]
  | d + 1 => by simp only [valueB, h]
theorem blank_end {c : UInt8} (h : isBlank c = true) : isDigit c = false ∧ [46, 101, 69].contains c = false := by
  simp only [isBlank, List.contains_iff_mem, List.mem_cons, List.not_mem_nil, or_false] at h
  rcases h with rfl | rfl | rfl | rfl <;> decide
theorem rest_le {s : ByteArray} {p : Nat} {l r : List UInt8} (hp : p ≤ s.size) (h : rest s p = l ++ r) : p + l.length ≤ s.size := by
  have hz : s.data.size = s.size := rfl
  have := congrArg List.length h
  unfold rest at this
  simp only [List.length_drop, Array.length_toList, hz, List.length_append] at this
  omega
theorem endB_blank {s : ByteArray} {q : Nat} {post : List UInt8} (_hq : q ≤ s.size) (hb : ∀ b ∈ post, isBlank b = true) (h : rest s q = post) : (endB s ⟨q, 0⟩).e = 0 := by
  have h' : rest s q = post ++ [] := by rw [h, List.append_nil]
  have h1 := blanks_pre 0 hb h'
  have h2 : rest s (q + post.length) = [] := drop_rest h'
  rw [see_end h2] at h1
  have := rest_nil h2
  unfold endB
  rw [h1, if_neg (by simp only; omega)]
/-- a printed value with blanks around it -/
theorem parse_around {x : JV} {pre post : List UInt8} (hpre : ∀ b ∈ pre, isBlank b = true) (hpost : ∀ b ∈ post, isBlank b = true) (hm : mayJ 64 x = true) (hlen : (pre ++ (printB 64 x ++ post)).length ≤ 20000) :
    parseB ⟨(pre ++ (printB 64 x ++ post)).toArray⟩ = (x, 0) := by
  have hz := list_size (pre ++ (printB 64 x ++ post))
  have hr := rest_zero (pre ++ (printB 64 x ++ post))
  generalize (⟨(pre ++ (printB 64 x ++ post)).toArray⟩ : ByteArray) = s at *
  have h1 := drop_rest hr
  have hsee := see_pre 0 hpre hr
  have hv := value_reads s 64 x _ post hm h1 (fun _ c r e => blank_end (hpost c (by rw [e]; exact List.mem_cons_self ..)))
  have h2 := drop_rest h1
  have hq := rest_le (Nat.zero_le _) hr
  have he := endB_blank (rest_le hq h1) hpost h2
  unfold parseB
  rw [if_neg (by omega), value_see hsee, hv]
  simp only
  rw [if_neg (by rw [he]; decide)]
theorem parse_print {x : JV} (hm : mayJ 64 x = true) (hlen : (printB 64 x).length ≤ 20000) : parseB ⟨(printB 64 x).toArray⟩ = (x, 0) := by
  have h := parse_around (x := x) (pre := []) (post := []) (by simp) (by simp) hm (by simpa using hlen)
  simpa using h
theorem numEnd_p (s : ByteArray) (neg : Bool) (x : St) : (numEnd s neg x).2.p = (numLoop s (anyB s [48] x.p) x.p (s.size - x.p) 0 x.p).2 := by
  unfold numEnd
  simp only
  split
  · exact fail_p _ _
  · split
    · exact fail_p _ _
    · rfl
theorem fail_ne {x : St} {e : Int} (h : x.e ≠ 0) : (x.fail e).e ≠ 0 := by unfold St.fail; rw [if_neg h]; exact h
theorem member_text {s : ByteArray} {pv : St → JV × St} {acc : List (ByteArray × JV)} {x : St} (h : (textB s (if (x.see s).1 ≠ 34 then (x.see s).2.fail 4 else (x.see s).2)).2.e ≠ 0) : (memberB s pv acc x).2.e ≠ 0 := by
  have hz : ∀ b : Bool, (if b = true then (textB s (if (x.see s).1 ≠ 34 then (x.see s).2.fail 4 else (x.see s).2)).2.fail 4 else (textB s (if (x.see s).1 ≠ 34 then (x.see s).2.fail 4 else (x.see s).2)).2).e ≠ 0 := fun b => by
    cases b
    · exact h
    · exact fail_ne h
  unfold memberB
  simp only
  rw [if_neg (hz _), if_neg (hz _)]
  exact hz _
end Go.Proofs.YtlihjmfdnkfmfaaGreatDoor
namespace Go.Proofs.YtlihjmfdnkfmfaaGreatDoor
open Go.RowKit Go.Lib

theorem fail_not {x : St} {e : Int} (he : e ≠ 0) : (x.fail e).e ≠ 0 := by
  unfold St.fail
  split
  · exact he
  · assumption
theorem ne1 : (1 : Int) ≠ 0 := by decide
theorem number_may {s : ByteArray} {x : St} (h : (numberB s x).2.e = 0) (d : Nat) : mayJ (d + 1) (numberB s x).1 = true := by
  unfold numberB at h ⊢
  generalize anyB s [45] x.p = neg at *
  generalize numStart s _ = y at *
  have hr := numLoop_range s (anyB s [48] y.p) y.p (s.size - y.p) 0 y.p (by omega) (by omega)
  unfold numEnd at h ⊢
  simp only at h ⊢
  split at h
  · exact absurd h (fail_not ne4)
  · split at h
    · exact absurd h (fail_not ne1)
    · refine may_numV ?_ ?_ <;> split <;> omega
theorem see_good {s : ByteArray} {x : St} (h : (x.see s).2.e = 0) : (x.see s).2.p < s.size ∧ byteAt s (x.see s).2.p = (x.see s).1 := by
  unfold St.see at *
  simp only at *
  split at h
  · exact absurd h (fail_not ne2)
  · rename_i h1
    rw [if_neg h1]
    exact ⟨Nat.lt_of_not_le h1, rfl⟩
theorem digit_opens {c : UInt8} (h : c = 45 ∨ isDigit c = true) : opens.contains c = true := by
  have h1 := digit_heads h
  simp only [heads, List.mem_cons, List.not_mem_nil, or_false] at h1
  rcases h1 with rfl | rfl | rfl | rfl | rfl | rfl | rfl | rfl | rfl | rfl | rfl | rfl | rfl | rfl | rfl | rfl | rfl <;> decide
theorem number_none {s : ByteArray} {y : St} (hp : y.p < s.size) (hc : opens.contains (byteAt s y.p) = false) : (numberB s y).2.e ≠ 0 := by
  have h1 : anyB s [45] y.p = false := by
    unfold anyB
    rw [decide_eq_true hp]
    by_cases h : byteAt s y.p = 45
    · rw [digit_opens (.inl h)] at hc; exact absurd hc (by decide)
    · simpa using h
  have h2 : digitB s y.p = false := by
    unfold digitB
    rcases hd : isDigit (byteAt s y.p) with _ | _
    · simp
    · rw [digit_opens (.inr hd)] at hc; exact absurd hc (by decide)
  unfold numberB
  rw [h1, if_neg (show ¬ ((false : Bool) = true) by decide)]
  have hns : numStart s y = y := by
    unfold numStart
    rw [if_neg (by omega)]
  rw [hns]
  unfold numEnd
  simp only [numLoop_stop (s := s) (z := anyB s [48] y.p) (fr := y.p) (p := y.p) (n := 0) (.inl h2)]
  rw [if_pos (.inl trivial)]
  exact fail_not ne4
theorem word_may {s : ByteArray} {l : List UInt8} {k : Int} (hk : k = 1 ∨ k = 2 ∨ k = 3) : ∀ {x : St}, (wordB s l k x).2.e = 0 → ∀ d, mayJ (d + 1) (wordB s l k x).1 = true := fun {x} h d => by
  have key : ∀ (l : List UInt8) (x : St), (wordIn s l x).2.e = 0 → (wordIn s l x).1 = true := fun l => by
    induction l with
    | nil => intro x _; rfl
    | cons c l ih =>
      intro x h
      simp only [wordIn] at h ⊢
      split at h
      · exact absurd h (fail_not ne2)
      · rename_i h1
        rw [if_neg h1]
        split at h
        · exact absurd h (fail_not ne4)
        · rename_i h2
          rw [if_neg h2]
          exact ih _ h
  unfold wordB at h ⊢
  simp only at h ⊢
  rw [if_pos (key l x h)]
  rcases hk with rfl | rfl | rfl <;> (rw [may_succ]; simp [oneB, badK, membersB, rangeB, JV.k, JV.n, JV.s, JV.l, JV.m, short_nil, ByteArray.toList_eq])
theorem list_may {s : ByteArray} {pv : St → JV × St} {d : Nat} (hpv : ∀ x, (pv x).2.e = 0 → mayJ d (pv x).1 = true) : ∀ (f : Nat) (acc : List JV) (x : St), (∀ y ∈ acc, mayJ d y = true) → (listLoop s pv f acc x).2.e = 0 → ∀ y ∈ (listLoop s pv f acc x).1, mayJ d y = true
  | 0, acc, x, ha, _ => ha
  | f + 1, acc, x, ha, h => by
    have more : (pv x).2.e = 0 → ∀ y ∈ acc ++ [(pv x).1], mayJ d y = true := fun h0 y hy => by
      rcases List.mem_append.1 hy with hy | hy
      · exact ha y hy
      · rw [List.mem_singleton.1 hy]; exact hpv x h0
    simp only [listLoop] at h ⊢
    split at h
    · rename_i h1; rw [if_pos h1]; exact ha
    · rename_i h1
      rw [if_neg h1]
      split at h
      · rename_i h2; exact absurd h h2
      · rename_i h2
        have h2' : (pv x).2.e = 0 := Decidable.of_not_not h2
        rw [if_neg h2]
        split at h
        · rename_i h3; rw [if_pos h3]; exact more h2'
        · rename_i h3
          rw [if_neg h3]
          split at h
          · rename_i h4; exact absurd h h4
          · rename_i h4
            rw [if_neg h4]
            exact list_may hpv f _ _ (more h2') h
theorem member_may {s : ByteArray} {pv : St → JV × St} {d : Nat} (hpv : ∀ x, (pv x).2.e = 0 → mayJ d (pv x).1 = true) {l : List (ByteArray × JV)} {x : St} (h : (memberB s pv l x).2.e = 0) :
    shortB (memberB s pv l x).1.1 = true ∧ mayJ d (memberB s pv l x).1.2 = true ∧ ∀ q ∈ l, q.1.toList ≠ (memberB s pv l x).1.1.toList := by
  have ht : (textB s (if (x.see s).1 ≠ 34 then (x.see s).2.fail 4 else (x.see s).2)).2.e = 0 := Decidable.of_not_not fun h1 => member_text h1 h
  have hv := text_valid s _ ht
  unfold memberB at h ⊢
  simp only at h ⊢
  generalize textB s (if (x.see s).1 ≠ 34 then (x.see s).2.fail 4 else (x.see s).2) = t at *
  cases ha : (l.any fun m => m.1.toList == (⟨t.1.toArray⟩ : ByteArray).toList) with
  | true =>
    rw [ha] at h
    simp only [if_true] at h
    have h4 : (t.2.fail 4).e ≠ 0 := fail_not ne4
    rw [if_neg h4, if_neg h4] at h
    exact absurd h h4
  | false =>
    rw [ha] at h
    simp only [Bool.false_eq_true, if_false] at h ⊢
    rw [if_pos ht] at h ⊢
    have hd : ∀ q ∈ l, q.1.toList ≠ (⟨t.1.toArray⟩ : ByteArray).toList := fun q hq e => by
      have := List.any_eq_false.1 ha q hq
      simp [e] at this
    split at h
    · rename_i h1
      rw [if_pos h1]
      exact ⟨hv, hpv _ h, hd⟩
    · rename_i h1
      exact absurd h h1
/-- names that are apart -/
def NmNe (a b : ByteArray × JV) : Prop := a.1.toList ≠ b.1.toList
theorem obj_may {s : ByteArray} {pv : St → JV × St} {d : Nat} (hpv : ∀ x, (pv x).2.e = 0 → mayJ d (pv x).1 = true) : ∀ (f : Nat) (acc : List (ByteArray × JV)) (x : St), (∀ y ∈ acc, shortB y.1 = true ∧ mayJ d y.2 = true) → acc.Pairwise NmNe → (objLoop s pv f acc x).2.e = 0 →
    (∀ y ∈ (objLoop s pv f acc x).1, shortB y.1 = true ∧ mayJ d y.2 = true) ∧ (objLoop s pv f acc x).1.Pairwise NmNe
  | 0, acc, x, ha, hp, _ => ⟨ha, hp⟩
  | f + 1, acc, x, ha, hp, h => by
    have more : (memberB s pv acc x).2.e = 0 → (∀ y ∈ acc ++ [(memberB s pv acc x).1], shortB y.1 = true ∧ mayJ d y.2 = true) ∧ (acc ++ [(memberB s pv acc x).1]).Pairwise NmNe := fun h0 => by
      have hm := member_may hpv h0
      refine ⟨fun y hy => ?_, ?_⟩
      · rcases List.mem_append.1 hy with hy | hy
        · exact ha y hy
        · rw [List.mem_singleton.1 hy]; exact ⟨hm.1, hm.2.1⟩
      · rw [List.pairwise_append]
        refine ⟨hp, List.pairwise_singleton .., fun a ha b hb => ?_⟩
        rw [List.mem_singleton.1 hb]
        exact hm.2.2 a ha
    simp only [objLoop] at h ⊢
    split at h
    · rename_i h1; rw [if_pos h1]; exact ⟨ha, hp⟩
    · rename_i h1
      rw [if_neg h1]
      split at h
      · rename_i h2; exact absurd h h2
      · rename_i h2
        have h2' : (memberB s pv acc x).2.e = 0 := Decidable.of_not_not h2
        rw [if_neg h2]
        split at h
        · rename_i h3; rw [if_pos h3]; exact more h2'
        · rename_i h3
          rw [if_neg h3]
          split at h
          · rename_i h4; exact absurd h h4
          · rename_i h4
            rw [if_neg h4]
            exact obj_may hpv f _ _ (more h2').1 (more h2').2 h
theorem ins_mem (m q : ByteArray × JV) : ∀ l, q ∈ insName m l ↔ q = m ∨ q ∈ l
  | [] => by simp [insName]
  | x :: r => by
    simp only [insName]
    split
    · simp
    · simp only [List.mem_cons, ins_mem m q r]
      constructor
      · rintro (h | h | h)
        · exact .inr (.inl h)
        · exact .inl h
        · exact .inr (.inr h)
      · rintro (h | h | h)
        · exact .inr (.inl h)
        · exact .inl h
        · exact .inr (.inr h)
theorem sort_mem (q : ByteArray × JV) : ∀ l, q ∈ sortNames l ↔ q ∈ l
  | [] => by simp [sortNames]
  | x :: r => by
    have ih := sort_mem q r
    unfold sortNames at ih ⊢
    rw [List.foldr_cons, ins_mem, ih, List.mem_cons]
theorem lt_of_ne {a b : List UInt8} (h : ¬ a < b) (hn : a ≠ b) : b < a := by
  rcases List.le_iff_lt_or_eq.1 (List.not_lt.1 h) with h1 | h1
  · exact h1
  · exact absurd h1.symm hn
theorem ins_rising (m : ByteArray × JV) : ∀ l : List (ByteArray × JV), l.Pairwise NmLt → (∀ q ∈ l, NmNe m q) → (insName m l).Pairwise NmLt
  | [], _, _ => by simp [insName]
  | x :: r, hp, hn => by
    have hp' := List.pairwise_cons.1 hp
    simp only [insName]
    by_cases hlt : Op.bytesLess m.1.toList x.1.toList = true
    · rw [if_pos hlt]
      have h1 := (less_iff _ _).1 hlt
      refine List.Pairwise.cons (fun q hq => ?_) hp
      rcases List.mem_cons.1 hq with rfl | hq
      · exact h1
      · exact List.lt_trans h1 (hp'.1 q hq)
    · rw [if_neg hlt]
      have h1 : x.1.toList < m.1.toList := lt_of_ne (fun h => hlt ((less_iff _ _).2 h)) (hn x (List.mem_cons_self ..))
      refine List.Pairwise.cons (fun q hq => ?_) (ins_rising m r hp'.2 (fun q hq => hn q (List.mem_cons_of_mem _ hq)))
      rcases (ins_mem m q r).1 hq with rfl | hq
      · exact h1
      · exact hp'.1 q hq
theorem sort_names : ∀ l : List (ByteArray × JV), l.Pairwise NmNe → (sortNames l).Pairwise NmLt
  | [], _ => by simp [sortNames]
  | x :: r, hp => by
    have hp' := List.pairwise_cons.1 hp
    have ih := sort_names r hp'.2
    have hm : ∀ q, q ∈ sortNames r → NmNe x q := fun q hq => hp'.1 q ((sort_mem q r).1 hq)
    unfold sortNames at ih hm ⊢
    rw [List.foldr_cons]
    exact ins_rising x _ ih hm
theorem list_out {d : Nat} {l : List JV} (h : ∀ y ∈ l, mayJ d y = true) : mayJ (d + 1) (listV l) = true := by
  unfold listV
  rw [may_list, List.all_eq_true]
  exact h
theorem obj_out {d : Nat} {m : List (ByteArray × JV)} (h : ∀ y ∈ m, shortB y.1 = true ∧ mayJ d y.2 = true) (hp : m.Pairwise NmNe) : mayJ (d + 1) (objV (sortNames m)) = true := by
  have hmem : ∀ y ∈ sortNames m, shortB y.1 = true ∧ mayJ d y.2 = true := fun y hy => h y ((sort_mem y m).1 hy)
  unfold objV
  rw [may_obj ((members_iff none _).2 ⟨fun q hq => (hmem q hq).1, fun a ha => (by cases ha), sort_names m hp⟩), List.all_eq_true]
  exact fun q hq => (hmem q hq).2
/-- a value that is read may be -/
theorem value_may (s : ByteArray) : ∀ (d : Nat) (x : St), (valueB s d x).2.e = 0 → mayJ d (valueB s d x).1 = true
  | 0, x, h => by
    exfalso
    simp only [valueB] at h
    split at h
    · rename_i h1; exact h1 h
    · rename_i h1
      have h1' : (x.see s).2.e = 0 := Decidable.of_not_not h1
      split at h
      · exact absurd h (fail_not (by decide))
      · rename_i h2
        have hg := see_good h1'
        exact number_none hg.1 (by rw [hg.2]; simpa using h2) h
  | d + 1, x, h => by
    have ih := value_may s d
    simp only [valueB] at h ⊢
    split at h
    · rename_i h1; exact absurd h h1
    · rename_i h1
      rw [if_neg h1]
      split at h
      · rename_i h2
        rw [if_pos h2]
        unfold listB at h ⊢
        simp only at h ⊢
        split at h
        · rename_i h3; rw [if_pos h3]; exact list_out (by simp)
        · rename_i h3; rw [if_neg h3]; exact list_out (list_may ih _ _ _ (by simp) h)
      · rename_i h2
        rw [if_neg h2]
        split at h
        · rename_i h3
          rw [if_pos h3]
          unfold objectB at h ⊢
          simp only at h ⊢
          split at h
          · rename_i h4; rw [if_pos h4]; exact obj_out (m := []) (by simp) (by simp)
          · rename_i h4
            rw [if_neg h4]
            have hm := obj_may ih _ _ _ (by simp) (by simp) h
            exact obj_out hm.1 hm.2
        · rename_i h3
          rw [if_neg h3]
          split at h
          · rename_i h4; rw [if_pos h4]; exact may_wordV (text_valid s _ h)
          · rename_i h4
            rw [if_neg h4]
            split at h
            · rename_i h5; rw [if_pos h5]; exact word_may (by decide) h d
            · rename_i h5
              rw [if_neg h5]
              split at h
              · rename_i h6; rw [if_pos h6]; exact word_may (by decide) h d
              · rename_i h6
                rw [if_neg h6]
                split at h
                · rename_i h7; rw [if_pos h7]; exact word_may (by decide) h d
                · rename_i h7; rw [if_neg h7]; exact number_may h d
theorem endB_zero {s : ByteArray} {y : St} (h : (endB s y).e = 0) : y.e = 0 := Decidable.of_not_not fun h1 => by rw [endB_err h1] at h; exact h1 h
/-- what Parse leaves -/
theorem parse_may {s : ByteArray} (h : (parseB s).2 = 0) : mayJ 64 (parseB s).1 = true := by
  unfold parseB at h ⊢
  split at h
  · exact absurd h (by decide)
  · rename_i h1
    rw [if_neg h1]
    split at h
    · rename_i h2; exact absurd h h2
    · rename_i h2
      rw [if_neg h2]
      exact value_may s 64 _ (endB_zero (Decidable.of_not_not h2))
theorem parse_zeroV {s : ByteArray} (h : (parseB s).2 ≠ 0) : (parseB s).1 = zeroV := by
  unfold parseB at h ⊢
  split at h
  · rename_i h1; rw [if_pos h1]
  · rename_i h1
    rw [if_neg h1]
    split at h
    · rename_i h2; rw [if_pos h2]
    · exact absurd rfl h
end Go.Proofs.YtlihjmfdnkfmfaaGreatDoor
