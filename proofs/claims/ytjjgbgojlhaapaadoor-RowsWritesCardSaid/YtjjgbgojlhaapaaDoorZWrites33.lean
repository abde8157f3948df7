/- Parts of the proof: MkJ, MkK, MkL, Rl, MkM, Ho. -/
import Derived.Test.YtjjgbgojlhaapaaDoorZWrites32
import Derived.Deep.DeepCutAuto
import Derived.Test.YtjjgbgojlhaapaaDoorZWrites26
import Derived.Lib.ItoaLen
namespace Go.Proofs.YtjjgbgojlhaapaaDoor
open Go.RowKit

theorem own_lower {w : World} {base base' : Nat} {e : TypeId} {size n : Nat} {v : Value} {xs : List Value} (h : w.ownsRow base e size v n xs) (hb : base' ≤ base) : w.ownsRow base' e size v n xs := by
  obtain ⟨h1, h2⟩ := h
  refine ⟨h1, ?_⟩
  rcases h2 with h2 | ⟨g, cap, cur, e, hg, r⟩
  · exact .inl h2
  · exact .inr ⟨g, cap, cur, e, Nat.le_trans hb hg, r⟩
theorem own_base {w : World} {base : Nat} {e : TypeId} {size n : Nat} {v : Value} {xs : List Value} (h : w.ownsRow base e size v n xs) : ∀ k, v.ownBlock = some k → base ≤ k := fun k hk => (h.lt k hk).1

/-- where a mark stands among others -/
def placeMk (xs : List Mk) (m : Mk) : Nat := (xs.findIdx fun x => decide (x.t ≤ m.t))
theorem placeMk_le (xs : List Mk) (m : Mk) : placeMk xs m ≤ xs.length := List.findIdx_le_length
/-- what Add does: the marks, what went wrong -/
def addMk (xs : List Mk) (m : Mk) : List Mk × Int :=
  if mayB xs && mayB [m] then
    if xs.any (fun x => domB x m) then (xs, 0)
    else
      let ys := xs.filter (fun x => !domB m x)
      let zs := insMk ys (placeMk ys m) m
      if zs.length ≤ 8 then (zs, 0) else ([], 17)
  else ([], 4)

def AddPost (w : World) (r : List Mk × Int) (e : Ending) (w' : World) : Prop :=
  ∃ v, e = .returned (.tuple #[v, .int .i64 r.2]) ∧ Below w.heap.size w w' ∧ w'.ownsRow w.heap.size 24 2 v r.1.length (mkCells r.1)

theorem mayB_len {xs : List Mk} (h : mayB xs = true) : xs.length ≤ 8 := by
  unfold mayB at h; simp at h; exact h.2

/-- a slice of one mark that was just built -/
theorem sl_one {w : World} {B : Nat} {m : Mk} (h0 : w.cell? ⟨B, 0, none⟩ = some (.int .i64 m.t)) (h1 : w.cell? ⟨B, 1, none⟩ = some (.int .i64 m.u)) : Sl mkTy w (fun _ => True) (.slice (some ⟨B, 0, none⟩) 1 1) [m] := by
  refine .inr ⟨B, 0, 1, rfl, trivial, Nat.le_refl _, by decide, [.int .i64 m.t, .int .i64 m.u], Chunks.single (T := mkTy) rfl, fun j u hj => ?_⟩
  rw [Nat.zero_add]
  rcases j with _ | _ | j
  · rw [← hj]; exact h0
  · rw [← hj]; exact h1
  · simp at hj

set_option maxRecDepth 100000 in
set_option maxHeartbeats 1000000 in
theorem add_no (sv : Value) (F : Nat → Prop) (xs : List Mk) (m : Mk) (w : World) (hs : Sl mkTy w F sv xs) (hm : (mayB xs && mayB [m]) = false) :
    Calls Tryd.prog 10 #[sv, .agg #[.int .i64 m.t, .int .i64 m.u]] w (AddPost w ([], 4)) := by
  have hmay := fun (V : World) (hV : Below w.heap.size w V) => may_any sv F xs V (hs.below hV)
  cases h1 : mayB xs with
  | false =>
    rw [h1] at hmay
    clear h1 hm hs
    go_enter Tryd.func10, Tryd.ntmps10
    go_wp2_with fail
    refine Calls.mono (hmay _ (bel_alloc (Below.refl _ _) _)) ?_
    rintro e w' ⟨rfl, hb'⟩
    go_wp2_with fail
    go_ret2
    exact ⟨_, rfl, bel_trans (bel_alloc (Below.refl _ _) _) hb', World.ownsRow_nil _ _ _ _⟩
  | true =>
    rw [h1] at hmay hm
    have h2 : mayB [m] = false := by simpa using hm
    have hmay2 := fun (V : World) (B : Nat) h0 h1 => may_any _ _ [m] V (sl_one (B := B) h0 h1)
    rw [h2] at hmay2
    clear h1 hm h2 hs
    go_enter Tryd.func10, Tryd.ntmps10
    go_wp2_with fail
    refine Calls.mono (hmay _ (bel_alloc (Below.refl _ _) _)) ?_
    rintro e w' ⟨rfl, hb'⟩
    have c0 : w'.cell? ⟨w.heap.size, 0, none⟩ = some (.int .i64 m.t) := cell_later' hb' (by simp)
    have c1 : w'.cell? ⟨w.heap.size, 1, none⟩ = some (.int .i64 m.u) := cell_later' hb' (by simp)
    have hbw := bel_trans (bel_alloc (Below.refl _ w) _) hb'
    have hz := hbw.size
    have hz2 : w.heap.size < w'.heap.size := World.block_lt_of_cell? _ _ c0
    clear hb'
    go_wp2_with fail
    refine Calls.mono (hmay2 _ _ (by simp) (by simp)) ?_
    rintro e w'' ⟨rfl, hb''⟩
    go_wp2_with fail
    go_ret2
    exact ⟨_, rfl, bel_trans (bel_alloc hbw _) hb'', World.ownsRow_nil _ _ _ _⟩
end Go.Proofs.YtjjgbgojlhaapaaDoor
namespace Go.Proofs.YtjjgbgojlhaapaaDoor
open Go.RowKit

set_option maxRecDepth 100000 in
set_option maxHeartbeats 1000000 in
theorem add_there (sv : Value) (F : Nat → Prop) (xs : List Mk) (m : Mk) (w : World) (hs : Sl mkTy w F sv xs) (h1 : mayB xs = true) (h2 : mayB [m] = true) (h3 : xs.any (fun x => domB x m) = true) :
    Calls Tryd.prog 10 #[sv, .agg #[.int .i64 m.t, .int .i64 m.u]] w (AddPost w (xs, 0)) := by
  have hmay := fun (V : World) (hV : Below w.heap.size w V) => may_any sv F xs V (hs.below hV)
  rw [h1] at hmay
  have hmay2 := fun (V : World) (B : Nat) h0 h1 => may_any _ _ [m] V (sl_one (B := B) h0 h1)
  rw [h2] at hmay2
  have hlen := mayB_len h1
  have hcon := fun (V : World) (hV : Below w.heap.size w V) (fv : Value) (hf : Pred1 fv (fun x => domB x m) V) => containsFunc_any fv sv _ F xs V (hs.below hV) hf
  rw [h3] at hcon
  have hcl := fun (V : World) (hV : Below w.heap.size w V) => cloneMk_any sv F xs V (hs.below hV) (by omega)
  have hadd := fun (V W : World) (A : Nat) (hb : Below V.heap.size V W) h0 h1 x => add1_any x m A W (cell_later' (w := V) hb h0) (cell_later' (w := V) hb h1)
  clear h1 h2 h3 hs
  go_enter Tryd.func10, Tryd.ntmps10
  go_wp2_with fail
  refine Calls.mono (hmay _ (bel_alloc (Below.refl _ _) _)) ?_
  rintro e w1 ⟨rfl, hb1⟩
  have c0 : w1.cell? ⟨w.heap.size, 0, none⟩ = some (.int .i64 m.t) := cell_later' hb1 (by simp)
  have c1 : w1.cell? ⟨w.heap.size, 1, none⟩ = some (.int .i64 m.u) := cell_later' hb1 (by simp)
  have hbw := bel_trans (bel_alloc (Below.refl _ w) _) hb1
  have hz2 : w.heap.size < w1.heap.size := World.block_lt_of_cell? _ _ c0
  clear hb1
  go_wp2_with fail
  refine Calls.mono (hmay2 _ _ (by simp) (by simp)) ?_
  rintro e w2 ⟨rfl, hb2⟩
  have hb2' : Below w1.heap.size w1 w2 := bel_trans (bel_alloc (Below.refl _ _) _) hb2
  have d0 := cell_later' hb2' c0
  have d1 := cell_later' hb2' c1
  have hbw2 := bel_trans hbw hb2'
  clear hb2 hb2' c0 c1 hbw hz2
  go_wp2_with fail
  refine Calls.mono (hcon w2 hbw2 _ ⟨_, _, _, rfl, enters_of Tryd.func34 (by kernel_rfl) rfl, fun W x hW => hadd w2 W _ hW d0 d1 x⟩) ?_
  rintro e w3 ⟨rfl, hb3⟩
  have hbw3 := bel_trans hbw2 hb3
  clear hb3
  go_wp2_with fail
  refine Calls.mono (hcl w3 hbw3) ?_
  rintro e w4 ⟨v, cs, rfl, hb4, ho, hc⟩
  have hbw4 := bel_trans hbw3 hb4
  have ho' := own_lower ho hbw3.size
  rw [mkCells_of_chunks hc] at ho'
  have Ho := Lib.hid ho'
  clear ho hc ho' hb4
  go_wp2_with fail
  go_ret2
  exact ⟨_, rfl, hbw4, Ho.out⟩

theorem placeMk_eq {xs : List Mk} {m x : Mk} {k : Nat} (hx : xs[k]? = some x) (h1 : x.t ≤ m.t) (h : ∀ j y, j < k → xs[j]? = some y → m.t < y.t) : placeMk xs m = k := by
  unfold placeMk
  have hk := lt_of_get hx
  rw [List.findIdx_eq hk]
  have e : xs[k] = x := by simpa [List.getElem?_eq_getElem hk] using hx
  refine ⟨by rw [e]; simpa using h1, fun j hj => ?_⟩
  have := h j xs[j] hj (List.getElem?_eq_getElem _)
  simpa using this
theorem placeMk_end {xs : List Mk} {m : Mk} (h : ∀ j y, j < xs.length → xs[j]? = some y → m.t < y.t) : placeMk xs m = xs.length := by
  unfold placeMk
  rw [List.findIdx_eq_length]
  intro x hx
  obtain ⟨j, hj, rfl⟩ := List.mem_iff_getElem.1 hx
  have := h j xs[j] hj (List.getElem?_eq_getElem _)
  simpa using this
theorem cell_new (w : World) (cs : Array Value) (t : TypeId) (i : Nat) (v : Value) (h : cs[i]? = some v) : (w.alloc (.cells cs t)).cell? ⟨w.heap.size, i, none⟩ = some v := by
  have := heap_alloc_new w (.cells cs t)
  unfold World.cell?
  simp only [this]
  exact h
theorem own_later {w W : World} {base : Nat} {e : TypeId} {size n : Nat} {v : Value} {xs : List Value} (h : w.ownsRow base e size v n xs) (hb : Below w.heap.size w W) : W.ownsRow base e size v n xs := by
  obtain ⟨h1, h2⟩ := h
  refine ⟨h1, ?_⟩
  rcases h2 with h2 | ⟨g, cap, cur, e, hg, hh, r⟩
  · exact .inl h2
  · exact .inr ⟨g, cap, cur, e, hg, (hb.block g (Array.getElem?_eq_some_iff.1 hh).1).trans hh, r⟩
theorem own_lt {w : World} {base : Nat} {e : TypeId} {size n : Nat} {v : Value} {xs : List Value} (h : w.ownsRow base e size v n xs) : ∀ k, v.ownBlock = some k → k < w.heap.size := fun k hk => (h.lt k hk).2
/-- a row of marks as a slice -/
theorem own_form {w : World} {base : Nat} {e : TypeId} {v : Value} {ys : List Mk} (h : w.ownsRow base e 2 v ys.length (mkCells ys)) : ∃ A c, v = .slice A ys.length c ∧ ys.length ≤ 9223372036854775807 ∧ ∀ k x, ys[k]? = some x → ∃ g, A = some ⟨g, 0, none⟩ ∧ g < w.heap.size ∧ MkAt w g k x := by
  rcases h.2 with ⟨rfl, h0⟩ | ⟨g, cap, cur, rfl, _⟩
  · exact ⟨none, 0, by rw [h0], by omega, fun k x hk => by have := lt_of_get hk; omega⟩
  · obtain ⟨hr, _, hl, hc, _, ha⟩ := mkAt_of_own h
    exact ⟨_, _, rfl, by omega, fun k x hk => ⟨g, rfl, hr.lt, ha k x hk⟩⟩

def DelRel (w : World) (m : Mk) (ys : List Mk) (v : Value) (wx : World) : Prop :=
  Below w.heap.size w wx ∧ wx.ownsRow w.heap.size 24 2 v ys.length (mkCells ys) ∧ wx.cell? ⟨w.heap.size, 0, none⟩ = some (.int .i64 m.t) ∧ wx.cell? ⟨w.heap.size, 1, none⟩ = some (.int .i64 m.u) ∧ (v.ownBlock ≠ some w.heap.size)

set_option maxRecDepth 100000 in
set_option maxHeartbeats 2000000 in
theorem add_new (sv : Value) (F : Nat → Prop) (xs : List Mk) (m : Mk) (w : World) (hs : Sl mkTy w F sv xs) (h1 : mayB xs = true) (h2 : mayB [m] = true) (h3 : xs.any (fun x => domB x m) = false) :
    Calls Tryd.prog 10 #[sv, .agg #[.int .i64 m.t, .int .i64 m.u]] w (AddPost w (addMk xs m)) := by
  have hmay := fun (V : World) (hV : Below w.heap.size w V) => may_any sv F xs V (hs.below hV)
  rw [h1] at hmay
  have hmay2 := fun (V : World) (B : Nat) h0 h1 => may_any _ _ [m] V (sl_one (B := B) h0 h1)
  rw [h2] at hmay2
  have hlen := mayB_len h1
  have hcon := fun (V : World) (hV : Below w.heap.size w V) (fv : Value) (hf : Pred1 fv (fun x => domB x m) V) => containsFunc_any fv sv _ F xs V (hs.below hV) hf
  rw [h3] at hcon
  have hcl := fun (V : World) (hV : Below w.heap.size w V) => cloneMk_any sv F xs V (hs.below hV) (by omega)
  have hadd := fun (V W : World) (A : Nat) (hb : Below V.heap.size V W) h0 h1 x => add1_any x m A W (cell_later' (w := V) hb h0) (cell_later' (w := V) hb h1)
  have hres : addMk xs m = if (insMk (xs.filter (fun x => !domB m x)) (placeMk (xs.filter (fun x => !domB m x)) m) m).length ≤ 8 then (insMk (xs.filter (fun x => !domB m x)) (placeMk (xs.filter (fun x => !domB m x)) m) m, 0) else ([], 17) := by
    simp [addMk, h1, h2, h3]
  have Hres := Lib.hid hres
  clear h1 h2 h3 hs hres
  go_enter Tryd.func10, Tryd.ntmps10
  go_wp2_with fail
  refine Calls.mono (hmay _ (bel_alloc (Below.refl _ _) _)) ?_
  rintro e w1 ⟨rfl, hb1⟩
  have c0 : w1.cell? ⟨w.heap.size, 0, none⟩ = some (.int .i64 m.t) := cell_later' hb1 (by simp)
  have c1 : w1.cell? ⟨w.heap.size, 1, none⟩ = some (.int .i64 m.u) := cell_later' hb1 (by simp)
  have hbw := bel_trans (bel_alloc (Below.refl _ w) _) hb1
  have hz2 : w.heap.size < w1.heap.size := World.block_lt_of_cell? _ _ c0
  clear hb1
  go_wp2_with fail
  refine Calls.mono (hmay2 _ _ (by simp) (by simp)) ?_
  rintro e w2 ⟨rfl, hb2⟩
  have hb2' : Below w1.heap.size w1 w2 := bel_trans (bel_alloc (Below.refl _ _) _) hb2
  have d0 := cell_later' hb2' c0
  have d1 := cell_later' hb2' c1
  have hbw2 := bel_trans hbw hb2'
  clear hb2 hb2' c0 c1 hbw hz2
  go_wp2_with fail
  refine Calls.mono (hcon w2 hbw2 _ ⟨_, _, _, rfl, enters_of Tryd.func34 (by kernel_rfl) rfl, fun W x hW => hadd w2 W _ hW d0 d1 x⟩) ?_
  rintro e w3 ⟨rfl, hb3⟩
  have hbw3 := bel_trans hbw2 hb3
  have f0 := cell_later' hb3 d0
  have f1 := cell_later' hb3 d1
  clear hb3 d0 d1 hcon hadd hmay hmay2
  go_wp2_with fail
  obtain ⟨ys, hys⟩ : ∃ ys, ys = xs.filter (fun x => !domB m x) := ⟨_, rfl⟩
  have Hys := Lib.hid hys
  clear hys
  have hzz : w.heap.size < w3.heap.size := World.block_lt_of_cell? _ _ f0
  go_cut [0] (fun s0 wx => DelRel w m ys s0 wx)
  case first =>
    go_region_with (first
      | (go_at_call 36; refine (hcl _ ?_).mono ?_; exact bel_drew hbw3; rintro e w4 ⟨v, cs, rfl, hb4, ho, hc⟩; have f0' := cell_later' hb4 f0; have f1' := cell_later' hb4 f1; have hvb := own_base ho; have ho' := own_lower ho hbw3.size; have hbw4 := bel_trans (bel_drew hbw3) hb4; rw [mkCells_of_chunks hc] at ho'; clear ho hc hb4)
      | (go_at_call 37; refine (deleteMk_any _ v _ w.heap.size xs w4 ho' (dom_pred0 m)).mono ?_; rintro e w5 ⟨v5, zs, rfl, hy5, hg5, hv5, ho5⟩; clear ho'))
    all_goals
      have hne : v.ownBlock ≠ some w.heap.size := fun e => by have := hvb _ e; simp at this; omega
      go_wp2_with fail
      go_meet
      rw [hy5, ← Hys.out] at ho5
      exact ⟨bel_grown hbw4 hg5 (fun k hk => by have := hvb _ hk; simp at this; omega), ho5, hg5.cell f0' (fun e => hne e.symm), hg5.cell f1' (fun e => hne e.symm), fun e => hne (hv5 ▸ e)⟩
  case rest =>
    obtain ⟨wx, rfl⟩ : ∃ W, W = wc := ⟨_, rfl⟩
    obtain ⟨hbx, hox, m0, m1, hne⟩ := hcut
    obtain ⟨A, c, rfl, hmx, hel⟩ := own_form hox
    have hyl : ys.length ≤ 8 := by rw [Hys.out]; exact Nat.le_trans (List.length_filter_le _ _) hlen
    have hwx : w.heap.size < wx.heap.size := World.block_lt_of_cell? _ _ m0
    have Hox := Lib.hid hox; have Hne := Lib.hid hne; have Hel := Lib.hid hel
    have HR : Hid (addMk xs m = if (insMk ys (placeMk ys m) m).length ≤ 8 then (insMk ys (placeMk ys m) m, 0) else ([], 17)) := by rw [Hys.out]; exact Hres.out
    clear hox hne hel f0 f1 hbw3 hcl Hys Hres hbw2 hzz
    generalize hn : ys.length = n at *
    have Hn := Lib.hid hn
    clear hn
    go_wp2_with fail
    go_loopg [6] n (fun gg s6 wr => ∃ k : Nat, k ≤ n ∧ n - k ≤ gg ∧ s6 = .int .i64 k ∧ Aside (Below wx.heap.size wx wr) ∧ Aside (∀ j y, j < k → ys[j]? = some y → m.t < y.t))
    case atStart => exact ⟨0, Nat.zero_le _, by omega, rfl, Below.refl _ _, fun j y hj => absurd hj (Nat.not_lt_zero _)⟩
    case round =>
      obtain ⟨k, hk, hgg, rfl, HB, HA⟩ := hrel
      have g0 := cell_later' HB.out m0
      have g1 := cell_later' HB.out m1
      by_cases hlt : k < n
      · obtain ⟨x, hx⟩ : ∃ x, ys[k]? = some x := get_ex (by have := Hn.out; omega)
        obtain ⟨g, rfl, hgl, hat⟩ := Hel.out k x hx
        have a0 := cell_later' HB.out hat.1
        have hki : (k : Int) < (n : Int) := by omega
        have hkd : decide ((k : Int) < (n : Int)) = true := by simpa using hki
        have HX := Lib.hid hx
        clear hat hx
        cases ht : decide (m.t < x.t) with
        | true =>
          have Ht := Lib.hid ht
          go_wp2_with fail
          go_quiet (fail)
          go_wp2_with fail
          go_roundg (n - (k + 1))
          case measure => omega
          case rel =>
            refine ⟨k + 1, by omega, by omega, by go_num, bel_drewN HB.out _, ?_⟩
            show ∀ j y, _
            intro j y hj hy
            rcases Nat.lt_or_ge j k with h | h
            · exact HA.out j y h hy
            · obtain rfl : j = k := by omega
              obtain rfl := Option.some.inj (HX.out.symm.trans hy)
              exact of_decide_eq_true Ht.out
        | false =>
          have Ht := Lib.hid ht
          go_wp2_with fail
          go_quiet (fail)
          go_wp2_with fail
          have hnn := Hn.out
          subst hnn
          have hbb : ∀ q, Below wx.heap.size wx ((wr.drewN q).alloc (.cells #[.int .i64 m.t, .int .i64 m.u] 24)) := fun q => bel_alloc (bel_drewN HB.out q) _
          have hins : ∀ q, Calls Tryd.prog 38 #[_, .int .i64 (k : Nat), .slice (some ⟨wr.heap.size, 0, none⟩) 1 1] ((wr.drewN q).alloc (.cells #[.int .i64 m.t, .int .i64 m.u] 24)) _ := fun q =>
            insertMk_any w.heap.size wr.heap.size k _ ys m _ (own_later Hox.out (hbb q)) ⟨cell_new (wr.drewN q) _ _ 0 _ rfl, cell_new (wr.drewN q) _ _ 1 _ rfl⟩ ⟨#[.int .i64 m.t, .int .i64 m.u], by simp [World.alloc], rfl⟩ (fun e => by have := own_lt Hox.out _ e.symm; have := HB.out.size; omega) (Nat.le_trans hbx.size (hbb q).size) (by omega) (by omega)
          refine Calls.mono (hins _) ?_
          rintro e w9 ⟨v9, rfl, hg9, ho9⟩
          have hpl : placeMk ys m = k := placeMk_eq HX.out (by have := of_decide_eq_false Ht.out; omega) HA.out
          have hR := HR.out
          rw [hpl] at hR
          have hb9 : Below w.heap.size w w9 := bel_grown (bel_trans hbx (hbb _)) hg9 (fun q hq => own_base Hox.out q hq)
          have hl9 := insMk_len ys k m (by omega)
          have Hb9 := Lib.hid hb9
          generalize insMk ys k m = R at *
          obtain ⟨A9, c9, rfl, _, _⟩ := own_form ho9
          have Ho9 := Lib.hid ho9; have HRR := Lib.hid hR; have Hl9 := Lib.hid hl9
          clear ho9 hR hg9 hl9 hb9 hins hbb
          rcases Nat.lt_or_ge 8 R.length with h8 | h8
          · have h8i : (8 : Int) < (R.length : Int) := by omega
            go_wp2_with fail
            go_ret2
            rw [HRR.out, if_neg (by omega)]
            exact ⟨_, rfl, Hb9.out, World.ownsRow_nil _ _ _ _⟩
          · have h8i : ¬ (8 : Int) < (R.length : Int) := by omega
            go_wp2_with fail
            go_ret2
            rw [HRR.out, if_pos h8]
            exact ⟨_, rfl, Hb9.out, Ho9.out⟩
      · obtain rfl : k = n := by omega
        have hki : ¬ (k : Int) < (k : Int) := by omega
        have hkd : decide ((k : Int) < (k : Int)) = false := by simp
        go_wp2_with fail
        go_quiet (fail)
        go_wp2_with fail
        have hnn := Hn.out
        subst hnn
        have hbb : ∀ q, Below wx.heap.size wx ((wr.drewN q).alloc (.cells #[.int .i64 m.t, .int .i64 m.u] 24)) := fun q => bel_alloc (bel_drewN HB.out q) _
        have hins : ∀ q, Calls Tryd.prog 38 #[_, .int .i64 (ys.length : Nat), .slice (some ⟨wr.heap.size, 0, none⟩) 1 1] ((wr.drewN q).alloc (.cells #[.int .i64 m.t, .int .i64 m.u] 24)) _ := fun q =>
          insertMk_any w.heap.size wr.heap.size ys.length _ ys m _ (own_later Hox.out (hbb q)) ⟨cell_new (wr.drewN q) _ _ 0 _ rfl, cell_new (wr.drewN q) _ _ 1 _ rfl⟩ ⟨#[.int .i64 m.t, .int .i64 m.u], by simp [World.alloc], rfl⟩ (fun e => by have := own_lt Hox.out _ e.symm; have := HB.out.size; omega) (Nat.le_trans hbx.size (hbb q).size) (by omega) (by omega)
        refine Calls.mono (hins _) ?_
        rintro e w9 ⟨v9, rfl, hg9, ho9⟩
        have hpl : placeMk ys m = ys.length := placeMk_end HA.out
        have hR := HR.out
        rw [hpl] at hR
        have hb9 : Below w.heap.size w w9 := bel_grown (bel_trans hbx (hbb _)) hg9 (fun q hq => own_base Hox.out q hq)
        have hl9 := insMk_len ys ys.length m (by omega)
        have Hb9 := Lib.hid hb9
        generalize insMk ys ys.length m = R at *
        obtain ⟨A9, c9, rfl, _, _⟩ := own_form ho9
        have Ho9 := Lib.hid ho9; have HRR := Lib.hid hR; have Hl9 := Lib.hid hl9
        clear ho9 hR hg9 hl9 hb9 hins hbb
        rcases Nat.lt_or_ge 8 R.length with h8 | h8
        · have h8i : (8 : Int) < (R.length : Int) := by omega
          go_wp2_with fail
          go_ret2
          rw [HRR.out, if_neg (by omega)]
          exact ⟨_, rfl, Hb9.out, World.ownsRow_nil _ _ _ _⟩
        · have h8i : ¬ (8 : Int) < (R.length : Int) := by omega
          go_wp2_with fail
          go_ret2
          rw [HRR.out, if_pos h8]
          exact ⟨_, rfl, Hb9.out, Ho9.out⟩

/-- Add, at whatever marks -/
theorem add_any (sv : Value) (F : Nat → Prop) (xs : List Mk) (m : Mk) (w : World) (hs : Sl mkTy w F sv xs) :
    Calls Tryd.prog 10 #[sv, .agg #[.int .i64 m.t, .int .i64 m.u]] w (AddPost w (addMk xs m)) := by
  cases h : mayB xs && mayB [m] with
  | false =>
    have e : addMk xs m = ([], 4) := by simp [addMk, h]
    rw [e]; exact add_no sv F xs m w hs h
  | true =>
    have h1 : mayB xs = true := by simp at h; exact h.1
    have h2 : mayB [m] = true := by simp at h; exact h.2
    cases h3 : xs.any (fun x => domB x m) with
    | true =>
      have e : addMk xs m = (xs, 0) := by simp [addMk, h1, h2, h3]
      rw [e]; exact add_there sv F xs m w hs h1 h2 h3
    | false => exact add_new sv F xs m w hs h1 h2 h3
end Go.Proofs.YtjjgbgojlhaapaaDoor
namespace Go.Proofs.YtjjgbgojlhaapaaDoor
open Go.RowKit

theorem own_sl {w : World} {base : Nat} {v : Value} {ms : List Mk} {e : TypeId} (h : w.ownsRow base e 2 v ms.length (mkCells ms)) : Sl mkTy w (fun _ => True) v ms :=
  (own_to_sl (T := mkTy) (F := fun _ => False) h (mkCells_chunks w _ ms)).mono (fun _ _ => trivial)

/-! the staircase -/
def stair (l : List Mk) : Prop := l.Pairwise (fun a b => b.t < a.t ∧ a.u < b.u) ∧ ∀ x, x ∈ l → okOne x = true
theorem okFrom_stair : ∀ (l : List Mk) (p : Option Mk), okFrom p l = true ↔ (stair l ∧ ∀ a, p = some a → ∀ x, x ∈ l → x.t < a.t ∧ a.u < x.u)
  | [], p => by simp [okFrom, stair]
  | x :: r, p => by
    have ih := okFrom_stair r (some x)
    have h2 : okFrom p (x :: r) = true ↔ okOne x = true ∧ (∀ a, p = some a → okTwo a x = true) ∧ okFrom (some x) r = true := by
      cases p <;> simp [okFrom, and_assoc]
    rw [h2, ih]
    constructor
    · rintro ⟨ho, hp, ⟨hs1, hs2⟩, hr⟩
      refine ⟨⟨List.pairwise_cons.2 ⟨fun y hy => hr x rfl y hy, hs1⟩, fun y hy => ?_⟩, fun a ha y hy => ?_⟩
      · rcases List.mem_cons.1 hy with rfl | hy
        · exact ho
        · exact hs2 y hy
      · have h3 := hp a ha
        simp [okTwo] at h3
        rcases List.mem_cons.1 hy with rfl | hy
        · exact h3
        · have := hr x rfl y hy; omega
    · rintro ⟨⟨hs1, hs2⟩, hp⟩
      have hc := List.pairwise_cons.1 hs1
      refine ⟨hs2 x (List.mem_cons_self), fun a ha => ?_, ⟨hc.2, fun y hy => hs2 y (List.mem_cons_of_mem _ hy)⟩, fun a ha y hy => ?_⟩
      · have := hp a ha x (List.mem_cons_self); simp [okTwo]; omega
      · obtain rfl := Option.some.inj ha
        exact hc.1 y hy
theorem mayB_iff (l : List Mk) : mayB l = true ↔ stair l ∧ l.length ≤ 8 := by
  unfold mayB
  have := okFrom_stair l none
  simp at this ⊢
  rw [this]
  exact fun _ => Iff.rfl

/-- what marks cover -/
def coveredBy (z : Mk) (l : List Mk) : Prop := ∃ y, y ∈ l ∧ z.t ≤ y.t ∧ z.u ≤ y.u

theorem placeMk_split (ys : List Mk) (m : Mk) : (∀ x, x ∈ ys.take (placeMk ys m) → m.t < x.t) ∧ (∀ x r, ys.drop (placeMk ys m) = x :: r → x.t ≤ m.t) := by
  unfold placeMk
  constructor
  · intro x hx
    obtain ⟨j, hj, rfl⟩ := List.mem_iff_getElem.1 hx
    rw [List.length_take] at hj
    rw [List.getElem_take]
    have := List.not_of_lt_findIdx (p := fun x : Mk => decide (x.t ≤ m.t)) (xs := ys) (i := j) (by omega)
    simpa using this
  · intro x r h
    have hl : (ys.findIdx fun x => decide (x.t ≤ m.t)) < ys.length := by
      rcases Nat.lt_or_ge (ys.findIdx fun x => decide (x.t ≤ m.t)) ys.length with h1 | h1
      · exact h1
      · rw [List.drop_of_length_le h1] at h; cases h
    rw [List.drop_eq_getElem_cons hl] at h
    have e := (List.cons.inj h).1
    have := List.findIdx_getElem (w := hl)
    rw [e] at this
    simpa using this

theorem insMk_stair {xs : List Mk} {m : Mk} (h : stair xs) (hm : okOne m = true) (hd : xs.any (fun x => domB x m) = false) : stair (insMk (xs.filter (fun x => !domB m x)) (placeMk (xs.filter (fun x => !domB m x)) m) m) := by
  have hd' : ∀ x, x ∈ xs → ¬ (m.t ≤ x.t ∧ m.u ≤ x.u) := by
    intro x hx hc
    have := List.any_eq_false.1 hd x hx
    simp [domB] at this; omega
  have hys : stair (xs.filter (fun x => !domB m x)) := ⟨h.1.filter _, fun x hx => h.2 x (List.mem_filter.1 hx).1⟩
  have hnd : ∀ x, x ∈ xs.filter (fun x => !domB m x) → ¬ (x.t ≤ m.t ∧ x.u ≤ m.u) ∧ ¬ (m.t ≤ x.t ∧ m.u ≤ x.u) := by
    intro x hx
    obtain ⟨h1, h2⟩ := List.mem_filter.1 hx
    refine ⟨fun hc => ?_, hd' x h1⟩
    simp [domB] at h2; omega
  generalize xs.filter (fun x => !domB m x) = ys at *
  obtain ⟨hp1, hp2⟩ := placeMk_split ys m
  have hsplit : ys = ys.take (placeMk ys m) ++ ys.drop (placeMk ys m) := (List.take_append_drop _ _).symm
  generalize hA : ys.take (placeMk ys m) = A at *
  generalize hB : ys.drop (placeMk ys m) = B at *
  have hs := hys.1
  rw [hsplit] at hs
  obtain ⟨sA, sB, sAB⟩ := List.pairwise_append.1 hs
  have hBt : ∀ x, x ∈ B → x.t ≤ m.t := by
    cases B with
    | nil => intro x hx; cases hx
    | cons b r =>
      have h0 := hp2 b r rfl
      intro x hx
      rcases List.mem_cons.1 hx with rfl | hx
      · exact h0
      · have := (List.pairwise_cons.1 sB).1 x hx; omega
  have hmem : ∀ x, x ∈ ys ↔ x ∈ A ∨ x ∈ B := by intro x; rw [hsplit]; exact List.mem_append
  show stair (insMk ys (placeMk ys m) m)
  unfold insMk
  rw [hA, hB]
  refine ⟨List.pairwise_append.2 ⟨sA, List.pairwise_cons.2 ⟨fun x hx => ?_, sB⟩, fun a ha b hb => ?_⟩, fun x hx => ?_⟩
  · have h1 := hBt x hx
    have h2 := hnd x ((hmem x).2 (.inr hx))
    omega
  · rcases List.mem_cons.1 hb with rfl | hb
    · have h1 := hp1 a ha
      have h2 := hnd a ((hmem a).2 (.inl ha))
      omega
    · exact sAB a ha b hb
  · rcases List.mem_append.1 hx with hx | hx
    · exact hys.2 x ((hmem x).2 (.inl hx))
    · rcases List.mem_cons.1 hx with rfl | hx
      · exact hm
      · exact hys.2 x ((hmem x).2 (.inr hx))

/-- with a mark more: a staircase again; what was covered is covered, and the mark -/
theorem addMk_ok {xs zs : List Mk} {m : Mk} (h : addMk xs m = (zs, 0)) : mayB xs = true ∧ okOne m = true ∧ mayB zs = true ∧ (∀ z, coveredBy z xs → coveredBy z zs) ∧ coveredBy m zs := by
  unfold addMk at h
  cases h0 : mayB xs && mayB [m] with
  | false => rw [h0] at h; simp at h
  | true =>
    rw [h0] at h
    simp only [if_true] at h
    obtain ⟨hx, hm⟩ : mayB xs = true ∧ mayB [m] = true := by simpa using h0
    have hmo : okOne m = true := ((mayB_iff [m]).1 hm).1.2 m (List.mem_singleton.2 rfl)
    refine ⟨hx, hmo, ?_⟩
    cases h1 : xs.any (fun x => domB x m) with
    | true =>
      rw [h1] at h
      simp only [if_true, Prod.mk.injEq, and_true] at h
      subst h
      refine ⟨hx, fun z hz => hz, ?_⟩
      obtain ⟨x, hxm, hd⟩ := List.any_eq_true.1 h1
      simp [domB] at hd
      exact ⟨x, hxm, hd⟩
    | false =>
      rw [h1] at h
      simp only [Bool.false_eq_true, if_false] at h
      split at h
      · rename_i h8
        simp only [Prod.mk.injEq, and_true] at h
        subst h
        have hst := ((mayB_iff xs).1 hx).1
        refine ⟨(mayB_iff _).2 ⟨insMk_stair hst hmo h1, h8⟩, fun z ⟨y, hy, hz⟩ => ?_, ?_⟩
        · by_cases hd : domB m y = true
          · refine ⟨m, by simp [insMk], ?_⟩
            simp [domB] at hd; omega
          · refine ⟨y, ?_, hz⟩
            have : y ∈ xs.filter (fun x => !domB m x) := List.mem_filter.2 ⟨hy, by simpa using hd⟩
            generalize xs.filter (fun x => !domB m x) = ys at *
            rw [← List.take_append_drop (placeMk ys m) ys] at this
            unfold insMk
            rcases List.mem_append.1 this with h | h
            · exact List.mem_append.2 (.inl h)
            · exact List.mem_append.2 (.inr (List.mem_cons_of_mem _ h))
        · exact ⟨m, by simp [insMk], by omega, by omega⟩
      · simp at h
end Go.Proofs.YtjjgbgojlhaapaaDoor
namespace Go.Proofs.YtjjgbgojlhaapaaDoor
open Go.RowKit Go.Lib

def markV (m : Mk) : JV := .mk 6 0 ⟨#[]⟩ [numV m.t, numV m.u] []
def marksV (l : List Mk) : JV := .mk 6 0 ⟨#[]⟩ (l.map markV) []
def nmMarks : ByteArray := ⟨#[109, 97, 114, 107, 115]⟩
def marksO (l : List Mk) : JV := .mk 7 0 ⟨#[]⟩ [] [(nmMarks, marksV l)]

theorem short_marks : shortB nmMarks = true := by decide +kernel
theorem may_markV {d : Nat} {m : Mk} (h : okOne m = true) : mayJ (d + 2) (markV m) = true := by
  simp [okOne] at h
  rw [markV, may_list]
  simp only [List.all_cons, List.all_nil, Bool.and_true, Bool.and_eq_true]
  exact ⟨may_numV (by omega) (by omega), may_numV (by omega) (by omega)⟩
theorem may_marksO {xs : List Mk} (h : mayB xs = true) : mayJ 64 (marksO xs) = true := by
  have hst := ((mayB_iff xs).1 h).1
  rw [marksO, may_obj (by simp [membersB, short_marks])]
  simp only [List.all_cons, List.all_nil, Bool.and_true]
  rw [marksV, may_list, List.all_eq_true]
  intro x hx
  obtain ⟨m, hm, rfl⟩ := List.mem_map.1 hx
  exact may_markV (hst.2 m hm)

theorem print_wordV (d : Nat) (s : ByteArray) : printB (d + 1) (wordV s) = quoteB s := by rw [printB.eq_2]; simp [wordV, JV.k, JV.s]
theorem print_list (d : Nat) (l : List JV) : printB (d + 1) (.mk 6 0 ⟨#[]⟩ l []) = 91 :: (joinFrom (printB d) true l ++ [93]) := by rw [printB.eq_2]; simp [JV.k, JV.l]
theorem print_obj (d : Nat) (m : List (ByteArray × JV)) : printB (d + 1) (.mk 7 0 ⟨#[]⟩ [] m) = 123 :: (joinFrom (fun p => quoteB p.1 ++ 58 :: printB d p.2) true m ++ [125]) := by rw [printB.eq_2]; simp [JV.k, JV.m]
theorem print_marks_len {xs : List Mk} (h : mayB xs = true) : (printB 64 (marksO xs)).length ≤ 140737488355328 := by
  have h8 := mayB_len h
  have hst := ((mayB_iff xs).1 h).1
  have hq : (quoteB nmMarks).length = 7 := by decide +kernel
  rw [marksO, print_obj]
  simp only [joinFrom, if_true, List.length_cons, List.length_append, List.append_nil, List.length_nil]
  rw [hq, marksV, print_list]
  have h1 := join_len (printB 62) 50 true (xs.map markV) (fun x hx => by
    obtain ⟨m, hm, rfl⟩ := List.mem_map.1 hx
    have ho := hst.2 m hm
    simp [okOne] at ho
    rw [markV, print_list]
    have l1 := itoa_length_le m.t (by omega) (by omega)
    have l2 := itoa_length_le m.u (by omega) (by omega)
    simp only [joinFrom, print_numV, if_true, List.length_cons, List.length_append, List.append_nil, List.length_nil, Bool.false_eq_true, if_false]
    omega)
  rw [List.length_map] at h1
  simp only [List.length_cons, List.length_append, List.length_nil]
  omega
end Go.Proofs.YtjjgbgojlhaapaaDoor
namespace Go.Proofs.YtjjgbgojlhaapaaDoor
open Go.RowKit

set_option maxRecDepth 100000 in
set_option maxHeartbeats 1000000 in
theorem rowsFirst_any (w : World) : Calls Tryd.prog 9 #[] w fun e w' => e = .returned (.bool true) ∧ Below w.heap.size w w' := by
  have a1 := fun (V : World) (B : Nat) h0 h1 => add_any _ _ [⟨100, 5⟩] ⟨50, 10⟩ V (sl_one (m := ⟨100, 5⟩) (B := B) h0 h1)
  have a2 := fun (V : World) (B : Nat) h0 h1 => add_any _ _ [⟨50, 5⟩] ⟨100, 10⟩ V (sl_one (m := ⟨50, 5⟩) (B := B) h0 h1)
  rw [show addMk [⟨100, 5⟩] ⟨50, 10⟩ = ([⟨100, 5⟩, ⟨50, 10⟩], 0) by decide +kernel] at a1
  rw [show addMk [⟨50, 5⟩] ⟨100, 10⟩ = ([⟨100, 10⟩], 0) by decide +kernel] at a2
  go_enter Tryd.func9, Tryd.ntmps9
  go_wp2_with fail
  refine Calls.mono (a1 _ w.heap.size (by simp) (by simp)) ?_
  rintro e w1 ⟨v1, rfl, hb1, ho1⟩
  obtain ⟨A1, c1, rfl, _, hel1⟩ := own_form ho1
  obtain ⟨g1, rfl, hg1, hm1⟩ := hel1 0 ⟨100, 5⟩ rfl
  have hbw1 := bel_trans (bel_alloc (Below.refl _ w) _) hb1
  have m1 := hm1.1
  rw [Nat.zero_mul] at m1
  clear hb1 ho1 hel1 hm1
  go_wp2_with fail
  refine Calls.mono (a2 _ w1.heap.size (by simp) (by simp)) ?_
  rintro e w2 ⟨v2, rfl, hb2, ho2⟩
  obtain ⟨A2, c2, rfl, _, hel2⟩ := own_form ho2
  obtain ⟨g2, rfl, hg2, hm2⟩ := hel2 0 ⟨100, 10⟩ rfl
  have m2 := hm2.2
  rw [Nat.zero_mul, Nat.zero_add] at m2
  have hbb := bel_trans (bel_alloc (Below.refl _ w1) _) hb2
  have m1' := cell_later' hbb m1
  have hbw2 := bel_trans hbw1 hbb
  clear hb2 ho2 hel2 hm2 hbb m1 hbw1 a1 a2
  go_wp2_with fail
  go_ret
  exact ⟨rfl, hbw2⟩
end Go.Proofs.YtjjgbgojlhaapaaDoor
namespace Go.Proofs.YtjjgbgojlhaapaaDoor
open Go.RowKit
set_option maxRecDepth 100000 in
set_option maxHeartbeats 8000000 in
theorem refMay_any (sv : Value) (F : Nat → Prop) (xs : List Mk) (w : World) (hs : Sl mkTy w F sv xs) :
    Calls Tryd.prog 52 #[sv] w fun e w' => e = .returned (.bool (mayB xs)) ∧ Below w.heap.size w w' := by
  rcases hs with ⟨rfl, A, c, rfl⟩ | ⟨b, o, c, rfl, hFb, hlc, hcm, hel⟩
  · go_enter Tryd.func52, Tryd.ntmps52
    go_wp2
    go_loop [3] (fun k => k = .int .i64 0) (fun _ => 0)
    case atStart => rfl
    case round =>
      subst hrel
      go_wp2
      go_ret
      exact ⟨rfl, Below.refl _ _⟩
  · have hc := mk_cells hel
    clear hel
    generalize hn : xs.length = n at *
    have Hn := Lib.hid hn; clear hn
    go_enter Tryd.func52, Tryd.ntmps52
    go_wp2
    go_loopg [3] n (fun gg s8 wr => ∃ kk : Nat, kk ≤ n ∧ n - kk ≤ gg ∧ s8 = .int .i64 kk ∧ Aside (Below w.heap.size w wr) ∧ Aside (okFrom none xs = okFrom (prevOf xs kk) (xs.drop kk)))
    case atStart => exact ⟨0, Nat.zero_le _, by omega, rfl, Below.refl _ w, rfl⟩
    case round =>
      obtain ⟨kk, hkk, hg, rfl, BW, A⟩ := hrel
      have hz := BW.out.size
      by_cases hlt : kk < n
      · have hltz : (kk : Int) < (n : Int) := by omega
        obtain ⟨x, hx⟩ : ∃ x, xs[kk]? = some x := ⟨xs[kk]'(by have := Hn.out; omega), List.getElem?_eq_getElem _⟩
        have l0 := cell_later' BW.out (hc kk x hx).1
        have l1 := cell_later' BW.out (hc kk x hx).2
        rcases Nat.eq_zero_or_pos kk with hk0 | hk0
        · subst hk0
          clear hc
          rw [Nat.zero_mul, Nat.add_zero] at l0 l1
          have Hx := Lib.hid hx; clear hx
          have HA := Lib.hid A.out; clear A
          rcases okOne_cases x with ⟨ho, h1, h2, h3, h4⟩ | ⟨ho, h | ⟨h, g⟩ | ⟨h, g, i⟩ | ⟨h, g, i, j⟩⟩
          · have Ho := Lib.hid ho; clear ho
            go_wp2
            go_quiet (fail)
            go_wp2
            go_roundg (n - 1)
            case measure => omega
            case rel =>
              refine ⟨1, by omega, by omega, by go_num, ?_, ok_step HA.out Hx.out Ho.out (fun a ha => by cases ha)⟩
              show Below _ _ _
              repeat (first | exact BW.out | apply bel_alloc | apply bel_drewN | apply bel_drew | (refine bel_set ?_ (by simp; omega) _))
          all_goals
            have Ho := Lib.hid ho; clear ho
            go_wp2
            go_quiet (fail)
            go_wp2
            go_ret
            refine ⟨ret_bool (ok_fail1 HA.out Hx.out Ho.out).symm, ?_⟩
            repeat (first | exact BW.out | apply bel_alloc | apply bel_drewN | apply bel_drew | (refine bel_set ?_ (by simp; omega) _))
        · obtain ⟨m, rfl⟩ : ∃ m, kk = m + 1 := ⟨kk - 1, by omega⟩
          obtain ⟨a, ha⟩ : ∃ x, xs[m]? = some x := ⟨xs[m]'(by have := Hn.out; omega), List.getElem?_eq_getElem _⟩
          have m0 := cell_later' BW.out (hc m a ha).1
          have m1 := cell_later' BW.out (hc m a ha).2
          have hbw : b < wr.heap.size := World.block_lt_of_cell? wr _ m0
          have e1 : (((m + 1 : Nat) : Int) - 1).toNat = m := by omega
          clear hc
          have Hx := Lib.hid hx; clear hx
          have Ha := Lib.hid ha; clear ha
          have HA := Lib.hid A.out; clear A
          have g0 : decide (0 < ((m + 1 : Nat) : Int)) = true := by simp
          have g8 : decide (0 < (m : Int) + 1) = true := by simp
          have hmi : (m : Int) < (n : Int) := by omega
          have hw1 : IntKind.i64.wrap ((m : Int) + 1 - 1) = (m : Int) := by rw [Int.add_sub_cancel]; exact IntWalk.i64_in _ (by omega)
          have hw2 : IntKind.i64.wrap (m : Int) = (m : Int) := IntWalk.i64_in _ (by omega)
          rcases okOne_cases x with ⟨ho, h1, h2, h3, h4⟩ | ⟨ho, h | ⟨h, g⟩ | ⟨h, g, i⟩ | ⟨h, g, i, j⟩⟩
          · have Ho := Lib.hid ho; clear ho
            rcases okTwo_cases a x with ⟨ho, h5, h6⟩ | ⟨ho, h5 | ⟨h5, h6⟩⟩
            · have Ho2 := Lib.hid ho; clear ho
              go_wp2
              go_quiet (fail)
              go_wp2
              go_roundg (n - (m + 1 + 1))
              case measure => omega
              case rel =>
                refine ⟨m + 1 + 1, by omega, by omega, by go_num, ?_, ok_step HA.out Hx.out Ho.out (fun b hb => by obtain rfl := Option.some.inj (Ha.out.symm.trans hb); exact Ho2.out)⟩
                show Below _ _ _
                repeat (first | exact BW.out | apply bel_alloc | apply bel_drewN | apply bel_drew | (refine bel_set ?_ (by simp; omega) _))
            all_goals
              have Ho2 := Lib.hid ho; clear ho
              go_wp2
              go_quiet (fail)
              go_wp2
              go_ret
              refine ⟨ret_bool (ok_fail2 HA.out Hx.out Ha.out Ho2.out).symm, ?_⟩
              repeat (first | exact BW.out | apply bel_alloc | apply bel_drewN | apply bel_drew | (refine bel_set ?_ (by simp; omega) _))
          all_goals
            have Ho := Lib.hid ho; clear ho
            go_wp2
            go_quiet (fail)
            go_wp2
            go_ret
            refine ⟨ret_bool (ok_fail1 HA.out Hx.out Ho.out).symm, ?_⟩
            repeat (first | exact BW.out | apply bel_alloc | apply bel_drewN | apply bel_drew | (refine bel_set ?_ (by simp; omega) _))
      · have hltz : ¬ (kk : Int) < (n : Int) := by omega
        have : kk = n := by omega
        subst this
        go_wp2
        go_ret
        exact ⟨ret_bool (by rw [ok_end A.out Hn.out, Hn.out]; simp; omega), BW.out⟩
end Go.Proofs.YtjjgbgojlhaapaaDoor
