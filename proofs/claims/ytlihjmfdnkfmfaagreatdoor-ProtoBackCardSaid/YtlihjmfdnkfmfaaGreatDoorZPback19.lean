/- Parts of the proof: Kp. -/
import Derived.Test.YtlihjmfdnkfmfaaGreatDoorZPback18
namespace Go.Proofs.YtlihjmfdnkfmfaaGreatDoor
open Go.RowKit Go.Lib

/-- what a call of Copy on a tree says -/
def CpRes (x : JV) (w : World) (z : Ending) (w' : World) : Prop := (∃ (A1 : Option Addr) (n1 c1 : Nat) (A2 : Option Addr) (n2 c2 : Nat),
  z = .returned (.agg #[.int .i64 x.k, .int .i64 x.n, .string x.s, .slice A1 n1 c1, .slice A2 n2 c2]) ∧ JR w' (fun b => w.heap.size ≤ b) x [.int .i64 x.k, .int .i64 x.n, .string x.s, .slice A1 n1 c1, .slice A2 n2 c2] ∧
  (∀ g o, (A1 = some ⟨g, o, none⟩ ∨ A2 = some ⟨g, o, none⟩) → ∀ j, w'.frozen? ⟨g, j, none⟩ = false) ∧ ∀ g o g' o', A1 = some ⟨g, o, none⟩ → A2 = some ⟨g', o', none⟩ → g ≠ g') ∧ Below w.heap.size w w'
def CpAt (x : JV) : Prop := ∀ (cs : List Value) (F : Nat → Prop) (w : World), LnJ x → JR w F x cs → Calls Tryz.prog 101 #[.agg cs.toArray] w (PlRes x w)
theorem Chunks.later {α : Type} {T : Ty α} {w W : World} {F : Nat → Prop} {xs : List α} {cs : List Value} (h : Chunks T w F xs cs) (hb : Below w.heap.size w W) : Chunks T W F xs cs :=
  (h.bound.frame (w' := W) (fun b hb' => hb.block b hb'.2)).mono (fun _ h => h.1)
def CpS (P : Nat) (u v : Value) (w : World) : Prop := w.cell? ⟨P, 3, none⟩ = some u ∧ w.cell? ⟨P, 4, none⟩ = some v
theorem CpS.later {P : Nat} {u v : Value} {w W : World} (h : CpS P u v w) (hb : Below w.heap.size w W) : CpS P u v W := ⟨cell_later' hb h.1, cell_later' hb h.2⟩
theorem own_frozen' {w : World} {base : Nat} {e : TypeId} {size n m c g o : Nat} {xs : List Value} (h : w.ownsRow base e size (.slice (some ⟨g, o, none⟩) m c) n xs) (j : Nat) : w.frozen? ⟨g, j, none⟩ = false := by
  rcases h.2 with ⟨h0, _⟩ | ⟨g', cap, cur, h0, _, hg, _⟩
  · cases h0
  · have e1 : g = g' := by injection h0 with h1; injection h1 with h1; injection h1
    subst e1
    simp [World.frozen?, hg]
theorem own_baseK {w : World} {base base' : Nat} {e : TypeId} {size n : Nat} {v : Value} {xs : List Value} (h : w.ownsRow base e size v n xs) (hb : base' ≤ base) : w.ownsRow base' e size v n xs := by
  obtain ⟨h1, h2⟩ := h
  refine ⟨h1, h2.imp id ?_⟩
  rintro ⟨g, cap, cur, h0, hg, hr⟩
  exact ⟨g, cap, cur, h0, Nat.le_trans hb hg, hr⟩
def CpX (P X i j : Nat) (u a0 a1 a2 a3 a4 : Value) (w : World) : Prop := w.cell? ⟨P, i, none⟩ = some u ∧ w.cell? ⟨X, j, none⟩ = some a0 ∧ w.cell? ⟨X, j + 1, none⟩ = some a1 ∧ w.cell? ⟨X, j + 2, none⟩ = some a2 ∧ w.cell? ⟨X, j + 3, none⟩ = some a3 ∧ w.cell? ⟨X, j + 4, none⟩ = some a4
theorem CpX.later {P X i j : Nat} {u a0 a1 a2 a3 a4 : Value} {w W : World} (h : CpX P X i j u a0 a1 a2 a3 a4 w) (hb : Below w.heap.size w W) : CpX P X i j u a0 a1 a2 a3 a4 W :=
  ⟨cell_later' hb h.1, cell_later' hb h.2.1, cell_later' hb h.2.2.1, cell_later' hb h.2.2.2.1, cell_later' hb h.2.2.2.2.1, cell_later' hb h.2.2.2.2.2⟩
/-- besides the row at hand -/
def CpO (w : World) (B Z : Nat) (cx : Array Value) (wr : World) : Prop := wr.heap[w.heap.size]? = some (.cells cx 43 (0, 0)) ∧ wr.heap[B]? = some (.cells #[.int .i64 0, .int .i64 0, .string ⟨#[]⟩, .slice none 0 0, .slice none 0 0] 43 (0, 0)) ∧ Below w.heap.size w wr ∧ Z ≤ wr.heap.size
theorem CpO.later {w wr W : World} {B Z : Nat} {cx : Array Value} (h : CpO w B Z cx wr) (hb : Below wr.heap.size wr W) : CpO w B Z cx W :=
  ⟨Below.at hb h.1, Below.at hb h.2.1, bel_trans h.2.2.1 hb, Nat.le_trans h.2.2.2 hb.size⟩
theorem CpO.set {w wr W : World} {B Z g : Nat} {cx : Array Value} (h : CpO w B Z cx wr) (hg : wr.grownBy W (some g)) (h1 : w.heap.size < g) (h2 : B < g) : CpO w B Z cx W :=
  ⟨(hg.block _ (Array.getElem?_eq_some_iff.1 h.1).1 (fun e => by have := Option.some.inj e; omega)).trans h.1, (hg.block _ (Array.getElem?_eq_some_iff.1 h.2.1).1 (fun e => by have := Option.some.inj e; omega)).trans h.2.1,
    bel_grown h.2.2.1 hg (fun k hk => by have := Option.some.inj hk; omega), Nat.le_trans h.2.2.2 hg.size⟩
/-- a row of which k elements are turned -/
def CpT {α : Type} (Y : Ty α) (T : TypeId) (base Z : Nat) (F : Nat → Prop) (V : Value) (xs : List α) (k : Nat) (wr : World) : Prop :=
  ∃ cs1 cs2, wr.ownsRow base T Y.sz V xs.length (cs1 ++ cs2) ∧ Chunks Y wr (fun b => Z ≤ b) (xs.take k) cs1 ∧ Chunks Y wr F (xs.drop k) cs2
theorem CpT.later {α : Type} {Y : Ty α} {T : TypeId} {base Z k : Nat} {F : Nat → Prop} {V : Value} {xs : List α} {wr W : World} (h : CpT Y T base Z F V xs k wr) (hb : Below wr.heap.size wr W) : CpT Y T base Z F V xs k W := by
  obtain ⟨cs1, cs2, h1, h2, h3⟩ := h
  exact ⟨cs1, cs2, own_laterB h1 hb, h2.later hb, h3.later hb⟩
/-- another block is written -/
theorem CpT.set {α : Type} {Y : Ty α} {T : TypeId} {base Z k g n : Nat} {F : Nat → Prop} {V : Value} {xs : List α} {wr W : World} (h : CpT Y T base Z F V xs k wr) (hg : wr.grownBy W (some g)) (hV : ∀ j, V.ownBlock = some j → j ≠ g) (hF : ∀ b, F b → b < n) (hn : n ≤ g) (hgZ : g < Z) : CpT Y T base Z F V xs k W := by
  obtain ⟨cs1, cs2, h1, h2, h3⟩ := h
  refine ⟨cs1, cs2, World.ownsRow.kept h1 hg ?_, (h2.bound.frame (w' := W) (fun b hb => hg.block b hb.2 (fun e => by have := Option.some.inj e; have := hb.1; omega))).mono (fun _ h => h.1),
    (h3.bound.frame (w' := W) (fun b hb => hg.block b hb.2 (fun e => by have := Option.some.inj e; have := hF b hb.1; omega))).mono (fun b h => h.1)⟩
  rcases hv : V.ownBlock with _ | j
  · exact .inl rfl
  · exact .inr (fun e => hV j hv (Option.some.inj e))
/-- the next element is turned -/
theorem CpT.step {α : Type} {Y : Ty α} {T : TypeId} {base Z k g n c : Nat} {F : Nat → Prop} {xs : List α} {q : α} {wr W : World} {cs1 cs2 c' : List Value} (hq : xs[k]? = some q)
    (h2 : Chunks Y wr (fun b => Z ≤ b) (xs.take k) cs1) (h3 : Chunks Y wr F (xs.drop (k + 1)) cs2) (hx : Y.R wr (fun b => Z ≤ b) q c')
    (ho : W.ownsRow base T Y.sz (.slice (some ⟨g, 0, none⟩) xs.length c) xs.length (cs1 ++ (c' ++ cs2))) (hg : wr.grownBy W (some g)) (hF : ∀ b, F b → b < n) (hn : n ≤ g) (hgZ : g < Z) : CpT Y T base Z F (.slice (some ⟨g, 0, none⟩) xs.length c) xs (k + 1) W := by
  have hx' : Y.R W (fun b => Z ≤ b) q c' := Y.mono (fun b h => h.1) (Y.frame (w' := W) (fun b (hb : Z ≤ b ∧ b < wr.heap.size) => hg.block b hb.2 (fun e => by have := Option.some.inj e; have := hb.1; omega)) (Y.bound hx))
  have h2' := (h2.bound.frame (w' := W) (fun b hb => hg.block b hb.2 (fun e => by have := Option.some.inj e; have := hb.1; omega))).mono (F' := fun b => Z ≤ b) (fun b h => h.1)
  have h3' := (h3.bound.frame (w' := W) (fun b hb => hg.block b hb.2 (fun e => by have := Option.some.inj e; have := hF b hb.1; omega))).mono (F' := F) (fun b h => h.1)
  refine ⟨cs1 ++ c', cs2, by rw [List.append_assoc]; exact ho, ?_, h3'⟩
  rw [take_snoc' hq]
  exact Chunks.append h2' ⟨c', [], by simp, hx', rfl⟩
theorem CpT.open {α : Type} {Y : Ty α} {T : TypeId} {base Z k : Nat} {F : Nat → Prop} {V : Value} {xs : List α} {q : α} {wr : World} (h : CpT Y T base Z F V xs k wr) (hq : xs[k]? = some q) :
    ∃ cs1 c0 cs2 g c, V = .slice (some ⟨g, 0, none⟩) xs.length c ∧ base ≤ g ∧ cs1.length = k * Y.sz ∧ wr.ownsRow base T Y.sz (.slice (some ⟨g, 0, none⟩) xs.length c) xs.length (cs1 ++ (c0 ++ cs2)) ∧ Chunks Y wr (fun b => Z ≤ b) (xs.take k) cs1 ∧ Y.R wr F q c0 ∧ Chunks Y wr F (xs.drop (k + 1)) cs2 := by
  obtain ⟨cs1, cs2, h1, h2, h3⟩ := h
  have hk := lt_of_get hq
  rw [drop_of_get hq] at h3
  obtain ⟨c0, r, rfl, h4, h5⟩ := h3
  obtain ⟨g, c, rfl, hg⟩ := own_pos h1 (by omega)
  exact ⟨cs1, c0, r, g, c, rfl, hg, by rw [h2.len, List.length_take]; congr 1; omega, h1, h2, h4, h5⟩
theorem CpT.sl {α : Type} {Y : Ty α} {T : TypeId} {base Z k n : Nat} {F : Nat → Prop} {V : Value} {xs : List α} {wr : World} (h : CpT Y T base Z F V xs k wr) (hk : xs.length ≤ k) (hb : n ≤ base) (hZ : n ≤ Z) : Sl Y wr (fun b => n ≤ b) V xs := by
  obtain ⟨cs1, cs2, h1, h2, h3⟩ := h
  rw [List.take_of_length_le hk] at h2
  rw [List.drop_of_length_le hk] at h3
  have e : cs2 = [] := h3
  rw [e, List.append_nil] at h1
  refine (own_to_sl h1 h2).mono (fun b hb' => ?_)
  rcases hb' with hb' | hb'
  · exact Nat.le_trans hZ hb'
  · have := (h1.lt b hb'.symm).1; omega
set_option maxRecDepth 100000 in
set_option maxHeartbeats 16000000 in
theorem copy_strong (x : JV) (ihl : ∀ q ∈ x.l, CpAt q) (ihm : ∀ q ∈ x.m, CpAt q.2) (cs : List Value) (F : Nat → Prop) (w : World) (hln : LnJ x) (h : JR w F x cs) : Calls Tryz.prog 101 #[.agg cs.toArray] w (CpRes x w) := by
  obtain ⟨⟨hl6, hm6⟩, lnl, lnm⟩ := (LnJ_iff x).1 hln
  obtain ⟨vl, vm, ⟨rfl, hsz⟩, hl0, hm0⟩ := JR_iff.1 h
  obtain ⟨A1, c1, rfl⟩ := hl0.form
  obtain ⟨A2, c2, rfl⟩ := hm0.form
  obtain ⟨F', hF'⟩ : ∃ F' : Nat → Prop, F' = fun b => F b ∧ b < w.heap.size := ⟨_, rfl⟩
  have hl : Sl jvTy w F' (.slice A1 x.l.length c1) x.l := by rw [hF']; exact hl0.bound
  have hm : Sl memTy w F' (.slice A2 x.m.length c2) x.m := by rw [hF']; exact hm0.bound
  have hFb : ∀ b, F' b → b < w.heap.size := fun b hb => by rw [hF'] at hb; exact hb.2
  clear hF' hl0 hm0
  have hbA : Below w.heap.size w ((w.alloc (.cells #[.int .i64 x.k, .int .i64 x.n, .string x.s, .slice A1 x.l.length c1, .slice A2 x.m.length c2] 43)).alloc (.cells #[.int .i64 0, .int .i64 0, .string ⟨#[]⟩, .slice none 0 0, .slice none 0 0] 43)) := bel_alloc (bel_alloc (Below.refl _ _) _) _
  have hP := heap_alloc2_old w (.cells #[.int .i64 x.k, .int .i64 x.n, .string x.s, .slice A1 x.l.length c1, .slice A2 x.m.length c2] 43) (.cells #[.int .i64 0, .int .i64 0, .string ⟨#[]⟩, .slice none 0 0, .slice none 0 0] 43)
  have hB := heap_alloc2_new w (.cells #[.int .i64 x.k, .int .i64 x.n, .string x.s, .slice A1 x.l.length c1, .slice A2 x.m.length c2] 43) (.cells #[.int .i64 0, .int .i64 0, .string ⟨#[]⟩, .slice none 0 0, .slice none 0 0] 43)
  have hs1 : ((w.alloc (.cells #[.int .i64 x.k, .int .i64 x.n, .string x.s, .slice A1 x.l.length c1, .slice A2 x.m.length c2] 43)).alloc (.cells #[.int .i64 0, .int .i64 0, .string ⟨#[]⟩, .slice none 0 0, .slice none 0 0] 43)).heap.size = w.heap.size + 2 := by show ((w.heap.push _).push _).size = _; simp
  generalize hW : (w.alloc (.cells #[.int .i64 x.k, .int .i64 x.n, .string x.s, .slice A1 x.l.length c1, .slice A2 x.m.length c2] 43)).alloc (.cells #[.int .i64 0, .int .i64 0, .string ⟨#[]⟩, .slice none 0 0, .slice none 0 0] 43) = W1 at *
  have hc1 := cloneV_any _ _ x.l W1.drew (hl.below (bel_drew hbA)) hl6
  have hc2 := fun W (hb : Below W1.heap.size W1 W) => cloneM_any _ _ x.m W (hm.below (bel_trans hbA hb)) hm6
  have hw1 : W1.drew.heap.size = W1.heap.size := rfl
  have HW := Lib.hid hW; have HP := Lib.hid hP; have HB := Lib.hid hB; have HBA := Lib.hid hbA; have HC1 := Lib.hid hc1; have HC2 := Lib.hid hc2; have HS1 := Lib.hid hs1
  have IHL := Lib.hid ihl; have IHM := Lib.hid ihm; have LNL := Lib.hid lnl; have LNM := Lib.hid lnm; have HSZ0 := Lib.hid hsz; have HFB := Lib.hid hFb
  have HSS := Lib.hid (show CpS w.heap.size (.slice A1 x.l.length c1) (.slice A2 x.m.length c2) W1.drew from ⟨(cells5 hP).1.2.2.2.1, (cells5 hP).1.2.2.2.2⟩)
  clear hl hm h hW hP hB hbA hc1 hc2 ihl ihm lnl lnm hs1 hln hsz hFb
  go_enter Tryz.func101, Tryz.ntmps101
  go_upto_region 1 with (fail)
  rw [HW.out]
  go_wp2_with fail
  refine PrintLast.wp_region_last_drew (S := CpS w.heap.size (.slice A1 x.l.length c1) (.slice A2 x.m.length c2)) (ds := [7, 9]) (by kernel_rfl) HSS.out (fun hHeld => ?_)
  refine PrintLast.tk 0 (v := ?_) rfl (by assumption) ?_ ?_
  rotate_left
  · (intro w hSw; obtain ⟨s3, s4⟩ := hSw; go_simp; try (with_reducible rfl))
  try simp only [lay]
  refine PrintLast.tk 1 (v := ?_) rfl (by assumption) ?_ ?_
  rotate_left
  · (intro w hSw; obtain ⟨s3, s4⟩ := hSw; go_simp; try (with_reducible rfl))
  try simp only [lay]
  refine PrintLast.tk 3 (v := ?_) rfl (by assumption) ?_ ?_
  rotate_left
  · (intro w hSw; obtain ⟨s3, s4⟩ := hSw; go_simp; try (with_reducible rfl))
  try simp only [lay]
  refine PrintLast.tk 4 (v := ?_) rfl (by assumption) ?_ ?_
  rotate_left
  · (intro w hSw; obtain ⟨s3, s4⟩ := hSw; go_simp; try (with_reducible rfl))
  try simp only [lay]
  have HK := Lib.hid hHeld
  clear hHeld
  refine PrintLast.wpAnyLast_ready (rs := [2]) (by kernel_rfl) (by simp) ?_
  refine PrintLast.AllReadyL.cons rfl (by decide) (fun K hK => ?_) PrintLast.AllReadyL.nil
  rw [if_pos (by kernel_rfl)]
  go_simp
  go_at_call 140; refine (HC1.out).mono ?_; rintro e w2 ⟨v1, cs1, rfl, hb2, ho1, hch1⟩
  obtain ⟨L1, d1, rfl⟩ := own_sliceB ho1
  have HB2 := Lib.hid hb2; have HO1 := Lib.hid ho1; have HH1 := Lib.hid hch1
  have HC3 := Lib.hid (HC2.out w2 (bel_trans (bel_drew (Below.refl _ _)) hb2))
  clear hb2 ho1 hch1
  go_wp2_with fail
  refine hK.out _ _ ?_ (fun hHeld => ?_)
  · exact CpS.later HK.out HB2.out
  clear hK K
  try simp only [lay]
  clear HK
  have HK := Lib.hid hHeld
  clear hHeld
  refine PrintLast.wpAnyLast_any (i := 6) (v := ?_) rfl (Region.noSelect_spec (by kernel_rfl)) (fun _ _ _ h => h) _ _ _ _ (Region.free_spec rfl (by kernel_rfl)) (List.contains_iff_mem.1 (by kernel_rfl)) (Or.inl ⟨by kernel_rfl, ?_⟩) ?_
  rotate_left
  · (intro w; go_simp; try (with_reducible rfl))
  try simp only [lay]
  refine PrintLast.wpAnyLast_ready (rs := [5]) (by kernel_rfl) (by simp) ?_
  refine PrintLast.AllReadyL.cons rfl (by decide) (fun K hK => ?_) PrintLast.AllReadyL.nil
  rw [if_pos (by kernel_rfl)]
  go_simp
  go_at_call 141; refine (HC3.out).mono ?_; rintro e w3 ⟨v2, cs2, rfl, hb3, ho2, hch2⟩
  obtain ⟨M1, d2, rfl⟩ := own_sliceB ho2
  have HB3 := Lib.hid hb3; have HO2 := Lib.hid ho2; have HH2 := Lib.hid hch2
  clear hb3 ho2 hch2
  go_wp2_with fail
  refine hK.out _ _ ?_ (fun hHeld => ?_)
  · exact CpS.later HK.out HB3.out
  clear hK K hHeld
  try simp only [lay]
  clear HK
  have hP3 := Below.at HB3.out (Below.at HB2.out (show W1.drew.heap[w.heap.size]? = _ from HP.out))
  obtain ⟨⟨p0, p1, p2, p3, p4⟩, ⟨q0, q1, q2, q3, q4⟩, hPw⟩ := cells5 hP3
  have hP4 := heap_setCell_row (i := 4) (v := .slice M1 x.m.length d2) (heap_setCell_row (i := 3) (v := .slice L1 x.l.length d1) hP3)
  have hs1 := HS1.out
  have hs2 := HB2.out.size
  have hs3 := HB3.out.size
  have hB3 : w3.heap[w.heap.size + 1]? = _ := Below.at HB3.out (Below.at HB2.out (show W1.drew.heap[w.heap.size + 1]? = _ from HB.out))
  have hB4 : ((w3.setCell ⟨w.heap.size, 3, none⟩ (.slice L1 x.l.length d1)).setCell ⟨w.heap.size, 4, none⟩ (.slice M1 x.m.length d2)).heap[w.heap.size + 1]? = _ :=
    (Below.heap_setCell _ _ _ _ (by show w.heap.size + 1 ≠ w.heap.size; omega)).trans ((Below.heap_setCell _ _ _ _ (by show w.heap.size + 1 ≠ w.heap.size; omega)).trans hB3)
  have hb4 := bel_set (p := ⟨w.heap.size, 4, none⟩) (bel_set (p := ⟨w.heap.size, 3, none⟩) (bel_trans (bel_trans (bel_drew HBA.out) HB2.out) HB3.out) (Nat.le_refl _) (.slice L1 x.l.length d1)) (Nat.le_refl _) (.slice M1 x.m.length d2)
  have hg4 : w3.grownBy ((w3.setCell ⟨w.heap.size, 3, none⟩ (.slice L1 x.l.length d1)).setCell ⟨w.heap.size, 4, none⟩ (.slice M1 x.m.length d2)) (some w.heap.size) := grown_trans (grown_set _) (grown_set _)
  have hsz4 : ((w3.setCell ⟨w.heap.size, 3, none⟩ (.slice L1 x.l.length d1)).setCell ⟨w.heap.size, 4, none⟩ (.slice M1 x.m.length d2)).heap.size = w3.heap.size := by simp [World.setCell]
  have hLb : ∀ j, (Value.slice L1 x.l.length d1).ownBlock = some j → W1.heap.size ≤ j ∧ j < w2.heap.size := fun j hj => HO1.out.lt j hj
  have hMb : ∀ j, (Value.slice M1 x.m.length d2).ownBlock = some j → w2.heap.size ≤ j ∧ j < w3.heap.size := fun j hj => HO2.out.lt j hj
  have hTL : CpT jvTy 43 W1.heap.size w3.heap.size F' (.slice L1 x.l.length d1) x.l 0 ((w3.setCell ⟨w.heap.size, 3, none⟩ (.slice L1 x.l.length d1)).setCell ⟨w.heap.size, 4, none⟩ (.slice M1 x.m.length d2)) := by
    refine ⟨[], cs1, World.ownsRow.kept (own_laterB HO1.out HB3.out) hg4 ?_, rfl, ?_⟩
    · rcases hv : (Value.slice L1 x.l.length d1).ownBlock with _ | j
      · exact .inl rfl
      · exact .inr (fun e => by have := hLb j hv; have := Option.some.inj e; omega)
    · exact ((HH1.out.later HB3.out).bound.frame (fun b hb => hg4.block b hb.2 (fun e => by have := Option.some.inj e; have := HFB.out b hb.1; omega))).mono (fun b h => h.1)
  have hTM : CpT memTy 49 W1.heap.size w3.heap.size F' (.slice M1 x.m.length d2) x.m 0 ((w3.setCell ⟨w.heap.size, 3, none⟩ (.slice L1 x.l.length d1)).setCell ⟨w.heap.size, 4, none⟩ (.slice M1 x.m.length d2)) := by
    have ho2 : w3.ownsRow W1.heap.size 49 6 (.slice M1 x.m.length d2) x.m.length cs2 := own_baseK HO2.out (by omega)
    refine ⟨[], cs2, World.ownsRow.kept ho2 hg4 ?_, rfl, ?_⟩
    · rcases hv : (Value.slice M1 x.m.length d2).ownBlock with _ | j
      · exact .inl rfl
      · exact .inr (fun e => by have := hMb j hv; have := Option.some.inj e; omega)
    · exact (HH2.out.bound.frame (fun b hb => hg4.block b hb.2 (fun e => by have := Option.some.inj e; have := HFB.out b hb.1; omega))).mono (fun b h => h.1)
  have HTL := Lib.hid hTL; have HTM := Lib.hid hTM
  have HCO := Lib.hid (show CpO w (w.heap.size + 1) w3.heap.size #[.int .i64 x.k, .int .i64 x.n, .string x.s, .slice L1 x.l.length d1, .slice M1 x.m.length d2] ((w3.setCell ⟨w.heap.size, 3, none⟩ (.slice L1 x.l.length d1)).setCell ⟨w.heap.size, 4, none⟩ (.slice M1 x.m.length d2)) from ⟨by simpa using hP4, hB4, hb4, by rw [hsz4]; exact Nat.le_refl _⟩)
  have HLB := Lib.hid hLb; have HMB := Lib.hid hMb
  have hZZ : w.heap.size + 2 ≤ W1.heap.size ∧ W1.heap.size ≤ w2.heap.size ∧ w2.heap.size ≤ w3.heap.size := by omega
  clear hTL hTM hP4 hB4 hb4 hg4 hsz4 hLb hMb hP3 hB3 hs1 hs2 hs3 HO1 HO2 HH1 HH2 HC1 HC2 HC3 HSS
  refine PrintLast.wpAnyLast_ready (rs := [7]) (by kernel_rfl) (by simp) ?_
  refine PrintLast.AllReadyL.cons_last rfl (by decide) (fun K hK => ?_) PrintLast.AllReadyL.nil
  rw [if_pos (by kernel_rfl)]
  go_simp
  refine hK.out _ _ ?_
  clear hK K
  try simp only [lay]
  refine PrintLast.wpAnyLast_any (i := 8) (v := ?_) rfl (Region.noSelect_spec (by kernel_rfl)) (fun _ _ _ h => h) _ _ _ _ (Region.free_spec rfl (by kernel_rfl)) (List.contains_iff_mem.1 (by kernel_rfl)) (Or.inl ⟨by kernel_rfl, ?_⟩) ?_
  rotate_left
  · (intro w; go_simp; try (with_reducible rfl))
  try simp only [lay]
  refine PrintLast.wpAnyLast_ready (rs := [9]) (by kernel_rfl) (by simp) ?_
  refine PrintLast.AllReadyL.cons_last rfl (by decide) (fun K hK => ?_) PrintLast.AllReadyL.nil
  rw [if_pos (by kernel_rfl)]
  go_simp
  refine hK.out _ _ ?_
  clear hK K
  try simp only [lay]
  refine PrintLast.wpAnyLast_done (by kernel_rfl) ?_ _
  clear p0 p1 p2 p3 p4 q0 q1 q2 q3 q4 hPw HP HB HBA HB2 HB3 HW
  generalize (w3.setCell ⟨w.heap.size, 3, none⟩ (.slice L1 x.l.length d1)).setCell ⟨w.heap.size, 4, none⟩ (.slice M1 x.m.length d2) = W4 at *
  generalize w3.heap.size = Z3 at *
  generalize w2.heap.size = Z2 at *
  obtain ⟨⟨p0, p1, p2, p3, p4⟩, ⟨q0, q1, q2, q3, q4⟩, hPw⟩ := cells5 HCO.out.1
  go_wp2_with fail
  go_loopg [18] x.l.length (fun gg s18 wr => ∃ k : Nat, k ≤ x.l.length ∧ x.l.length - k ≤ gg ∧ s18 = .int .i64 k ∧ Aside (CpT jvTy 43 W1.heap.size Z3 F' (.slice L1 x.l.length d1) x.l k wr ∧ CpT memTy 49 W1.heap.size Z3 F' (.slice M1 x.m.length d2) x.m 0 wr ∧ CpO w (w.heap.size + 1) Z3 #[.int .i64 x.k, .int .i64 x.n, .string x.s, .slice L1 x.l.length d1, .slice M1 x.m.length d2] wr))
  case atStart => exact ⟨0, Nat.zero_le _, by omega, rfl, HTL.out, HTM.out, HCO.out⟩
  case round =>
    clear HTL HTM HCO p0 p1 p2 p3 p4 q0 q1 q2 q3 q4 hPw
    obtain ⟨k, hk, hgg, rfl, hrl⟩ := hrel
    obtain ⟨htl, htm, hco⟩ := hrl
    have HTL2 := Lib.hid htl; have HTM2 := Lib.hid htm; have HCO2 := Lib.hid hco
    obtain ⟨⟨p0, p1, p2, p3, p4⟩, ⟨q0, q1, q2, q3, q4⟩, hPw⟩ := cells5 hco.1
    clear htl htm hco
    by_cases hlt : k < x.l.length
    · have hltz : (k : Int) < (x.l.length : Int) := by omega
      obtain ⟨q, hx⟩ : ∃ p, x.l[k]? = some p := get_ex (by omega)
      obtain ⟨cs1, c0, cs2, g, c, hV, hbg, hl1, ho, hch1, hR0, hch2⟩ := HTL2.out.open hx
      obtain ⟨rfl, rfl⟩ : L1 = some ⟨g, 0, none⟩ ∧ d1 = c := by simpa using hV
      have hjr := hR0
      obtain ⟨C1, k1, f1, C2, k2, f2, rfl⟩ := JR_form hjr
      clear hR0
      have hk0 : (0 : Int) ≤ (k : Int) := by omega
      have hl1' : cs1.length = k * 5 := hl1
      have hgt : ∀ j u, [.int .i64 q.k, .int .i64 q.n, .string q.s, .slice C1 k1 f1, .slice C2 k2 f2][j]? = some u → wr.cell? ⟨g, k * 5 + j, none⟩ = some u := fun j u hj => own_at ho (by
        rw [← hl1', List.getElem?_append_right (by omega), Nat.add_sub_cancel_left, List.getElem?_append_left (lt_of_get hj)]; exact hj)
      have r0 : wr.cell? ⟨g, k * 5, none⟩ = some (.int .i64 q.k) := hgt 0 _ rfl
      have r1 : wr.cell? ⟨g, k * 5 + 1, none⟩ = some (.int .i64 q.n) := hgt 1 _ rfl
      have r2 : wr.cell? ⟨g, k * 5 + 2, none⟩ = some (.string q.s) := hgt 2 _ rfl
      have r3 : wr.cell? ⟨g, k * 5 + 3, none⟩ = some (.slice C1 k1 f1) := hgt 3 _ rfl
      have r4 : wr.cell? ⟨g, k * 5 + 4, none⟩ = some (.slice C2 k2 f2) := hgt 4 _ rfl
      have hgZ : g < Z3 := by have := (HLB.out g rfl).2; omega
      have hgw : wr.heap.size > g := World.block_lt_of_cell? _ _ r0
      have hcall := fun V (hV : Below wr.heap.size wr V) => IHL.out q (get_mem hx) _ F' V (LNL.out q (get_mem hx)) (JR_later hjr hV)
      have HC := Lib.hid hcall; have HO := Lib.hid ho; have HH1 := Lib.hid hch1; have HH2 := Lib.hid hch2; have HL1 := Lib.hid hl1'; have HX := Lib.hid hx
      have HXW := Lib.hid (heap_alloc_new wr (.cells #[.int .i64 q.k, .int .i64 q.n, .string q.s, .slice C1 k1 f1, .slice C2 k2 f2] 43))
      clear hcall ho hch1 hch2 hl1 hl1' hx hjr hgt hV
      go_upto_region 5 with (fail)
      have hal := bel_alloc (Below.refl wr.heap.size wr) (.cells #[.int .i64 q.k, .int .i64 q.n, .string q.s, .slice C1 k1 f1, .slice C2 k2 f2] 43)
      have HAL := Lib.hid hal
      have p3' := cell_later' hal p3
      obtain ⟨⟨x0, x1, x2, x3, x4⟩, _, hXw⟩ := cells5 HXW.out
      have HS := Lib.hid (show CpX w.heap.size wr.heap.size 3 0 (.slice (some ⟨g, 0, none⟩) x.l.length d1) (.int .i64 q.k) (.int .i64 q.n) (.string q.s) (.slice C1 k1 f1) (.slice C2 k2 f2) (wr.alloc (.cells #[.int .i64 q.k, .int .i64 q.n, .string q.s, .slice C1 k1 f1, .slice C2 k2 f2] 43)).drew from ⟨p3', x0, x1, x2, x3, x4⟩)
      clear hal p3' x0 x1 x2 x3 x4 hXw HXW r0 r1 r2 r3 r4
      go_wp2_with fail
      refine PrintLast.wp_region_last_drew (S := CpX w.heap.size wr.heap.size 3 0 (.slice (some ⟨g, 0, none⟩) x.l.length d1) (.int .i64 q.k) (.int .i64 q.n) (.string q.s) (.slice C1 k1 f1) (.slice C2 k2 f2)) (ds := [6]) (by kernel_rfl) HS.out (fun hHeld => ?_)
      refine PrintLast.tk 0 (v := ?_) rfl (by assumption) ?_ ?_
      rotate_left
      · (intro w hSw; obtain ⟨s3, x0, x1, x2, x3, x4⟩ := hSw; go_simp; try (with_reducible rfl))
      try simp only [lay]
      refine PrintLast.tk 1 (v := ?_) rfl (by assumption) ?_ ?_
      rotate_left
      · (intro w hSw; obtain ⟨s3, x0, x1, x2, x3, x4⟩ := hSw; go_simp; try (with_reducible rfl))
      try simp only [lay]
      refine PrintLast.tk 2 (v := ?_) rfl (by assumption) ?_ ?_
      rotate_left
      · (intro w hSw; obtain ⟨s3, x0, x1, x2, x3, x4⟩ := hSw; go_simp; try (with_reducible rfl))
      try simp only [lay]
      refine PrintLast.tk 3 (v := ?_) rfl (by assumption) ?_ ?_
      rotate_left
      · (intro w hSw; obtain ⟨s3, x0, x1, x2, x3, x4⟩ := hSw; go_simp; try (with_reducible rfl))
      try simp only [lay]
      have HK := Lib.hid hHeld
      clear hHeld
      refine PrintLast.wpAnyLast_ready (rs := [4]) (by kernel_rfl) (by simp) ?_
      refine PrintLast.AllReadyL.cons rfl (by decide) (fun K hK => ?_) PrintLast.AllReadyL.nil
      rw [if_pos (by kernel_rfl)]
      go_simp
      go_at_call 101; refine (HC.out _ (bel_drew HAL.out)).mono ?_; rintro e w5 ⟨⟨D1, j1, g1, D2, j2, g2, rfl, hjr⟩, hb5⟩
      have HJ := Lib.hid hjr; have HB5 := Lib.hid (bel_trans (bel_drew HAL.out) hb5); have HB6 := Lib.hid hb5
      clear hjr hb5
      go_wp2_with fail
      refine hK.out _ _ ?_ (fun hHeld => ?_)
      · exact CpX.later HK.out HB6.out
      clear hK K hHeld
      try simp only [lay]
      clear HK
      have ho5 := own_laterB HO.out HB5.out
      have e0 := own_at ho5 (j := k * 5) (u := .int .i64 q.k) (by rw [← HL1.out, List.getElem?_append_right (by omega)]; simp)
      have e1 := own_at ho5 (j := k * 5 + 1) (u := .int .i64 q.n) (by rw [← HL1.out, List.getElem?_append_right (by omega)]; simp)
      have e2 := own_at ho5 (j := k * 5 + 2) (u := .string q.s) (by rw [← HL1.out, List.getElem?_append_right (by omega)]; simp)
      have e3 := own_at ho5 (j := k * 5 + 3) (u := .slice C1 k1 f1) (by rw [← HL1.out, List.getElem?_append_right (by omega)]; simp)
      have e4 := own_at ho5 (j := k * 5 + 4) (u := .slice C2 k2 f2) (by rw [← HL1.out, List.getElem?_append_right (by omega)]; simp)
      have z0 := own_frozen ho5 (k * 5)
      have z1 := own_frozen ho5 (k * 5 + 1)
      have z2 := own_frozen ho5 (k * 5 + 2)
      have z3 := own_frozen ho5 (k * 5 + 3)
      have z4 := own_frozen ho5 (k * 5 + 4)
      have hgr := grown5 w5 g (k * 5) (k * 5 + 1) (k * 5 + 2) (k * 5 + 3) (k * 5 + 4) (.int .i64 q.k) (.int .i64 q.n) (.string q.s) (.slice D1 j1 g1) (.slice D2 j2 g2)
      have hput := own_put5 (.int .i64 q.k) (.int .i64 q.n) (.string q.s) (.slice D1 j1 g1) (.slice D2 j2 g2) (by exact own_laterB HO.out HB5.out) (by exact HL1.out)
      have hjz : JR w5 (fun b => Z3 ≤ b) q [.int .i64 q.k, .int .i64 q.n, .string q.s, .slice D1 j1 g1, .slice D2 j2 g2] := JR_mono (fun b hb => by
        have h1 := HAL.out.size
        have h2 : Z3 ≤ wr.heap.size := HCO2.out.2.2.2
        have hb' : (wr.alloc (.cells #[.int .i64 q.k, .int .i64 q.n, .string q.s, .slice C1 k1 f1, .slice C2 k2 f2] 43)).heap.size ≤ b := hb
        omega) _ _ HJ.out
      have hT := CpT.step (Y := jvTy) (T := 43) (base := W1.heap.size) (Z := Z3) (F := F') (n := w.heap.size) (q := q) (c' := [.int .i64 q.k, .int .i64 q.n, .string q.s, .slice D1 j1 g1, .slice D2 j2 g2]) HX.out (HH1.out.later HB5.out) (HH2.out.later HB5.out) hjz (by exact hput) hgr HFB.out (by omega) hgZ
      have hTo := (HTM2.out.later HB5.out).set hgr (fun j hj e => by have h1 := (HMB.out j hj).1; have h2 := (HLB.out g rfl).2; omega) HFB.out (show w.heap.size ≤ g by omega) hgZ
      have hCO := (HCO2.out.later HB5.out).set hgr (by omega) (by omega)
      have HT' := Lib.hid hT; have HTO := Lib.hid hTo; have HCO' := Lib.hid hCO
      clear ho5 hgr hput hjz hT hTo hCO HO HH1 HH2 HTL2 HTM2 HCO2
      refine PrintLast.wpAnyLast_any (i := 5) (v := ?_) rfl (Region.noSelect_spec (by kernel_rfl)) (fun _ _ _ h => h) _ _ _ _ (Region.free_spec rfl (by kernel_rfl)) (List.contains_iff_mem.1 (by kernel_rfl)) (Or.inl ⟨by kernel_rfl, ?_⟩) ?_
      rotate_left
      · (intro w; go_simp; try (with_reducible rfl))
      try simp only [lay]
      refine PrintLast.wpAnyLast_ready (rs := [6]) (by kernel_rfl) (by simp) ?_
      refine PrintLast.AllReadyL.cons_last rfl (by decide) (fun K hK => ?_) PrintLast.AllReadyL.nil
      rw [if_pos (by kernel_rfl)]
      go_simp
      refine hK.out _ _ ?_
      clear hK K
      try simp only [lay]
      refine PrintLast.wpAnyLast_done (by kernel_rfl) ?_ _
      generalize (((((w5.setCell ⟨g, k * 5, none⟩ (.int .i64 q.k)).setCell ⟨g, k * 5 + 1, none⟩ (.int .i64 q.n)).setCell ⟨g, k * 5 + 2, none⟩ (.string q.s)).setCell ⟨g, k * 5 + 3, none⟩ (.slice D1 j1 g1)).setCell ⟨g, k * 5 + 4, none⟩ (.slice D2 j2 g2)) = WF at *
      clear e0 e1 e2 e3 e4 z0 z1 z2 z3 z4
      go_wp2_with fail
      go_roundg (x.l.length - (k + 1))
      case measure => omega
      case rel => exact ⟨k + 1, by omega, by omega, by simp, HT'.out, HTO.out, HCO'.out⟩
    · have hltz : ¬ (k : Int) < (x.l.length : Int) := by omega
      obtain rfl : k = x.l.length := by omega
      have HTL := HTL2; have HTM := HTM2; have HCO := HCO2
      go_wp2_with fail
      go_loopg [33] x.m.length (fun gg s33 wr => ∃ k : Nat, k ≤ x.m.length ∧ x.m.length - k ≤ gg ∧ s33 = .int .i64 k ∧ Aside (CpT jvTy 43 W1.heap.size Z3 F' (.slice L1 x.l.length d1) x.l x.l.length wr ∧ CpT memTy 49 W1.heap.size Z3 F' (.slice M1 x.m.length d2) x.m k wr ∧ CpO w (w.heap.size + 1) Z3 #[.int .i64 x.k, .int .i64 x.n, .string x.s, .slice L1 x.l.length d1, .slice M1 x.m.length d2] wr))
      case atStart => exact ⟨0, Nat.zero_le _, by omega, rfl, HTL.out, HTM.out, HCO.out⟩
      case round =>
        clear HTL HTM HCO HTL2 HTM2 HCO2 p0 p1 p2 p3 p4 q0 q1 q2 q3 q4 hPw
        obtain ⟨k', hk', hgg', rfl, hrl'⟩ := hrel
        obtain ⟨htl, htm, hco⟩ := hrl'
        have HTL2 := Lib.hid htl; have HTM2 := Lib.hid htm; have HCO2 := Lib.hid hco
        obtain ⟨⟨p0, p1, p2, p3, p4⟩, ⟨q0, q1, q2, q3, q4⟩, hPw⟩ := cells5 hco.1
        clear htl htm hco
        by_cases hlt' : k' < x.m.length
        · have hltz' : (k' : Int) < (x.m.length : Int) := by omega
          obtain ⟨⟨nm, q⟩, hx⟩ : ∃ p, x.m[k']? = some p := get_ex (by omega)
          obtain ⟨cs1, c0, cs2, g, c, hV, hbg, hl1, ho, hch1, hR0, hch2⟩ := HTM2.out.open hx
          obtain ⟨rfl, rfl⟩ : M1 = some ⟨g, 0, none⟩ ∧ d2 = c := by simpa using hV
          obtain ⟨c5, ⟨rfl, hnz⟩, hjr⟩ := hR0
          obtain ⟨C1, k1, f1, C2, k2, f2, rfl⟩ := JR_form hjr
          have HNZ := Lib.hid hnz
          have hk0 : (0 : Int) ≤ (k' : Int) := by omega
          have hl1' : cs1.length = k' * 6 := hl1
          have hgt : ∀ j u, [.string nm, .int .i64 q.k, .int .i64 q.n, .string q.s, .slice C1 k1 f1, .slice C2 k2 f2][j]? = some u → wr.cell? ⟨g, k' * 6 + j, none⟩ = some u := fun j u hj => own_at ho (by
            rw [← hl1', List.getElem?_append_right (by omega), Nat.add_sub_cancel_left, List.getElem?_append_left (lt_of_get hj)]; exact hj)
          have r0 : wr.cell? ⟨g, k' * 6, none⟩ = some (.string nm) := hgt 0 _ rfl
          have r1 : wr.cell? ⟨g, k' * 6 + 1, none⟩ = some (.int .i64 q.k) := hgt 1 _ rfl
          have r2 : wr.cell? ⟨g, k' * 6 + 2, none⟩ = some (.int .i64 q.n) := hgt 2 _ rfl
          have r3 : wr.cell? ⟨g, k' * 6 + 3, none⟩ = some (.string q.s) := hgt 3 _ rfl
          have r4 : wr.cell? ⟨g, k' * 6 + 4, none⟩ = some (.slice C1 k1 f1) := hgt 4 _ rfl
          have r5 : wr.cell? ⟨g, k' * 6 + 5, none⟩ = some (.slice C2 k2 f2) := hgt 5 _ rfl
          have hgZ : g < Z3 := by have := (HMB.out g rfl).2; omega
          have hgw : wr.heap.size > g := World.block_lt_of_cell? _ _ r0
          have hcall := fun V (hV : Below wr.heap.size wr V) => IHM.out (nm, q) (get_mem hx) _ F' V (LNM.out (nm, q) (get_mem hx)) (JR_later hjr hV)
          have HC := Lib.hid hcall; have HO := Lib.hid ho; have HH1 := Lib.hid hch1; have HH2 := Lib.hid hch2; have HL1 := Lib.hid hl1'; have HX := Lib.hid hx
          have HXW := Lib.hid (heap_alloc_new wr (.cells #[.string nm, .int .i64 q.k, .int .i64 q.n, .string q.s, .slice C1 k1 f1, .slice C2 k2 f2] 49))
          clear hcall ho hch1 hch2 hl1 hl1' hx hjr hgt hV
          go_upto_region 10 with (fail)
          have hal := bel_alloc (Below.refl wr.heap.size wr) (.cells #[.string nm, .int .i64 q.k, .int .i64 q.n, .string q.s, .slice C1 k1 f1, .slice C2 k2 f2] 49)
          have HAL := Lib.hid hal
          have p4' := cell_later' hal p4
          obtain ⟨⟨x0, x1, x2, x3, x4, x5⟩, _, hXw⟩ := cells6 HXW.out
          have HS := Lib.hid (show CpX w.heap.size wr.heap.size 4 1 (.slice (some ⟨g, 0, none⟩) x.m.length d2) (.int .i64 q.k) (.int .i64 q.n) (.string q.s) (.slice C1 k1 f1) (.slice C2 k2 f2) (wr.alloc (.cells #[.string nm, .int .i64 q.k, .int .i64 q.n, .string q.s, .slice C1 k1 f1, .slice C2 k2 f2] 49)).drew from ⟨p4', x1, x2, x3, x4, x5⟩)
          clear hal p4' x0 x1 x2 x3 x4 x5 hXw HXW r0 r1 r2 r3 r4 r5
          go_wp2_with fail
          refine PrintLast.wp_region_last_drew (S := CpX w.heap.size wr.heap.size 4 1 (.slice (some ⟨g, 0, none⟩) x.m.length d2) (.int .i64 q.k) (.int .i64 q.n) (.string q.s) (.slice C1 k1 f1) (.slice C2 k2 f2)) (ds := [8]) (by kernel_rfl) HS.out (fun hHeld => ?_)
          refine PrintLast.tk 0 (v := ?_) rfl (by assumption) ?_ ?_
          rotate_left
          · (intro w hSw; obtain ⟨s3, x0, x1, x2, x3, x4⟩ := hSw; go_simp; try (with_reducible rfl))
          try simp only [lay]
          refine PrintLast.tk 1 (v := ?_) rfl (by assumption) ?_ ?_
          rotate_left
          · (intro w hSw; obtain ⟨s3, x0, x1, x2, x3, x4⟩ := hSw; go_simp; try (with_reducible rfl))
          try simp only [lay]
          refine PrintLast.tk 2 (v := ?_) rfl (by assumption) ?_ ?_
          rotate_left
          · (intro w hSw; obtain ⟨s3, x0, x1, x2, x3, x4⟩ := hSw; go_simp; try (with_reducible rfl))
          try simp only [lay]
          refine PrintLast.tk 3 (v := ?_) rfl (by assumption) ?_ ?_
          rotate_left
          · (intro w hSw; obtain ⟨s3, x0, x1, x2, x3, x4⟩ := hSw; go_simp; try (with_reducible rfl))
          try simp only [lay]
          refine PrintLast.tk 4 (v := ?_) rfl (by assumption) ?_ ?_
          rotate_left
          · (intro w hSw; obtain ⟨s3, x0, x1, x2, x3, x4⟩ := hSw; go_simp; try (with_reducible rfl))
          try simp only [lay]
          have HK := Lib.hid hHeld
          clear hHeld
          refine PrintLast.wpAnyLast_ready (rs := [5]) (by kernel_rfl) (by simp) ?_
          refine PrintLast.AllReadyL.cons rfl (by decide) (fun K hK => ?_) PrintLast.AllReadyL.nil
          rw [if_pos (by kernel_rfl)]
          go_simp
          go_at_call 101; refine (HC.out _ (bel_drew HAL.out)).mono ?_; rintro e w5 ⟨⟨D1, j1, g1, D2, j2, g2, rfl, hjr⟩, hb5⟩
          have HJ := Lib.hid hjr; have HB5 := Lib.hid (bel_trans (bel_drew HAL.out) hb5); have HB6 := Lib.hid hb5
          clear hjr hb5
          go_wp2_with fail
          refine hK.out _ _ ?_ (fun hHeld => ?_)
          · exact CpX.later HK.out HB6.out
          clear hK K hHeld
          try simp only [lay]
          clear HK
          have ho5 := own_laterB HO.out HB5.out
          have e0 := own_at ho5 (j := k' * 6 + 1) (u := .int .i64 q.k) (by rw [← HL1.out, List.getElem?_append_right (by omega)]; simp)
          have e1 := own_at ho5 (j := k' * 6 + 2) (u := .int .i64 q.n) (by rw [← HL1.out, List.getElem?_append_right (by omega)]; simp)
          have e2 := own_at ho5 (j := k' * 6 + 3) (u := .string q.s) (by rw [← HL1.out, List.getElem?_append_right (by omega)]; simp)
          have e3 := own_at ho5 (j := k' * 6 + 4) (u := .slice C1 k1 f1) (by rw [← HL1.out, List.getElem?_append_right (by omega)]; simp)
          have e4 := own_at ho5 (j := k' * 6 + 5) (u := .slice C2 k2 f2) (by rw [← HL1.out, List.getElem?_append_right (by omega)]; simp)
          have z0 := own_frozen ho5 (k' * 6 + 1)
          have z1 := own_frozen ho5 (k' * 6 + 2)
          have z2 := own_frozen ho5 (k' * 6 + 3)
          have z3 := own_frozen ho5 (k' * 6 + 4)
          have z4 := own_frozen ho5 (k' * 6 + 5)
          have hgr := grown5 w5 g (k' * 6 + 1) (k' * 6 + 2) (k' * 6 + 3) (k' * 6 + 4) (k' * 6 + 5) (.int .i64 q.k) (.int .i64 q.n) (.string q.s) (.slice D1 j1 g1) (.slice D2 j2 g2)
          have hput := own_put5 (.int .i64 q.k) (.int .i64 q.n) (.string q.s) (.slice D1 j1 g1) (.slice D2 j2 g2) (cs1 := cs1 ++ [.string nm]) (by rw [List.append_assoc]; exact own_laterB HO.out HB5.out) (by rw [List.length_append, List.length_singleton, HL1.out])
          have hjz : JR w5 (fun b => Z3 ≤ b) q [.int .i64 q.k, .int .i64 q.n, .string q.s, .slice D1 j1 g1, .slice D2 j2 g2] := JR_mono (fun b hb => by
            have h1 := HAL.out.size
            have h2 : Z3 ≤ wr.heap.size := HCO2.out.2.2.2
            have hb' : (wr.alloc (.cells #[.string nm, .int .i64 q.k, .int .i64 q.n, .string q.s, .slice C1 k1 f1, .slice C2 k2 f2] 49)).heap.size ≤ b := hb
            omega) _ _ HJ.out
          have hT := CpT.step (Y := memTy) (T := 49) (base := W1.heap.size) (Z := Z3) (F := F') (n := w.heap.size) (q := (nm, q)) (c' := [.string nm, .int .i64 q.k, .int .i64 q.n, .string q.s, .slice D1 j1 g1, .slice D2 j2 g2]) HX.out (HH1.out.later HB5.out) (HH2.out.later HB5.out) ⟨_, ⟨rfl, HNZ.out⟩, hjz⟩ (by have h := hput; rw [List.append_assoc] at h; exact h) hgr HFB.out (by omega) hgZ
          have hTo := (HTL2.out.later HB5.out).set hgr (fun j hj e => by have h1 := (HLB.out j hj).2; have h2 := (HMB.out g rfl).1; omega) HFB.out (show w.heap.size ≤ g by omega) hgZ
          have hCO := (HCO2.out.later HB5.out).set hgr (by omega) (by omega)
          have HT' := Lib.hid hT; have HTO := Lib.hid hTo; have HCO' := Lib.hid hCO
          clear ho5 hgr hput hjz hT hTo hCO HO HH1 HH2 HTL2 HTM2 HCO2
          refine PrintLast.wpAnyLast_any (i := 6) (v := ?_) rfl (Region.noSelect_spec (by kernel_rfl)) (fun _ _ _ h => h) _ _ _ _ (Region.free_spec rfl (by kernel_rfl)) (List.contains_iff_mem.1 (by kernel_rfl)) (Or.inl ⟨by kernel_rfl, ?_⟩) ?_
          rotate_left
          · (intro w; go_simp; try (with_reducible rfl))
          try simp only [lay]
          refine PrintLast.wpAnyLast_any (i := 7) (v := ?_) rfl (Region.noSelect_spec (by kernel_rfl)) (fun _ _ _ h => h) _ _ _ _ (Region.free_spec rfl (by kernel_rfl)) (List.contains_iff_mem.1 (by kernel_rfl)) (Or.inl ⟨by kernel_rfl, ?_⟩) ?_
          rotate_left
          · (intro w; go_simp; try (with_reducible rfl))
          try simp only [lay]
          refine PrintLast.wpAnyLast_ready (rs := [8]) (by kernel_rfl) (by simp) ?_
          refine PrintLast.AllReadyL.cons_last rfl (by decide) (fun K hK => ?_) PrintLast.AllReadyL.nil
          rw [if_pos (by kernel_rfl)]
          go_simp
          refine hK.out _ _ ?_
          clear hK K
          try simp only [lay]
          refine PrintLast.wpAnyLast_done (by kernel_rfl) ?_ _
          generalize (((((w5.setCell ⟨g, k' * 6 + 1, none⟩ (.int .i64 q.k)).setCell ⟨g, k' * 6 + 2, none⟩ (.int .i64 q.n)).setCell ⟨g, k' * 6 + 3, none⟩ (.string q.s)).setCell ⟨g, k' * 6 + 4, none⟩ (.slice D1 j1 g1)).setCell ⟨g, k' * 6 + 5, none⟩ (.slice D2 j2 g2)) = WF at *
          clear e0 e1 e2 e3 e4 z0 z1 z2 z3 z4
          go_wp2_with fail
          go_roundg (x.m.length - (k' + 1))
          case measure => omega
          case rel => exact ⟨k' + 1, by omega, by omega, by simp, HTO.out, HT'.out, HCO'.out⟩
        · have hltz' : ¬ (k' : Int) < (x.m.length : Int) := by omega
          obtain rfl : k' = x.m.length := by omega
          obtain ⟨⟨b0, b1, b2, b3, b4⟩, ⟨g0, g1, g2, g3, g4⟩, hBw⟩ := cells5 HCO2.out.2.1
          have hf := set5 (.int .i64 x.k) (.int .i64 x.n) (.string x.s) (.slice L1 x.l.length d1) (.slice M1 x.m.length d2) HCO2.out.2.1
          have hsl1 := (HTL2.out.sl (n := w.heap.size + 2) (Nat.le_refl _) (by omega) (by omega)).frame (w' := (((((wr.setCell ⟨w.heap.size + 1, 0, none⟩ (.int .i64 x.k)).setCell ⟨w.heap.size + 1, 1, none⟩ (.int .i64 x.n)).setCell ⟨w.heap.size + 1, 2, none⟩ (.string x.s)).setCell ⟨w.heap.size + 1, 3, none⟩ (.slice L1 x.l.length d1)).setCell ⟨w.heap.size + 1, 4, none⟩ (.slice M1 x.m.length d2))) (fun b hb => set5_other _ _ _ _ _ (by omega))
          have hsl2 := (HTM2.out.sl (n := w.heap.size + 2) (Nat.le_refl _) (by omega) (by omega)).frame (w' := (((((wr.setCell ⟨w.heap.size + 1, 0, none⟩ (.int .i64 x.k)).setCell ⟨w.heap.size + 1, 1, none⟩ (.int .i64 x.n)).setCell ⟨w.heap.size + 1, 2, none⟩ (.string x.s)).setCell ⟨w.heap.size + 1, 3, none⟩ (.slice L1 x.l.length d1)).setCell ⟨w.heap.size + 1, 4, none⟩ (.slice M1 x.m.length d2))) (fun b hb => set5_other _ _ _ _ _ (by omega))
          have hjj := JR_iff.2 ⟨.slice L1 x.l.length d1, .slice M1 x.m.length d2, ⟨rfl, HSZ0.out⟩, hsl1.mono (F' := fun b => w.heap.size ≤ b) (fun b hb => by omega), hsl2.mono (F' := fun b => w.heap.size ≤ b) (fun b hb => by omega)⟩
          have hb5 := bel_set (p := ⟨w.heap.size + 1, 4, none⟩) (bel_set (p := ⟨w.heap.size + 1, 3, none⟩) (bel_set (p := ⟨w.heap.size + 1, 2, none⟩) (bel_set (p := ⟨w.heap.size + 1, 1, none⟩) (bel_set (p := ⟨w.heap.size + 1, 0, none⟩) HCO2.out.2.2.1 (Nat.le_succ _) (.int .i64 x.k)) (Nat.le_succ _) (.int .i64 x.n)) (Nat.le_succ _) (.string x.s)) (Nat.le_succ _) (.slice L1 x.l.length d1)) (Nat.le_succ _) (.slice M1 x.m.length d2)
          have hfz : ∀ g o, (L1 = some ⟨g, o, none⟩ ∨ M1 = some ⟨g, o, none⟩) → ∀ j, (((((wr.setCell ⟨w.heap.size + 1, 0, none⟩ (.int .i64 x.k)).setCell ⟨w.heap.size + 1, 1, none⟩ (.int .i64 x.n)).setCell ⟨w.heap.size + 1, 2, none⟩ (.string x.s)).setCell ⟨w.heap.size + 1, 3, none⟩ (.slice L1 x.l.length d1)).setCell ⟨w.heap.size + 1, 4, none⟩ (.slice M1 x.m.length d2)).frozen? ⟨g, j, none⟩ = false := fun g o hg j => by
            have hfr : wr.frozen? ⟨g, j, none⟩ = false := by
              rcases hg with hg | hg
              · obtain ⟨_, _, ho, _, _⟩ := HTL2.out; rw [hg] at ho; exact own_frozen' ho j
              · obtain ⟨_, _, ho, _, _⟩ := HTM2.out; rw [hg] at ho; exact own_frozen' ho j
            rw [World.frozen?_setCell, World.frozen?_setCell, World.frozen?_setCell, World.frozen?_setCell, World.frozen?_setCell]
            exact hfr
          have HF5 := Lib.hid hf; have HJJ := Lib.hid hjj; have HB5 := Lib.hid hb5; have HFZ := Lib.hid hfz
          have HNE := Lib.hid (show ∀ g o g' o', L1 = some ⟨g, o, none⟩ → M1 = some ⟨g', o', none⟩ → g ≠ g' from fun g o g' o' h1 h2 e => by
            have e1 := (HLB.out g (by rw [h1]; rfl)).2
            have e2 := (HMB.out g' (by rw [h2]; rfl)).1
            omega)
          clear hf hjj hb5 hsl1 hsl2 hfz
          go_wp2_with fail
          exact bodyPost_ret (results_cell_row rfl _ _ (w.heap.size + 1) 43 #[.int .i64 x.k, .int .i64 x.n, .string x.s, .slice L1 x.l.length d1, .slice M1 x.m.length d2] (0, 0) _ rfl HF5.out Tryz.underlying43 rfl (by kernel_rfl)) rfl ⟨⟨L1, _, d1, M1, _, d2, rfl, HJJ.out, HFZ.out, HNE.out⟩, HB5.out⟩
theorem copy_step (x : JV) (ihl : ∀ q ∈ x.l, CpAt q) (ihm : ∀ q ∈ x.m, CpAt q.2) : CpAt x := fun cs F w hln h =>
  (copy_strong x ihl ihm cs F w hln h).mono fun _ _ ⟨⟨A1, n1, c1, A2, n2, c2, h1, h2, _⟩, hb⟩ => ⟨⟨A1, n1, c1, A2, n2, c2, h1, h2⟩, hb⟩
theorem copy_any (x : JV) : CpAt x := by
  have key : ∀ (n : Nat) (x : JV), SizeOf.sizeOf x < n → CpAt x := fun n => by
    induction n with
    | zero => intro x h; omega
    | succ n ih =>
      intro x h
      exact copy_step x (fun q hq => ih q (by have := val_size' hq; omega)) (fun q hq => ih q.2 (by have := mem_size hq; omega))
  exact key _ x (Nat.lt_succ_self _)
end Go.Proofs.YtlihjmfdnkfmfaaGreatDoor
