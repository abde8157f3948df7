/- Marks: slices.DeleteFunc at marks. -/
import Derived.Test.YtjjgbgojlhaapaaDoorMkB
namespace Go.Proofs.YtjjgbgojlhaapaaDoor
open Go.RowKit

/-- a predicate that answers in whatever world -/
def Pred0 (fv : Value) (p : Mk → Bool) : Prop :=
  ∃ g fst cap, fv = .func (.func g) fst cap ∧ (∀ args w, (callFunc g args).run Tryd.prog w = .ok (.enter g args) w) ∧
    ∀ (W : World) (x : Mk), Calls Tryd.prog g (fst ++ #[.agg #[.int .i64 x.t, .int .i64 x.u]] ++ cap) W fun e w' => e = .returned (.bool (p x)) ∧ Below W.heap.size W w'
theorem Pred0.at {fv : Value} {p : Mk → Bool} (h : Pred0 fv p) (w : World) : Pred1 fv p w := by
  obtain ⟨g, fst, cap, e, h1, h2⟩ := h
  exact ⟨g, fst, cap, e, h1, fun W x _ => h2 W x⟩

/-- cells of a block as marks -/
def MkAt (w : World) (g : Nat) (m : Nat) (x : Mk) : Prop := w.cell? ⟨g, m * 2, none⟩ = some (.int .i64 x.t) ∧ w.cell? ⟨g, m * 2 + 1, none⟩ = some (.int .i64 x.u)
theorem MkAt.frame {w w' : World} {g m : Nat} {x : Mk} (h : MkAt w g m x) (hb : w'.heap[g]? = w.heap[g]?) : MkAt w' g m x :=
  ⟨(World.cell?_of_block (w := w) (a := ⟨g, m * 2, none⟩) hb).trans h.1, (World.cell?_of_block (w := w) (a := ⟨g, m * 2 + 1, none⟩) hb).trans h.2⟩
/-- a row's block -/
def RowAt (w : World) (g : Nat) (e : TypeId) (size : Nat) : Prop := ∃ cur : Array Value, w.heap[g]? = some (.cells cur e (0, 0)) ∧ cur.size = size
theorem RowAt.frozen {w : World} {g e n : Nat} (h : RowAt w g e n) (i : Nat) : w.frozen? ⟨g, i, none⟩ = false := by
  obtain ⟨cur, h1, _⟩ := h; simp [World.frozen?, h1]
theorem RowAt.some {w : World} {g e n : Nat} (h : RowAt w g e n) (i : Nat) (hi : i < n) : ∃ v, w.cell? ⟨g, i, none⟩ = some v := by
  obtain ⟨cur, h1, rfl⟩ := h; exact ⟨cur[i], by simp [World.cell?, h1, hi]⟩
theorem RowAt.set {w : World} {g e n : Nat} (h : RowAt w g e n) (i : Nat) (u : Value) : RowAt (w.setCell ⟨g, i, none⟩ u) g e n := by
  obtain ⟨cur, h1, rfl⟩ := h
  exact ⟨cur.setIfInBounds i u, by rw [setCell_eq_setRow w g i cur e (0, 0) u h1]; exact setRow_heap w g cur _ e _ h1, by simp⟩
theorem RowAt.frame {w w' : World} {g e n : Nat} (h : RowAt w g e n) (hb : w'.heap[g]? = w.heap[g]?) : RowAt w' g e n := by
  obtain ⟨cur, h1, h2⟩ := h; exact ⟨cur, hb.trans h1, h2⟩
theorem RowAt.lt {w : World} {g e n : Nat} (h : RowAt w g e n) : g < w.heap.size := by
  obtain ⟨cur, h1, _⟩ := h; exact (Array.getElem?_eq_some_iff.1 h1).1

/-- the two stores of a mark -/
def put2 (w : World) (g i : Nat) (x : Mk) : World := (w.setCell ⟨g, i * 2, none⟩ (.int .i64 x.t)).setCell ⟨g, i * 2 + 1, none⟩ (.int .i64 x.u)
theorem put2_same {w : World} {g e n i : Nat} (h : RowAt w g e n) (hi : i * 2 + 1 < n) (x : Mk) : MkAt (put2 w g i x) g i x := by
  obtain ⟨v0, h0⟩ := h.some (i * 2) (by omega)
  obtain ⟨v1, h1⟩ := (h.set (i * 2) (.int .i64 x.t)).some (i * 2 + 1) (by omega)
  refine ⟨?_, ?_⟩
  · unfold put2
    rw [World.cell?_setCell_other _ _ _ _ (by simp)]
    exact World.cell?_setCell_same _ _ _ h0
  · unfold put2
    exact World.cell?_setCell_same _ _ _ h1
theorem put2_other {w : World} {g i m : Nat} {x y : Mk} (h : MkAt w g m y) (hm : m ≠ i) : MkAt (put2 w g i x) g m y := by
  refine ⟨?_, ?_⟩
  · unfold put2
    rw [World.cell?_setCell_other _ _ _ _ (by simp <;> omega), World.cell?_setCell_other _ _ _ _ (by simp <;> omega)]; exact h.1
  · unfold put2
    rw [World.cell?_setCell_other _ _ _ _ (by simp <;> omega), World.cell?_setCell_other _ _ _ _ (by simp <;> omega)]; exact h.2
def mkCells (xs : List Mk) : List Value := xs.flatMap fun x => [.int .i64 x.t, .int .i64 x.u]
theorem mkCells_cons (x : Mk) (xs : List Mk) : mkCells (x :: xs) = .int .i64 x.t :: .int .i64 x.u :: mkCells xs := rfl
theorem mkCells_len (xs : List Mk) : (mkCells xs).length = xs.length * 2 := by
  induction xs with
  | nil => rfl
  | cons x xs ih => rw [mkCells_cons]; simp [ih]; omega
theorem mkCells_chunks (w : World) (F : Nat → Prop) : ∀ xs : List Mk, Chunks mkTy w F xs (mkCells xs)
  | [] => rfl
  | x :: xs => ⟨[.int .i64 x.t, .int .i64 x.u], mkCells xs, rfl, rfl, mkCells_chunks w F xs⟩
theorem mkCells_of_chunks {w : World} {F : Nat → Prop} : ∀ {xs : List Mk} {cs : List Value}, Chunks mkTy w F xs cs → cs = mkCells xs
  | [], _, h => h
  | x :: xs, _, ⟨c, r, e, h1, h2⟩ => by
    obtain rfl : c = [.int .i64 x.t, .int .i64 x.u] := h1
    rw [e, mkCells_of_chunks h2]; rfl
theorem mkCells_get : ∀ (xs : List Mk) (m : Nat) (x : Mk), xs[m]? = some x → (mkCells xs)[m * 2]? = some (.int .i64 x.t) ∧ (mkCells xs)[m * 2 + 1]? = some (.int .i64 x.u)
  | y :: ys, 0, x, h => by
    obtain rfl : y = x := by simpa using h
    exact ⟨rfl, rfl⟩
  | y :: ys, m + 1, x, h => by
    have := mkCells_get ys m x (by simpa using h)
    rw [mkCells_cons, show (m + 1) * 2 = m * 2 + 1 + 1 by omega]
    simpa using this
/-- a block that bears marks is a row of the call's own -/
theorem own_of_mkAt {w : World} {g cap base : Nat} {e : TypeId} {ys : List Mk} (hr : RowAt w g e (cap * 2)) (hb : base ≤ g) (hl : ys.length ≤ cap) (hc : cap ≤ 9223372036854775807) (h : ∀ m x, ys[m]? = some x → MkAt w g m x) :
    w.ownsRow base e 2 (.slice (some ⟨g, 0, none⟩) ys.length cap) ys.length (mkCells ys) := by
  obtain ⟨cur, h1, h2⟩ := hr
  refine ⟨mkCells_len ys, .inr ⟨g, cap, cur, rfl, hb, h1, hl, by simpa [maxLen] using hc, h2, ?_⟩⟩
  apply List.ext_getElem?
  intro k
  by_cases hk : k < ys.length * 2
  · rw [List.getElem?_take, if_pos hk]
    obtain ⟨x, hx⟩ := get_ex (xs := ys) (k := k / 2) (by omega)
    have ha := h _ _ hx
    have hg := mkCells_get _ _ _ hx
    have hcell : ∀ i, w.cell? ⟨g, i, none⟩ = cur[i]? := fun i => by simp [World.cell?, h1]
    rw [MkAt, hcell, hcell] at ha
    rw [Array.getElem?_toList]
    rcases Nat.mod_two_eq_zero_or_one k with e | e
    · rw [show k = k / 2 * 2 by omega, ha.1, hg.1]
    · rw [show k = k / 2 * 2 + 1 by omega, ha.2, hg.2]
  · rw [List.getElem?_eq_none (by simp; omega), List.getElem?_eq_none (by rw [mkCells_len]; omega)]
theorem mkAt_of_own {w : World} {g cap n base : Nat} {e : TypeId} {xs : List Mk} (h : w.ownsRow base e 2 (.slice (some ⟨g, 0, none⟩) n cap) n (mkCells xs)) :
    RowAt w g e (cap * 2) ∧ base ≤ g ∧ xs.length ≤ cap ∧ cap ≤ 9223372036854775807 ∧ n = xs.length ∧ ∀ m x, xs[m]? = some x → MkAt w g m x := by
  have hl : n = xs.length := by have := h.1; rw [mkCells_len] at this; omega
  have hc := h.cells (g := g) rfl
  rcases h.2 with ⟨h0, _⟩ | ⟨g', cap', cur, h0, hg, hh, h1, h2, h3, h4⟩
  · simp at h0
  · simp only [Value.slice.injEq, Option.some.injEq, Addr.mk.injEq, and_true, true_and] at h0
    obtain ⟨rfl, rfl⟩ := h0
    refine ⟨⟨cur, hh, h3⟩, hg, by omega, by simpa [maxLen] using h2, hl, fun m x hx => ?_⟩
    have hg2 := mkCells_get _ _ _ hx
    have a0 := hc _ _ hg2.1
    have a1 := hc _ _ hg2.2
    rw [Addr.add_lit, Nat.zero_add] at a0 a1
    exact ⟨a0, a1⟩

theorem filter_take_succ {q : Mk → Bool} {xs : List Mk} {j : Nat} {x : Mk} (h : xs[j]? = some x) : (xs.take (j + 1)).filter q = (xs.take j).filter q ++ if q x then [x] else [] := by
  have hj := lt_of_get h
  rw [List.take_add_one, h, List.filter_append]
  cases hq : q x <;> simp [hq]
theorem filter_len_le {q : Mk → Bool} (xs : List Mk) (j : Nat) : ((xs.take j).filter q).length ≤ j := Nat.le_trans (List.length_filter_le _ _) (List.length_take_le _ _)
/-- behind the first one that falls -/
theorem filter_first {p : Mk → Bool} {xs : List Mk} {i : Nat} (h : xs.findIdx? p = some i) : (xs.take (i + 1)).filter (fun x => !p x) = xs.take i ∧ i < xs.length := by
  rw [List.findIdx?_eq_some_iff_getElem] at h
  obtain ⟨hi, h1, h2⟩ := h
  refine ⟨?_, hi⟩
  rw [filter_take_succ (List.getElem?_eq_getElem hi), h1]
  simp only [Bool.not_true, Bool.false_eq_true, if_false, List.append_nil]
  rw [List.filter_eq_self]
  intro x hx
  obtain ⟨j, hj, rfl⟩ := List.mem_iff_getElem.1 hx
  rw [List.length_take] at hj
  rw [List.getElem_take]
  have := h2 j (by omega)
  simpa using this
theorem filter_none {p : Mk → Bool} {xs : List Mk} (h : xs.findIdx? p = none) : xs.filter (fun x => !p x) = xs := by
  rw [List.findIdx?_eq_none_iff] at h
  rw [List.filter_eq_self]
  intro x hx
  simp [h x hx]
theorem mkAt_splice {w w' : World} {g off m e : Nat} {cur zs : List Value} {x : Mk} (h : MkAt w g m x) (hm : m * 2 + 1 < off) (hc : w.heap[g]? = some (.cells cur.toArray e (0, 0))) (hc' : w'.heap[g]? = some (.cells (splice cur off zs).toArray e (0, 0))) : MkAt w' g m x := by
  have c0 : ∀ i, w.cell? ⟨g, i, none⟩ = cur[i]? := fun i => by simp [World.cell?, hc]
  have c1 : ∀ i, w'.cell? ⟨g, i, none⟩ = (splice cur off zs)[i]? := fun i => by simp [World.cell?, hc']
  have h0 : ∀ i u, i < off → cur[i]? = some u → (splice cur off zs)[i]? = some u := by
    intro i u hi hu
    have := lt_of_get hu
    rw [splice, List.getElem?_append_left (by rw [List.length_take]; omega), List.getElem?_take, if_pos hi, hu]
  obtain ⟨a, b⟩ := h
  rw [c0] at a b
  exact ⟨(c1 _).trans (h0 _ _ (by omega) a), (c1 _).trans (h0 _ _ (by omega) b)⟩
theorem rowAt_splice {w' : World} {g off e n : Nat} {cur zs : List Value} (hl : cur.length = n) (hz : off + zs.length ≤ n) (hc' : w'.heap[g]? = some (.cells (splice cur off zs).toArray e (0, 0))) : RowAt w' g e n :=
  ⟨_, hc', by rw [List.size_toArray, length_splice _ _ _ (by omega), hl]⟩
end Go.Proofs.YtjjgbgojlhaapaaDoor
