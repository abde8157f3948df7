/- Marks: the document's Add: plain laws, and its walk. -/
import Derived.Test.YtopfdnflejbgaaaMkQ
namespace Go.Proofs.Ytopfdnflejbgaaa
open Go.RowKit

/-- what the document's loop has gathered behind the first k marks -/
def RefInv (xs : List Mk) (m : Mk) (k : Nat) (out : List Mk) (laid : Bool) : Prop :=
  ∃ ys, ys = (xs.take k).filter (fun x => !domB m x) ∧
    ((laid = false ∧ out = ys ∧ ∀ y, y ∈ ys → m.t < y.t) ∨ (laid = true ∧ placeMk ys m < ys.length ∧ out = insMk ys (placeMk ys m) m))
theorem RefInv.zero (xs : List Mk) (m : Mk) : RefInv xs m 0 [] false := ⟨[], by simp, .inl ⟨rfl, rfl, fun y hy => by cases hy⟩⟩
theorem placeMk_snoc {ys : List Mk} {m x : Mk} (h : placeMk ys m < ys.length) : placeMk (ys ++ [x]) m = placeMk ys m := by
  unfold placeMk at h ⊢
  rw [List.findIdx_append, if_pos h]
theorem insMk_snoc {ys : List Mk} {m x : Mk} {i : Nat} (h : i ≤ ys.length) : insMk (ys ++ [x]) i m = insMk ys i m ++ [x] := by
  unfold insMk
  rw [List.take_append_of_le_length h, List.drop_append_of_le_length h]; simp
theorem RefInv.skip {xs out : List Mk} {m x : Mk} {k : Nat} {laid : Bool} (h : RefInv xs m k out laid) (hx : xs[k]? = some x) (hd : domB m x = true) : RefInv xs m (k + 1) out laid := by
  obtain ⟨ys, rfl, h⟩ := h
  refine ⟨_, rfl, ?_⟩
  rw [filter_take_succ (q := fun x => !domB m x) hx]
  simpa [hd] using h
theorem RefInv.late {xs out : List Mk} {m x : Mk} {k : Nat} (h : RefInv xs m k out true) (hx : xs[k]? = some x) (hd : domB m x = false) : RefInv xs m (k + 1) (out ++ [x]) true := by
  obtain ⟨ys, hy, ⟨h, _⟩ | ⟨_, h1, h2⟩⟩ := h
  · cases h
  · refine ⟨ys ++ [x], ?_, .inr ⟨rfl, ?_, ?_⟩⟩
    · rw [hy, filter_take_succ (q := fun x => !domB m x) hx, hd]; simp
    · rw [placeMk_snoc h1, List.length_append]; omega
    · rw [placeMk_snoc h1, insMk_snoc (by omega), h2]
theorem RefInv.here {xs out : List Mk} {m x : Mk} {k : Nat} (h : RefInv xs m k out false) (hx : xs[k]? = some x) (hd : domB m x = false) (ht : x.t < m.t) : RefInv xs m (k + 1) (out ++ [m] ++ [x]) true := by
  obtain ⟨ys, hy, ⟨_, rfl, h⟩ | ⟨h, _⟩⟩ := h
  · have hp : placeMk (out ++ [x]) m = out.length := by
      refine placeMk_eq (x := x) (by simp) (by omega) (fun j y hj hy => ?_)
      rw [List.getElem?_append_left hj] at hy
      exact h y (List.mem_of_getElem? hy)
    refine ⟨out ++ [x], ?_, .inr ⟨rfl, ?_, ?_⟩⟩
    · rw [filter_take_succ (q := fun x => !domB m x) hx, hd, ← hy]; simp
    · rw [hp, List.length_append]; simp
    · rw [hp, insMk]; simp
  · cases h
theorem RefInv.before {xs out : List Mk} {m x : Mk} {k : Nat} (h : RefInv xs m k out false) (hx : xs[k]? = some x) (hd : domB m x = false) (hn : domB x m = false) (ht : ¬ x.t < m.t) : RefInv xs m (k + 1) (out ++ [x]) false := by
  obtain ⟨ys, hy, ⟨_, rfl, h⟩ | ⟨h, _⟩⟩ := h
  · refine ⟨out ++ [x], ?_, .inl ⟨rfl, rfl, fun y hy => ?_⟩⟩
    · rw [filter_take_succ (q := fun x => !domB m x) hx, hd, ← hy]; simp
    · rcases List.mem_append.1 hy with hy | hy
      · exact h y hy
      · obtain rfl := List.mem_singleton.1 hy
        simp [domB] at hd hn; omega
  · cases h
theorem RefInv.len {xs out : List Mk} {m : Mk} {k : Nat} {laid : Bool} (h : RefInv xs m k out laid) : out.length ≤ k + 1 := by
  obtain ⟨ys, rfl, h⟩ := h
  have := filter_len_le (q := fun x => !domB m x) xs k
  rcases h with ⟨_, rfl, _⟩ | ⟨_, h1, rfl⟩
  · omega
  · rw [insMk_len _ _ _ (by omega)]; omega
/-- at the end: what Add does -/
theorem RefInv.fin {xs out : List Mk} {m : Mk} {laid : Bool} (h : RefInv xs m xs.length out laid) : (if laid then out else out ++ [m]) = insMk (xs.filter (fun x => !domB m x)) (placeMk (xs.filter (fun x => !domB m x)) m) m := by
  obtain ⟨ys, hy, h⟩ := h
  rw [List.take_length] at hy
  rw [← hy]
  rcases h with ⟨rfl, rfl, h⟩ | ⟨rfl, h1, rfl⟩
  · rw [placeMk_end (fun j y _ hj => h y (List.mem_of_getElem? hj)), insMk_end]; rfl
  · rfl

def RefPost (w : World) (r : List Mk × Int) (e : Ending) (w' : World) : Prop :=
  ∃ v, e = .returned (.tuple #[v, .int .i64 r.2]) ∧ Below w.heap.size w w' ∧ w'.ownsRow w.heap.size 33 2 v r.1.length (mkCells r.1)
end Go.Proofs.Ytopfdnflejbgaaa
