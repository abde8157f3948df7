/- Marks: whether one covers, whether one dominates. -/
import Derived.Test.YtjjgbgojlhaapaaDoorMk
namespace Go.Proofs.YtjjgbgojlhaapaaDoor
open Go.RowKit

theorem any_of_idx (p : Mk → Bool) (xs : List Mk) : decide (0 ≤ idxOf p xs) = xs.any p := by
  unfold idxOf
  cases h : xs.findIdx? p with
  | none =>
    rw [List.findIdx?_eq_none_iff] at h
    have : xs.any p = false := by simp only [List.any_eq_false]; intro x hx; simp [h x hx]
    simp [this]
  | some i =>
    rw [List.findIdx?_eq_some_iff_getElem] at h
    obtain ⟨hi, h1, _⟩ := h
    have : xs.any p = true := List.any_eq_true.2 ⟨_, List.getElem_mem hi, h1⟩
    simp [this]

set_option maxHeartbeats 400000 in
theorem containsFunc_any (fv sv : Value) (p : Mk → Bool) (F : Nat → Prop) (xs : List Mk) (w : World) (hs : Sl mkTy w F sv xs) (hf : Pred1 fv p w) :
    Calls Tryd.prog 33 #[sv, fv] w fun e w' => e = .returned (.bool (xs.any p)) ∧ Below w.heap.size w w' := by
  have h1 := indexFunc_any fv sv p F xs w hs hf
  have h2 := any_of_idx p xs
  generalize idxOf p xs = r at h1 h2
  have H2 := Lib.hid h2; clear h2 hs hf
  go_enter Tryd.func33, Tryd.ntmps33
  go_wp2_with fail
  refine Calls.mono h1 ?_
  rintro e w' ⟨rfl, hb'⟩
  go_wp2_with fail
  go_ret
  exact ⟨ret_bool H2.out, hb'⟩

def domB (m x : Mk) : Bool := decide (x.t ≤ m.t) && decide (x.u ≤ m.u)

set_option maxHeartbeats 400000 in
theorem dominates_any (m x : Mk) (w : World) :
    Calls Tryd.prog 35 #[.agg #[.int .i64 m.t, .int .i64 m.u], .agg #[.int .i64 x.t, .int .i64 x.u]] w fun e w' => e = .returned (.bool (domB m x)) ∧ Below w.heap.size w w' := by
  have hb : Below w.heap.size w ((w.alloc (.cells #[.int .i64 m.t, .int .i64 m.u] 24)).alloc (.cells #[.int .i64 x.t, .int .i64 x.u] 24)) := bel_alloc (bel_alloc (Below.refl _ _) _) _
  unfold domB
  cases h1 : decide (x.t ≤ m.t)
  all_goals
    go_enter Tryd.func35, Tryd.ntmps35
    go_wp2
    go_ret
    exact ⟨rfl, hb⟩

/-- the closure of Covers -/
def covB (num when : Int) (x : Mk) : Bool := decide (when ≤ x.t) && decide (num < x.u)
set_option maxHeartbeats 400000 in
theorem covers1_any (x : Mk) (num when : Int) (A B : Nat) (w : World) (hn : w.cell? ⟨B, 0, none⟩ = some (.int .i64 num)) (hw : w.cell? ⟨A, 0, none⟩ = some (.int .i64 when)) :
    Calls Tryd.prog 42 #[.agg #[.int .i64 x.t, .int .i64 x.u], .pointer (some ⟨A, 0, none⟩), .pointer (some ⟨B, 0, none⟩)] w fun e w' => e = .returned (.bool (covB num when x)) ∧ Below w.heap.size w w' := by
  have l0 : B < w.heap.size := World.block_lt_of_cell? w _ hn
  have l1 : A < w.heap.size := World.block_lt_of_cell? w _ hw
  have hb : Below w.heap.size w (w.alloc (.cells #[.int .i64 x.t, .int .i64 x.u] 24)) := bel_alloc (Below.refl _ _) _
  unfold covB
  cases h1 : decide (when ≤ x.t)
  all_goals
    go_enter Tryd.func42, Tryd.ntmps42
    go_wp2
    go_ret
    exact ⟨rfl, hb⟩

set_option maxHeartbeats 400000 in
theorem covers_any (sv : Value) (num when : Int) (F : Nat → Prop) (xs : List Mk) (w : World) (hs : Sl mkTy w F sv xs) :
    Calls Tryd.prog 12 #[sv, .int .i64 num, .int .i64 when] w fun e w' => e = .returned (.bool (xs.any (covB num when))) ∧ Below w.heap.size w w' := by
  obtain ⟨W, hW⟩ : ∃ W, W = (w.alloc (.cells #[.int .i64 num] 3)).alloc (.cells #[.int .i64 when] 3) := ⟨_, rfl⟩
  have hb : Below w.heap.size w W := by rw [hW]; exact bel_alloc (bel_alloc (Below.refl _ _) _) _
  have c0 : W.cell? ⟨w.heap.size, 0, none⟩ = some (.int .i64 num) := by rw [hW]; simp
  have c1 : W.cell? ⟨w.heap.size + 1, 0, none⟩ = some (.int .i64 when) := by rw [hW]; simp
  have hp : Pred1 (.func (.func 42) #[] #[.pointer (some ⟨w.heap.size + 1, 0, none⟩), .pointer (some ⟨w.heap.size, 0, none⟩)]) (covB num when) W :=
    ⟨_, _, _, rfl, enters_of Tryd.func42 (by kernel_rfl) rfl, fun V x hV => covers1_any x num when _ _ V (cell_later' hV c0) (cell_later' hV c1)⟩
  have hc := containsFunc_any _ _ _ F xs W (hs.below hb) hp
  have HW := Lib.hid hW; clear hp hs
  go_enter Tryd.func12, Tryd.ntmps12
  go_wp2_with fail
  rw [← HW.out]
  refine Calls.mono hc ?_
  rintro e w' ⟨rfl, hb'⟩
  go_wp2_with fail
  go_ret
  exact ⟨rfl, bel_trans hb hb'⟩
end Go.Proofs.YtjjgbgojlhaapaaDoor
