/- Marks: the walk of Add. -/
import Derived.Test.YtjjgbgojlhaapaaDoorMkH
import Derived.Deep.RegionWith
namespace Go.Proofs.YtjjgbgojlhaapaaDoor
open Go.RowKit

/-- slices.Insert at one mark, all roads -/
theorem insertMk_any (base gv i : Nat) (sv : Value) (xs : List Mk) (m : Mk) (w : World) (h : w.ownsRow base 24 2 sv xs.length (mkCells xs)) (hv : MkAt w gv 0 m) (hgr : RowAt w gv 24 2) (hne : some gv ≠ sv.ownBlock) (hbase : base ≤ w.heap.size) (hsz : (xs.length + 1) * 16 ≤ 140737488355328)
    (hin : i ≤ xs.length) :
    Calls Tryd.prog 38 #[sv, .int .i64 i, .slice (some ⟨gv, 0, none⟩) 1 1] w fun e w' => ∃ v', e = .returned v' ∧ w.grownBy w' sv.ownBlock ∧
      w'.ownsRow base 24 2 v' (insMk xs i m).length (mkCells (insMk xs i m)) := by
  rcases h.2 with ⟨rfl, h0⟩ | ⟨g, cap, cur, rfl, _⟩
  · obtain rfl : xs = [] := List.eq_nil_of_length_eq_zero h0
    obtain rfl : i = 0 := by simpa using hin
    exact insertMk_nil base gv m w hv hbase
  · have hrow := mkAt_of_own h
    rcases Nat.lt_or_ge i xs.length with hlt | hge
    · rw [insMk_len xs i m hin]
      rcases Nat.lt_or_ge cap (xs.length + 1) with hc | hc
      · exact insertMk_grow base g cap gv i xs m w h hv hbase hsz hlt hc
      · exact insertMk_room base g cap gv i xs m w h hv hgr (fun e => hne (by rw [e]; rfl)) hlt hc
    · obtain rfl : i = xs.length := by omega
      rw [insMk_len xs _ m (Nat.le_refl _), insMk_end]
      exact insertMk_end_ base g cap gv xs m w h hv hbase hsz

theorem deleteMk_any (fv sv : Value) (p : Mk → Bool) (base : Nat) (xs : List Mk) (w : World) (h : w.ownsRow base 24 2 sv xs.length (mkCells xs)) (hf : Pred0 fv p) :
    Calls Tryd.prog 37 #[sv, fv] w fun e w' => ∃ v ys, e = .returned v ∧ ys = xs.filter (fun x => !p x) ∧ w.grownBy w' sv.ownBlock ∧ v.ownBlock = sv.ownBlock ∧
      w'.ownsRow base 24 2 v ys.length (mkCells ys) := by
  rcases h.2 with ⟨rfl, h0⟩ | ⟨g, cap, cur, rfl, _⟩
  · obtain rfl : xs = [] := List.eq_nil_of_length_eq_zero h0
    have hidx := indexFunc_any fv (.slice none 0 0) p (fun _ => False) [] w (Sl.nil none 0) (hf.at w)
    obtain ⟨f, fst, cp, rfl, eg, hp⟩ := hf
    have hi : idxOf p [] = -1 := rfl
    rw [hi] at hidx
    clear h h0 hp hi
    go_enter Tryd.func37, Tryd.ntmps37
    go_wp2_with fail
    refine Calls.mono hidx ?_
    rintro e w' ⟨rfl, hb'⟩
    go_wp2_with fail
    go_ret
    exact ⟨_, [], rfl, rfl, grown_of_bel hb' _, rfl, World.ownsRow_nil _ _ _ _⟩
  · refine (deleteMk_row fv p base g cap xs w h hf).mono ?_
    rintro e w' ⟨ys, rfl, hy, hg, ho⟩
    exact ⟨_, ys, rfl, hy, hg, rfl, ho⟩

/-- the closure of Add -/
theorem add1_any (x m : Mk) (A : Nat) (w : World) (h0 : w.cell? ⟨A, 0, none⟩ = some (.int .i64 m.t)) (h1 : w.cell? ⟨A, 1, none⟩ = some (.int .i64 m.u)) :
    Calls Tryd.prog 34 #[.agg #[.int .i64 x.t, .int .i64 x.u], .pointer (some ⟨A, 0, none⟩)] w fun e w' => e = .returned (.bool (domB x m)) ∧ Below w.heap.size w w' := by
  have l0 : A < w.heap.size := World.block_lt_of_cell? w _ h0
  have hd := fun W => dominates_any x m W
  have hb : Below w.heap.size w (w.alloc (.cells #[.int .i64 x.t, .int .i64 x.u] 24)) := bel_alloc (Below.refl _ _) _
  go_enter Tryd.func34, Tryd.ntmps34
  go_wp2_with fail
  refine Calls.mono (hd _) ?_
  rintro e w' ⟨rfl, hb'⟩
  go_wp2_with fail
  go_ret
  exact ⟨rfl, bel_trans hb hb'⟩

theorem dom_pred0 (m : Mk) : Pred0 (.func (.func 35) #[.agg #[.int .i64 m.t, .int .i64 m.u]] #[]) (domB m) :=
  ⟨_, _, _, rfl, enters_of Tryd.func35 (by kernel_rfl) rfl, fun W x => dominates_any m x W⟩
end Go.Proofs.YtjjgbgojlhaapaaDoor
