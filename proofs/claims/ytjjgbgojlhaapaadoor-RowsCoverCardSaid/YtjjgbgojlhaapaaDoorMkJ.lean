/- Marks: the walk of Add. -/
import Derived.Test.YtjjgbgojlhaapaaDoorMkI
namespace Go.Proofs.YtjjgbgojlhaapaaDoor
open Go.RowKit

theorem own_lower {w : World} {base base' : Nat} {e : TypeId} {size n : Nat} {v : Value} {xs : List Value} (h : w.ownsRow base e size v n xs) (hb : base' ≤ base) : w.ownsRow base' e size v n xs := by
  obtain ⟨h1, h2⟩ := h
  refine ⟨h1, ?_⟩
  rcases h2 with h2 | ⟨g, cap, cur, e, hg, r⟩
  · exact .inl h2
  · exact .inr ⟨g, cap, cur, e, Nat.le_trans hb hg, r⟩
theorem own_base {w : World} {base : Nat} {e : TypeId} {size n : Nat} {v : Value} {xs : List Value} (h : w.ownsRow base e size v n xs) : ∀ k, v.ownBlock = some k → base ≤ k := fun k hk => (h.lt k hk).1

/-- where a mark stands among others -/
def placeMk (xs : List Mk) (m : Mk) : Nat := (xs.findIdx fun x => decide (x.t ≤ m.t))
theorem placeMk_le (xs : List Mk) (m : Mk) : placeMk xs m ≤ xs.length := List.findIdx_le_length
/-- what Add does: the marks, what went wrong -/
def addMk (xs : List Mk) (m : Mk) : List Mk × Int :=
  if mayB xs && mayB [m] then
    if xs.any (fun x => domB x m) then (xs, 0)
    else
      let ys := xs.filter (fun x => !domB m x)
      let zs := insMk ys (placeMk ys m) m
      if zs.length ≤ 8 then (zs, 0) else ([], 17)
  else ([], 4)

def AddPost (w : World) (r : List Mk × Int) (e : Ending) (w' : World) : Prop :=
  ∃ v, e = .returned (.tuple #[v, .int .i64 r.2]) ∧ Below w.heap.size w w' ∧ w'.ownsRow w.heap.size 24 2 v r.1.length (mkCells r.1)

theorem mayB_len {xs : List Mk} (h : mayB xs = true) : xs.length ≤ 8 := by
  unfold mayB at h; simp at h; exact h.2

/-- a slice of one mark that was just built -/
theorem sl_one {w : World} {B : Nat} {m : Mk} (h0 : w.cell? ⟨B, 0, none⟩ = some (.int .i64 m.t)) (h1 : w.cell? ⟨B, 1, none⟩ = some (.int .i64 m.u)) : Sl mkTy w (fun _ => True) (.slice (some ⟨B, 0, none⟩) 1 1) [m] := by
  refine .inr ⟨B, 0, 1, rfl, trivial, Nat.le_refl _, by decide, [.int .i64 m.t, .int .i64 m.u], Chunks.single (T := mkTy) rfl, fun j u hj => ?_⟩
  rw [Nat.zero_add]
  rcases j with _ | _ | j
  · rw [← hj]; exact h0
  · rw [← hj]; exact h1
  · simp at hj

set_option maxRecDepth 100000 in
set_option maxHeartbeats 1000000 in
theorem add_no (sv : Value) (F : Nat → Prop) (xs : List Mk) (m : Mk) (w : World) (hs : Sl mkTy w F sv xs) (hm : (mayB xs && mayB [m]) = false) :
    Calls Tryd.prog 10 #[sv, .agg #[.int .i64 m.t, .int .i64 m.u]] w (AddPost w ([], 4)) := by
  have hmay := fun (V : World) (hV : Below w.heap.size w V) => may_any sv F xs V (hs.below hV)
  cases h1 : mayB xs with
  | false =>
    rw [h1] at hmay
    clear h1 hm hs
    go_enter Tryd.func10, Tryd.ntmps10
    go_wp2_with fail
    refine Calls.mono (hmay _ (bel_alloc (Below.refl _ _) _)) ?_
    rintro e w' ⟨rfl, hb'⟩
    go_wp2_with fail
    go_ret2
    exact ⟨_, rfl, bel_trans (bel_alloc (Below.refl _ _) _) hb', World.ownsRow_nil _ _ _ _⟩
  | true =>
    rw [h1] at hmay hm
    have h2 : mayB [m] = false := by simpa using hm
    have hmay2 := fun (V : World) (B : Nat) h0 h1 => may_any _ _ [m] V (sl_one (B := B) h0 h1)
    rw [h2] at hmay2
    clear h1 hm h2 hs
    go_enter Tryd.func10, Tryd.ntmps10
    go_wp2_with fail
    refine Calls.mono (hmay _ (bel_alloc (Below.refl _ _) _)) ?_
    rintro e w' ⟨rfl, hb'⟩
    have c0 : w'.cell? ⟨w.heap.size, 0, none⟩ = some (.int .i64 m.t) := cell_later' hb' (by simp)
    have c1 : w'.cell? ⟨w.heap.size, 1, none⟩ = some (.int .i64 m.u) := cell_later' hb' (by simp)
    have hbw := bel_trans (bel_alloc (Below.refl _ w) _) hb'
    have hz := hbw.size
    have hz2 : w.heap.size < w'.heap.size := World.block_lt_of_cell? _ _ c0
    clear hb'
    go_wp2_with fail
    refine Calls.mono (hmay2 _ _ (by simp) (by simp)) ?_
    rintro e w'' ⟨rfl, hb''⟩
    go_wp2_with fail
    go_ret2
    exact ⟨_, rfl, bel_trans (bel_alloc hbw _) hb'', World.ownsRow_nil _ _ _ _⟩
end Go.Proofs.YtjjgbgojlhaapaaDoor
