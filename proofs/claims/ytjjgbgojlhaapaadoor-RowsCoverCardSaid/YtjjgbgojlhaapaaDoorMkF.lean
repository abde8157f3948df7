/- Marks: the walk of slices.Insert at one mark. -/
import Derived.Test.YtjjgbgojlhaapaaDoorMkE
import Derived.Deep.RegionLaw
namespace Go.Proofs.YtjjgbgojlhaapaaDoor
open Go.RowKit

def insMk (xs : List Mk) (i : Nat) (m : Mk) : List Mk := xs.take i ++ m :: xs.drop i
theorem insMk_end (xs : List Mk) (m : Mk) : insMk xs xs.length m = xs ++ [m] := by simp [insMk]
theorem insMk_len (xs : List Mk) (i : Nat) (m : Mk) (h : i ≤ xs.length) : (insMk xs i m).length = xs.length + 1 := by simp [insMk]; omega
theorem mkCells_append (xs ys : List Mk) : mkCells (xs ++ ys) = mkCells xs ++ mkCells ys := by simp [mkCells]
theorem mkCells_take (xs : List Mk) (i : Nat) : mkCells (xs.take i) = (mkCells xs).take (i * 2) := mkCells_of_chunks ((mkCells_chunks default (fun _ => True) xs).take i) |>.symm
theorem mkCells_drop (xs : List Mk) (i : Nat) : mkCells (xs.drop i) = (mkCells xs).drop (i * 2) := mkCells_of_chunks ((mkCells_chunks default (fun _ => True) xs).drop i) |>.symm
theorem mkCells_one (m : Mk) : mkCells [m] = [.int .i64 m.t, .int .i64 m.u] := rfl

theorem mk1_news {w : World} {gv : Nat} {m : Mk} (hv : MkAt w gv 0 m) : ∀ j u, (mkCells [m])[j]? = some u → w.cell? ((⟨gv, 0, none⟩ : Addr).add j) = some u := by
  intro j u hj
  rw [Addr.add_lit, Nat.zero_add]
  have hl := lt_of_get hj
  rw [mkCells_len] at hl
  obtain ⟨a, b⟩ := hv
  rcases j with _ | _ | j
  · rw [← hj]; exact a
  · rw [← hj]; exact b
  · simp at hl; omega

set_option maxHeartbeats 1000000 in
theorem insertMk_nil (base gv : Nat) (m : Mk) (w : World) (hv : MkAt w gv 0 m) (hbase : base ≤ w.heap.size) :
    Calls Tryd.prog 38 #[.slice none 0 0, .int .i64 0, .slice (some ⟨gv, 0, none⟩) 1 1] w fun e w' => ∃ v', e = .returned v' ∧ w.grownBy w' none ∧
      w'.ownsRow base 24 2 v' 1 (mkCells [m]) := by
  obtain ⟨i0, hi, hz0, hz1, hz2⟩ := info_parts mkInfo
  have hown := World.ownsRow_nil w base 24 2
  have hnews := mk1_news hv
  have h1 : ∀ u ∈ mkCells [m], u.oneCell' = true := (mkCells_chunks w (fun _ => True) [m]).one
  clear hv
  generalize hM : mkCells [m] = M at *
  have hl : M.length = 1 * 2 := by rw [← hM]; rfl
  have Hl := Lib.hid hl
  clear hM hl
  go_enter Tryd.func38, Tryd.ntmps38
  go_wp2_with (at_builtin; refine wpList_append_own _ rfl _ _ 22 rfl base 24 i0 (.agg #[.int .i64 0, .int .i64 0]) 2 16 Tryd.underlying22 hi hz0 hz1 hz2 rfl (by decide) _ _ _ rfl hown ⟨gv, 0, none⟩ 1 1 M rfl Hl.out hnews h1 ?c1 ?c2 ?c3 ?_)
  case c1 => simp [maxLen]
  case c2 => omega
  case c3 => exact hbase
  intro v' w1 hown1 hgrow _
  go_wp2
  go_ret
  exact ⟨_, rfl, hgrow, hown1⟩

set_option maxHeartbeats 1000000 in
theorem insertMk_end_ (base g cap gv : Nat) (xs : List Mk) (m : Mk) (w : World) (h : w.ownsRow base 24 2 (.slice (some ⟨g, 0, none⟩) xs.length cap) xs.length (mkCells xs)) (hv : MkAt w gv 0 m) (hbase : base ≤ w.heap.size) (hsz : (xs.length + 1) * 16 ≤ 140737488355328) :
    Calls Tryd.prog 38 #[.slice (some ⟨g, 0, none⟩) xs.length cap, .int .i64 xs.length, .slice (some ⟨gv, 0, none⟩) 1 1] w fun e w' => ∃ v', e = .returned v' ∧ w.grownBy w' (some g) ∧
      w'.ownsRow base 24 2 v' (xs.length + 1) (mkCells (xs ++ [m])) := by
  obtain ⟨i0, hi, hz0, hz1, hz2⟩ := info_parts mkInfo
  have hnews := mk1_news hv
  have h1 : ∀ u ∈ mkCells [m], u.oneCell' = true := (mkCells_chunks w (fun _ => True) [m]).one
  obtain ⟨hrow, hbg, hlc, hcm, _, _⟩ := mkAt_of_own h
  have hM2 := mkCells_append xs [m]
  clear hv hrow
  generalize mkCells (xs ++ [m]) = R at *
  generalize hM : mkCells [m] = M at *
  generalize mkCells xs = C at *
  generalize xs.length = n at *
  have hl : M.length = 1 * 2 := by rw [← hM]; rfl
  have Hl := Lib.hid hl
  have HM := Lib.hid hM2
  clear hM hl hM2
  have hc1 : n + 1 ≤ maxLen := by simp only [maxLen]; omega
  have H1 := Lib.hid hc1; have H2 := Lib.hid hsz
  clear hc1 hsz
  rcases Nat.lt_or_ge n cap with hlt | hge
  · have hcn : ¬ cap = n := by omega
    go_enter Tryd.func38, Tryd.ntmps38
    go_wp2_with (at_builtin; refine wpList_append_own _ rfl _ _ 22 rfl base 24 i0 (.agg #[.int .i64 0, .int .i64 0]) 2 16 Tryd.underlying22 hi hz0 hz1 hz2 rfl (by decide) _ _ _ rfl h ⟨gv, 0, none⟩ 1 1 M rfl Hl.out hnews h1 H1.out H2.out hbase ?_)
    intro v' w1 hown1 hgrow _
    go_wp2
    go_ret
    exact ⟨_, rfl, hgrow, by rw [HM.out]; exact hown1⟩
  · obtain rfl : n = cap := by omega
    go_enter Tryd.func38, Tryd.ntmps38
    go_wp2_with (at_builtin; refine wpList_append_own _ rfl _ _ 22 rfl base 24 i0 (.agg #[.int .i64 0, .int .i64 0]) 2 16 Tryd.underlying22 hi hz0 hz1 hz2 rfl (by decide) _ _ _ rfl h ⟨gv, 0, none⟩ 1 1 M rfl Hl.out hnews h1 H1.out H2.out hbase ?_)
    intro v' w1 hown1 hgrow _
    go_wp2
    go_ret
    exact ⟨_, rfl, hgrow, by rw [HM.out]; exact hown1⟩
end Go.Proofs.YtjjgbgojlhaapaaDoor
