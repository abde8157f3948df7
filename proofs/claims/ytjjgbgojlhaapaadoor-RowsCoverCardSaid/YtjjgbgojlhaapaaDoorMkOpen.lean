/- How a law's argument of marks is opened; closed facts of the program. -/
import Derived.Test.YtjjgbgojlhaapaaDoorRows
import Derived.Test.YtjjgbgojlhaapaaDoorMk
import Derived.Test.YtjjgbgojlhaapaaDoorOpen
import Derived.Test.YtjjgbgojlhaapaaDoorTb
import Derived.ProofKit
import Derived.OpenShut
import Derived.ShutString
import Derived.ChangeOld
import Derived.SizedLaws
import Derived.Lib.SmallJoins
namespace Go.Proofs.YtjjgbgojlhaapaaDoor
open Go.ChangeShapes Go.WideShapes Go.ChangeAt Go.RowKit


set_option maxRecDepth 100000 in
theorem mk_fields : ∃ f0 f1, Tryd.prog.underlying 24 = some (.struct #[f0, f1]) ∧ f0.offset = 0 ∧ f1.offset = 1 ∧ Tryd.prog.underlying f0.type = some (.int .i64) ∧ Tryd.prog.underlying f1.type = some (.int .i64) ∧ Tryd.prog.cellsOf f0.type = 1 ∧ Tryd.prog.cellsOf f1.type = 1 :=
  ⟨_, _, Tryd.underlying24, rfl, rfl, by kernel_rfl, by kernel_rfl, by kernel_rfl, by kernel_rfl⟩

set_option maxRecDepth 100000 in
theorem mk_opens {H : Type} {enc : TypeId × Value → H} {w : World} {base : Nat} {spare : Nat → Bool} {held : Bool} (n : Nat) (cs : List Value) (y : DataW H × List MemPlace)
    (h : DataW.trod enc Tryd.prog w base spare held n 24 cs = some y) : ∃ x, mkTy.R w (fun _ => True) x cs := by
  obtain ⟨f0, f1, hu, o0, o1, u0, u1, c0, c1⟩ := mk_fields
  obtain ⟨y0, y1, m, rfl, hl, h0, h1⟩ := trod_struct2 hu h
  obtain ⟨a, e0, _, _⟩ := DataW.trod_int u0 h0
  obtain ⟨b, e1, _, _⟩ := DataW.trod_int u1 h1
  rw [o0, c0] at e0
  rw [o1, c1] at e1
  have hl2 : cs.length = 2 := by rw [hl]; kernel_rfl
  match cs, hl2 with
  | [p, q], _ =>
    simp at e0 e1
    subst e0; subst e1
    exact ⟨⟨a, b⟩, rfl⟩

set_option maxRecDepth 100000 in
theorem mk_agg {H : Type} {enc : TypeId × Value → H} {w : World} {base : Nat} {spare : Nat → Bool} {held : Bool} {v : Value} {d : DataW H} {p : List MemPlace}
    (hok : Value.okWide Tryd.prog w .any base 24 v) (h : DataW.Trod enc Tryd.prog w 0 spare held 24 v d p) : ∃ m : Mk, v = .agg #[.int .i64 m.t, .int .i64 m.u] := by
  obtain ⟨a, b, y0, y1, mm, rfl, _, _, hy0, hy1⟩ := Joins.open_agg2 Tryd.underlying24 (by kernel_rfl) (by kernel_rfl) hok h
  obtain ⟨x0, e0, _, _⟩ := DataW.trod_int Tryd.underlying3 hy0
  obtain ⟨x1, e1, _, _⟩ := DataW.trod_int Tryd.underlying3 hy1
  simp at e0 e1
  subst e0; subst e1
  exact ⟨⟨x0, x1⟩, rfl⟩

end Go.Proofs.YtjjgbgojlhaapaaDoor
