/- How a law's argument of marks is opened; closed facts of the program. -/
import Derived.Test.YtopfdnflejbgaaaRows
import Derived.Test.YtopfdnflejbgaaaMk
import Derived.Test.YtopfdnflejbgaaaOpen
import Derived.ProofKit
import Derived.OpenShut
import Derived.ShutString
import Derived.ChangeOld
import Derived.SizedLaws
namespace Go.Proofs.Ytopfdnflejbgaaa
open Go.ChangeShapes Go.WideShapes Go.ChangeAt Go.RowKit

theorem own : ownKnob Try.prog.godebug = none := by kernel_rfl
theorem laidOut : laidOutB Try.prog = true := by kernel_rfl

theorem mk_fields : ∃ f0 f1, Try.prog.underlying 24 = some (.struct #[f0, f1]) ∧ f0.offset = 0 ∧ f1.offset = 1 ∧ Try.prog.underlying f0.type = some (.int .i64) ∧ Try.prog.underlying f1.type = some (.int .i64) ∧ Try.prog.cellsOf f0.type = 1 ∧ Try.prog.cellsOf f1.type = 1 :=
  ⟨_, _, Try.underlying24, rfl, rfl, by kernel_rfl, by kernel_rfl, by kernel_rfl, by kernel_rfl⟩

theorem mk_opens {H : Type} {enc : TypeId × Value → H} {w : World} {base : Nat} {spare : Nat → Bool} {held : Bool} (n : Nat) (cs : List Value) (y : DataW H × List MemPlace)
    (h : DataW.trod enc Try.prog w base spare held n 24 cs = some y) : ∃ x, mkTy.R w (fun _ => True) x cs := by
  obtain ⟨f0, f1, hu, o0, o1, u0, u1, c0, c1⟩ := mk_fields
  obtain ⟨y0, y1, m, rfl, hl, h0, h1⟩ := trod_struct2 hu h
  obtain ⟨a, e0, _, _⟩ := DataW.trod_int u0 h0
  obtain ⟨b, e1, _, _⟩ := DataW.trod_int u1 h1
  rw [o0, c0] at e0
  rw [o1, c1] at e1
  have hl2 : cs.length = 2 := by rw [hl]; kernel_rfl
  match cs, hl2 with
  | [p, q], _ =>
    simp at e0 e1
    subst e0; subst e1
    exact ⟨⟨a, b⟩, rfl⟩

end Go.Proofs.Ytopfdnflejbgaaa
