/- Marks: same, at equal marks; the document's Add. -/
import Derived.Test.YtjjgbgojlhaapaaDoorMkP
namespace Go.Proofs.YtjjgbgojlhaapaaDoor
open Go.RowKit

set_option maxHeartbeats 1000000 in
theorem same_true (sv tv : Value) (F G : Nat → Prop) (xs : List Mk) (w : World) (hs : Sl mkTy w F sv xs) (ht : Sl mkTy w G tv xs) (hsz : xs.length * 16 ≤ 140737488355328) :
    Calls Tryd.prog 13 #[sv, tv] w fun e w' => e = .returned (.bool true) ∧ Below w.heap.size w w' := by
  have hneq := run_neq_mk
  have hmk := marks_any sv F xs w hs hsz
  obtain ⟨A, c, rfl, hn63, hel⟩ := sl_cells ht
  clear hs ht
  go_enter Tryd.func13, Tryd.ntmps13
  go_wp2_with fail
  refine Calls.mono hmk ?_
  rintro e w1 ⟨v, rfl, hb1, ho1⟩
  obtain ⟨A1, c1, rfl, _, hel1⟩ := own_form ho1
  clear hmk ho1
  generalize hn : xs.length = n at *
  have Hn := Lib.hid hn; clear hn
  have hnn : ((n : Int) != (n : Int)) = false := by simp
  go_wp2_with fail
  go_loopg [6] n (fun gg s6 wr => ∃ k : Nat, k ≤ n ∧ n - k ≤ gg ∧ s6 = .int .i64 k ∧ Aside (Below w1.heap.size w1 wr))
  case atStart => exact ⟨0, Nat.zero_le _, by omega, rfl, Below.refl _ _⟩
  case round =>
    obtain ⟨k, hk, hgg, rfl, HB⟩ := hrel
    by_cases hlt : k < n
    · have hltz : (k : Int) < (n : Int) := by omega
      obtain ⟨x, hx⟩ : ∃ x, xs[k]? = some x := get_ex (by have := Hn.out; omega)
      obtain ⟨b, o, rfl, l0, l1⟩ := hel k x hx
      obtain ⟨g, rfl, hg1, hat⟩ := hel1 k x hx
      have hbb := bel_trans hb1 HB.out
      have r0 := cell_later' hbb l0
      have r1 := cell_later' hbb l1
      have q0 := cell_later' HB.out hat.1
      have q1 := cell_later' HB.out hat.2
      clear hel hel1 hat hx
      go_wp2_with fail
      go_quiet (fail)
      go_wp2_with fail
      go_roundg (n - (k + 1))
      case measure => omega
      case rel => exact ⟨k + 1, by omega, by omega, by go_num, bel_drewN HB.out _⟩
    · have hltz : ¬ (k : Int) < (n : Int) := by omega
      go_wp2_with fail
      go_ret
      exact ⟨rfl, bel_trans hb1 HB.out⟩
end Go.Proofs.YtjjgbgojlhaapaaDoor
