/- Marks: the walk of first (chapter 15's examples). -/
import Derived.Test.YtjjgbgojlhaapaaDoorMkL
namespace Go.Proofs.YtjjgbgojlhaapaaDoor
open Go.RowKit

set_option maxRecDepth 100000 in
set_option maxHeartbeats 1000000 in
theorem first_any (w : World) : Calls Tryd.prog 9 #[] w fun e w' => e = .returned (.bool true) ∧ Below w.heap.size w w' := by
  have a1 := fun (V : World) (B : Nat) h0 h1 => add_any _ _ [⟨100, 5⟩] ⟨50, 10⟩ V (sl_one (m := ⟨100, 5⟩) (B := B) h0 h1)
  have a2 := fun (V : World) (B : Nat) h0 h1 => add_any _ _ [⟨50, 5⟩] ⟨100, 10⟩ V (sl_one (m := ⟨50, 5⟩) (B := B) h0 h1)
  rw [show addMk [⟨100, 5⟩] ⟨50, 10⟩ = ([⟨100, 5⟩, ⟨50, 10⟩], 0) by decide +kernel] at a1
  rw [show addMk [⟨50, 5⟩] ⟨100, 10⟩ = ([⟨100, 10⟩], 0) by decide +kernel] at a2
  go_enter Tryd.func9, Tryd.ntmps9
  go_wp2_with fail
  refine Calls.mono (a1 _ w.heap.size (by simp) (by simp)) ?_
  rintro e w1 ⟨v1, rfl, hb1, ho1⟩
  obtain ⟨A1, c1, rfl, _, hel1⟩ := own_form ho1
  obtain ⟨g1, rfl, hg1, hm1⟩ := hel1 0 ⟨100, 5⟩ rfl
  have hbw1 := bel_trans (bel_alloc (Below.refl _ w) _) hb1
  have m1 := hm1.1
  rw [Nat.zero_mul] at m1
  clear hb1 ho1 hel1 hm1
  go_wp2_with fail
  refine Calls.mono (a2 _ w1.heap.size (by simp) (by simp)) ?_
  rintro e w2 ⟨v2, rfl, hb2, ho2⟩
  obtain ⟨A2, c2, rfl, _, hel2⟩ := own_form ho2
  obtain ⟨g2, rfl, hg2, hm2⟩ := hel2 0 ⟨100, 10⟩ rfl
  have m2 := hm2.2
  rw [Nat.zero_mul, Nat.zero_add] at m2
  have hbb := bel_trans (bel_alloc (Below.refl _ w1) _) hb2
  have m1' := cell_later' hbb m1
  have hbw2 := bel_trans hbw1 hbb
  clear hb2 ho2 hel2 hm2 hbb m1 hbw1 a1 a2
  go_wp2_with fail
  go_ret
  exact ⟨rfl, hbw2⟩
end Go.Proofs.YtjjgbgojlhaapaaDoor
