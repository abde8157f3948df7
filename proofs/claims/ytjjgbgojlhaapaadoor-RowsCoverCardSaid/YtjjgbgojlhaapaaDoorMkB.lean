/- Marks: slices.Clone, DeleteFunc, Insert at marks. -/
import Derived.Test.YtjjgbgojlhaapaaDoorMkA
namespace Go.Proofs.YtjjgbgojlhaapaaDoor
open Go.RowKit

theorem mkInfo : (Tryd.prog.info? 24).map (fun i => (i.zero, i.size, i.bytes)) = some (some (.agg #[.int .i64 0, .int .i64 0]), 2, 16) := by kernel_rfl

set_option maxHeartbeats 400000 in
theorem cloneMk_any (sv : Value) (F : Nat → Prop) (xs : List Mk) (w : World) (hs : Sl mkTy w F sv xs) (hn : xs.length * 16 ≤ 140737488355328) :
    Calls Tryd.prog 36 #[sv] w fun e w' => ∃ v cs, e = .returned v ∧ Below w.heap.size w w' ∧ w'.ownsRow w.heap.size 24 2 v xs.length cs ∧ Chunks mkTy w' F xs cs := by
  have e1 := fun (w : World) (a : Option Addr) (n c : Nat) => Lib.run_eql_slice_nil (P := Tryd.prog) w 22 _ a n c 0 0 Tryd.underlying22
  obtain ⟨i0, hi, hz0, hz1, hz2⟩ := info_parts mkInfo
  rcases hs.open with ⟨rfl, c, rfl⟩ | ⟨ad, c, cs, rfl, hch, hel⟩
  · go_enter Tryd.func36, Tryd.ntmps36
    go_wp2
    go_ret
    exact ⟨_, [], rfl, Below.refl _ _, World.ownsRow_nil _ _ _ _, rfl⟩
  · generalize hnn : xs.length = n at *
    have Hn := Lib.hid hnn; clear hnn
    have hown : (w.alloc (.cells #[] 24)).ownsRow w.heap.size 24 2 (.slice (some ⟨w.heap.size, 0, none⟩) 0 0) 0 [] := World.ownsRow_made w #[] 0 (Nat.le_refl _) (by decide) (by simp)
    have hb0 : Below w.heap.size w (w.alloc (.cells #[] 24)) := bel_alloc (Below.refl _ _) _
    have hel' : ∀ j u, cs[j]? = some u → (w.alloc (.cells #[] 24)).cell? (ad.add j) = some u := fun j u hj => cell_later' hb0 (hel j u hj)
    have hlen : cs.length = n * 2 := by rw [hch.len, Hn.out]; rfl
    have h1 := hch.one
    have Hh := Lib.hid hch.bound
    clear hel hch hs
    have Hl := Lib.hid hlen; clear hlen
    go_enter Tryd.func36, Tryd.ntmps36
    go_wp2_with (at_builtin; refine wpList_append_own _ rfl _ _ 22 rfl w.heap.size 24 i0 (.agg #[.int .i64 0, .int .i64 0]) 2 16 Tryd.underlying22 hi hz0 hz1 hz2 rfl (by decide) _ _ _ rfl hown ad n c cs rfl Hl.out hel' h1 ?c1 ?c2 ?c3 ?_)
    case c1 => simp only [maxLen]; omega
    case c2 => omega
    case c3 => exact hb0.size
    intro v' w1 hown1 hgrow _
    have hb1 : Below w.heap.size w w1 := bel_grown hb0 hgrow (fun k hk => by simp [Value.ownBlock] at hk; omega)
    have Hc := Lib.hid ((Hh.out.frame (fun k hk => hb1.block k hk.2)).mono (fun _ hk => hk.1))
    go_wp2
    go_ret
    exact ⟨_, _, rfl, hb1, hown1, Hc.out⟩
end Go.Proofs.YtjjgbgojlhaapaaDoor
