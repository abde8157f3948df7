/- Parts of the proof: Mk, MkA, MkB, MkD, MkE, MkF, MkG, MkH, MkI, MkJ, MkK, MkL, Rl, Rv, Hj, Hk, Ot, Kc, Oi, Ln, Sn, Eq. -/
import Derived.Test.YtlihjmfdnkfmfaaGreatDoorZPback0
import Derived.Test.YtlihjmfdnkfmfaaGreatDoorProg
import Derived.Deep.RegionLaw
import Derived.StillTailTactics
import Derived.Deep.RegionWith
import Derived.Deep.DeepCutAuto
import Derived.Test.YtlihjmfdnkfmfaaGreatDoorZPback9
import Derived.Lib.ItoaLen
import Derived.Test.YtlihjmfdnkfmfaaGreatDoorZPback17
import Derived.Test.YtlihjmfdnkfmfaaGreatDoorZPback11
import Derived.Test.YtlihjmfdnkfmfaaGreatDoorZPback13
import Derived.Test.YtlihjmfdnkfmfaaGreatDoorZPback6
namespace Go.Proofs.YtlihjmfdnkfmfaaGreatDoor
open Go.RowKit

structure Mk where
  t : Int
  u : Int
deriving DecidableEq
instance : Inhabited Mk := ⟨⟨0, 0⟩⟩

/-- a predicate on marks, as a function value -/
def Pred1 (fv : Value) (p : Mk → Bool) (w : World) : Prop :=
  ∃ g fst cap, fv = .func (.func g) fst cap ∧ (∀ args w, (callFunc g args).run Tryz.prog w = .ok (.enter g args) w) ∧
    ∀ (W : World) (x : Mk), Below w.heap.size w W → Calls Tryz.prog g (fst ++ #[.agg #[.int .i64 x.t, .int .i64 x.u]] ++ cap) W fun e w' => e = .returned (.bool (p x)) ∧ Below W.heap.size W w'

end Go.Proofs.YtlihjmfdnkfmfaaGreatDoor
namespace Go.Proofs.YtlihjmfdnkfmfaaGreatDoor
open Go.RowKit

end Go.Proofs.YtlihjmfdnkfmfaaGreatDoor
namespace Go.Proofs.YtlihjmfdnkfmfaaGreatDoor
open Go.RowKit

end Go.Proofs.YtlihjmfdnkfmfaaGreatDoor
namespace Go.Proofs.YtlihjmfdnkfmfaaGreatDoor
open Go.RowKit

/-- a predicate that answers in whatever world -/
def Pred0 (fv : Value) (p : Mk → Bool) : Prop :=
  ∃ g fst cap, fv = .func (.func g) fst cap ∧ (∀ args w, (callFunc g args).run Tryz.prog w = .ok (.enter g args) w) ∧
    ∀ (W : World) (x : Mk), Calls Tryz.prog g (fst ++ #[.agg #[.int .i64 x.t, .int .i64 x.u]] ++ cap) W fun e w' => e = .returned (.bool (p x)) ∧ Below W.heap.size W w'
theorem Pred0.at {fv : Value} {p : Mk → Bool} (h : Pred0 fv p) (w : World) : Pred1 fv p w := by
  obtain ⟨g, fst, cap, e, h1, h2⟩ := h
  exact ⟨g, fst, cap, e, h1, fun W x _ => h2 W x⟩

/-- cells of a block as marks -/
def MkAt (w : World) (g : Nat) (m : Nat) (x : Mk) : Prop := w.cell? ⟨g, m * 2, none⟩ = some (.int .i64 x.t) ∧ w.cell? ⟨g, m * 2 + 1, none⟩ = some (.int .i64 x.u)
theorem MkAt.frame {w w' : World} {g m : Nat} {x : Mk} (h : MkAt w g m x) (hb : w'.heap[g]? = w.heap[g]?) : MkAt w' g m x :=
  ⟨(World.cell?_of_block (w := w) (a := ⟨g, m * 2, none⟩) hb).trans h.1, (World.cell?_of_block (w := w) (a := ⟨g, m * 2 + 1, none⟩) hb).trans h.2⟩
/-- a row's block -/
def RowAt (w : World) (g : Nat) (e : TypeId) (size : Nat) : Prop := ∃ cur : Array Value, w.heap[g]? = some (.cells cur e (0, 0)) ∧ cur.size = size
theorem RowAt.frozen {w : World} {g e n : Nat} (h : RowAt w g e n) (i : Nat) : w.frozen? ⟨g, i, none⟩ = false := by
  obtain ⟨cur, h1, _⟩ := h; simp [World.frozen?, h1]
theorem RowAt.some {w : World} {g e n : Nat} (h : RowAt w g e n) (i : Nat) (hi : i < n) : ∃ v, w.cell? ⟨g, i, none⟩ = some v := by
  obtain ⟨cur, h1, rfl⟩ := h; exact ⟨cur[i], by simp [World.cell?, h1, hi]⟩
theorem RowAt.set {w : World} {g e n : Nat} (h : RowAt w g e n) (i : Nat) (u : Value) : RowAt (w.setCell ⟨g, i, none⟩ u) g e n := by
  obtain ⟨cur, h1, rfl⟩ := h
  exact ⟨cur.setIfInBounds i u, by rw [setCell_eq_setRow w g i cur e (0, 0) u h1]; exact setRow_heap w g cur _ e _ h1, by simp⟩
theorem RowAt.frame {w w' : World} {g e n : Nat} (h : RowAt w g e n) (hb : w'.heap[g]? = w.heap[g]?) : RowAt w' g e n := by
  obtain ⟨cur, h1, h2⟩ := h; exact ⟨cur, hb.trans h1, h2⟩
theorem RowAt.lt {w : World} {g e n : Nat} (h : RowAt w g e n) : g < w.heap.size := by
  obtain ⟨cur, h1, _⟩ := h; exact (Array.getElem?_eq_some_iff.1 h1).1

end Go.Proofs.YtlihjmfdnkfmfaaGreatDoor
namespace Go.Proofs.YtlihjmfdnkfmfaaGreatDoor
open Go.RowKit

end Go.Proofs.YtlihjmfdnkfmfaaGreatDoor
namespace Go.Proofs.YtlihjmfdnkfmfaaGreatDoor
open Go.RowKit

end Go.Proofs.YtlihjmfdnkfmfaaGreatDoor
namespace Go.Proofs.YtlihjmfdnkfmfaaGreatDoor
open Go.RowKit

end Go.Proofs.YtlihjmfdnkfmfaaGreatDoor
namespace Go.Proofs.YtlihjmfdnkfmfaaGreatDoor
open Go.RowKit

theorem RowAt.shape {w : World} {g e n : Nat} (h : RowAt w g e n) : w.shape? g = Option.some (e, n) := by
  obtain ⟨cur, h1, rfl⟩ := h
  simp [World.shape?, h1]

end Go.Proofs.YtlihjmfdnkfmfaaGreatDoor
namespace Go.Proofs.YtlihjmfdnkfmfaaGreatDoor
open Go.RowKit

end Go.Proofs.YtlihjmfdnkfmfaaGreatDoor
namespace Go.Proofs.YtlihjmfdnkfmfaaGreatDoor
open Go.RowKit

end Go.Proofs.YtlihjmfdnkfmfaaGreatDoor
namespace Go.Proofs.YtlihjmfdnkfmfaaGreatDoor
open Go.RowKit

theorem own_later {w W : World} {base : Nat} {e : TypeId} {size n : Nat} {v : Value} {xs : List Value} (h : w.ownsRow base e size v n xs) (hb : Below w.heap.size w W) : W.ownsRow base e size v n xs := by
  obtain ⟨h1, h2⟩ := h
  refine ⟨h1, ?_⟩
  rcases h2 with h2 | ⟨g, cap, cur, e, hg, hh, r⟩
  · exact .inl h2
  · exact .inr ⟨g, cap, cur, e, hg, (hb.block g (Array.getElem?_eq_some_iff.1 hh).1).trans hh, r⟩
end Go.Proofs.YtlihjmfdnkfmfaaGreatDoor
namespace Go.Proofs.YtlihjmfdnkfmfaaGreatDoor
open Go.RowKit

end Go.Proofs.YtlihjmfdnkfmfaaGreatDoor
namespace Go.Proofs.YtlihjmfdnkfmfaaGreatDoor
open Go.RowKit Go.Lib

theorem print_obj (d : Nat) (m : List (ByteArray × JV)) : printB (d + 1) (.mk 7 0 ⟨#[]⟩ [] m) = 123 :: (joinFrom (fun p => quoteB p.1 ++ 58 :: printB d p.2) true m ++ [125]) := by rw [printB.eq_2]; simp [JV.k, JV.m]
end Go.Proofs.YtlihjmfdnkfmfaaGreatDoor
namespace Go.Proofs.YtlihjmfdnkfmfaaGreatDoor
open Go.RowKit Go.Lib

end Go.Proofs.YtlihjmfdnkfmfaaGreatDoor
namespace Go.Proofs.YtlihjmfdnkfmfaaGreatDoor
open Go.RowKit Go.Lib

end Go.Proofs.YtlihjmfdnkfmfaaGreatDoor
namespace Go.Proofs.YtlihjmfdnkfmfaaGreatDoor
open Go.RowKit Go.Lib

end Go.Proofs.YtlihjmfdnkfmfaaGreatDoor
namespace Go.Proofs.YtlihjmfdnkfmfaaGreatDoor
open Go.RowKit

end Go.Proofs.YtlihjmfdnkfmfaaGreatDoor
namespace Go.Proofs.YtlihjmfdnkfmfaaGreatDoor
open Go.RowKit Go.Lib

set_option maxHeartbeats 1000000 in
theorem cloneV_any (sv : Value) (F : Nat → Prop) (xs : List JV) (w : World) (hs : Sl jvTy w F sv xs) (hn : xs.length ≤ 1000000) :
    Calls Tryz.prog 140 #[sv] w fun e w' => ∃ v cs, e = .returned v ∧ Below w.heap.size w w' ∧ w'.ownsRow w.heap.size 43 5 v xs.length cs ∧ Chunks jvTy w' F xs cs := by
  have e1 := fun (w : World) (a : Option Addr) (n c : Nat) => Lib.run_eql_slice_nil (P := Tryz.prog) w 40 _ a n c 0 0 Tryz.underlying40
  obtain ⟨i0, hi, hz0, hz1, hz2⟩ := info_parts jvInfo
  rcases hs.open with ⟨rfl, c, rfl⟩ | ⟨ad, c, cs, rfl, hch, hel⟩
  · go_enter Tryz.func140, Tryz.ntmps140
    go_wp2
    go_ret
    exact ⟨_, [], rfl, Below.refl _ _, World.ownsRow_nil _ _ _ _, rfl⟩
  · generalize hnn : xs.length = n at *
    have Hn := Lib.hid hnn; clear hnn
    have hown : (w.alloc (.cells #[] 43)).ownsRow w.heap.size 43 5 (.slice (some ⟨w.heap.size, 0, none⟩) 0 0) 0 [] := World.ownsRow_made w #[] 0 (Nat.le_refl _) (by decide) (by simp)
    have hb0 : Below w.heap.size w (w.alloc (.cells #[] 43)) := bel_alloc (Below.refl _ _) _
    have hel' : ∀ j u, cs[j]? = some u → (w.alloc (.cells #[] 43)).cell? (ad.add j) = some u := fun j u hj => cell_later' hb0 (hel j u hj)
    have hlen : cs.length = n * 5 := by rw [hch.len, Hn.out]; rfl
    have h1 := hch.one
    have Hh := Lib.hid hch.bound
    clear hel hch hs
    have Hl := Lib.hid hlen; clear hlen
    go_enter Tryz.func140, Tryz.ntmps140
    go_wp2_with (at_builtin; refine wpList_append_own _ rfl _ _ 40 rfl w.heap.size 43 i0 (.agg #[.int .i64 0, .int .i64 0, .string ⟨#[]⟩, .slice none 0 0, .slice none 0 0]) 5 80 Tryz.underlying40 hi hz0 hz1 hz2 rfl (by decide) _ _ _ rfl hown ad n c cs rfl Hl.out hel' h1 ?c1 ?c2 ?c3 ?_)
    case c1 => simp only [maxLen]; omega
    case c2 => omega
    case c3 => exact hb0.size
    intro v' w1 hown1 hgrow _
    have hb1 : Below w.heap.size w w1 := bel_grown hb0 hgrow (fun k hk => by simp [Value.ownBlock] at hk; omega)
    have Hc := Lib.hid ((Hh.out.frame (fun k hk => hb1.block k hk.2)).mono (fun _ hk => hk.1))
    go_wp2
    go_ret
    exact ⟨_, _, rfl, hb1, by simpa using hown1, Hc.out⟩
set_option maxHeartbeats 1000000 in
theorem cloneM_any (sv : Value) (F : Nat → Prop) (xs : List (ByteArray × JV)) (w : World) (hs : Sl memTy w F sv xs) (hn : xs.length ≤ 1000000) :
    Calls Tryz.prog 141 #[sv] w fun e w' => ∃ v cs, e = .returned v ∧ Below w.heap.size w w' ∧ w'.ownsRow w.heap.size 49 6 v xs.length cs ∧ Chunks memTy w' F xs cs := by
  have e1 := fun (w : World) (a : Option Addr) (n c : Nat) => Lib.run_eql_slice_nil (P := Tryz.prog) w 41 _ a n c 0 0 Tryz.underlying41
  obtain ⟨i0, hi, hz0, hz1, hz2⟩ := info_parts memInfo
  rcases hs.open with ⟨rfl, c, rfl⟩ | ⟨ad, c, cs, rfl, hch, hel⟩
  · go_enter Tryz.func141, Tryz.ntmps141
    go_wp2
    go_ret
    exact ⟨_, [], rfl, Below.refl _ _, World.ownsRow_nil _ _ _ _, rfl⟩
  · generalize hnn : xs.length = n at *
    have Hn := Lib.hid hnn; clear hnn
    have hown : (w.alloc (.cells #[] 49)).ownsRow w.heap.size 49 6 (.slice (some ⟨w.heap.size, 0, none⟩) 0 0) 0 [] := World.ownsRow_made w #[] 0 (Nat.le_refl _) (by decide) (by simp)
    have hb0 : Below w.heap.size w (w.alloc (.cells #[] 49)) := bel_alloc (Below.refl _ _) _
    have hel' : ∀ j u, cs[j]? = some u → (w.alloc (.cells #[] 49)).cell? (ad.add j) = some u := fun j u hj => cell_later' hb0 (hel j u hj)
    have hlen : cs.length = n * 6 := by rw [hch.len, Hn.out]; rfl
    have h1 := hch.one
    have Hh := Lib.hid hch.bound
    clear hel hch hs
    have Hl := Lib.hid hlen; clear hlen
    go_enter Tryz.func141, Tryz.ntmps141
    go_wp2_with (at_builtin; refine wpList_append_own _ rfl _ _ 41 rfl w.heap.size 49 i0 (.agg #[.string ⟨#[]⟩, .int .i64 0, .int .i64 0, .string ⟨#[]⟩, .slice none 0 0, .slice none 0 0]) 6 96 Tryz.underlying41 hi hz0 hz1 hz2 rfl (by decide) _ _ _ rfl hown ad n c cs rfl Hl.out hel' h1 ?c1 ?c2 ?c3 ?_)
    case c1 => simp only [maxLen]; omega
    case c2 => omega
    case c3 => exact hb0.size
    intro v' w1 hown1 hgrow _
    have hb1 : Below w.heap.size w w1 := bel_grown hb0 hgrow (fun k hk => by simp [Value.ownBlock] at hk; omega)
    have Hc := Lib.hid ((Hh.out.frame (fun k hk => hb1.block k hk.2)).mono (fun _ hk => hk.1))
    go_wp2
    go_ret
    exact ⟨_, _, rfl, hb1, by simpa using hown1, Hc.out⟩
theorem own_set1 {w : World} {base : Nat} {e : TypeId} {size n c g : Nat} {xs : List Value} (h : w.ownsRow base e size (.slice (some ⟨g, 0, none⟩) n c) n xs) (j : Nat) (u : Value) :
    (w.setCell ⟨g, j, none⟩ u).ownsRow base e size (.slice (some ⟨g, 0, none⟩) n c) n (xs.set j u) := by
  obtain ⟨h1, h2⟩ := h
  refine ⟨by rw [List.length_set]; exact h1, ?_⟩
  rcases h2 with ⟨h0, _⟩ | ⟨g', cap, cur, h0, hb, hg, hn, hc, hs, ht⟩
  · cases h0
  · obtain ⟨rfl, rfl⟩ : g = g' ∧ c = cap := by simpa using h0
    refine .inr ⟨g, c, cur.setIfInBounds j u, rfl, hb, heap_setCell_row hg, hn, hc, by simpa using hs, ?_⟩
    rw [Array.toList_setIfInBounds, List.take_set, ht]
/-- five cells of a row written anew -/
theorem own_put5 {w : World} {base : Nat} {e : TypeId} {size n c g p : Nat} {cs1 cs2 : List Value} {a0 a1 a2 a3 a4 : Value} (v0 v1 v2 v3 v4 : Value)
    (h : w.ownsRow base e size (.slice (some ⟨g, 0, none⟩) n c) n (cs1 ++ (a0 :: a1 :: a2 :: a3 :: a4 :: cs2))) (hp : cs1.length = p) :
    (((((w.setCell ⟨g, p, none⟩ v0).setCell ⟨g, p + 1, none⟩ v1).setCell ⟨g, p + 2, none⟩ v2).setCell ⟨g, p + 3, none⟩ v3).setCell ⟨g, p + 4, none⟩ v4).ownsRow base e size (.slice (some ⟨g, 0, none⟩) n c) n (cs1 ++ (v0 :: v1 :: v2 :: v3 :: v4 :: cs2)) := by
  have h5 := own_set1 (own_set1 (own_set1 (own_set1 (own_set1 h p v0) (p + 1) v1) (p + 2) v2) (p + 3) v3) (p + 4) v4
  have e : ((((((cs1 ++ (a0 :: a1 :: a2 :: a3 :: a4 :: cs2)).set p v0).set (p + 1) v1).set (p + 2) v2).set (p + 3) v3).set (p + 4) v4) = cs1 ++ (v0 :: v1 :: v2 :: v3 :: v4 :: cs2) := by
    subst hp
    simp
  rw [e] at h5
  exact h5
theorem grown5 (w : World) (g p0 p1 p2 p3 p4 : Nat) (v0 v1 v2 v3 v4 : Value) :
    w.grownBy (((((w.setCell ⟨g, p0, none⟩ v0).setCell ⟨g, p1, none⟩ v1).setCell ⟨g, p2, none⟩ v2).setCell ⟨g, p3, none⟩ v3).setCell ⟨g, p4, none⟩ v4) (some g) :=
  grown_trans (grown_trans (grown_trans (grown_trans (grown_set v0) (grown_set v1)) (grown_set v2)) (grown_set v3)) (grown_set v4)
/-- the cells of a row, none of them frozen -/
theorem own_frozen {w : World} {base : Nat} {e : TypeId} {size n c g : Nat} {xs : List Value} (h : w.ownsRow base e size (.slice (some ⟨g, 0, none⟩) n c) n xs) (j : Nat) : w.frozen? ⟨g, j, none⟩ = false := by
  rcases h.2 with ⟨h0, _⟩ | ⟨g', cap, cur, h0, _, hg, _⟩
  · cases h0
  · obtain ⟨rfl, rfl⟩ : g = g' ∧ c = cap := by simpa using h0
    simp [World.frozen?, hg]
/-- a cell of a row, by its place -/
theorem own_at {w : World} {base : Nat} {e : TypeId} {size n c g : Nat} {xs : List Value} (h : w.ownsRow base e size (.slice (some ⟨g, 0, none⟩) n c) n xs) {j : Nat} {u : Value} (hj : xs[j]? = some u) : w.cell? ⟨g, j, none⟩ = some u := by
  have := h.cells (g := g) rfl j u hj
  rw [Addr.add_lit, Nat.zero_add] at this
  exact this
end Go.Proofs.YtlihjmfdnkfmfaaGreatDoor
namespace Go.Proofs.YtlihjmfdnkfmfaaGreatDoor
open Go.RowKit Go.Lib

theorem own_pos {w : World} {base : Nat} {e : TypeId} {size n : Nat} {v : Value} {xs : List Value} (h : w.ownsRow base e size v n xs) (hn : 0 < n) : ∃ g cap, v = .slice (some ⟨g, 0, none⟩) n cap ∧ base ≤ g := by
  rcases h.2 with ⟨_, h0⟩ | ⟨g, cap, cur, rfl, hg, _⟩
  · omega
  · exact ⟨g, cap, rfl, hg⟩
end Go.Proofs.YtlihjmfdnkfmfaaGreatDoor
namespace Go.Proofs.YtlihjmfdnkfmfaaGreatDoor
open Go.RowKit Go.Lib

theorem take_snoc' {α : Type} {l : List α} {k : Nat} {x : α} (h : l[k]? = some x) : l.take (k + 1) = l.take k ++ [x] := by
  rw [List.take_add_one, h]; rfl
mutual
def LnJ : JV → Prop
  | .mk _ _ _ l m => (l.length ≤ 1000000 ∧ m.length ≤ 1000000) ∧ LnJs l ∧ LnJm m
def LnJs : List JV → Prop
  | [] => True
  | x :: xs => LnJ x ∧ LnJs xs
def LnJm : List (ByteArray × JV) → Prop
  | [] => True
  | (_, x) :: xs => LnJ x ∧ LnJm xs
end
theorem LnJs_iff : ∀ l : List JV, LnJs l ↔ ∀ y ∈ l, LnJ y
  | [] => by simp [LnJs]
  | x :: xs => by simp [LnJs, LnJs_iff xs]
theorem LnJm_iff : ∀ l : List (ByteArray × JV), LnJm l ↔ ∀ q ∈ l, LnJ q.2
  | [] => by simp [LnJm]
  | (a, x) :: xs => by simp only [LnJm, LnJm_iff xs, List.forall_mem_cons]
theorem LnJ_iff (x : JV) : LnJ x ↔ (x.l.length ≤ 1000000 ∧ x.m.length ≤ 1000000) ∧ (∀ y ∈ x.l, LnJ y) ∧ ∀ q ∈ x.m, LnJ q.2 := by
  obtain ⟨k, n, s, l, m⟩ := x
  simp only [LnJ, LnJs_iff, LnJm_iff, JV.l, JV.m]
theorem join_ge {α : Type} (f : α → List UInt8) : ∀ (l : List α) (b : Bool), l.length ≤ (joinFrom f b l).length + (if b then 1 else 0) ∧ ∀ x ∈ l, (f x).length ≤ (joinFrom f b l).length
  | [], _ => by simp
  | x :: xs, b => by
    have ih := join_ge f xs false
    rw [join_cons]
    simp only [List.length_append, List.length_cons, List.mem_cons, Bool.false_eq_true, if_false, Nat.add_zero] at ih ⊢
    refine ⟨?_, ?_⟩
    · have := ih.1
      cases b <;> simp <;> omega
    · rintro y (rfl | hy)
      · omega
      · have := ih.2 y hy; omega
theorem print_ln : ∀ (d : Nat) (x : JV), mayJ d x = true → (printB d x).length ≤ 600000 → LnJ x
  | 0, _, h, _ => absurd h (by simp [mayJ])
  | d + 1, x, hm, h => by
    rw [printB.eq_2] at h
    cases shape_of hm with
    | word k hk => exact (LnJ_iff _).2 ⟨⟨by simp [JV.l], by simp [JV.m]⟩, by simp [JV.l], by simp [JV.m]⟩
    | num m hmr => exact (LnJ_iff _).2 ⟨⟨by simp [numV, JV.l], by simp [numV, JV.m]⟩, by simp [numV, JV.l], by simp [numV, JV.m]⟩
    | text u hu => exact (LnJ_iff _).2 ⟨⟨by simp [wordV, JV.l], by simp [wordV, JV.m]⟩, by simp [wordV, JV.l], by simp [wordV, JV.m]⟩
    | list l hl =>
      have h' : (91 :: (joinFrom (printB d) true l ++ [93])).length ≤ 600000 := h
      simp only [List.length_cons, List.length_append, List.length_nil] at h'
      have hj := join_ge (printB d) l true
      simp only [if_true] at hj
      refine (LnJ_iff _).2 ⟨⟨by simp only [listV, JV.l]; omega, by simp [listV, JV.m]⟩, fun y hy => ?_, by simp [listV, JV.m]⟩
      have hy' : y ∈ l := hy
      exact print_ln d y (hl y hy') (by have := hj.2 y hy'; omega)
    | obj m hmm hl =>
      have h' : (123 :: (joinFrom (prMem d) true m ++ [125])).length ≤ 600000 := h
      simp only [List.length_cons, List.length_append, List.length_nil] at h'
      have hj := join_ge (prMem d) m true
      simp only [if_true] at hj
      refine (LnJ_iff _).2 ⟨⟨by simp [objV, JV.l], by simp only [objV, JV.m]; omega⟩, by simp [objV, JV.l], fun q hq => ?_⟩
      have hq' : q ∈ m := hq
      have hp : (prMem d q).length = (quoteB q.1).length + ((printB d q.2).length + 1) := by unfold prMem; simp
      exact print_ln d q.2 (hl q hq') (by have := hj.2 q hq'; omega)
end Go.Proofs.YtlihjmfdnkfmfaaGreatDoor
namespace Go.Proofs.YtlihjmfdnkfmfaaGreatDoor
open Go.RowKit Go.Lib

mutual
def sameB : JV → JV → Bool
  | .mk k n s l m, .mk k' n' s' l' m' => k == k' && n == n' && s.toList == s'.toList && sameL l l' && sameM m m'
def sameL : List JV → List JV → Bool
  | [], [] => true
  | x :: xs, y :: ys => sameB x y && sameL xs ys
  | _, _ => false
def sameM : List (ByteArray × JV) → List (ByteArray × JV) → Bool
  | [], [] => true
  | (a, x) :: xs, (b, y) :: ys => (a.toList == b.toList && sameB x y) && sameM xs ys
  | _, _ => false
end
mutual
theorem same_refl : ∀ x : JV, sameB x x = true
  | .mk k n s l m => by simp [sameB, sameL_refl l, sameM_refl m]
theorem sameL_refl : ∀ l : List JV, sameL l l = true
  | [] => rfl
  | x :: xs => by simp [sameL, same_refl x, sameL_refl xs]
theorem sameM_refl : ∀ l : List (ByteArray × JV), sameM l l = true
  | [] => rfl
  | (a, x) :: xs => by simp [sameM, same_refl x, sameM_refl xs]
end
theorem get_mem {α : Type} {l : List α} {k : Nat} {x : α} (h : l[k]? = some x) : x ∈ l := List.mem_of_getElem? h
theorem mem_size {x : JV} {q : ByteArray × JV} (h : q ∈ x.m) : SizeOf.sizeOf q.2 < SizeOf.sizeOf x := by
  have hm := List.sizeOf_lt_of_mem h
  obtain ⟨a, b, s, l, m⟩ := x
  obtain ⟨nm, q⟩ := q
  simp only [JV.mk.sizeOf_spec, JV.m, Prod.mk.sizeOf_spec] at *
  omega
theorem val_size' {x q : JV} (h : q ∈ x.l) : SizeOf.sizeOf q < SizeOf.sizeOf x := by
  have hm := List.sizeOf_lt_of_mem h
  obtain ⟨a, b, s, l, m⟩ := x
  simp only [JV.mk.sizeOf_spec, JV.l] at *
  omega
end Go.Proofs.YtlihjmfdnkfmfaaGreatDoor
namespace Go.Proofs.YtlihjmfdnkfmfaaGreatDoor
open Go.RowKit Go.Lib

/-- what a call of Plain on a tree says -/
def PlRes (x : JV) (w : World) (z : Ending) (w' : World) : Prop := (∃ (A1 : Option Addr) (n1 c1 : Nat) (A2 : Option Addr) (n2 c2 : Nat),
  z = .returned (.agg #[.int .i64 x.k, .int .i64 x.n, .string x.s, .slice A1 n1 c1, .slice A2 n2 c2]) ∧ JR w' (fun b => w.heap.size ≤ b) x [.int .i64 x.k, .int .i64 x.n, .string x.s, .slice A1 n1 c1, .slice A2 n2 c2]) ∧ Below w.heap.size w w'
def PlS (V P i : Nat) (u pv : Value) (b o : Nat) (es : List Value) (w : World) : Prop := w.cell? ⟨V, i, none⟩ = some u ∧ w.cell? ⟨P, i, none⟩ = some pv ∧ ∀ j e, es[j]? = some e → w.cell? ⟨b, o + j, none⟩ = some e
theorem PlS.later {V P i : Nat} {u pv : Value} {b o : Nat} {es : List Value} {w W : World} (h : PlS V P i u pv b o es w) (hb : Below w.heap.size w W) : PlS V P i u pv b o es W :=
  ⟨cell_later' hb h.1, cell_later' hb h.2.1, fun j e he => cell_later' hb (h.2.2 j e he)⟩
theorem Below.at {w w' : World} {b : Nat} {o : Obj} (h : Below w.heap.size w w') (hb : w.heap[b]? = some o) : w'.heap[b]? = some o := (h.block b (Array.getElem?_eq_some_iff.1 hb).1).trans hb
end Go.Proofs.YtlihjmfdnkfmfaaGreatDoor
