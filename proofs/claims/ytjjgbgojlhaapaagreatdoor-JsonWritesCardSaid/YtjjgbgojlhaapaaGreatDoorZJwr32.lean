/- Parts of the proof: Kw. -/
import Derived.Test.YtjjgbgojlhaapaaGreatDoorZJwr29
import Derived.Test.YtjjgbgojlhaapaaGreatDoorZJwr30
import Derived.Test.YtjjgbgojlhaapaaGreatDoorZJwr31
import Derived.Test.YtjjgbgojlhaapaaGreatDoorZJwr23
import Derived.Test.YtjjgbgojlhaapaaGreatDoorZJwr25
import Derived.Deep.CutBlock
namespace Go.Proofs.YtjjgbgojlhaapaaGreatDoor
open Go.RowKit Go.Lib

theorem bsl_lat {w w' : World} {F : Nat → Prop} {v : Value} {s : ByteArray} (h : BSl w F v s) (hb : Below w.heap.size w w') : BSl w' F v s := by
  rcases h with ⟨b, o, c, rfl, hF, hc⟩ | h
  · exact .inl ⟨b, o, c, rfl, hF, fun i hi => (World.cell?_of_block (w := w) (a := ⟨b, o + i, none⟩) (hb.block b (World.block_lt_of_cell? w _ (hc i hi)))).trans (hc i hi)⟩
  · exact .inr h
theorem bytes_eq (s : ByteArray) (va vb : Value) (F F' : Nat → Prop) (w : World) (ha : BSl w F va s) (hb : BSl w F' vb s) :
    Calls Tryz.prog 12 #[va, vb] w fun e w' => e = .returned (.bool true) ∧ Below w.heap.size w w' := by
  have h1 := ha.conv
  have h2 := hb.conv
  obtain ⟨A1, c1, rfl⟩ := ha.form
  obtain ⟨A2, c2, rfl⟩ := hb.form
  clear ha hb
  go_enter Tryz.func12, Tryz.ntmps12
  go_wp2_with fail
  go_ret
  exact ⟨ret_bool (by simp), Below.refl _ _⟩
theorem jr_lens {w : World} {F : Nat → Prop} {x : JV} {a b c : Value} {d1 d2 : Option Addr} {n1 c1 n2 c2 : Nat} (h : JR w F x [a, b, c, .slice d1 n1 c1, .slice d2 n2 c2]) : x.l.length = n1 ∧ x.m.length = n2 := by
  obtain ⟨vl, vm, ⟨he, _⟩, hl, hm⟩ := JR_iff.1 h
  obtain ⟨A1, c1', rfl⟩ := hl.form
  obtain ⟨A2, c2', rfl⟩ := hm.form
  injection he with _ he; injection he with _ he; injection he with _ he; injection he with h1 he; injection he with h2 _
  injection h1 with _ h1; injection h2 with _ h2
  exact ⟨h1.symm, h2.symm⟩
def prE (x : JV) : Int := if mayJ 64 x then 0 else 4
theorem get_call (x : JV) (name : ByteArray) (cs : List Value) (F : Nat → Prop) (w : World) {p : JV} {b : Bool} (hp : getB name (memsOf x) = (p, b)) (hln : LnJ x) (h : JR w F x cs) :
    Calls Tryz.prog 16 #[.agg cs.toArray, .string name] w fun z w' => ∃ (A1 : Option Addr) (n1 c1 : Nat) (A2 : Option Addr) (n2 c2 : Nat),
      z = .returned (.tuple #[.agg #[.int .i64 p.k, .int .i64 p.n, .string p.s, .slice A1 n1 c1, .slice A2 n2 c2], .bool b]) ∧ JR w' (fun _ => True) p [.int .i64 p.k, .int .i64 p.n, .string p.s, .slice A1 n1 c1, .slice A2 n2 c2] ∧ Below w.heap.size w w' := by
  have k := get_any x name cs F w hln h
  unfold GtRes at k
  rw [hp] at k
  exact k.mono fun z w' ⟨⟨A1, n1, c1, A2, n2, c2, h1, h2⟩, hb⟩ => ⟨A1, n1, c1, A2, n2, c2, h1, JR_mono (fun _ _ => trivial) _ _ h2, hb⟩
theorem rg_call (x : JV) (name : ByteArray) (cs : List Value) (F : Nat → Prop) (w : World) {p : JV} {b : Bool} (hp : getB name (memsOf x) = (p, b)) (h : JR w F x cs) :
    Calls Tryz.prog 17 #[.agg cs.toArray, .string name] w fun z w' => ∃ (A1 : Option Addr) (n1 c1 : Nat) (A2 : Option Addr) (n2 c2 : Nat),
      z = .returned (.tuple #[.agg #[.int .i64 p.k, .int .i64 p.n, .string p.s, .slice A1 n1 c1, .slice A2 n2 c2], .bool b]) ∧ JR w' (fun _ => True) p [.int .i64 p.k, .int .i64 p.n, .string p.s, .slice A1 n1 c1, .slice A2 n2 c2] ∧ Below w.heap.size w w' := by
  have k := member1_any x name cs F w h
  unfold RgRes at k
  rw [hp] at k
  exact k.mono fun z w' ⟨⟨A1, n1, c1, A2, n2, c2, h1, h2⟩, hb⟩ => ⟨A1, n1, c1, A2, n2, c2, h1, JR_mono (fun _ _ => trivial) _ _ h2, hb⟩
def HdV (B : Nat) (x : JV) (A : Option Addr) (w : World) : Prop := x.l = [] ∨ ∃ b o n, A = some ⟨b, o, none⟩ ∧ B ≤ b ∧ w.cell? ⟨b, o + 1, none⟩ = some (.int .i64 n) ∧ w.frozen? ⟨b, o + 1, none⟩ = false
def HdM (B : Nat) (x : JV) (A : Option Addr) (w : World) : Prop := x.m = [] ∨ ∃ b o s, A = some ⟨b, o, none⟩ ∧ B ≤ b ∧ w.cell? ⟨b, o, none⟩ = some (.string s) ∧ w.frozen? ⟨b, o, none⟩ = false ∧ s.size ≤ 1000000
theorem frozen_block {w W : World} {a : Addr} (h : W.heap[a.block]? = w.heap[a.block]?) : W.frozen? a = w.frozen? a := by
  simp only [World.frozen?, h]
theorem HdV.later {B : Nat} {x : JV} {A : Option Addr} {w W : World} (h : HdV B x A w) (hb : Below w.heap.size w W) : HdV B x A W := by
  rcases h with h | ⟨b, o, n, h1, h2, h3, h4⟩
  · exact .inl h
  · exact .inr ⟨b, o, n, h1, h2, cell_later' hb h3, (frozen_block (hb.block b (World.block_lt_of_cell? _ _ h3))).trans h4⟩
theorem HdM.later {B : Nat} {x : JV} {A : Option Addr} {w W : World} (h : HdM B x A w) (hb : Below w.heap.size w W) : HdM B x A W := by
  rcases h with h | ⟨b, o, n, h1, h2, h3, h4, h5⟩
  · exact .inl h
  · exact .inr ⟨b, o, n, h1, h2, cell_later' hb h3, (frozen_block (hb.block b (World.block_lt_of_cell? _ _ h3))).trans h4, h5⟩
theorem HdM.set {B : Nat} {x : JV} {A : Option Addr} {w : World} {a : Addr} {v : Value} (h : HdM B x A w) (hn : x.m ≠ [] → ∀ b o, A = some ⟨b, o, none⟩ → b ≠ a.block) : HdM B x A (w.setCell a v) := by
  by_cases hm : x.m = []
  · exact .inl hm
  rcases h with h | ⟨b, o, n, h1, h2, h3, h4, h5⟩
  · exact .inl h
  · have k := Below.heap_setCell w a v b (hn hm b o h1)
    exact .inr ⟨b, o, n, h1, h2, (World.cell?_of_block (w := w) (a := ⟨b, o, none⟩) k).trans h3, (frozen_block k).trans h4, h5⟩
theorem sl_block {α : Type} {T : Ty α} {w : World} {F : Nat → Prop} {A : Option Addr} {n c : Nat} {xs : List α} (h : Sl T w F (.slice A n c) xs) (hx : xs ≠ []) : ∀ b o, A = some ⟨b, o, none⟩ → F b := by
  rcases h with ⟨h, _⟩ | ⟨b', o', c', h1, h2, _⟩
  · exact absurd h hx
  · intro b o e
    injection h1 with e1 _ _
    rw [e1] at e
    injection e with e
    injection e with e
    exact e ▸ h2
theorem copy_heads {w : World} {B : Nat} {x : JV} {a b c : Value} {A1 A2 : Option Addr} {n1 c1 n2 c2 : Nat} (hsm : SmJ x) (h : JR w (fun k => B ≤ k) x [a, b, c, .slice A1 n1 c1, .slice A2 n2 c2])
    (hf : ∀ g o, (A1 = some ⟨g, o, none⟩ ∨ A2 = some ⟨g, o, none⟩) → ∀ j, w.frozen? ⟨g, j, none⟩ = false) : HdV B x A1 w ∧ HdM B x A2 w := by
  obtain ⟨vl, vm, ⟨he, _⟩, hl, hm⟩ := JR_iff.1 h
  injection he with _ he; injection he with _ he; injection he with _ he; injection he with h1 he; injection he with h2 _
  subst h1 h2
  constructor
  · by_cases hx : x.l = []
    · exact .inl hx
    obtain ⟨A, c', hv, _, hc⟩ := val_cells hl
    obtain ⟨y, ys, hy⟩ : ∃ y ys, x.l = y :: ys := List.exists_cons_of_ne_nil hx
    obtain ⟨b, o, _, _, _, _, _, _, hA, _, k1, _⟩ := hc 0 y (by rw [hy]; rfl)
    injection hv with e1 _ _
    have e2 : A1 = some ⟨b, o, none⟩ := e1.trans hA
    exact .inr ⟨b, o, y.n, e2, sl_block hl hx b o e2, by simpa using k1, hf b o (.inl e2) _⟩
  · by_cases hx : x.m = []
    · exact .inl hx
    obtain ⟨A, c', hv, _, hc⟩ := mem_cells hm
    obtain ⟨⟨nm, y⟩, ys, hy⟩ : ∃ y ys, x.m = y :: ys := List.exists_cons_of_ne_nil hx
    obtain ⟨b, o, _, _, _, _, _, _, hA, _, k0, _⟩ := hc 0 nm y (by rw [hy]; rfl)
    injection hv with e1 _ _
    have e2 : A2 = some ⟨b, o, none⟩ := e1.trans hA
    have hz : nm.size ≤ 1000000 := ((SmJ_parts hsm).2.2 (nm, y) (by rw [hy]; simp)).1
    exact .inr ⟨b, o, nm, e2, sl_block hm hx b o e2, by simpa using k0, hf b o (.inr e2) _, hz⟩
theorem heads_lt {w : World} {F : Nat → Prop} {x : JV} {a b c : Value} {A1 A2 : Option Addr} {n1 c1 n2 c2 : Nat} (h : JR w F x [a, b, c, .slice A1 n1 c1, .slice A2 n2 c2]) :
    ∀ g o, (A1 = some ⟨g, o, none⟩ ∧ x.l ≠ []) ∨ (A2 = some ⟨g, o, none⟩ ∧ x.m ≠ []) → g < w.heap.size := by
  obtain ⟨vl, vm, ⟨he, _⟩, hl, hm⟩ := JR_iff.1 (JR_bound _ _ h)
  injection he with _ he; injection he with _ he; injection he with _ he; injection he with h1 he; injection he with h2 _
  subst h1 h2
  rintro g o (⟨h1, h2⟩ | ⟨h1, h2⟩)
  · exact (sl_block hl h2 g o h1).2
  · exact (sl_block hm h2 g o h1).2
theorem sl_lat {α : Type} {T : Ty α} {w W : World} {F : Nat → Prop} {v : Value} {xs : List α} (h : Sl T w F v xs) (hb : Below w.heap.size w W) : Sl T W F v xs :=
  (h.bound.frame (w' := W) (fun b hb' => hb.block b hb'.2)).mono (fun _ h => h.1)
theorem own_strs {w : World} {B : Nat} {e : TypeId} {v : Value} {ms : List (ByteArray × JV)} (h : w.ownsRow B e 1 v ms.length (ms.map fun q => Value.string q.1)) : Sl strTy w (fun _ => True) v (ms.map (·.1)) := by
  have ha : w.ownsRow B e strTy.sz v (ms.map (·.1)).length ((ms.map (·.1)).map Value.string) := by
    rw [List.length_map, List.map_map]; exact h
  exact (own_to_sl ha (F := fun _ => False) (str_chunks _)).mono fun _ _ => trivial
theorem jr_mems {w : World} {F : Nat → Prop} {x : JV} {a b c : Value} {A1 A2 : Option Addr} {n1 c1 n2 c2 : Nat} (h : JR w F x [a, b, c, .slice A1 n1 c1, .slice A2 n2 c2]) : Sl memTy w F (.slice A2 n2 c2) x.m := by
  obtain ⟨vl, vm, ⟨he, _⟩, hl, hm⟩ := JR_iff.1 h
  injection he with _ he; injection he with _ he; injection he with _ he; injection he with h1 he; injection he with h2 _
  subst h2
  exact hm
theorem get_ln {x : JV} {name : ByteArray} {p : JV} {b : Bool} (h : getB name (memsOf x) = (p, b)) (hln : LnJ x) : LnJ p := by
  have key : ∀ l : List (ByteArray × JV), (∀ q ∈ l, LnJ q.2) → LnJ (getB name l).1 := fun l => by
    induction l with
    | nil => exact fun _ => (LnJ_iff _).2 ⟨⟨by simp [getB, zeroV, JV.l], by simp [getB, zeroV, JV.m]⟩, by simp [getB, zeroV, JV.l], by simp [getB, zeroV, JV.m]⟩
    | cons q l ih =>
      intro hl
      unfold getB
      split
      · exact hl _ (List.mem_cons_self ..)
      · exact ih fun r hr => hl r (List.mem_cons_of_mem _ hr)
  have k := key (memsOf x) (fun q hq => by
    unfold memsOf at hq
    split at hq
    · exact ((LnJ_iff x).1 hln).2.2 q hq
    · simp at hq)
  rw [h] at k
  exact k
theorem mems_len {x : JV} (hln : LnJ x) : (memsOf x).length ≤ 1000000 := by
  unfold memsOf
  split
  · exact ((LnJ_iff x).1 hln).1.2
  · simp
/-- what a round of the last loop reads -/
def KwL (X b p bN pN : Nat) (u : Value) (nm : ByteArray) (c0 c1 c2 c3 c4 d0 d1 d2 d3 d4 : Value) (w : World) : Prop := w.cell? ⟨X, 4, none⟩ = some u ∧ w.cell? ⟨b, p, none⟩ = some (.string nm) ∧
  (w.cell? ⟨b, p + 1, none⟩ = some c0 ∧ w.cell? ⟨b, p + 2, none⟩ = some c1 ∧ w.cell? ⟨b, p + 3, none⟩ = some c2 ∧ w.cell? ⟨b, p + 4, none⟩ = some c3 ∧ w.cell? ⟨b, p + 5, none⟩ = some c4) ∧
  (w.cell? ⟨bN, pN, none⟩ = some d0 ∧ w.cell? ⟨bN, pN + 1, none⟩ = some d1 ∧ w.cell? ⟨bN, pN + 2, none⟩ = some d2 ∧ w.cell? ⟨bN, pN + 3, none⟩ = some d3 ∧ w.cell? ⟨bN, pN + 4, none⟩ = some d4)
theorem KwL.later {X b p bN pN : Nat} {u : Value} {nm : ByteArray} {c0 c1 c2 c3 c4 d0 d1 d2 d3 d4 : Value} {w W : World} (h : KwL X b p bN pN u nm c0 c1 c2 c3 c4 d0 d1 d2 d3 d4 w) (hb : Below w.heap.size w W) : KwL X b p bN pN u nm c0 c1 c2 c3 c4 d0 d1 d2 d3 d4 W := by
  obtain ⟨h1, h2, ⟨a0, a1, a2, a3, a4⟩, ⟨b0, b1, b2, b3, b4⟩⟩ := h
  exact ⟨cell_later' hb h1, cell_later' hb h2, ⟨cell_later' hb a0, cell_later' hb a1, cell_later' hb a2, cell_later' hb a3, cell_later' hb a4⟩, ⟨cell_later' hb b0, cell_later' hb b1, cell_later' hb b2, cell_later' hb b3, cell_later' hb b4⟩⟩
def KwS (X b o : Nat) (u : Value) (s : ByteArray) (w : World) : Prop := w.cell? ⟨X, 4, none⟩ = some u ∧ w.cell? ⟨b, o, none⟩ = some (.string s)
def WtS (a b : Nat) (ca cb : Array Value) (w : World) : Prop := w.heap[a]? = some (.cells ca 28 (0, 0)) ∧ w.heap[b]? = some (.cells cb 28 (0, 0))
theorem WtS.later {a b : Nat} {ca cb : Array Value} {w W : World} (h : WtS a b ca cb w) (hb : Below w.heap.size w W) : WtS a b ca cb W := ⟨Below.at hb h.1, Below.at hb h.2⟩
/-- two values copied into two new blocks -/
def WtR (x y : JV) (W : World) (s9 s10 : Value) (wx : World) : Prop := ∃ X9 X10 D1 i1 e1 D2 i2 e2 G1 j1 h1 G2 j2 h2, s9 = .pointer (some ⟨X9, 0, none⟩) ∧ s10 = .pointer (some ⟨X10, 0, none⟩) ∧
  (wx.heap[X9]? = some (.cells #[.int .i64 x.k, .int .i64 x.n, .string x.s, .slice D1 i1 e1, .slice D2 i2 e2] 35 (0, 0)) ∧ wx.heap[X10]? = some (.cells #[.int .i64 y.k, .int .i64 y.n, .string y.s, .slice G1 j1 h1, .slice G2 j2 h2] 35 (0, 0))) ∧
  (JR wx (fun _ => True) x [.int .i64 x.k, .int .i64 x.n, .string x.s, .slice D1 i1 e1, .slice D2 i2 e2] ∧ JR wx (fun _ => True) y [.int .i64 y.k, .int .i64 y.n, .string y.s, .slice G1 j1 h1, .slice G2 j2 h2]) ∧ Below W.heap.size W wx
theorem wt_end {x y : JV} {W wq : World} {X9 X10 : Nat} {a0 a1 a2 a3 a4 b0 b1 b2 b3 b4 : Value} {T T' : TypeId} (v0 v1 v2 v3 v4 u0 u1 u2 u3 u4 : Value) (h9 : wq.heap[X9]? = some (.cells #[a0, a1, a2, a3, a4] T (0, 0))) (h10 : wq.heap[X10]? = some (.cells #[b0, b1, b2, b3, b4] T' (0, 0))) (hn : X9 ≠ X10)
    (hx : JR wq (fun b => b ≠ X9 ∧ b ≠ X10) x [v0, v1, v2, v3, v4]) (hy : JR wq (fun b => b ≠ X9 ∧ b ≠ X10) y [u0, u1, u2, u3, u4]) (hb : Below W.heap.size W wq) (hw9 : W.heap.size ≤ X9) (hw10 : W.heap.size ≤ X10) :
    (((((((((((wq.setCell ⟨X9, 0, none⟩ v0).setCell ⟨X9, 1, none⟩ v1).setCell ⟨X9, 2, none⟩ v2).setCell ⟨X9, 3, none⟩ v3).setCell ⟨X9, 4, none⟩ v4).setCell ⟨X10, 0, none⟩ u0).setCell ⟨X10, 1, none⟩ u1).setCell ⟨X10, 2, none⟩ u2).setCell ⟨X10, 3, none⟩ u3).setCell ⟨X10, 4, none⟩ u4).heap[X9]? = some (.cells #[v0, v1, v2, v3, v4] T (0, 0)) ∧ ((((((((((wq.setCell ⟨X9, 0, none⟩ v0).setCell ⟨X9, 1, none⟩ v1).setCell ⟨X9, 2, none⟩ v2).setCell ⟨X9, 3, none⟩ v3).setCell ⟨X9, 4, none⟩ v4).setCell ⟨X10, 0, none⟩ u0).setCell ⟨X10, 1, none⟩ u1).setCell ⟨X10, 2, none⟩ u2).setCell ⟨X10, 3, none⟩ u3).setCell ⟨X10, 4, none⟩ u4).heap[X10]? = some (.cells #[u0, u1, u2, u3, u4] T' (0, 0))) ∧
      (JR ((((((((((wq.setCell ⟨X9, 0, none⟩ v0).setCell ⟨X9, 1, none⟩ v1).setCell ⟨X9, 2, none⟩ v2).setCell ⟨X9, 3, none⟩ v3).setCell ⟨X9, 4, none⟩ v4).setCell ⟨X10, 0, none⟩ u0).setCell ⟨X10, 1, none⟩ u1).setCell ⟨X10, 2, none⟩ u2).setCell ⟨X10, 3, none⟩ u3).setCell ⟨X10, 4, none⟩ u4) (fun _ => True) x [v0, v1, v2, v3, v4] ∧ JR ((((((((((wq.setCell ⟨X9, 0, none⟩ v0).setCell ⟨X9, 1, none⟩ v1).setCell ⟨X9, 2, none⟩ v2).setCell ⟨X9, 3, none⟩ v3).setCell ⟨X9, 4, none⟩ v4).setCell ⟨X10, 0, none⟩ u0).setCell ⟨X10, 1, none⟩ u1).setCell ⟨X10, 2, none⟩ u2).setCell ⟨X10, 3, none⟩ u3).setCell ⟨X10, 4, none⟩ u4) (fun _ => True) y [u0, u1, u2, u3, u4]) ∧ Below W.heap.size W ((((((((((wq.setCell ⟨X9, 0, none⟩ v0).setCell ⟨X9, 1, none⟩ v1).setCell ⟨X9, 2, none⟩ v2).setCell ⟨X9, 3, none⟩ v3).setCell ⟨X9, 4, none⟩ v4).setCell ⟨X10, 0, none⟩ u0).setCell ⟨X10, 1, none⟩ u1).setCell ⟨X10, 2, none⟩ u2).setCell ⟨X10, 3, none⟩ u3).setCell ⟨X10, 4, none⟩ u4) := by
  have o10 : (((((wq.setCell ⟨X9, 0, none⟩ v0).setCell ⟨X9, 1, none⟩ v1).setCell ⟨X9, 2, none⟩ v2).setCell ⟨X9, 3, none⟩ v3).setCell ⟨X9, 4, none⟩ v4).heap[X10]? = _ := (set5_other v0 v1 v2 v3 v4 (fun e => hn e.symm)).trans h10
  have hfr : ∀ b, (b ≠ X9 ∧ b ≠ X10) → ((((((((((wq.setCell ⟨X9, 0, none⟩ v0).setCell ⟨X9, 1, none⟩ v1).setCell ⟨X9, 2, none⟩ v2).setCell ⟨X9, 3, none⟩ v3).setCell ⟨X9, 4, none⟩ v4).setCell ⟨X10, 0, none⟩ u0).setCell ⟨X10, 1, none⟩ u1).setCell ⟨X10, 2, none⟩ u2).setCell ⟨X10, 3, none⟩ u3).setCell ⟨X10, 4, none⟩ u4).heap[b]? = wq.heap[b]? := fun b hb => (set5_other u0 u1 u2 u3 u4 hb.2).trans (set5_other v0 v1 v2 v3 v4 hb.1)
  refine ⟨⟨(set5_other u0 u1 u2 u3 u4 hn).trans (set5 v0 v1 v2 v3 v4 h9), set5 u0 u1 u2 u3 u4 o10⟩, ⟨JR_mono (fun _ _ => trivial) _ _ (JR_frame hfr _ _ hx), JR_mono (fun _ _ => trivial) _ _ (JR_frame hfr _ _ hy)⟩, ?_⟩
  have k := bel_set (p := ⟨X9, 4, none⟩) (bel_set (p := ⟨X9, 3, none⟩) (bel_set (p := ⟨X9, 2, none⟩) (bel_set (p := ⟨X9, 1, none⟩) (bel_set (p := ⟨X9, 0, none⟩) hb hw9 v0) hw9 v1) hw9 v2) hw9 v3) hw9 v4
  exact bel_set (p := ⟨X10, 4, none⟩) (bel_set (p := ⟨X10, 3, none⟩) (bel_set (p := ⟨X10, 2, none⟩) (bel_set (p := ⟨X10, 1, none⟩) (bel_set (p := ⟨X10, 0, none⟩) k hw10 u0) hw10 u1) hw10 u2) hw10 u3) hw10 u4
set_option maxRecDepth 100000 in
set_option maxHeartbeats 64000000 in
theorem jsonWrites_any (x y : JV) (cs cs' : List Value) (F F' : Nat → Prop) (name : ByteArray) (n : Int) (w : World) (h : JR w F x cs) (h' : JR w F' y cs') (hT : Tabs w) :
    Calls Tryz.prog 4 #[.agg cs.toArray, .agg cs'.toArray, .string name, .int .i64 n] w fun z w' => z = .returned (.bool true) ∧ Below w.heap.size w w' := by
  obtain ⟨vl, vm, ⟨rfl, hsz⟩, hl, hm⟩ := JR_iff.1 h
  obtain ⟨vl', vm', ⟨rfl, hsz'⟩, hl', hm'⟩ := JR_iff.1 h'
  obtain ⟨A1, c1, rfl⟩ := hl.form
  obtain ⟨A2, c2, rfl⟩ := hm.form
  obtain ⟨B1, d1, rfl⟩ := hl'.form
  obtain ⟨B2, d2, rfl⟩ := hm'.form
  have hbA : Below w.heap.size w ((w.alloc (.cells #[.int .i64 x.k, .int .i64 x.n, .string x.s, .slice A1 x.l.length c1, .slice A2 x.m.length c2] 28)).alloc (.cells #[.int .i64 y.k, .int .i64 y.n, .string y.s, .slice B1 y.l.length d1, .slice B2 y.m.length d2] 28)) := bel_alloc (bel_alloc (Below.refl _ _) _) _
  have hP := heap_alloc2_old w (.cells #[.int .i64 x.k, .int .i64 x.n, .string x.s, .slice A1 x.l.length c1, .slice A2 x.m.length c2] 28) (.cells #[.int .i64 y.k, .int .i64 y.n, .string y.s, .slice B1 y.l.length d1, .slice B2 y.m.length d2] 28)
  have hQ := heap_alloc2_new w (.cells #[.int .i64 x.k, .int .i64 x.n, .string x.s, .slice A1 x.l.length c1, .slice A2 x.m.length c2] 28) (.cells #[.int .i64 y.k, .int .i64 y.n, .string y.s, .slice B1 y.l.length d1, .slice B2 y.m.length d2] 28)
  have HJ0 := Lib.hid (JR_later h hbA); have HJ1 := Lib.hid (JR_later h' hbA); have HT := Lib.hid hT
  generalize hW : (w.alloc (.cells #[.int .i64 x.k, .int .i64 x.n, .string x.s, .slice A1 x.l.length c1, .slice A2 x.m.length c2] 28)).alloc (.cells #[.int .i64 y.k, .int .i64 y.n, .string y.s, .slice B1 y.l.length d1, .slice B2 y.m.length d2] 28) = W0 at *
  have HW := Lib.hid hW; have HB0 := Lib.hid hbA; have HK0 := Lib.hid hP; have HK1 := Lib.hid hQ
  clear hW hbA hP hQ h h' hT hl hm hl' hm' hsz hsz'
  go_enter Tryz.func4, Tryz.ntmps4
  go_upto_region 1 with (fail)
  rw [HW.out]
  clear HW
  have hcl := first_any W0 (HT.out.below HB0.out)
  have HCL := Lib.hid hcl
  clear hcl
  go_wp2_with fail
  refine Calls.mono HCL.out ?_
  rintro e w1 ⟨rfl, hbz⟩
  clear HCL
  have HB2 := Lib.hid (bel_trans HB0.out hbz)
  have HK3 := Lib.hid (Below.at hbz HK0.out)
  have HK4 := Lib.hid (Below.at hbz HK1.out)
  have HJ5 := Lib.hid (JR_later HJ0.out hbz)
  have HJ6 := Lib.hid (JR_later HJ1.out hbz)
  clear HB0 HK0 HK1 HJ0 HJ1
  clear hbz
  obtain ⟨⟨v07, v17, v27, v37, v47⟩, _, hV7⟩ := cells5 HK3.out
  obtain ⟨⟨v08, v18, v28, v38, v48⟩, _, hV8⟩ := cells5 HK4.out
  have hcl := few_any x _ _ w1 HJ5.out
  have HCL := Lib.hid hcl
  clear hcl
  go_wp2_with fail
  refine Calls.mono HCL.out ?_
  clear HCL
  cases hfx : fewB x with
  | false =>
    rintro e w9 ⟨rfl, hbz⟩
    have HB10 := Lib.hid (bel_trans HB2.out hbz)
    have HK11 := Lib.hid (Below.at hbz HK3.out)
    have HK12 := Lib.hid (Below.at hbz HK4.out)
    have HJ13 := Lib.hid (JR_later HJ5.out hbz)
    have HJ14 := Lib.hid (JR_later HJ6.out hbz)
    clear HB2 HK3 HK4 HJ5 HJ6 v07 v17 v27 v37 v47 hV7 v08 v18 v28 v38 v48 hV8
    clear hbz hfx
    have hcl := first_any w9 (HT.out.below HB10.out)
    have HCL := Lib.hid hcl
    clear hcl
    go_wp2_with fail
    refine Calls.mono HCL.out ?_
    rintro e w15 ⟨rfl, hbz⟩
    clear HCL
    have HB16 := Lib.hid (bel_trans HB10.out hbz)
    have HK17 := Lib.hid (Below.at hbz HK11.out)
    have HK18 := Lib.hid (Below.at hbz HK12.out)
    have HJ19 := Lib.hid (JR_later HJ13.out hbz)
    have HJ20 := Lib.hid (JR_later HJ14.out hbz)
    clear HB10 HK11 HK12 HJ13 HJ14
    clear hbz
    go_wp2_with fail
    go_ret
    exact ⟨rfl, HB16.out⟩
  | true =>
    rintro e w9 ⟨rfl, hbz⟩
    have HB21 := Lib.hid (bel_trans HB2.out hbz)
    have HK22 := Lib.hid (Below.at hbz HK3.out)
    have HK23 := Lib.hid (Below.at hbz HK4.out)
    have HJ24 := Lib.hid (JR_later HJ5.out hbz)
    have HJ25 := Lib.hid (JR_later HJ6.out hbz)
    clear HB2 HK3 HK4 HJ5 HJ6 v07 v17 v27 v37 v47 hV7 v08 v18 v28 v38 v48 hV8
    have HFX := Lib.hid hfx
    clear hbz hfx
    obtain ⟨⟨v026, v126, v226, v326, v426⟩, _, hV26⟩ := cells5 HK22.out
    obtain ⟨⟨v027, v127, v227, v327, v427⟩, _, hV27⟩ := cells5 HK23.out
    have hcl := few_any y _ _ w9 HJ25.out
    have HCL := Lib.hid hcl
    clear hcl
    go_wp2_with fail
    refine Calls.mono HCL.out ?_
    clear HCL
    cases hfy : fewB y with
    | false =>
      rintro e w28 ⟨rfl, hbz⟩
      have HB29 := Lib.hid (bel_trans HB21.out hbz)
      have HK30 := Lib.hid (Below.at hbz HK22.out)
      have HK31 := Lib.hid (Below.at hbz HK23.out)
      have HJ32 := Lib.hid (JR_later HJ24.out hbz)
      have HJ33 := Lib.hid (JR_later HJ25.out hbz)
      clear HB21 HK22 HK23 HJ24 HJ25 v026 v126 v226 v326 v426 hV26 v027 v127 v227 v327 v427 hV27
      clear hbz hfy
      have hcl := first_any w28 (HT.out.below HB29.out)
      have HCL := Lib.hid hcl
      clear hcl
      go_wp2_with fail
      refine Calls.mono HCL.out ?_
      rintro e w34 ⟨rfl, hbz⟩
      clear HCL
      have HB35 := Lib.hid (bel_trans HB29.out hbz)
      have HK36 := Lib.hid (Below.at hbz HK30.out)
      have HK37 := Lib.hid (Below.at hbz HK31.out)
      have HJ38 := Lib.hid (JR_later HJ32.out hbz)
      have HJ39 := Lib.hid (JR_later HJ33.out hbz)
      clear HB29 HK30 HK31 HJ32 HJ33
      clear hbz
      go_wp2_with fail
      go_ret
      exact ⟨rfl, HB35.out⟩
    | true =>
      rintro e w28 ⟨rfl, hbz⟩
      have HB40 := Lib.hid (bel_trans HB21.out hbz)
      have HK41 := Lib.hid (Below.at hbz HK22.out)
      have HK42 := Lib.hid (Below.at hbz HK23.out)
      have HJ43 := Lib.hid (JR_later HJ24.out hbz)
      have HJ44 := Lib.hid (JR_later HJ25.out hbz)
      clear HB21 HK22 HK23 HJ24 HJ25 v026 v126 v226 v326 v426 hV26 v027 v127 v227 v327 v427 hV27
      have HFY := Lib.hid hfy
      clear hbz hfy
      by_cases hnm : 1000 < name.size
      · have hd1 : decide (1000 < (name.size : Int)) = true := decide_eq_true (by omega)
        have hcl := first_any w28 (HT.out.below HB40.out)
        have HCL := Lib.hid hcl
        clear hcl
        go_wp2_with fail
        refine Calls.mono HCL.out ?_
        rintro e w45 ⟨rfl, hbz⟩
        clear HCL
        have HB46 := Lib.hid (bel_trans HB40.out hbz)
        have HK47 := Lib.hid (Below.at hbz HK41.out)
        have HK48 := Lib.hid (Below.at hbz HK42.out)
        have HJ49 := Lib.hid (JR_later HJ43.out hbz)
        have HJ50 := Lib.hid (JR_later HJ44.out hbz)
        clear HB40 HK41 HK42 HJ43 HJ44
        clear hbz
        go_wp2_with fail
        go_ret
        exact ⟨rfl, HB46.out⟩
      · have hd1 : decide (1000 < (name.size : Int)) = false := decide_eq_false (by omega)
        have hcx : 0 < countB 100 x 12000 := of_decide_eq_true (show decide (0 < countB 100 x 12000) = true from HFX.out)
        have hcy : 0 < countB 100 y 12000 := of_decide_eq_true (show decide (0 < countB 100 y 12000) = true from HFY.out)
        have HLX := Lib.hid (count_ln 100 x 12000 (by omega) hcx); have HLY := Lib.hid (count_ln 100 y 12000 (by omega) hcy)
        have HSX := Lib.hid (count_sm 100 x 12000 (by omega) hcx)
        have HPX := Lib.hid (fun hm : mayJ 64 x = true => Nat.le_trans (few_len hcx hm) (show 360000 ≤ 1000000000 by omega))
        clear hcx hcy HFX HFY
        obtain ⟨⟨v051, v151, v251, v351, v451⟩, _, hV51⟩ := cells5 HK41.out
        obtain ⟨⟨v052, v152, v252, v352, v452⟩, _, hV52⟩ := cells5 HK42.out
        have HSS := Lib.hid (show WtS w.heap.size (w.heap.size + 1) #[.int .i64 x.k, .int .i64 x.n, .string x.s, .slice A1 x.l.length c1, .slice A2 x.m.length c2] #[.int .i64 y.k, .int .i64 y.n, .string y.s, .slice B1 y.l.length d1, .slice B2 y.m.length d2] w28.drew from ⟨HK41.out, HK42.out⟩)
        have HPLX := Lib.hid (fun X (hb : Below w28.heap.size w28 X) => plain_any x _ _ X HLX.out (JR_later HJ43.out hb))
        have HPLY := Lib.hid (fun X (hb : Below w28.heap.size w28 X) => plain_any y _ _ X HLY.out (JR_later HJ44.out hb))
        go_wp2_with fail
        go_cut [9, 10] (fun s9 s10 wx => WtR x y w28 s9 s10 wx)
        case first =>
          refine PrintLast.wp_region_last_drew (S := WtS w.heap.size (w.heap.size + 1) #[.int .i64 x.k, .int .i64 x.n, .string x.s, .slice A1 x.l.length c1, .slice A2 x.m.length c2] #[.int .i64 y.k, .int .i64 y.n, .string y.s, .slice B1 y.l.length d1, .slice B2 y.m.length d2]) (ds := [6, 7]) (by kernel_rfl) HSS.out (fun hHeld => ?_)
          refine PrintLast.wpAnyLast_take (i := 0) (v := ?_) rfl (by kernel_rfl) (by kernel_rfl) (by kernel_rfl) (by kernel_rfl) (by kernel_rfl) (fun _ _ _ h => h) (Or.inl ⟨by kernel_rfl, ?_⟩) (by assumption) ?_
          rotate_left
          · (intro wX hSw; obtain ⟨z0, z1, z2, z3, z4⟩ := (cells5 hSw.1).1; obtain ⟨t0, t1, t2, t3, t4⟩ := (cells5 hSw.2).1; go_simp; try (with_reducible rfl))
          try simp only [List.getElem_toArray, List.getElem_cons_zero, List.getElem_cons_succ, Act.put, List.setIfInBounds_toArray, List.set_cons_zero, List.set_cons_succ]
          refine PrintLast.wpAnyLast_take (i := 2) (v := ?_) rfl (by kernel_rfl) (by kernel_rfl) (by kernel_rfl) (by kernel_rfl) (by kernel_rfl) (fun _ _ _ h => h) (Or.inl ⟨by kernel_rfl, ?_⟩) (by assumption) ?_
          rotate_left
          · (intro wX hSw; obtain ⟨z0, z1, z2, z3, z4⟩ := (cells5 hSw.1).1; obtain ⟨t0, t1, t2, t3, t4⟩ := (cells5 hSw.2).1; go_simp; try (with_reducible rfl))
          try simp only [List.getElem_toArray, List.getElem_cons_zero, List.getElem_cons_succ, Act.put, List.setIfInBounds_toArray, List.set_cons_zero, List.set_cons_succ]
          have HH := Lib.hid hHeld
          have HBD := Lib.hid (bel_drew (Below.refl w28.heap.size w28))
          clear hHeld
          generalize w28.drew = wq0 at *
          refine PrintLast.wpAnyLast_ready (rs := [1, 4, 5]) (by kernel_rfl) (by simp) ?_
          refine PrintLast.AllReadyL.cons rfl (by decide) (fun K hK => ?_) (PrintLast.AllReadyL.cons rfl (by decide) (fun K hK => ?_) (PrintLast.AllReadyL.cons rfl (by decide) (fun K hK => ?_) (PrintLast.AllReadyL.nil)))
          · rw [if_pos (by kernel_rfl)]
            go_simp
            go_at_call 11; refine (HPLX.out _ HBD.out).mono ?_; rintro e wq1 ⟨⟨D1, i1, e1, D2, i2, e2, rfl, hjq⟩, hbq⟩
            go_wp2_with fail
            have HJXn := Lib.hid (JR_mono (F' := fun b => True) (fun b hb => by trivial) _ _ hjq)
            have HHn := Lib.hid (WtS.later HH.out hbq); have HBDn := Lib.hid (bel_trans HBD.out hbq)
            clear hjq hbq HH HBD
            have HH := HHn
            have HBD := HBDn
            have HJX := HJXn
            clear HHn HBDn HJXn
            refine hK.out _ _ HH.out (fun hHeld => ?_)
            clear hK K hHeld
            try simp only [List.getElem_toArray, List.getElem_cons_zero, List.getElem_cons_succ, Act.put, List.setIfInBounds_toArray, List.set_cons_zero, List.set_cons_succ]
            refine PrintLast.wpAnyLast_ready (rs := [3, 4, 5]) (by kernel_rfl) (by simp) ?_
            refine PrintLast.AllReadyL.cons rfl (by decide) (fun K hK => ?_) (PrintLast.AllReadyL.cons rfl (by decide) (fun K hK => ?_) (PrintLast.AllReadyL.cons rfl (by decide) (fun K hK => ?_) (PrintLast.AllReadyL.nil)))
            · rw [if_pos (by kernel_rfl)]
              go_simp
              go_at_call 11; refine (HPLY.out _ HBD.out).mono ?_; rintro e wq2 ⟨⟨G1, j1, h1, G2, j2, h2, rfl, hjq⟩, hbq⟩
              go_wp2_with fail
              have HJYn := Lib.hid (JR_mono (F' := fun b => True) (fun b hb => by trivial) _ _ hjq)
              have HHn := Lib.hid (WtS.later HH.out hbq); have HBDn := Lib.hid (bel_trans HBD.out hbq)
              have HJXn := Lib.hid (JR_later HJX.out hbq)
              clear hjq hbq HH HBD HJX
              have HH := HHn
              have HBD := HBDn
              have HJX := HJXn
              have HJY := HJYn
              clear HHn HBDn HJXn HJYn
              refine hK.out _ _ HH.out (fun hHeld => ?_)
              clear hK K hHeld
              try simp only [List.getElem_toArray, List.getElem_cons_zero, List.getElem_cons_succ, Act.put, List.setIfInBounds_toArray, List.set_cons_zero, List.set_cons_succ]
              refine PrintLast.wpAnyLast_ready (rs := [4, 5]) (by kernel_rfl) (by simp) ?_
              refine PrintLast.AllReadyL.cons rfl (by decide) (fun K hK => ?_) (PrintLast.AllReadyL.cons rfl (by decide) (fun K hK => ?_) (PrintLast.AllReadyL.nil))
              · rw [if_pos (by kernel_rfl)]
                go_simp
                have hal := bel_alloc (Below.refl wq2.heap.size wq2) (.cells #[.int .i64 0, .int .i64 0, .string ⟨#[]⟩, .slice none 0 0, .slice none 0 0] 35)
                have HHn := Lib.hid (WtS.later HH.out hal); have HBDn := Lib.hid (bel_trans HBD.out hal)
                have HZ9n := Lib.hid (heap_alloc_new wq2 (.cells #[.int .i64 0, .int .i64 0, .string ⟨#[]⟩, .slice none 0 0, .slice none 0 0] 35))
                have HW9 := Lib.hid HBD.out.size
                have HJXn := Lib.hid (JR_mono (F' := fun b => b ≠ wq2.heap.size) (fun b hb => by have := hb.1; have := hb.2; omega) _ _ (JR_later (JR_bound _ _ HJX.out) hal))
                have HJYn := Lib.hid (JR_mono (F' := fun b => b ≠ wq2.heap.size) (fun b hb => by have := hb.1; have := hb.2; omega) _ _ (JR_later (JR_bound _ _ HJY.out) hal))
                clear hal HH HBD HJX HJY
                have HH := HHn
                have HBD := HBDn
                have HJX := HJXn
                have HJY := HJYn
                have HZ9 := HZ9n
                clear HHn HBDn HJXn HJYn HZ9n
                refine hK.out _ _ HH.out (fun hHeld => ?_)
                clear hK K hHeld
                try simp only [List.getElem_toArray, List.getElem_cons_zero, List.getElem_cons_succ, Act.put, List.setIfInBounds_toArray, List.set_cons_zero, List.set_cons_succ]
                generalize wq2.heap.size = X9 at *
                generalize wq2.alloc (.cells #[.int .i64 0, .int .i64 0, .string ⟨#[]⟩, .slice none 0 0, .slice none 0 0] 35) = wq3 at *
                refine PrintLast.wpAnyLast_ready (rs := [5]) (by kernel_rfl) (by simp) ?_
                refine PrintLast.AllReadyL.cons rfl (by decide) (fun K hK => ?_) (PrintLast.AllReadyL.nil)
                rw [if_pos (by kernel_rfl)]
                go_simp
                have hal := bel_alloc (Below.refl wq3.heap.size wq3) (.cells #[.int .i64 0, .int .i64 0, .string ⟨#[]⟩, .slice none 0 0, .slice none 0 0] 35)
                have HHn := Lib.hid (WtS.later HH.out hal); have HBDn := Lib.hid (bel_trans HBD.out hal)
                have HZ10n := Lib.hid (heap_alloc_new wq3 (.cells #[.int .i64 0, .int .i64 0, .string ⟨#[]⟩, .slice none 0 0, .slice none 0 0] 35))
                have HW10 := Lib.hid HBD.out.size
                have HJXn := Lib.hid (JR_mono (F' := fun b => b ≠ X9 ∧ b ≠ wq3.heap.size) (fun b hb => by have := hb.1; have := hb.2; omega) _ _ (JR_later (JR_bound _ _ HJX.out) hal))
                have HJYn := Lib.hid (JR_mono (F' := fun b => b ≠ X9 ∧ b ≠ wq3.heap.size) (fun b hb => by have := hb.1; have := hb.2; omega) _ _ (JR_later (JR_bound _ _ HJY.out) hal))
                have HZ9n := Lib.hid (Below.at hal HZ9.out)
                have hXne : X9 ≠ wq3.heap.size := by have := (Array.getElem?_eq_some_iff.1 HZ9.out).1; omega
                clear hal HH HBD HJX HJY HZ9
                have HH := HHn
                have HBD := HBDn
                have HJX := HJXn
                have HJY := HJYn
                have HZ9 := HZ9n
                have HZ10 := HZ10n
                clear HHn HBDn HJXn HJYn HZ9n HZ10n
                refine hK.out _ _ HH.out (fun hHeld => ?_)
                clear hK K hHeld
                try simp only [List.getElem_toArray, List.getElem_cons_zero, List.getElem_cons_succ, Act.put, List.setIfInBounds_toArray, List.set_cons_zero, List.set_cons_succ]
                generalize wq3.heap.size = X10 at *
                generalize wq3.alloc (.cells #[.int .i64 0, .int .i64 0, .string ⟨#[]⟩, .slice none 0 0, .slice none 0 0] 35) = wq4 at *
                have hn1 : X9 ≠ X10 := by omega
                have hn2 : X10 ≠ X9 := by omega
                obtain ⟨⟨p0, p1, p2, p3, p4⟩, ⟨q0, q1, q2, q3, q4⟩, _⟩ := cells5 HZ9.out
                obtain ⟨⟨r0, r1, r2, r3, r4⟩, ⟨s0, s1, s2, s3, s4⟩, _⟩ := cells5 HZ10.out
                have HR := Lib.hid (wt_end (.int .i64 x.k) (.int .i64 x.n) (.string x.s) (.slice D1 i1 e1) (.slice D2 i2 e2) (.int .i64 y.k) (.int .i64 y.n) (.string y.s) (.slice G1 j1 h1) (.slice G2 j2 h2) HZ9.out HZ10.out hn1 HJX.out HJY.out HBD.out HW9.out HW10.out)
                clear HJX HJY HZ9 HZ10 HBD HH
                refine PrintLast.wpAnyLast_ready (rs := [6]) (by kernel_rfl) (by simp) ?_
                refine PrintLast.AllReadyL.cons_last rfl (by decide) (fun K hK => ?_) PrintLast.AllReadyL.nil
                rw [if_pos (by kernel_rfl)]
                go_simp
                refine hK.out _ _ ?_
                clear hK K
                try simp only [List.getElem_toArray, List.getElem_cons_zero, List.getElem_cons_succ, Act.put, List.setIfInBounds_toArray, List.set_cons_zero, List.set_cons_succ]
                refine PrintLast.wpAnyLast_ready (rs := [7]) (by kernel_rfl) (by simp) ?_
                refine PrintLast.AllReadyL.cons_last rfl (by decide) (fun K hK => ?_) PrintLast.AllReadyL.nil
                rw [if_pos (by kernel_rfl)]
                go_simp
                refine hK.out _ _ ?_
                clear hK K
                try simp only [List.getElem_toArray, List.getElem_cons_zero, List.getElem_cons_succ, Act.put, List.setIfInBounds_toArray, List.set_cons_zero, List.set_cons_succ]
                refine PrintLast.wpAnyLast_done (by kernel_rfl) ?_ _
                go_wp2_with fail
                go_meet
                exact ⟨X9, X10, D1, i1, e1, D2, i2, e2, G1, j1, h1, G2, j2, h2, rfl, rfl, HR.out⟩
              · rw [if_pos (by kernel_rfl)]
                go_simp
                have hal := bel_alloc (Below.refl wq2.heap.size wq2) (.cells #[.int .i64 0, .int .i64 0, .string ⟨#[]⟩, .slice none 0 0, .slice none 0 0] 35)
                have HHn := Lib.hid (WtS.later HH.out hal); have HBDn := Lib.hid (bel_trans HBD.out hal)
                have HZ10n := Lib.hid (heap_alloc_new wq2 (.cells #[.int .i64 0, .int .i64 0, .string ⟨#[]⟩, .slice none 0 0, .slice none 0 0] 35))
                have HW10 := Lib.hid HBD.out.size
                have HJXn := Lib.hid (JR_mono (F' := fun b => b ≠ wq2.heap.size) (fun b hb => by have := hb.1; have := hb.2; omega) _ _ (JR_later (JR_bound _ _ HJX.out) hal))
                have HJYn := Lib.hid (JR_mono (F' := fun b => b ≠ wq2.heap.size) (fun b hb => by have := hb.1; have := hb.2; omega) _ _ (JR_later (JR_bound _ _ HJY.out) hal))
                clear hal HH HBD HJX HJY
                have HH := HHn
                have HBD := HBDn
                have HJX := HJXn
                have HJY := HJYn
                have HZ10 := HZ10n
                clear HHn HBDn HJXn HJYn HZ10n
                refine hK.out _ _ HH.out (fun hHeld => ?_)
                clear hK K hHeld
                try simp only [List.getElem_toArray, List.getElem_cons_zero, List.getElem_cons_succ, Act.put, List.setIfInBounds_toArray, List.set_cons_zero, List.set_cons_succ]
                generalize wq2.heap.size = X10 at *
                generalize wq2.alloc (.cells #[.int .i64 0, .int .i64 0, .string ⟨#[]⟩, .slice none 0 0, .slice none 0 0] 35) = wq3 at *
                refine PrintLast.wpAnyLast_ready (rs := [4]) (by kernel_rfl) (by simp) ?_
                refine PrintLast.AllReadyL.cons rfl (by decide) (fun K hK => ?_) (PrintLast.AllReadyL.nil)
                rw [if_pos (by kernel_rfl)]
                go_simp
                have hal := bel_alloc (Below.refl wq3.heap.size wq3) (.cells #[.int .i64 0, .int .i64 0, .string ⟨#[]⟩, .slice none 0 0, .slice none 0 0] 35)
                have HHn := Lib.hid (WtS.later HH.out hal); have HBDn := Lib.hid (bel_trans HBD.out hal)
                have HZ9n := Lib.hid (heap_alloc_new wq3 (.cells #[.int .i64 0, .int .i64 0, .string ⟨#[]⟩, .slice none 0 0, .slice none 0 0] 35))
                have HW9 := Lib.hid HBD.out.size
                have HJXn := Lib.hid (JR_mono (F' := fun b => b ≠ wq3.heap.size ∧ b ≠ X10) (fun b hb => by have := hb.1; have := hb.2; omega) _ _ (JR_later (JR_bound _ _ HJX.out) hal))
                have HJYn := Lib.hid (JR_mono (F' := fun b => b ≠ wq3.heap.size ∧ b ≠ X10) (fun b hb => by have := hb.1; have := hb.2; omega) _ _ (JR_later (JR_bound _ _ HJY.out) hal))
                have HZ10n := Lib.hid (Below.at hal HZ10.out)
                have hXne : X10 ≠ wq3.heap.size := by have := (Array.getElem?_eq_some_iff.1 HZ10.out).1; omega
                clear hal HH HBD HJX HJY HZ10
                have HH := HHn
                have HBD := HBDn
                have HJX := HJXn
                have HJY := HJYn
                have HZ10 := HZ10n
                have HZ9 := HZ9n
                clear HHn HBDn HJXn HJYn HZ10n HZ9n
                refine hK.out _ _ HH.out (fun hHeld => ?_)
                clear hK K hHeld
                try simp only [List.getElem_toArray, List.getElem_cons_zero, List.getElem_cons_succ, Act.put, List.setIfInBounds_toArray, List.set_cons_zero, List.set_cons_succ]
                generalize wq3.heap.size = X9 at *
                generalize wq3.alloc (.cells #[.int .i64 0, .int .i64 0, .string ⟨#[]⟩, .slice none 0 0, .slice none 0 0] 35) = wq4 at *
                have hn1 : X9 ≠ X10 := by omega
                have hn2 : X10 ≠ X9 := by omega
                obtain ⟨⟨p0, p1, p2, p3, p4⟩, ⟨q0, q1, q2, q3, q4⟩, _⟩ := cells5 HZ9.out
                obtain ⟨⟨r0, r1, r2, r3, r4⟩, ⟨s0, s1, s2, s3, s4⟩, _⟩ := cells5 HZ10.out
                have HR := Lib.hid (wt_end (.int .i64 x.k) (.int .i64 x.n) (.string x.s) (.slice D1 i1 e1) (.slice D2 i2 e2) (.int .i64 y.k) (.int .i64 y.n) (.string y.s) (.slice G1 j1 h1) (.slice G2 j2 h2) HZ9.out HZ10.out hn1 HJX.out HJY.out HBD.out HW9.out HW10.out)
                clear HJX HJY HZ9 HZ10 HBD HH
                refine PrintLast.wpAnyLast_ready (rs := [6]) (by kernel_rfl) (by simp) ?_
                refine PrintLast.AllReadyL.cons_last rfl (by decide) (fun K hK => ?_) PrintLast.AllReadyL.nil
                rw [if_pos (by kernel_rfl)]
                go_simp
                refine hK.out _ _ ?_
                clear hK K
                try simp only [List.getElem_toArray, List.getElem_cons_zero, List.getElem_cons_succ, Act.put, List.setIfInBounds_toArray, List.set_cons_zero, List.set_cons_succ]
                refine PrintLast.wpAnyLast_ready (rs := [7]) (by kernel_rfl) (by simp) ?_
                refine PrintLast.AllReadyL.cons_last rfl (by decide) (fun K hK => ?_) PrintLast.AllReadyL.nil
                rw [if_pos (by kernel_rfl)]
                go_simp
                refine hK.out _ _ ?_
                clear hK K
                try simp only [List.getElem_toArray, List.getElem_cons_zero, List.getElem_cons_succ, Act.put, List.setIfInBounds_toArray, List.set_cons_zero, List.set_cons_succ]
                refine PrintLast.wpAnyLast_done (by kernel_rfl) ?_ _
                go_wp2_with fail
                go_meet
                exact ⟨X9, X10, D1, i1, e1, D2, i2, e2, G1, j1, h1, G2, j2, h2, rfl, rfl, HR.out⟩
            · rw [if_pos (by kernel_rfl)]
              go_simp
              have hal := bel_alloc (Below.refl wq1.heap.size wq1) (.cells #[.int .i64 0, .int .i64 0, .string ⟨#[]⟩, .slice none 0 0, .slice none 0 0] 35)
              have HHn := Lib.hid (WtS.later HH.out hal); have HBDn := Lib.hid (bel_trans HBD.out hal)
              have HZ9n := Lib.hid (heap_alloc_new wq1 (.cells #[.int .i64 0, .int .i64 0, .string ⟨#[]⟩, .slice none 0 0, .slice none 0 0] 35))
              have HW9 := Lib.hid HBD.out.size
              have HJXn := Lib.hid (JR_mono (F' := fun b => b ≠ wq1.heap.size) (fun b hb => by have := hb.1; have := hb.2; omega) _ _ (JR_later (JR_bound _ _ HJX.out) hal))
              clear hal HH HBD HJX
              have HH := HHn
              have HBD := HBDn
              have HJX := HJXn
              have HZ9 := HZ9n
              clear HHn HBDn HJXn HZ9n
              refine hK.out _ _ HH.out (fun hHeld => ?_)
              clear hK K hHeld
              try simp only [List.getElem_toArray, List.getElem_cons_zero, List.getElem_cons_succ, Act.put, List.setIfInBounds_toArray, List.set_cons_zero, List.set_cons_succ]
              generalize wq1.heap.size = X9 at *
              generalize wq1.alloc (.cells #[.int .i64 0, .int .i64 0, .string ⟨#[]⟩, .slice none 0 0, .slice none 0 0] 35) = wq2 at *
              refine PrintLast.wpAnyLast_ready (rs := [3, 5]) (by kernel_rfl) (by simp) ?_
              refine PrintLast.AllReadyL.cons rfl (by decide) (fun K hK => ?_) (PrintLast.AllReadyL.cons rfl (by decide) (fun K hK => ?_) (PrintLast.AllReadyL.nil))
              · rw [if_pos (by kernel_rfl)]
                go_simp
                go_at_call 11; refine (HPLY.out _ HBD.out).mono ?_; rintro e wq3 ⟨⟨G1, j1, h1, G2, j2, h2, rfl, hjq⟩, hbq⟩
                go_wp2_with fail
                have hl9 := (Array.getElem?_eq_some_iff.1 HZ9.out).1
                have HJYn := Lib.hid (JR_mono (F' := fun b => b ≠ X9) (fun b hb => by have hb2 : wq2.heap.size ≤ b := hb; omega) _ _ hjq)
                clear hl9
                have HHn := Lib.hid (WtS.later HH.out hbq); have HBDn := Lib.hid (bel_trans HBD.out hbq)
                have HJXn := Lib.hid (JR_later HJX.out hbq)
                have HZ9n := Lib.hid (Below.at hbq HZ9.out)
                clear hjq hbq HH HBD HJX HZ9
                have HH := HHn
                have HBD := HBDn
                have HJX := HJXn
                have HZ9 := HZ9n
                have HJY := HJYn
                clear HHn HBDn HJXn HZ9n HJYn
                refine hK.out _ _ HH.out (fun hHeld => ?_)
                clear hK K hHeld
                try simp only [List.getElem_toArray, List.getElem_cons_zero, List.getElem_cons_succ, Act.put, List.setIfInBounds_toArray, List.set_cons_zero, List.set_cons_succ]
                refine PrintLast.wpAnyLast_ready (rs := [5]) (by kernel_rfl) (by simp) ?_
                refine PrintLast.AllReadyL.cons rfl (by decide) (fun K hK => ?_) (PrintLast.AllReadyL.nil)
                rw [if_pos (by kernel_rfl)]
                go_simp
                have hal := bel_alloc (Below.refl wq3.heap.size wq3) (.cells #[.int .i64 0, .int .i64 0, .string ⟨#[]⟩, .slice none 0 0, .slice none 0 0] 35)
                have HHn := Lib.hid (WtS.later HH.out hal); have HBDn := Lib.hid (bel_trans HBD.out hal)
                have HZ10n := Lib.hid (heap_alloc_new wq3 (.cells #[.int .i64 0, .int .i64 0, .string ⟨#[]⟩, .slice none 0 0, .slice none 0 0] 35))
                have HW10 := Lib.hid HBD.out.size
                have HJXn := Lib.hid (JR_mono (F' := fun b => b ≠ X9 ∧ b ≠ wq3.heap.size) (fun b hb => by have := hb.1; have := hb.2; omega) _ _ (JR_later (JR_bound _ _ HJX.out) hal))
                have HJYn := Lib.hid (JR_mono (F' := fun b => b ≠ X9 ∧ b ≠ wq3.heap.size) (fun b hb => by have := hb.1; have := hb.2; omega) _ _ (JR_later (JR_bound _ _ HJY.out) hal))
                have HZ9n := Lib.hid (Below.at hal HZ9.out)
                have hXne : X9 ≠ wq3.heap.size := by have := (Array.getElem?_eq_some_iff.1 HZ9.out).1; omega
                clear hal HH HBD HJX HJY HZ9
                have HH := HHn
                have HBD := HBDn
                have HJX := HJXn
                have HJY := HJYn
                have HZ9 := HZ9n
                have HZ10 := HZ10n
                clear HHn HBDn HJXn HJYn HZ9n HZ10n
                refine hK.out _ _ HH.out (fun hHeld => ?_)
                clear hK K hHeld
                try simp only [List.getElem_toArray, List.getElem_cons_zero, List.getElem_cons_succ, Act.put, List.setIfInBounds_toArray, List.set_cons_zero, List.set_cons_succ]
                generalize wq3.heap.size = X10 at *
                generalize wq3.alloc (.cells #[.int .i64 0, .int .i64 0, .string ⟨#[]⟩, .slice none 0 0, .slice none 0 0] 35) = wq4 at *
                have hn1 : X9 ≠ X10 := by omega
                have hn2 : X10 ≠ X9 := by omega
                obtain ⟨⟨p0, p1, p2, p3, p4⟩, ⟨q0, q1, q2, q3, q4⟩, _⟩ := cells5 HZ9.out
                obtain ⟨⟨r0, r1, r2, r3, r4⟩, ⟨s0, s1, s2, s3, s4⟩, _⟩ := cells5 HZ10.out
                have HR := Lib.hid (wt_end (.int .i64 x.k) (.int .i64 x.n) (.string x.s) (.slice D1 i1 e1) (.slice D2 i2 e2) (.int .i64 y.k) (.int .i64 y.n) (.string y.s) (.slice G1 j1 h1) (.slice G2 j2 h2) HZ9.out HZ10.out hn1 HJX.out HJY.out HBD.out HW9.out HW10.out)
                clear HJX HJY HZ9 HZ10 HBD HH
                refine PrintLast.wpAnyLast_ready (rs := [6]) (by kernel_rfl) (by simp) ?_
                refine PrintLast.AllReadyL.cons_last rfl (by decide) (fun K hK => ?_) PrintLast.AllReadyL.nil
                rw [if_pos (by kernel_rfl)]
                go_simp
                refine hK.out _ _ ?_
                clear hK K
                try simp only [List.getElem_toArray, List.getElem_cons_zero, List.getElem_cons_succ, Act.put, List.setIfInBounds_toArray, List.set_cons_zero, List.set_cons_succ]
                refine PrintLast.wpAnyLast_ready (rs := [7]) (by kernel_rfl) (by simp) ?_
                refine PrintLast.AllReadyL.cons_last rfl (by decide) (fun K hK => ?_) PrintLast.AllReadyL.nil
                rw [if_pos (by kernel_rfl)]
                go_simp
                refine hK.out _ _ ?_
                clear hK K
                try simp only [List.getElem_toArray, List.getElem_cons_zero, List.getElem_cons_succ, Act.put, List.setIfInBounds_toArray, List.set_cons_zero, List.set_cons_succ]
                refine PrintLast.wpAnyLast_done (by kernel_rfl) ?_ _
                go_wp2_with fail
                go_meet
                exact ⟨X9, X10, D1, i1, e1, D2, i2, e2, G1, j1, h1, G2, j2, h2, rfl, rfl, HR.out⟩
              · rw [if_pos (by kernel_rfl)]
                go_simp
                have hal := bel_alloc (Below.refl wq2.heap.size wq2) (.cells #[.int .i64 0, .int .i64 0, .string ⟨#[]⟩, .slice none 0 0, .slice none 0 0] 35)
                have HHn := Lib.hid (WtS.later HH.out hal); have HBDn := Lib.hid (bel_trans HBD.out hal)
                have HZ10n := Lib.hid (heap_alloc_new wq2 (.cells #[.int .i64 0, .int .i64 0, .string ⟨#[]⟩, .slice none 0 0, .slice none 0 0] 35))
                have HW10 := Lib.hid HBD.out.size
                have HJXn := Lib.hid (JR_mono (F' := fun b => b ≠ X9 ∧ b ≠ wq2.heap.size) (fun b hb => by have := hb.1; have := hb.2; omega) _ _ (JR_later (JR_bound _ _ HJX.out) hal))
                have HZ9n := Lib.hid (Below.at hal HZ9.out)
                have hXne : X9 ≠ wq2.heap.size := by have := (Array.getElem?_eq_some_iff.1 HZ9.out).1; omega
                clear hal HH HBD HJX HZ9
                have HH := HHn
                have HBD := HBDn
                have HJX := HJXn
                have HZ9 := HZ9n
                have HZ10 := HZ10n
                clear HHn HBDn HJXn HZ9n HZ10n
                refine hK.out _ _ HH.out (fun hHeld => ?_)
                clear hK K hHeld
                try simp only [List.getElem_toArray, List.getElem_cons_zero, List.getElem_cons_succ, Act.put, List.setIfInBounds_toArray, List.set_cons_zero, List.set_cons_succ]
                generalize wq2.heap.size = X10 at *
                generalize wq2.alloc (.cells #[.int .i64 0, .int .i64 0, .string ⟨#[]⟩, .slice none 0 0, .slice none 0 0] 35) = wq3 at *
                refine PrintLast.wpAnyLast_ready (rs := [3]) (by kernel_rfl) (by simp) ?_
                refine PrintLast.AllReadyL.cons rfl (by decide) (fun K hK => ?_) (PrintLast.AllReadyL.nil)
                rw [if_pos (by kernel_rfl)]
                go_simp
                go_at_call 11; refine (HPLY.out _ HBD.out).mono ?_; rintro e wq4 ⟨⟨G1, j1, h1, G2, j2, h2, rfl, hjq⟩, hbq⟩
                go_wp2_with fail
                have hl9 := (Array.getElem?_eq_some_iff.1 HZ9.out).1
                have hl10 := (Array.getElem?_eq_some_iff.1 HZ10.out).1
                have HJYn := Lib.hid (JR_mono (F' := fun b => b ≠ X9 ∧ b ≠ X10) (fun b hb => by have hb2 : wq3.heap.size ≤ b := hb; omega) _ _ hjq)
                clear hl9 hl10
                have HHn := Lib.hid (WtS.later HH.out hbq); have HBDn := Lib.hid (bel_trans HBD.out hbq)
                have HJXn := Lib.hid (JR_later HJX.out hbq)
                have HZ10n := Lib.hid (Below.at hbq HZ10.out)
                have HZ9n := Lib.hid (Below.at hbq HZ9.out)
                clear hjq hbq HH HBD HJX HZ10 HZ9
                have HH := HHn
                have HBD := HBDn
                have HJX := HJXn
                have HZ10 := HZ10n
                have HZ9 := HZ9n
                have HJY := HJYn
                clear HHn HBDn HJXn HZ10n HZ9n HJYn
                refine hK.out _ _ HH.out (fun hHeld => ?_)
                clear hK K hHeld
                try simp only [List.getElem_toArray, List.getElem_cons_zero, List.getElem_cons_succ, Act.put, List.setIfInBounds_toArray, List.set_cons_zero, List.set_cons_succ]
                have hn1 : X9 ≠ X10 := by omega
                have hn2 : X10 ≠ X9 := by omega
                obtain ⟨⟨p0, p1, p2, p3, p4⟩, ⟨q0, q1, q2, q3, q4⟩, _⟩ := cells5 HZ9.out
                obtain ⟨⟨r0, r1, r2, r3, r4⟩, ⟨s0, s1, s2, s3, s4⟩, _⟩ := cells5 HZ10.out
                have HR := Lib.hid (wt_end (.int .i64 x.k) (.int .i64 x.n) (.string x.s) (.slice D1 i1 e1) (.slice D2 i2 e2) (.int .i64 y.k) (.int .i64 y.n) (.string y.s) (.slice G1 j1 h1) (.slice G2 j2 h2) HZ9.out HZ10.out hn1 HJX.out HJY.out HBD.out HW9.out HW10.out)
                clear HJX HJY HZ9 HZ10 HBD HH
                refine PrintLast.wpAnyLast_ready (rs := [6]) (by kernel_rfl) (by simp) ?_
                refine PrintLast.AllReadyL.cons_last rfl (by decide) (fun K hK => ?_) PrintLast.AllReadyL.nil
                rw [if_pos (by kernel_rfl)]
                go_simp
                refine hK.out _ _ ?_
                clear hK K
                try simp only [List.getElem_toArray, List.getElem_cons_zero, List.getElem_cons_succ, Act.put, List.setIfInBounds_toArray, List.set_cons_zero, List.set_cons_succ]
                refine PrintLast.wpAnyLast_ready (rs := [7]) (by kernel_rfl) (by simp) ?_
                refine PrintLast.AllReadyL.cons_last rfl (by decide) (fun K hK => ?_) PrintLast.AllReadyL.nil
                rw [if_pos (by kernel_rfl)]
                go_simp
                refine hK.out _ _ ?_
                clear hK K
                try simp only [List.getElem_toArray, List.getElem_cons_zero, List.getElem_cons_succ, Act.put, List.setIfInBounds_toArray, List.set_cons_zero, List.set_cons_succ]
                refine PrintLast.wpAnyLast_done (by kernel_rfl) ?_ _
                go_wp2_with fail
                go_meet
                exact ⟨X9, X10, D1, i1, e1, D2, i2, e2, G1, j1, h1, G2, j2, h2, rfl, rfl, HR.out⟩
            · rw [if_pos (by kernel_rfl)]
              go_simp
              have hal := bel_alloc (Below.refl wq1.heap.size wq1) (.cells #[.int .i64 0, .int .i64 0, .string ⟨#[]⟩, .slice none 0 0, .slice none 0 0] 35)
              have HHn := Lib.hid (WtS.later HH.out hal); have HBDn := Lib.hid (bel_trans HBD.out hal)
              have HZ10n := Lib.hid (heap_alloc_new wq1 (.cells #[.int .i64 0, .int .i64 0, .string ⟨#[]⟩, .slice none 0 0, .slice none 0 0] 35))
              have HW10 := Lib.hid HBD.out.size
              have HJXn := Lib.hid (JR_mono (F' := fun b => b ≠ wq1.heap.size) (fun b hb => by have := hb.1; have := hb.2; omega) _ _ (JR_later (JR_bound _ _ HJX.out) hal))
              clear hal HH HBD HJX
              have HH := HHn
              have HBD := HBDn
              have HJX := HJXn
              have HZ10 := HZ10n
              clear HHn HBDn HJXn HZ10n
              refine hK.out _ _ HH.out (fun hHeld => ?_)
              clear hK K hHeld
              try simp only [List.getElem_toArray, List.getElem_cons_zero, List.getElem_cons_succ, Act.put, List.setIfInBounds_toArray, List.set_cons_zero, List.set_cons_succ]
              generalize wq1.heap.size = X10 at *
              generalize wq1.alloc (.cells #[.int .i64 0, .int .i64 0, .string ⟨#[]⟩, .slice none 0 0, .slice none 0 0] 35) = wq2 at *
              refine PrintLast.wpAnyLast_ready (rs := [3, 4]) (by kernel_rfl) (by simp) ?_
              refine PrintLast.AllReadyL.cons rfl (by decide) (fun K hK => ?_) (PrintLast.AllReadyL.cons rfl (by decide) (fun K hK => ?_) (PrintLast.AllReadyL.nil))
              · rw [if_pos (by kernel_rfl)]
                go_simp
                go_at_call 11; refine (HPLY.out _ HBD.out).mono ?_; rintro e wq3 ⟨⟨G1, j1, h1, G2, j2, h2, rfl, hjq⟩, hbq⟩
                go_wp2_with fail
                have hl10 := (Array.getElem?_eq_some_iff.1 HZ10.out).1
                have HJYn := Lib.hid (JR_mono (F' := fun b => b ≠ X10) (fun b hb => by have hb2 : wq2.heap.size ≤ b := hb; omega) _ _ hjq)
                clear hl10
                have HHn := Lib.hid (WtS.later HH.out hbq); have HBDn := Lib.hid (bel_trans HBD.out hbq)
                have HJXn := Lib.hid (JR_later HJX.out hbq)
                have HZ10n := Lib.hid (Below.at hbq HZ10.out)
                clear hjq hbq HH HBD HJX HZ10
                have HH := HHn
                have HBD := HBDn
                have HJX := HJXn
                have HZ10 := HZ10n
                have HJY := HJYn
                clear HHn HBDn HJXn HZ10n HJYn
                refine hK.out _ _ HH.out (fun hHeld => ?_)
                clear hK K hHeld
                try simp only [List.getElem_toArray, List.getElem_cons_zero, List.getElem_cons_succ, Act.put, List.setIfInBounds_toArray, List.set_cons_zero, List.set_cons_succ]
                refine PrintLast.wpAnyLast_ready (rs := [4]) (by kernel_rfl) (by simp) ?_
                refine PrintLast.AllReadyL.cons rfl (by decide) (fun K hK => ?_) (PrintLast.AllReadyL.nil)
                rw [if_pos (by kernel_rfl)]
                go_simp
                have hal := bel_alloc (Below.refl wq3.heap.size wq3) (.cells #[.int .i64 0, .int .i64 0, .string ⟨#[]⟩, .slice none 0 0, .slice none 0 0] 35)
                have HHn := Lib.hid (WtS.later HH.out hal); have HBDn := Lib.hid (bel_trans HBD.out hal)
                have HZ9n := Lib.hid (heap_alloc_new wq3 (.cells #[.int .i64 0, .int .i64 0, .string ⟨#[]⟩, .slice none 0 0, .slice none 0 0] 35))
                have HW9 := Lib.hid HBD.out.size
                have HJXn := Lib.hid (JR_mono (F' := fun b => b ≠ wq3.heap.size ∧ b ≠ X10) (fun b hb => by have := hb.1; have := hb.2; omega) _ _ (JR_later (JR_bound _ _ HJX.out) hal))
                have HJYn := Lib.hid (JR_mono (F' := fun b => b ≠ wq3.heap.size ∧ b ≠ X10) (fun b hb => by have := hb.1; have := hb.2; omega) _ _ (JR_later (JR_bound _ _ HJY.out) hal))
                have HZ10n := Lib.hid (Below.at hal HZ10.out)
                have hXne : X10 ≠ wq3.heap.size := by have := (Array.getElem?_eq_some_iff.1 HZ10.out).1; omega
                clear hal HH HBD HJX HJY HZ10
                have HH := HHn
                have HBD := HBDn
                have HJX := HJXn
                have HJY := HJYn
                have HZ10 := HZ10n
                have HZ9 := HZ9n
                clear HHn HBDn HJXn HJYn HZ10n HZ9n
                refine hK.out _ _ HH.out (fun hHeld => ?_)
                clear hK K hHeld
                try simp only [List.getElem_toArray, List.getElem_cons_zero, List.getElem_cons_succ, Act.put, List.setIfInBounds_toArray, List.set_cons_zero, List.set_cons_succ]
                generalize wq3.heap.size = X9 at *
                generalize wq3.alloc (.cells #[.int .i64 0, .int .i64 0, .string ⟨#[]⟩, .slice none 0 0, .slice none 0 0] 35) = wq4 at *
                have hn1 : X9 ≠ X10 := by omega
                have hn2 : X10 ≠ X9 := by omega
                obtain ⟨⟨p0, p1, p2, p3, p4⟩, ⟨q0, q1, q2, q3, q4⟩, _⟩ := cells5 HZ9.out
                obtain ⟨⟨r0, r1, r2, r3, r4⟩, ⟨s0, s1, s2, s3, s4⟩, _⟩ := cells5 HZ10.out
                have HR := Lib.hid (wt_end (.int .i64 x.k) (.int .i64 x.n) (.string x.s) (.slice D1 i1 e1) (.slice D2 i2 e2) (.int .i64 y.k) (.int .i64 y.n) (.string y.s) (.slice G1 j1 h1) (.slice G2 j2 h2) HZ9.out HZ10.out hn1 HJX.out HJY.out HBD.out HW9.out HW10.out)
                clear HJX HJY HZ9 HZ10 HBD HH
                refine PrintLast.wpAnyLast_ready (rs := [6]) (by kernel_rfl) (by simp) ?_
                refine PrintLast.AllReadyL.cons_last rfl (by decide) (fun K hK => ?_) PrintLast.AllReadyL.nil
                rw [if_pos (by kernel_rfl)]
                go_simp
                refine hK.out _ _ ?_
                clear hK K
                try simp only [List.getElem_toArray, List.getElem_cons_zero, List.getElem_cons_succ, Act.put, List.setIfInBounds_toArray, List.set_cons_zero, List.set_cons_succ]
                refine PrintLast.wpAnyLast_ready (rs := [7]) (by kernel_rfl) (by simp) ?_
                refine PrintLast.AllReadyL.cons_last rfl (by decide) (fun K hK => ?_) PrintLast.AllReadyL.nil
                rw [if_pos (by kernel_rfl)]
                go_simp
                refine hK.out _ _ ?_
                clear hK K
                try simp only [List.getElem_toArray, List.getElem_cons_zero, List.getElem_cons_succ, Act.put, List.setIfInBounds_toArray, List.set_cons_zero, List.set_cons_succ]
                refine PrintLast.wpAnyLast_done (by kernel_rfl) ?_ _
                go_wp2_with fail
                go_meet
                exact ⟨X9, X10, D1, i1, e1, D2, i2, e2, G1, j1, h1, G2, j2, h2, rfl, rfl, HR.out⟩
              · rw [if_pos (by kernel_rfl)]
                go_simp
                have hal := bel_alloc (Below.refl wq2.heap.size wq2) (.cells #[.int .i64 0, .int .i64 0, .string ⟨#[]⟩, .slice none 0 0, .slice none 0 0] 35)
                have HHn := Lib.hid (WtS.later HH.out hal); have HBDn := Lib.hid (bel_trans HBD.out hal)
                have HZ9n := Lib.hid (heap_alloc_new wq2 (.cells #[.int .i64 0, .int .i64 0, .string ⟨#[]⟩, .slice none 0 0, .slice none 0 0] 35))
                have HW9 := Lib.hid HBD.out.size
                have HJXn := Lib.hid (JR_mono (F' := fun b => b ≠ wq2.heap.size ∧ b ≠ X10) (fun b hb => by have := hb.1; have := hb.2; omega) _ _ (JR_later (JR_bound _ _ HJX.out) hal))
                have HZ10n := Lib.hid (Below.at hal HZ10.out)
                have hXne : X10 ≠ wq2.heap.size := by have := (Array.getElem?_eq_some_iff.1 HZ10.out).1; omega
                clear hal HH HBD HJX HZ10
                have HH := HHn
                have HBD := HBDn
                have HJX := HJXn
                have HZ10 := HZ10n
                have HZ9 := HZ9n
                clear HHn HBDn HJXn HZ10n HZ9n
                refine hK.out _ _ HH.out (fun hHeld => ?_)
                clear hK K hHeld
                try simp only [List.getElem_toArray, List.getElem_cons_zero, List.getElem_cons_succ, Act.put, List.setIfInBounds_toArray, List.set_cons_zero, List.set_cons_succ]
                generalize wq2.heap.size = X9 at *
                generalize wq2.alloc (.cells #[.int .i64 0, .int .i64 0, .string ⟨#[]⟩, .slice none 0 0, .slice none 0 0] 35) = wq3 at *
                refine PrintLast.wpAnyLast_ready (rs := [3]) (by kernel_rfl) (by simp) ?_
                refine PrintLast.AllReadyL.cons rfl (by decide) (fun K hK => ?_) (PrintLast.AllReadyL.nil)
                rw [if_pos (by kernel_rfl)]
                go_simp
                go_at_call 11; refine (HPLY.out _ HBD.out).mono ?_; rintro e wq4 ⟨⟨G1, j1, h1, G2, j2, h2, rfl, hjq⟩, hbq⟩
                go_wp2_with fail
                have hl9 := (Array.getElem?_eq_some_iff.1 HZ9.out).1
                have hl10 := (Array.getElem?_eq_some_iff.1 HZ10.out).1
                have HJYn := Lib.hid (JR_mono (F' := fun b => b ≠ X9 ∧ b ≠ X10) (fun b hb => by have hb2 : wq3.heap.size ≤ b := hb; omega) _ _ hjq)
                clear hl9 hl10
                have HHn := Lib.hid (WtS.later HH.out hbq); have HBDn := Lib.hid (bel_trans HBD.out hbq)
                have HJXn := Lib.hid (JR_later HJX.out hbq)
                have HZ10n := Lib.hid (Below.at hbq HZ10.out)
                have HZ9n := Lib.hid (Below.at hbq HZ9.out)
                clear hjq hbq HH HBD HJX HZ10 HZ9
                have HH := HHn
                have HBD := HBDn
                have HJX := HJXn
                have HZ10 := HZ10n
                have HZ9 := HZ9n
                have HJY := HJYn
                clear HHn HBDn HJXn HZ10n HZ9n HJYn
                refine hK.out _ _ HH.out (fun hHeld => ?_)
                clear hK K hHeld
                try simp only [List.getElem_toArray, List.getElem_cons_zero, List.getElem_cons_succ, Act.put, List.setIfInBounds_toArray, List.set_cons_zero, List.set_cons_succ]
                have hn1 : X9 ≠ X10 := by omega
                have hn2 : X10 ≠ X9 := by omega
                obtain ⟨⟨p0, p1, p2, p3, p4⟩, ⟨q0, q1, q2, q3, q4⟩, _⟩ := cells5 HZ9.out
                obtain ⟨⟨r0, r1, r2, r3, r4⟩, ⟨s0, s1, s2, s3, s4⟩, _⟩ := cells5 HZ10.out
                have HR := Lib.hid (wt_end (.int .i64 x.k) (.int .i64 x.n) (.string x.s) (.slice D1 i1 e1) (.slice D2 i2 e2) (.int .i64 y.k) (.int .i64 y.n) (.string y.s) (.slice G1 j1 h1) (.slice G2 j2 h2) HZ9.out HZ10.out hn1 HJX.out HJY.out HBD.out HW9.out HW10.out)
                clear HJX HJY HZ9 HZ10 HBD HH
                refine PrintLast.wpAnyLast_ready (rs := [6]) (by kernel_rfl) (by simp) ?_
                refine PrintLast.AllReadyL.cons_last rfl (by decide) (fun K hK => ?_) PrintLast.AllReadyL.nil
                rw [if_pos (by kernel_rfl)]
                go_simp
                refine hK.out _ _ ?_
                clear hK K
                try simp only [List.getElem_toArray, List.getElem_cons_zero, List.getElem_cons_succ, Act.put, List.setIfInBounds_toArray, List.set_cons_zero, List.set_cons_succ]
                refine PrintLast.wpAnyLast_ready (rs := [7]) (by kernel_rfl) (by simp) ?_
                refine PrintLast.AllReadyL.cons_last rfl (by decide) (fun K hK => ?_) PrintLast.AllReadyL.nil
                rw [if_pos (by kernel_rfl)]
                go_simp
                refine hK.out _ _ ?_
                clear hK K
                try simp only [List.getElem_toArray, List.getElem_cons_zero, List.getElem_cons_succ, Act.put, List.setIfInBounds_toArray, List.set_cons_zero, List.set_cons_succ]
                refine PrintLast.wpAnyLast_done (by kernel_rfl) ?_ _
                go_wp2_with fail
                go_meet
                exact ⟨X9, X10, D1, i1, e1, D2, i2, e2, G1, j1, h1, G2, j2, h2, rfl, rfl, HR.out⟩
          · rw [if_pos (by kernel_rfl)]
            go_simp
            have hal := bel_alloc (Below.refl wq0.heap.size wq0) (.cells #[.int .i64 0, .int .i64 0, .string ⟨#[]⟩, .slice none 0 0, .slice none 0 0] 35)
            have HHn := Lib.hid (WtS.later HH.out hal); have HBDn := Lib.hid (bel_trans HBD.out hal)
            have HZ9n := Lib.hid (heap_alloc_new wq0 (.cells #[.int .i64 0, .int .i64 0, .string ⟨#[]⟩, .slice none 0 0, .slice none 0 0] 35))
            have HW9 := Lib.hid HBD.out.size
            clear hal HH HBD
            have HH := HHn
            have HBD := HBDn
            have HZ9 := HZ9n
            clear HHn HBDn HZ9n
            refine hK.out _ _ HH.out (fun hHeld => ?_)
            clear hK K hHeld
            try simp only [List.getElem_toArray, List.getElem_cons_zero, List.getElem_cons_succ, Act.put, List.setIfInBounds_toArray, List.set_cons_zero, List.set_cons_succ]
            generalize wq0.heap.size = X9 at *
            generalize wq0.alloc (.cells #[.int .i64 0, .int .i64 0, .string ⟨#[]⟩, .slice none 0 0, .slice none 0 0] 35) = wq1 at *
            refine PrintLast.wpAnyLast_ready (rs := [1, 5]) (by kernel_rfl) (by simp) ?_
            refine PrintLast.AllReadyL.cons rfl (by decide) (fun K hK => ?_) (PrintLast.AllReadyL.cons rfl (by decide) (fun K hK => ?_) (PrintLast.AllReadyL.nil))
            · rw [if_pos (by kernel_rfl)]
              go_simp
              go_at_call 11; refine (HPLX.out _ HBD.out).mono ?_; rintro e wq2 ⟨⟨D1, i1, e1, D2, i2, e2, rfl, hjq⟩, hbq⟩
              go_wp2_with fail
              have hl9 := (Array.getElem?_eq_some_iff.1 HZ9.out).1
              have HJXn := Lib.hid (JR_mono (F' := fun b => b ≠ X9) (fun b hb => by have hb2 : wq1.heap.size ≤ b := hb; omega) _ _ hjq)
              clear hl9
              have HHn := Lib.hid (WtS.later HH.out hbq); have HBDn := Lib.hid (bel_trans HBD.out hbq)
              have HZ9n := Lib.hid (Below.at hbq HZ9.out)
              clear hjq hbq HH HBD HZ9
              have HH := HHn
              have HBD := HBDn
              have HZ9 := HZ9n
              have HJX := HJXn
              clear HHn HBDn HZ9n HJXn
              refine hK.out _ _ HH.out (fun hHeld => ?_)
              clear hK K hHeld
              try simp only [List.getElem_toArray, List.getElem_cons_zero, List.getElem_cons_succ, Act.put, List.setIfInBounds_toArray, List.set_cons_zero, List.set_cons_succ]
              refine PrintLast.wpAnyLast_ready (rs := [3, 5]) (by kernel_rfl) (by simp) ?_
              refine PrintLast.AllReadyL.cons rfl (by decide) (fun K hK => ?_) (PrintLast.AllReadyL.cons rfl (by decide) (fun K hK => ?_) (PrintLast.AllReadyL.nil))
              · rw [if_pos (by kernel_rfl)]
                go_simp
                go_at_call 11; refine (HPLY.out _ HBD.out).mono ?_; rintro e wq3 ⟨⟨G1, j1, h1, G2, j2, h2, rfl, hjq⟩, hbq⟩
                go_wp2_with fail
                have hl9 := (Array.getElem?_eq_some_iff.1 HZ9.out).1
                have HJYn := Lib.hid (JR_mono (F' := fun b => b ≠ X9) (fun b hb => by have hb2 : wq2.heap.size ≤ b := hb; omega) _ _ hjq)
                clear hl9
                have HHn := Lib.hid (WtS.later HH.out hbq); have HBDn := Lib.hid (bel_trans HBD.out hbq)
                have HJXn := Lib.hid (JR_later HJX.out hbq)
                have HZ9n := Lib.hid (Below.at hbq HZ9.out)
                clear hjq hbq HH HBD HJX HZ9
                have HH := HHn
                have HBD := HBDn
                have HJX := HJXn
                have HZ9 := HZ9n
                have HJY := HJYn
                clear HHn HBDn HJXn HZ9n HJYn
                refine hK.out _ _ HH.out (fun hHeld => ?_)
                clear hK K hHeld
                try simp only [List.getElem_toArray, List.getElem_cons_zero, List.getElem_cons_succ, Act.put, List.setIfInBounds_toArray, List.set_cons_zero, List.set_cons_succ]
                refine PrintLast.wpAnyLast_ready (rs := [5]) (by kernel_rfl) (by simp) ?_
                refine PrintLast.AllReadyL.cons rfl (by decide) (fun K hK => ?_) (PrintLast.AllReadyL.nil)
                rw [if_pos (by kernel_rfl)]
                go_simp
                have hal := bel_alloc (Below.refl wq3.heap.size wq3) (.cells #[.int .i64 0, .int .i64 0, .string ⟨#[]⟩, .slice none 0 0, .slice none 0 0] 35)
                have HHn := Lib.hid (WtS.later HH.out hal); have HBDn := Lib.hid (bel_trans HBD.out hal)
                have HZ10n := Lib.hid (heap_alloc_new wq3 (.cells #[.int .i64 0, .int .i64 0, .string ⟨#[]⟩, .slice none 0 0, .slice none 0 0] 35))
                have HW10 := Lib.hid HBD.out.size
                have HJXn := Lib.hid (JR_mono (F' := fun b => b ≠ X9 ∧ b ≠ wq3.heap.size) (fun b hb => by have := hb.1; have := hb.2; omega) _ _ (JR_later (JR_bound _ _ HJX.out) hal))
                have HJYn := Lib.hid (JR_mono (F' := fun b => b ≠ X9 ∧ b ≠ wq3.heap.size) (fun b hb => by have := hb.1; have := hb.2; omega) _ _ (JR_later (JR_bound _ _ HJY.out) hal))
                have HZ9n := Lib.hid (Below.at hal HZ9.out)
                have hXne : X9 ≠ wq3.heap.size := by have := (Array.getElem?_eq_some_iff.1 HZ9.out).1; omega
                clear hal HH HBD HJX HJY HZ9
                have HH := HHn
                have HBD := HBDn
                have HJX := HJXn
                have HJY := HJYn
                have HZ9 := HZ9n
                have HZ10 := HZ10n
                clear HHn HBDn HJXn HJYn HZ9n HZ10n
                refine hK.out _ _ HH.out (fun hHeld => ?_)
                clear hK K hHeld
                try simp only [List.getElem_toArray, List.getElem_cons_zero, List.getElem_cons_succ, Act.put, List.setIfInBounds_toArray, List.set_cons_zero, List.set_cons_succ]
                generalize wq3.heap.size = X10 at *
                generalize wq3.alloc (.cells #[.int .i64 0, .int .i64 0, .string ⟨#[]⟩, .slice none 0 0, .slice none 0 0] 35) = wq4 at *
                have hn1 : X9 ≠ X10 := by omega
                have hn2 : X10 ≠ X9 := by omega
                obtain ⟨⟨p0, p1, p2, p3, p4⟩, ⟨q0, q1, q2, q3, q4⟩, _⟩ := cells5 HZ9.out
                obtain ⟨⟨r0, r1, r2, r3, r4⟩, ⟨s0, s1, s2, s3, s4⟩, _⟩ := cells5 HZ10.out
                have HR := Lib.hid (wt_end (.int .i64 x.k) (.int .i64 x.n) (.string x.s) (.slice D1 i1 e1) (.slice D2 i2 e2) (.int .i64 y.k) (.int .i64 y.n) (.string y.s) (.slice G1 j1 h1) (.slice G2 j2 h2) HZ9.out HZ10.out hn1 HJX.out HJY.out HBD.out HW9.out HW10.out)
                clear HJX HJY HZ9 HZ10 HBD HH
                refine PrintLast.wpAnyLast_ready (rs := [6]) (by kernel_rfl) (by simp) ?_
                refine PrintLast.AllReadyL.cons_last rfl (by decide) (fun K hK => ?_) PrintLast.AllReadyL.nil
                rw [if_pos (by kernel_rfl)]
                go_simp
                refine hK.out _ _ ?_
                clear hK K
                try simp only [List.getElem_toArray, List.getElem_cons_zero, List.getElem_cons_succ, Act.put, List.setIfInBounds_toArray, List.set_cons_zero, List.set_cons_succ]
                refine PrintLast.wpAnyLast_ready (rs := [7]) (by kernel_rfl) (by simp) ?_
                refine PrintLast.AllReadyL.cons_last rfl (by decide) (fun K hK => ?_) PrintLast.AllReadyL.nil
                rw [if_pos (by kernel_rfl)]
                go_simp
                refine hK.out _ _ ?_
                clear hK K
                try simp only [List.getElem_toArray, List.getElem_cons_zero, List.getElem_cons_succ, Act.put, List.setIfInBounds_toArray, List.set_cons_zero, List.set_cons_succ]
                refine PrintLast.wpAnyLast_done (by kernel_rfl) ?_ _
                go_wp2_with fail
                go_meet
                exact ⟨X9, X10, D1, i1, e1, D2, i2, e2, G1, j1, h1, G2, j2, h2, rfl, rfl, HR.out⟩
              · rw [if_pos (by kernel_rfl)]
                go_simp
                have hal := bel_alloc (Below.refl wq2.heap.size wq2) (.cells #[.int .i64 0, .int .i64 0, .string ⟨#[]⟩, .slice none 0 0, .slice none 0 0] 35)
                have HHn := Lib.hid (WtS.later HH.out hal); have HBDn := Lib.hid (bel_trans HBD.out hal)
                have HZ10n := Lib.hid (heap_alloc_new wq2 (.cells #[.int .i64 0, .int .i64 0, .string ⟨#[]⟩, .slice none 0 0, .slice none 0 0] 35))
                have HW10 := Lib.hid HBD.out.size
                have HJXn := Lib.hid (JR_mono (F' := fun b => b ≠ X9 ∧ b ≠ wq2.heap.size) (fun b hb => by have := hb.1; have := hb.2; omega) _ _ (JR_later (JR_bound _ _ HJX.out) hal))
                have HZ9n := Lib.hid (Below.at hal HZ9.out)
                have hXne : X9 ≠ wq2.heap.size := by have := (Array.getElem?_eq_some_iff.1 HZ9.out).1; omega
                clear hal HH HBD HJX HZ9
                have HH := HHn
                have HBD := HBDn
                have HJX := HJXn
                have HZ9 := HZ9n
                have HZ10 := HZ10n
                clear HHn HBDn HJXn HZ9n HZ10n
                refine hK.out _ _ HH.out (fun hHeld => ?_)
                clear hK K hHeld
                try simp only [List.getElem_toArray, List.getElem_cons_zero, List.getElem_cons_succ, Act.put, List.setIfInBounds_toArray, List.set_cons_zero, List.set_cons_succ]
                generalize wq2.heap.size = X10 at *
                generalize wq2.alloc (.cells #[.int .i64 0, .int .i64 0, .string ⟨#[]⟩, .slice none 0 0, .slice none 0 0] 35) = wq3 at *
                refine PrintLast.wpAnyLast_ready (rs := [3]) (by kernel_rfl) (by simp) ?_
                refine PrintLast.AllReadyL.cons rfl (by decide) (fun K hK => ?_) (PrintLast.AllReadyL.nil)
                rw [if_pos (by kernel_rfl)]
                go_simp
                go_at_call 11; refine (HPLY.out _ HBD.out).mono ?_; rintro e wq4 ⟨⟨G1, j1, h1, G2, j2, h2, rfl, hjq⟩, hbq⟩
                go_wp2_with fail
                have hl9 := (Array.getElem?_eq_some_iff.1 HZ9.out).1
                have hl10 := (Array.getElem?_eq_some_iff.1 HZ10.out).1
                have HJYn := Lib.hid (JR_mono (F' := fun b => b ≠ X9 ∧ b ≠ X10) (fun b hb => by have hb2 : wq3.heap.size ≤ b := hb; omega) _ _ hjq)
                clear hl9 hl10
                have HHn := Lib.hid (WtS.later HH.out hbq); have HBDn := Lib.hid (bel_trans HBD.out hbq)
                have HJXn := Lib.hid (JR_later HJX.out hbq)
                have HZ10n := Lib.hid (Below.at hbq HZ10.out)
                have HZ9n := Lib.hid (Below.at hbq HZ9.out)
                clear hjq hbq HH HBD HJX HZ10 HZ9
                have HH := HHn
                have HBD := HBDn
                have HJX := HJXn
                have HZ10 := HZ10n
                have HZ9 := HZ9n
                have HJY := HJYn
                clear HHn HBDn HJXn HZ10n HZ9n HJYn
                refine hK.out _ _ HH.out (fun hHeld => ?_)
                clear hK K hHeld
                try simp only [List.getElem_toArray, List.getElem_cons_zero, List.getElem_cons_succ, Act.put, List.setIfInBounds_toArray, List.set_cons_zero, List.set_cons_succ]
                have hn1 : X9 ≠ X10 := by omega
                have hn2 : X10 ≠ X9 := by omega
                obtain ⟨⟨p0, p1, p2, p3, p4⟩, ⟨q0, q1, q2, q3, q4⟩, _⟩ := cells5 HZ9.out
                obtain ⟨⟨r0, r1, r2, r3, r4⟩, ⟨s0, s1, s2, s3, s4⟩, _⟩ := cells5 HZ10.out
                have HR := Lib.hid (wt_end (.int .i64 x.k) (.int .i64 x.n) (.string x.s) (.slice D1 i1 e1) (.slice D2 i2 e2) (.int .i64 y.k) (.int .i64 y.n) (.string y.s) (.slice G1 j1 h1) (.slice G2 j2 h2) HZ9.out HZ10.out hn1 HJX.out HJY.out HBD.out HW9.out HW10.out)
                clear HJX HJY HZ9 HZ10 HBD HH
                refine PrintLast.wpAnyLast_ready (rs := [6]) (by kernel_rfl) (by simp) ?_
                refine PrintLast.AllReadyL.cons_last rfl (by decide) (fun K hK => ?_) PrintLast.AllReadyL.nil
                rw [if_pos (by kernel_rfl)]
                go_simp
                refine hK.out _ _ ?_
                clear hK K
                try simp only [List.getElem_toArray, List.getElem_cons_zero, List.getElem_cons_succ, Act.put, List.setIfInBounds_toArray, List.set_cons_zero, List.set_cons_succ]
                refine PrintLast.wpAnyLast_ready (rs := [7]) (by kernel_rfl) (by simp) ?_
                refine PrintLast.AllReadyL.cons_last rfl (by decide) (fun K hK => ?_) PrintLast.AllReadyL.nil
                rw [if_pos (by kernel_rfl)]
                go_simp
                refine hK.out _ _ ?_
                clear hK K
                try simp only [List.getElem_toArray, List.getElem_cons_zero, List.getElem_cons_succ, Act.put, List.setIfInBounds_toArray, List.set_cons_zero, List.set_cons_succ]
                refine PrintLast.wpAnyLast_done (by kernel_rfl) ?_ _
                go_wp2_with fail
                go_meet
                exact ⟨X9, X10, D1, i1, e1, D2, i2, e2, G1, j1, h1, G2, j2, h2, rfl, rfl, HR.out⟩
            · rw [if_pos (by kernel_rfl)]
              go_simp
              have hal := bel_alloc (Below.refl wq1.heap.size wq1) (.cells #[.int .i64 0, .int .i64 0, .string ⟨#[]⟩, .slice none 0 0, .slice none 0 0] 35)
              have HHn := Lib.hid (WtS.later HH.out hal); have HBDn := Lib.hid (bel_trans HBD.out hal)
              have HZ10n := Lib.hid (heap_alloc_new wq1 (.cells #[.int .i64 0, .int .i64 0, .string ⟨#[]⟩, .slice none 0 0, .slice none 0 0] 35))
              have HW10 := Lib.hid HBD.out.size
              have HZ9n := Lib.hid (Below.at hal HZ9.out)
              have hXne : X9 ≠ wq1.heap.size := by have := (Array.getElem?_eq_some_iff.1 HZ9.out).1; omega
              clear hal HH HBD HZ9
              have HH := HHn
              have HBD := HBDn
              have HZ9 := HZ9n
              have HZ10 := HZ10n
              clear HHn HBDn HZ9n HZ10n
              refine hK.out _ _ HH.out (fun hHeld => ?_)
              clear hK K hHeld
              try simp only [List.getElem_toArray, List.getElem_cons_zero, List.getElem_cons_succ, Act.put, List.setIfInBounds_toArray, List.set_cons_zero, List.set_cons_succ]
              generalize wq1.heap.size = X10 at *
              generalize wq1.alloc (.cells #[.int .i64 0, .int .i64 0, .string ⟨#[]⟩, .slice none 0 0, .slice none 0 0] 35) = wq2 at *
              refine PrintLast.wpAnyLast_ready (rs := [1]) (by kernel_rfl) (by simp) ?_
              refine PrintLast.AllReadyL.cons rfl (by decide) (fun K hK => ?_) (PrintLast.AllReadyL.nil)
              rw [if_pos (by kernel_rfl)]
              go_simp
              go_at_call 11; refine (HPLX.out _ HBD.out).mono ?_; rintro e wq3 ⟨⟨D1, i1, e1, D2, i2, e2, rfl, hjq⟩, hbq⟩
              go_wp2_with fail
              have hl9 := (Array.getElem?_eq_some_iff.1 HZ9.out).1
              have hl10 := (Array.getElem?_eq_some_iff.1 HZ10.out).1
              have HJXn := Lib.hid (JR_mono (F' := fun b => b ≠ X9 ∧ b ≠ X10) (fun b hb => by have hb2 : wq2.heap.size ≤ b := hb; omega) _ _ hjq)
              clear hl9 hl10
              have HHn := Lib.hid (WtS.later HH.out hbq); have HBDn := Lib.hid (bel_trans HBD.out hbq)
              have HZ10n := Lib.hid (Below.at hbq HZ10.out)
              have HZ9n := Lib.hid (Below.at hbq HZ9.out)
              clear hjq hbq HH HBD HZ10 HZ9
              have HH := HHn
              have HBD := HBDn
              have HZ10 := HZ10n
              have HZ9 := HZ9n
              have HJX := HJXn
              clear HHn HBDn HZ10n HZ9n HJXn
              refine hK.out _ _ HH.out (fun hHeld => ?_)
              clear hK K hHeld
              try simp only [List.getElem_toArray, List.getElem_cons_zero, List.getElem_cons_succ, Act.put, List.setIfInBounds_toArray, List.set_cons_zero, List.set_cons_succ]
              refine PrintLast.wpAnyLast_ready (rs := [3]) (by kernel_rfl) (by simp) ?_
              refine PrintLast.AllReadyL.cons rfl (by decide) (fun K hK => ?_) (PrintLast.AllReadyL.nil)
              rw [if_pos (by kernel_rfl)]
              go_simp
              go_at_call 11; refine (HPLY.out _ HBD.out).mono ?_; rintro e wq4 ⟨⟨G1, j1, h1, G2, j2, h2, rfl, hjq⟩, hbq⟩
              go_wp2_with fail
              have hl9 := (Array.getElem?_eq_some_iff.1 HZ9.out).1
              have hl10 := (Array.getElem?_eq_some_iff.1 HZ10.out).1
              have HJYn := Lib.hid (JR_mono (F' := fun b => b ≠ X9 ∧ b ≠ X10) (fun b hb => by have hb2 : wq3.heap.size ≤ b := hb; omega) _ _ hjq)
              clear hl9 hl10
              have HHn := Lib.hid (WtS.later HH.out hbq); have HBDn := Lib.hid (bel_trans HBD.out hbq)
              have HJXn := Lib.hid (JR_later HJX.out hbq)
              have HZ10n := Lib.hid (Below.at hbq HZ10.out)
              have HZ9n := Lib.hid (Below.at hbq HZ9.out)
              clear hjq hbq HH HBD HJX HZ10 HZ9
              have HH := HHn
              have HBD := HBDn
              have HJX := HJXn
              have HZ10 := HZ10n
              have HZ9 := HZ9n
              have HJY := HJYn
              clear HHn HBDn HJXn HZ10n HZ9n HJYn
              refine hK.out _ _ HH.out (fun hHeld => ?_)
              clear hK K hHeld
              try simp only [List.getElem_toArray, List.getElem_cons_zero, List.getElem_cons_succ, Act.put, List.setIfInBounds_toArray, List.set_cons_zero, List.set_cons_succ]
              have hn1 : X9 ≠ X10 := by omega
              have hn2 : X10 ≠ X9 := by omega
              obtain ⟨⟨p0, p1, p2, p3, p4⟩, ⟨q0, q1, q2, q3, q4⟩, _⟩ := cells5 HZ9.out
              obtain ⟨⟨r0, r1, r2, r3, r4⟩, ⟨s0, s1, s2, s3, s4⟩, _⟩ := cells5 HZ10.out
              have HR := Lib.hid (wt_end (.int .i64 x.k) (.int .i64 x.n) (.string x.s) (.slice D1 i1 e1) (.slice D2 i2 e2) (.int .i64 y.k) (.int .i64 y.n) (.string y.s) (.slice G1 j1 h1) (.slice G2 j2 h2) HZ9.out HZ10.out hn1 HJX.out HJY.out HBD.out HW9.out HW10.out)
              clear HJX HJY HZ9 HZ10 HBD HH
              refine PrintLast.wpAnyLast_ready (rs := [6]) (by kernel_rfl) (by simp) ?_
              refine PrintLast.AllReadyL.cons_last rfl (by decide) (fun K hK => ?_) PrintLast.AllReadyL.nil
              rw [if_pos (by kernel_rfl)]
              go_simp
              refine hK.out _ _ ?_
              clear hK K
              try simp only [List.getElem_toArray, List.getElem_cons_zero, List.getElem_cons_succ, Act.put, List.setIfInBounds_toArray, List.set_cons_zero, List.set_cons_succ]
              refine PrintLast.wpAnyLast_ready (rs := [7]) (by kernel_rfl) (by simp) ?_
              refine PrintLast.AllReadyL.cons_last rfl (by decide) (fun K hK => ?_) PrintLast.AllReadyL.nil
              rw [if_pos (by kernel_rfl)]
              go_simp
              refine hK.out _ _ ?_
              clear hK K
              try simp only [List.getElem_toArray, List.getElem_cons_zero, List.getElem_cons_succ, Act.put, List.setIfInBounds_toArray, List.set_cons_zero, List.set_cons_succ]
              refine PrintLast.wpAnyLast_done (by kernel_rfl) ?_ _
              go_wp2_with fail
              go_meet
              exact ⟨X9, X10, D1, i1, e1, D2, i2, e2, G1, j1, h1, G2, j2, h2, rfl, rfl, HR.out⟩
          · rw [if_pos (by kernel_rfl)]
            go_simp
            have hal := bel_alloc (Below.refl wq0.heap.size wq0) (.cells #[.int .i64 0, .int .i64 0, .string ⟨#[]⟩, .slice none 0 0, .slice none 0 0] 35)
            have HHn := Lib.hid (WtS.later HH.out hal); have HBDn := Lib.hid (bel_trans HBD.out hal)
            have HZ10n := Lib.hid (heap_alloc_new wq0 (.cells #[.int .i64 0, .int .i64 0, .string ⟨#[]⟩, .slice none 0 0, .slice none 0 0] 35))
            have HW10 := Lib.hid HBD.out.size
            clear hal HH HBD
            have HH := HHn
            have HBD := HBDn
            have HZ10 := HZ10n
            clear HHn HBDn HZ10n
            refine hK.out _ _ HH.out (fun hHeld => ?_)
            clear hK K hHeld
            try simp only [List.getElem_toArray, List.getElem_cons_zero, List.getElem_cons_succ, Act.put, List.setIfInBounds_toArray, List.set_cons_zero, List.set_cons_succ]
            generalize wq0.heap.size = X10 at *
            generalize wq0.alloc (.cells #[.int .i64 0, .int .i64 0, .string ⟨#[]⟩, .slice none 0 0, .slice none 0 0] 35) = wq1 at *
            refine PrintLast.wpAnyLast_ready (rs := [1, 4]) (by kernel_rfl) (by simp) ?_
            refine PrintLast.AllReadyL.cons rfl (by decide) (fun K hK => ?_) (PrintLast.AllReadyL.cons rfl (by decide) (fun K hK => ?_) (PrintLast.AllReadyL.nil))
            · rw [if_pos (by kernel_rfl)]
              go_simp
              go_at_call 11; refine (HPLX.out _ HBD.out).mono ?_; rintro e wq2 ⟨⟨D1, i1, e1, D2, i2, e2, rfl, hjq⟩, hbq⟩
              go_wp2_with fail
              have hl10 := (Array.getElem?_eq_some_iff.1 HZ10.out).1
              have HJXn := Lib.hid (JR_mono (F' := fun b => b ≠ X10) (fun b hb => by have hb2 : wq1.heap.size ≤ b := hb; omega) _ _ hjq)
              clear hl10
              have HHn := Lib.hid (WtS.later HH.out hbq); have HBDn := Lib.hid (bel_trans HBD.out hbq)
              have HZ10n := Lib.hid (Below.at hbq HZ10.out)
              clear hjq hbq HH HBD HZ10
              have HH := HHn
              have HBD := HBDn
              have HZ10 := HZ10n
              have HJX := HJXn
              clear HHn HBDn HZ10n HJXn
              refine hK.out _ _ HH.out (fun hHeld => ?_)
              clear hK K hHeld
              try simp only [List.getElem_toArray, List.getElem_cons_zero, List.getElem_cons_succ, Act.put, List.setIfInBounds_toArray, List.set_cons_zero, List.set_cons_succ]
              refine PrintLast.wpAnyLast_ready (rs := [3, 4]) (by kernel_rfl) (by simp) ?_
              refine PrintLast.AllReadyL.cons rfl (by decide) (fun K hK => ?_) (PrintLast.AllReadyL.cons rfl (by decide) (fun K hK => ?_) (PrintLast.AllReadyL.nil))
              · rw [if_pos (by kernel_rfl)]
                go_simp
                go_at_call 11; refine (HPLY.out _ HBD.out).mono ?_; rintro e wq3 ⟨⟨G1, j1, h1, G2, j2, h2, rfl, hjq⟩, hbq⟩
                go_wp2_with fail
                have hl10 := (Array.getElem?_eq_some_iff.1 HZ10.out).1
                have HJYn := Lib.hid (JR_mono (F' := fun b => b ≠ X10) (fun b hb => by have hb2 : wq2.heap.size ≤ b := hb; omega) _ _ hjq)
                clear hl10
                have HHn := Lib.hid (WtS.later HH.out hbq); have HBDn := Lib.hid (bel_trans HBD.out hbq)
                have HJXn := Lib.hid (JR_later HJX.out hbq)
                have HZ10n := Lib.hid (Below.at hbq HZ10.out)
                clear hjq hbq HH HBD HJX HZ10
                have HH := HHn
                have HBD := HBDn
                have HJX := HJXn
                have HZ10 := HZ10n
                have HJY := HJYn
                clear HHn HBDn HJXn HZ10n HJYn
                refine hK.out _ _ HH.out (fun hHeld => ?_)
                clear hK K hHeld
                try simp only [List.getElem_toArray, List.getElem_cons_zero, List.getElem_cons_succ, Act.put, List.setIfInBounds_toArray, List.set_cons_zero, List.set_cons_succ]
                refine PrintLast.wpAnyLast_ready (rs := [4]) (by kernel_rfl) (by simp) ?_
                refine PrintLast.AllReadyL.cons rfl (by decide) (fun K hK => ?_) (PrintLast.AllReadyL.nil)
                rw [if_pos (by kernel_rfl)]
                go_simp
                have hal := bel_alloc (Below.refl wq3.heap.size wq3) (.cells #[.int .i64 0, .int .i64 0, .string ⟨#[]⟩, .slice none 0 0, .slice none 0 0] 35)
                have HHn := Lib.hid (WtS.later HH.out hal); have HBDn := Lib.hid (bel_trans HBD.out hal)
                have HZ9n := Lib.hid (heap_alloc_new wq3 (.cells #[.int .i64 0, .int .i64 0, .string ⟨#[]⟩, .slice none 0 0, .slice none 0 0] 35))
                have HW9 := Lib.hid HBD.out.size
                have HJXn := Lib.hid (JR_mono (F' := fun b => b ≠ wq3.heap.size ∧ b ≠ X10) (fun b hb => by have := hb.1; have := hb.2; omega) _ _ (JR_later (JR_bound _ _ HJX.out) hal))
                have HJYn := Lib.hid (JR_mono (F' := fun b => b ≠ wq3.heap.size ∧ b ≠ X10) (fun b hb => by have := hb.1; have := hb.2; omega) _ _ (JR_later (JR_bound _ _ HJY.out) hal))
                have HZ10n := Lib.hid (Below.at hal HZ10.out)
                have hXne : X10 ≠ wq3.heap.size := by have := (Array.getElem?_eq_some_iff.1 HZ10.out).1; omega
                clear hal HH HBD HJX HJY HZ10
                have HH := HHn
                have HBD := HBDn
                have HJX := HJXn
                have HJY := HJYn
                have HZ10 := HZ10n
                have HZ9 := HZ9n
                clear HHn HBDn HJXn HJYn HZ10n HZ9n
                refine hK.out _ _ HH.out (fun hHeld => ?_)
                clear hK K hHeld
                try simp only [List.getElem_toArray, List.getElem_cons_zero, List.getElem_cons_succ, Act.put, List.setIfInBounds_toArray, List.set_cons_zero, List.set_cons_succ]
                generalize wq3.heap.size = X9 at *
                generalize wq3.alloc (.cells #[.int .i64 0, .int .i64 0, .string ⟨#[]⟩, .slice none 0 0, .slice none 0 0] 35) = wq4 at *
                have hn1 : X9 ≠ X10 := by omega
                have hn2 : X10 ≠ X9 := by omega
                obtain ⟨⟨p0, p1, p2, p3, p4⟩, ⟨q0, q1, q2, q3, q4⟩, _⟩ := cells5 HZ9.out
                obtain ⟨⟨r0, r1, r2, r3, r4⟩, ⟨s0, s1, s2, s3, s4⟩, _⟩ := cells5 HZ10.out
                have HR := Lib.hid (wt_end (.int .i64 x.k) (.int .i64 x.n) (.string x.s) (.slice D1 i1 e1) (.slice D2 i2 e2) (.int .i64 y.k) (.int .i64 y.n) (.string y.s) (.slice G1 j1 h1) (.slice G2 j2 h2) HZ9.out HZ10.out hn1 HJX.out HJY.out HBD.out HW9.out HW10.out)
                clear HJX HJY HZ9 HZ10 HBD HH
                refine PrintLast.wpAnyLast_ready (rs := [6]) (by kernel_rfl) (by simp) ?_
                refine PrintLast.AllReadyL.cons_last rfl (by decide) (fun K hK => ?_) PrintLast.AllReadyL.nil
                rw [if_pos (by kernel_rfl)]
                go_simp
                refine hK.out _ _ ?_
                clear hK K
                try simp only [List.getElem_toArray, List.getElem_cons_zero, List.getElem_cons_succ, Act.put, List.setIfInBounds_toArray, List.set_cons_zero, List.set_cons_succ]
                refine PrintLast.wpAnyLast_ready (rs := [7]) (by kernel_rfl) (by simp) ?_
                refine PrintLast.AllReadyL.cons_last rfl (by decide) (fun K hK => ?_) PrintLast.AllReadyL.nil
                rw [if_pos (by kernel_rfl)]
                go_simp
                refine hK.out _ _ ?_
                clear hK K
                try simp only [List.getElem_toArray, List.getElem_cons_zero, List.getElem_cons_succ, Act.put, List.setIfInBounds_toArray, List.set_cons_zero, List.set_cons_succ]
                refine PrintLast.wpAnyLast_done (by kernel_rfl) ?_ _
                go_wp2_with fail
                go_meet
                exact ⟨X9, X10, D1, i1, e1, D2, i2, e2, G1, j1, h1, G2, j2, h2, rfl, rfl, HR.out⟩
              · rw [if_pos (by kernel_rfl)]
                go_simp
                have hal := bel_alloc (Below.refl wq2.heap.size wq2) (.cells #[.int .i64 0, .int .i64 0, .string ⟨#[]⟩, .slice none 0 0, .slice none 0 0] 35)
                have HHn := Lib.hid (WtS.later HH.out hal); have HBDn := Lib.hid (bel_trans HBD.out hal)
                have HZ9n := Lib.hid (heap_alloc_new wq2 (.cells #[.int .i64 0, .int .i64 0, .string ⟨#[]⟩, .slice none 0 0, .slice none 0 0] 35))
                have HW9 := Lib.hid HBD.out.size
                have HJXn := Lib.hid (JR_mono (F' := fun b => b ≠ wq2.heap.size ∧ b ≠ X10) (fun b hb => by have := hb.1; have := hb.2; omega) _ _ (JR_later (JR_bound _ _ HJX.out) hal))
                have HZ10n := Lib.hid (Below.at hal HZ10.out)
                have hXne : X10 ≠ wq2.heap.size := by have := (Array.getElem?_eq_some_iff.1 HZ10.out).1; omega
                clear hal HH HBD HJX HZ10
                have HH := HHn
                have HBD := HBDn
                have HJX := HJXn
                have HZ10 := HZ10n
                have HZ9 := HZ9n
                clear HHn HBDn HJXn HZ10n HZ9n
                refine hK.out _ _ HH.out (fun hHeld => ?_)
                clear hK K hHeld
                try simp only [List.getElem_toArray, List.getElem_cons_zero, List.getElem_cons_succ, Act.put, List.setIfInBounds_toArray, List.set_cons_zero, List.set_cons_succ]
                generalize wq2.heap.size = X9 at *
                generalize wq2.alloc (.cells #[.int .i64 0, .int .i64 0, .string ⟨#[]⟩, .slice none 0 0, .slice none 0 0] 35) = wq3 at *
                refine PrintLast.wpAnyLast_ready (rs := [3]) (by kernel_rfl) (by simp) ?_
                refine PrintLast.AllReadyL.cons rfl (by decide) (fun K hK => ?_) (PrintLast.AllReadyL.nil)
                rw [if_pos (by kernel_rfl)]
                go_simp
                go_at_call 11; refine (HPLY.out _ HBD.out).mono ?_; rintro e wq4 ⟨⟨G1, j1, h1, G2, j2, h2, rfl, hjq⟩, hbq⟩
                go_wp2_with fail
                have hl9 := (Array.getElem?_eq_some_iff.1 HZ9.out).1
                have hl10 := (Array.getElem?_eq_some_iff.1 HZ10.out).1
                have HJYn := Lib.hid (JR_mono (F' := fun b => b ≠ X9 ∧ b ≠ X10) (fun b hb => by have hb2 : wq3.heap.size ≤ b := hb; omega) _ _ hjq)
                clear hl9 hl10
                have HHn := Lib.hid (WtS.later HH.out hbq); have HBDn := Lib.hid (bel_trans HBD.out hbq)
                have HJXn := Lib.hid (JR_later HJX.out hbq)
                have HZ10n := Lib.hid (Below.at hbq HZ10.out)
                have HZ9n := Lib.hid (Below.at hbq HZ9.out)
                clear hjq hbq HH HBD HJX HZ10 HZ9
                have HH := HHn
                have HBD := HBDn
                have HJX := HJXn
                have HZ10 := HZ10n
                have HZ9 := HZ9n
                have HJY := HJYn
                clear HHn HBDn HJXn HZ10n HZ9n HJYn
                refine hK.out _ _ HH.out (fun hHeld => ?_)
                clear hK K hHeld
                try simp only [List.getElem_toArray, List.getElem_cons_zero, List.getElem_cons_succ, Act.put, List.setIfInBounds_toArray, List.set_cons_zero, List.set_cons_succ]
                have hn1 : X9 ≠ X10 := by omega
                have hn2 : X10 ≠ X9 := by omega
                obtain ⟨⟨p0, p1, p2, p3, p4⟩, ⟨q0, q1, q2, q3, q4⟩, _⟩ := cells5 HZ9.out
                obtain ⟨⟨r0, r1, r2, r3, r4⟩, ⟨s0, s1, s2, s3, s4⟩, _⟩ := cells5 HZ10.out
                have HR := Lib.hid (wt_end (.int .i64 x.k) (.int .i64 x.n) (.string x.s) (.slice D1 i1 e1) (.slice D2 i2 e2) (.int .i64 y.k) (.int .i64 y.n) (.string y.s) (.slice G1 j1 h1) (.slice G2 j2 h2) HZ9.out HZ10.out hn1 HJX.out HJY.out HBD.out HW9.out HW10.out)
                clear HJX HJY HZ9 HZ10 HBD HH
                refine PrintLast.wpAnyLast_ready (rs := [6]) (by kernel_rfl) (by simp) ?_
                refine PrintLast.AllReadyL.cons_last rfl (by decide) (fun K hK => ?_) PrintLast.AllReadyL.nil
                rw [if_pos (by kernel_rfl)]
                go_simp
                refine hK.out _ _ ?_
                clear hK K
                try simp only [List.getElem_toArray, List.getElem_cons_zero, List.getElem_cons_succ, Act.put, List.setIfInBounds_toArray, List.set_cons_zero, List.set_cons_succ]
                refine PrintLast.wpAnyLast_ready (rs := [7]) (by kernel_rfl) (by simp) ?_
                refine PrintLast.AllReadyL.cons_last rfl (by decide) (fun K hK => ?_) PrintLast.AllReadyL.nil
                rw [if_pos (by kernel_rfl)]
                go_simp
                refine hK.out _ _ ?_
                clear hK K
                try simp only [List.getElem_toArray, List.getElem_cons_zero, List.getElem_cons_succ, Act.put, List.setIfInBounds_toArray, List.set_cons_zero, List.set_cons_succ]
                refine PrintLast.wpAnyLast_done (by kernel_rfl) ?_ _
                go_wp2_with fail
                go_meet
                exact ⟨X9, X10, D1, i1, e1, D2, i2, e2, G1, j1, h1, G2, j2, h2, rfl, rfl, HR.out⟩
            · rw [if_pos (by kernel_rfl)]
              go_simp
              have hal := bel_alloc (Below.refl wq1.heap.size wq1) (.cells #[.int .i64 0, .int .i64 0, .string ⟨#[]⟩, .slice none 0 0, .slice none 0 0] 35)
              have HHn := Lib.hid (WtS.later HH.out hal); have HBDn := Lib.hid (bel_trans HBD.out hal)
              have HZ9n := Lib.hid (heap_alloc_new wq1 (.cells #[.int .i64 0, .int .i64 0, .string ⟨#[]⟩, .slice none 0 0, .slice none 0 0] 35))
              have HW9 := Lib.hid HBD.out.size
              have HZ10n := Lib.hid (Below.at hal HZ10.out)
              have hXne : X10 ≠ wq1.heap.size := by have := (Array.getElem?_eq_some_iff.1 HZ10.out).1; omega
              clear hal HH HBD HZ10
              have HH := HHn
              have HBD := HBDn
              have HZ10 := HZ10n
              have HZ9 := HZ9n
              clear HHn HBDn HZ10n HZ9n
              refine hK.out _ _ HH.out (fun hHeld => ?_)
              clear hK K hHeld
              try simp only [List.getElem_toArray, List.getElem_cons_zero, List.getElem_cons_succ, Act.put, List.setIfInBounds_toArray, List.set_cons_zero, List.set_cons_succ]
              generalize wq1.heap.size = X9 at *
              generalize wq1.alloc (.cells #[.int .i64 0, .int .i64 0, .string ⟨#[]⟩, .slice none 0 0, .slice none 0 0] 35) = wq2 at *
              refine PrintLast.wpAnyLast_ready (rs := [1]) (by kernel_rfl) (by simp) ?_
              refine PrintLast.AllReadyL.cons rfl (by decide) (fun K hK => ?_) (PrintLast.AllReadyL.nil)
              rw [if_pos (by kernel_rfl)]
              go_simp
              go_at_call 11; refine (HPLX.out _ HBD.out).mono ?_; rintro e wq3 ⟨⟨D1, i1, e1, D2, i2, e2, rfl, hjq⟩, hbq⟩
              go_wp2_with fail
              have hl9 := (Array.getElem?_eq_some_iff.1 HZ9.out).1
              have hl10 := (Array.getElem?_eq_some_iff.1 HZ10.out).1
              have HJXn := Lib.hid (JR_mono (F' := fun b => b ≠ X9 ∧ b ≠ X10) (fun b hb => by have hb2 : wq2.heap.size ≤ b := hb; omega) _ _ hjq)
              clear hl9 hl10
              have HHn := Lib.hid (WtS.later HH.out hbq); have HBDn := Lib.hid (bel_trans HBD.out hbq)
              have HZ10n := Lib.hid (Below.at hbq HZ10.out)
              have HZ9n := Lib.hid (Below.at hbq HZ9.out)
              clear hjq hbq HH HBD HZ10 HZ9
              have HH := HHn
              have HBD := HBDn
              have HZ10 := HZ10n
              have HZ9 := HZ9n
              have HJX := HJXn
              clear HHn HBDn HZ10n HZ9n HJXn
              refine hK.out _ _ HH.out (fun hHeld => ?_)
              clear hK K hHeld
              try simp only [List.getElem_toArray, List.getElem_cons_zero, List.getElem_cons_succ, Act.put, List.setIfInBounds_toArray, List.set_cons_zero, List.set_cons_succ]
              refine PrintLast.wpAnyLast_ready (rs := [3]) (by kernel_rfl) (by simp) ?_
              refine PrintLast.AllReadyL.cons rfl (by decide) (fun K hK => ?_) (PrintLast.AllReadyL.nil)
              rw [if_pos (by kernel_rfl)]
              go_simp
              go_at_call 11; refine (HPLY.out _ HBD.out).mono ?_; rintro e wq4 ⟨⟨G1, j1, h1, G2, j2, h2, rfl, hjq⟩, hbq⟩
              go_wp2_with fail
              have hl9 := (Array.getElem?_eq_some_iff.1 HZ9.out).1
              have hl10 := (Array.getElem?_eq_some_iff.1 HZ10.out).1
              have HJYn := Lib.hid (JR_mono (F' := fun b => b ≠ X9 ∧ b ≠ X10) (fun b hb => by have hb2 : wq3.heap.size ≤ b := hb; omega) _ _ hjq)
              clear hl9 hl10
              have HHn := Lib.hid (WtS.later HH.out hbq); have HBDn := Lib.hid (bel_trans HBD.out hbq)
              have HJXn := Lib.hid (JR_later HJX.out hbq)
              have HZ10n := Lib.hid (Below.at hbq HZ10.out)
              have HZ9n := Lib.hid (Below.at hbq HZ9.out)
              clear hjq hbq HH HBD HJX HZ10 HZ9
              have HH := HHn
              have HBD := HBDn
              have HJX := HJXn
              have HZ10 := HZ10n
              have HZ9 := HZ9n
              have HJY := HJYn
              clear HHn HBDn HJXn HZ10n HZ9n HJYn
              refine hK.out _ _ HH.out (fun hHeld => ?_)
              clear hK K hHeld
              try simp only [List.getElem_toArray, List.getElem_cons_zero, List.getElem_cons_succ, Act.put, List.setIfInBounds_toArray, List.set_cons_zero, List.set_cons_succ]
              have hn1 : X9 ≠ X10 := by omega
              have hn2 : X10 ≠ X9 := by omega
              obtain ⟨⟨p0, p1, p2, p3, p4⟩, ⟨q0, q1, q2, q3, q4⟩, _⟩ := cells5 HZ9.out
              obtain ⟨⟨r0, r1, r2, r3, r4⟩, ⟨s0, s1, s2, s3, s4⟩, _⟩ := cells5 HZ10.out
              have HR := Lib.hid (wt_end (.int .i64 x.k) (.int .i64 x.n) (.string x.s) (.slice D1 i1 e1) (.slice D2 i2 e2) (.int .i64 y.k) (.int .i64 y.n) (.string y.s) (.slice G1 j1 h1) (.slice G2 j2 h2) HZ9.out HZ10.out hn1 HJX.out HJY.out HBD.out HW9.out HW10.out)
              clear HJX HJY HZ9 HZ10 HBD HH
              refine PrintLast.wpAnyLast_ready (rs := [6]) (by kernel_rfl) (by simp) ?_
              refine PrintLast.AllReadyL.cons_last rfl (by decide) (fun K hK => ?_) PrintLast.AllReadyL.nil
              rw [if_pos (by kernel_rfl)]
              go_simp
              refine hK.out _ _ ?_
              clear hK K
              try simp only [List.getElem_toArray, List.getElem_cons_zero, List.getElem_cons_succ, Act.put, List.setIfInBounds_toArray, List.set_cons_zero, List.set_cons_succ]
              refine PrintLast.wpAnyLast_ready (rs := [7]) (by kernel_rfl) (by simp) ?_
              refine PrintLast.AllReadyL.cons_last rfl (by decide) (fun K hK => ?_) PrintLast.AllReadyL.nil
              rw [if_pos (by kernel_rfl)]
              go_simp
              refine hK.out _ _ ?_
              clear hK K
              try simp only [List.getElem_toArray, List.getElem_cons_zero, List.getElem_cons_succ, Act.put, List.setIfInBounds_toArray, List.set_cons_zero, List.set_cons_succ]
              refine PrintLast.wpAnyLast_done (by kernel_rfl) ?_ _
              go_wp2_with fail
              go_meet
              exact ⟨X9, X10, D1, i1, e1, D2, i2, e2, G1, j1, h1, G2, j2, h2, rfl, rfl, HR.out⟩
        case rest => as_aux_lemma =>
          obtain ⟨X9, X10, D1, i1, e1, D2, i2, e2, G1, j1, h1, G2, j2, h2, rfl, rfl, ⟨k9, k10⟩, ⟨q9, q10⟩, hbz⟩ := hcut
          obtain ⟨rfl, rfl⟩ := jr_lens q9
          obtain ⟨rfl, rfl⟩ := jr_lens q10
          have HB53 := Lib.hid (bel_trans HB40.out hbz)
          have HK54 := Lib.hid (Below.at hbz HK41.out)
          have HK55 := Lib.hid (Below.at hbz HK42.out)
          have HJ56 := Lib.hid (JR_later HJ43.out hbz)
          have HJ57 := Lib.hid (JR_later HJ44.out hbz)
          clear HB40 HK41 HK42 HJ43 HJ44 v051 v151 v251 v351 v451 hV51 v052 v152 v252 v352 v452 hV52
          have HK58 := Lib.hid (k9)
          have HK59 := Lib.hid (k10)
          have HJ60 := Lib.hid (q9)
          have HJ61 := Lib.hid (q10)
          clear hbz k9 k10 q9 q10 HPLX HPLY HSS
          obtain ⟨⟨v062, v162, v262, v362, v462⟩, _, hV62⟩ := cells5 HK54.out
          have hcl := print_both x _ _ wc HJ56.out (HT.out.below HB53.out) HPX.out
          have HCL := Lib.hid hcl
          clear hcl
          go_wp2_with fail
          refine Calls.mono HCL.out ?_
          rintro e w63 ⟨⟨P1, p1, he6, hs6⟩, hbz⟩
          clear HCL
          have he6 : e = .returned (.tuple #[.slice P1 (prB x).length p1, .int .i64 (prE x)]) := he6
          subst he6
          have HB64 := Lib.hid (bel_trans HB53.out hbz)
          have HK65 := Lib.hid (Below.at hbz HK54.out)
          have HK66 := Lib.hid (Below.at hbz HK55.out)
          have HJ67 := Lib.hid (JR_later HJ56.out hbz)
          have HJ68 := Lib.hid (JR_later HJ57.out hbz)
          have HK69 := Lib.hid (Below.at hbz HK58.out)
          have HK70 := Lib.hid (Below.at hbz HK59.out)
          have HJ71 := Lib.hid (JR_later HJ60.out hbz)
          have HJ72 := Lib.hid (JR_later HJ61.out hbz)
          clear HB53 HK54 HK55 HJ56 HJ57 HK58 HK59 HJ60 HJ61 v062 v162 v262 v362 v462 hV62
          have HS73 := Lib.hid (hs6)
          clear hbz hs6
          obtain ⟨⟨v074, v174, v274, v374, v474⟩, _, hV74⟩ := cells5 HK69.out
          have hcl := rprint_both x _ _ w63 HSX.out HJ71.out HPX.out
          have HCL := Lib.hid hcl
          clear hcl
          go_wp2_with fail
          refine Calls.mono HCL.out ?_
          rintro e w75 ⟨⟨R1, r1, he6, hs6⟩, hbz⟩
          clear HCL
          have he6 : e = .returned (.tuple #[.slice R1 (prB x).length r1, .int .i64 (prE x)]) := he6
          subst he6
          have HB76 := Lib.hid (bel_trans HB64.out hbz)
          have HK77 := Lib.hid (Below.at hbz HK65.out)
          have HK78 := Lib.hid (Below.at hbz HK66.out)
          have HJ79 := Lib.hid (JR_later HJ67.out hbz)
          have HJ80 := Lib.hid (JR_later HJ68.out hbz)
          have HK81 := Lib.hid (Below.at hbz HK69.out)
          have HK82 := Lib.hid (Below.at hbz HK70.out)
          have HJ83 := Lib.hid (JR_later HJ71.out hbz)
          have HJ84 := Lib.hid (JR_later HJ72.out hbz)
          have HS85 := Lib.hid (bsl_lat HS73.out hbz)
          clear HB64 HK65 HK66 HJ67 HJ68 HK69 HK70 HJ71 HJ72 HS73 v074 v174 v274 v374 v474 hV74
          have HS86 := Lib.hid (hs6)
          clear hbz hs6 HPX
          obtain ⟨gp, gb, hgp⟩ : ∃ p b, getB name (memsOf x) = (p, b) := ⟨_, _, rfl⟩
          have HGP := Lib.hid hgp
          clear hgp
          obtain ⟨⟨v087, v187, v287, v387, v487⟩, _, hV87⟩ := cells5 HK77.out
          have hcl := get_call x name _ _ w75 HGP.out HLX.out HJ79.out
          have HCL := Lib.hid hcl
          clear hcl
          go_wp2_with fail
          refine Calls.mono HCL.out ?_
          rintro e w88 ⟨gA1, gn1, gc1, gA2, gn2, gc2, rfl, hj, hb⟩
          clear HCL
          have hA2 := bel_alloc (Below.refl w88.heap.size w88) (.cells #[.int .i64 gp.k, .int .i64 gp.n, .string gp.s, .slice gA1 gn1 gc1, .slice gA2 gn2 gc2] 28)
          have hb2 := bel_trans hb hA2
          have hc2 := heap_alloc_new w88 (.cells #[.int .i64 gp.k, .int .i64 gp.n, .string gp.s, .slice gA1 gn1 gc1, .slice gA2 gn2 gc2] 28)
          have hj2 := JR_later hj hA2
          have HB89 := Lib.hid (bel_trans HB76.out hb2)
          have HK90 := Lib.hid (Below.at hb2 HK77.out)
          have HK91 := Lib.hid (Below.at hb2 HK78.out)
          have HJ92 := Lib.hid (JR_later HJ79.out hb2)
          have HJ93 := Lib.hid (JR_later HJ80.out hb2)
          have HK94 := Lib.hid (Below.at hb2 HK81.out)
          have HK95 := Lib.hid (Below.at hb2 HK82.out)
          have HJ96 := Lib.hid (JR_later HJ83.out hb2)
          have HJ97 := Lib.hid (JR_later HJ84.out hb2)
          have HS98 := Lib.hid (bsl_lat HS85.out hb2)
          have HS99 := Lib.hid (bsl_lat HS86.out hb2)
          clear HB76 HK77 HK78 HJ79 HJ80 HK81 HK82 HJ83 HJ84 HS85 HS86 v087 v187 v287 v387 v487 hV87
          have HK100 := Lib.hid (hc2)
          have HJ101 := Lib.hid (hj2)
          clear hA2 hb2 hc2 hj2 hj hb
          go_upto_region 9 with (fail)
          generalize w88.heap.size = X15 at *
          generalize w88.alloc (.cells #[.int .i64 gp.k, .int .i64 gp.n, .string gp.s, .slice gA1 gn1 gc1, .slice gA2 gn2 gc2] 28) = W15 at *
          obtain ⟨⟨v0102, v1102, v2102, v3102, v4102⟩, _, hV102⟩ := cells5 HK94.out
          have hcl := rg_call x name _ _ W15 HGP.out HJ96.out
          have HCL := Lib.hid hcl
          clear hcl
          go_wp2_with fail
          refine Calls.mono HCL.out ?_
          rintro e w103 ⟨mA1, mn1, mc1, mA2, mn2, mc2, rfl, hj, hb⟩
          clear HCL
          have hA2 := bel_alloc (Below.refl w103.heap.size w103) (.cells #[.int .i64 gp.k, .int .i64 gp.n, .string gp.s, .slice mA1 mn1 mc1, .slice mA2 mn2 mc2] 35)
          have hb2 := bel_trans hb hA2
          have hc2 := heap_alloc_new w103 (.cells #[.int .i64 gp.k, .int .i64 gp.n, .string gp.s, .slice mA1 mn1 mc1, .slice mA2 mn2 mc2] 35)
          have hj2 := JR_later hj hA2
          have HB104 := Lib.hid (bel_trans HB89.out hb2)
          have HK105 := Lib.hid (Below.at hb2 HK90.out)
          have HK106 := Lib.hid (Below.at hb2 HK91.out)
          have HJ107 := Lib.hid (JR_later HJ92.out hb2)
          have HJ108 := Lib.hid (JR_later HJ93.out hb2)
          have HK109 := Lib.hid (Below.at hb2 HK94.out)
          have HK110 := Lib.hid (Below.at hb2 HK95.out)
          have HJ111 := Lib.hid (JR_later HJ96.out hb2)
          have HJ112 := Lib.hid (JR_later HJ97.out hb2)
          have HS113 := Lib.hid (bsl_lat HS98.out hb2)
          have HS114 := Lib.hid (bsl_lat HS99.out hb2)
          have HK115 := Lib.hid (Below.at hb2 HK100.out)
          have HJ116 := Lib.hid (JR_later HJ101.out hb2)
          clear HB89 HK90 HK91 HJ92 HJ93 HK94 HK95 HJ96 HJ97 HS98 HS99 HK100 HJ101 v0102 v1102 v2102 v3102 v4102 hV102
          have HK117 := Lib.hid (hc2)
          have HJ118 := Lib.hid (hj2)
          clear hA2 hb2 hc2 hj2 hj hb
          go_upto_region 10 with (fail)
          generalize w103.heap.size = X17 at *
          generalize w103.alloc (.cells #[.int .i64 gp.k, .int .i64 gp.n, .string gp.s, .slice mA1 mn1 mc1, .slice mA2 mn2 mc2] 35) = W17 at *
          have HBC := Lib.hid (Below.refl W17.heap.size W17); have HXC := HK105; have HJC := HJ107
          obtain ⟨⟨v0119, v1119, v2119, v3119, v4119⟩, _, hV119⟩ := cells5 HXC.out
          have hcl := copy_top x _ _ W17 HLX.out HJC.out
          have HCL := Lib.hid hcl
          clear hcl
          go_wp2_with fail
          refine Calls.mono HCL.out ?_
          rintro e w120 ⟨⟨dA1, dn1, dc1, dA2, dn2, dc2, rfl, hj, hfz, hne⟩, hb⟩
          clear HCL
          obtain ⟨rfl, rfl⟩ := jr_lens hj
          have hA2 := bel_alloc (Below.refl w120.heap.size w120) (.cells #[.int .i64 x.k, .int .i64 x.n, .string x.s, .slice dA1 x.l.length dc1, .slice dA2 x.m.length dc2] 28)
          have hb2 := bel_trans hb hA2
          have hc2 := heap_alloc_new w120 (.cells #[.int .i64 x.k, .int .i64 x.n, .string x.s, .slice dA1 x.l.length dc1, .slice dA2 x.m.length dc2] 28)
          have hj2 := JR_later hj hA2
          obtain ⟨hdv, hdm⟩ := copy_heads HSX.out hj hfz
          have HDV := Lib.hid (hdv.later hA2); have HDM := Lib.hid (hdm.later hA2); have HNE := Lib.hid hne
          have HXL := Lib.hid (show ∀ g o, (dA1 = some ⟨g, o, none⟩ ∧ x.l ≠ []) ∨ (dA2 = some ⟨g, o, none⟩ ∧ x.m ≠ []) → g < w120.heap.size from heads_lt hj)
          have HB121 := Lib.hid (bel_trans HBC.out hb2)
          have HK122 := Lib.hid (Below.at hb2 HXC.out)
          have HJ123 := Lib.hid (JR_later HJC.out hb2)
          clear HBC HXC HJC v0119 v1119 v2119 v3119 v4119 hV119
          have HK124 := Lib.hid (hc2)
          have HJ125 := Lib.hid (hj2)
          clear hA2 hb2 hc2 hj2 hj hb hfz hne hdv hdm
          go_upto_region 11 with (fail)
          generalize w120.heap.size = X19 at *
          generalize w120.alloc (.cells #[.int .i64 x.k, .int .i64 x.n, .string x.s, .slice dA1 x.l.length dc1, .slice dA2 x.m.length dc2] 28) = W19 at *
          obtain ⟨⟨v0126, v1126, v2126, v3126, v4126⟩, _, hV126⟩ := cells5 HK122.out
          obtain ⟨⟨v0127, v1127, v2127, v3127, v4127⟩, _, hV127⟩ := cells5 HK124.out
          have hsm := same_any x x _ _ _ _ W19 HJ125.out HJ123.out
          rw [same_refl] at hsm
          have HSM := Lib.hid hsm
          clear hsm
          go_wp2_with fail
          refine Calls.mono HSM.out ?_
          rintro e w11 ⟨rfl, hbz⟩
          clear HSM
          have HDV2 := Lib.hid (HDV.out.later hbz); have HDM2 := Lib.hid (HDM.out.later hbz)
          clear HDV HDM
          clear HK122 HJ123 HJ125
          have HB128 := Lib.hid (bel_trans HB121.out hbz)
          have HK129 := Lib.hid (Below.at hbz HK124.out)
          clear HB121 HK124 v0126 v1126 v2126 v3126 v4126 hV126 v0127 v1127 v2127 v3127 v4127 hV127
          clear hbz
          obtain ⟨⟨v0130, v1130, v2130, v3130, v4130⟩, _, hV130⟩ := cells5 HK129.out
          go_upto_if 75 with (fail)
          go_cut [] from 72 (fun wx => Below W17.heap.size W17 wx ∧ wx.heap[X19]? = some (.cells #[.int .i64 x.k, .int .i64 x.n, .string x.s, .slice dA1 x.l.length dc1, .slice dA2 x.m.length dc2] 28 (0, 0)) ∧ Aside (HdM W17.heap.size x dA2 wx))
          case first => as_aux_lemma =>
            by_cases hx : x.l.length = 0
            · have hd1 : decide (0 < (x.l.length : Int)) = false := decide_eq_false (by omega)
              go_wp2_with fail
              go_meet
              case rel => exact ⟨HB128.out, HK129.out, HDM2.out⟩
            · have hd1 : decide (0 < (x.l.length : Int)) = true := decide_eq_true (by omega)
              have hdl : (0 : Int) < (x.l.length : Int) := by omega
              have hd2 : ¬ (x.l.length : Int) ≤ 0 := by omega
              rcases HDV2.out with h | ⟨b, o, nn, rfl, hB, k1, kf⟩
              · exact absurd (by rw [h]; rfl) hx
              have HBB := Lib.hid hB
              clear hB
              have hxl : x.l ≠ [] := fun e => hx (by rw [e]; rfl)
              have hlt := HXL.out b o (.inl ⟨rfl, hxl⟩)
              have hb3 := bel_set (p := ⟨b, o + 1, none⟩) HB128.out HBB.out (.int .i64 (wrap64 (nn + 1)))
              have hk3 : (w11.setCell ⟨b, o + 1, none⟩ (.int .i64 (wrap64 (nn + 1)))).heap[X19]? = _ := (Below.heap_setCell w11 ⟨b, o + 1, none⟩ _ X19 (by show X19 ≠ b; omega)).trans HK129.out
              have hm3 := HdM.set (a := ⟨b, o + 1, none⟩) (v := .int .i64 (wrap64 (nn + 1))) HDM2.out (fun hm b' o' e => by have := HNE.out b o b' o' rfl e; exact fun e' => this e'.symm)
              have HB3 := Lib.hid hb3; have HK3 := Lib.hid hk3; have HM3 := Lib.hid hm3
              clear hb3 hk3 hm3 hlt hxl
              go_wp2_with fail
              go_meet
              case rel => exact ⟨HB3.out, HK3.out, HM3.out⟩
          case rest => as_aux_lemma =>
            obtain ⟨hb12, hk12, hm12⟩ := hcut
            replace hm12 := hm12.out
            have HB12 := Lib.hid hb12; have HK12 := Lib.hid hk12; have HM12 := Lib.hid hm12
            clear hb12 hk12 hm12 HB128 HK129 HDV2 HDM2
            generalize wc = w12 at *
            obtain ⟨⟨v0131, v1131, v2131, v3131, v4131⟩, _, hV131⟩ := cells5 HK12.out
            go_upto_if 87 with (fail)
            go_cut [] from 84 (fun wx => Below W17.heap.size W17 wx)
            case first => as_aux_lemma =>
              by_cases hx : x.m.length = 0
              · have hd1 : decide (0 < (x.m.length : Int)) = false := decide_eq_false (by omega)
                go_wp2_with fail
                go_meet
                case rel => exact HB12.out
              · have hd1 : decide (0 < (x.m.length : Int)) = true := decide_eq_true (by omega)
                have hdl : (0 : Int) < (x.m.length : Int) := by omega
                have hd2 : ¬ (x.m.length : Int) ≤ 0 := by omega
                rcases HM12.out with h | ⟨b, o, nn, rfl, hB, k1, kf, hz⟩
                · exact absurd (by rw [h]; rfl) hx
                have HBB := Lib.hid hB
                have c1 := fun W : World => run_string_add_sum (P := Tryz.prog) W nn ⟨#[120]⟩ (by show nn.size + 1 ≤ 9223372036854775807; omega)
                have hb3 := bel_set (p := ⟨b, o, none⟩) HB12.out HBB.out (.string (nn ++ ⟨#[120]⟩))
                have HB3 := Lib.hid hb3
                have HKF := Lib.hid kf
                have HSS := Lib.hid (show KwS X19 b o (.slice (some ⟨b, o, none⟩) x.m.length dc2) nn w12.drew from ⟨v4131, k1⟩)
                clear hb3 hB hz
                go_wp2_with fail
                refine PrintLast.wp_region_last_drew (S := KwS X19 b o (.slice (some ⟨b, o, none⟩) x.m.length dc2) nn) (ds := [10]) (by kernel_rfl) HSS.out (fun hHeld => ?_)
                refine PrintLast.wpAnyLast_take (i := 0) (v := ?_) rfl (by kernel_rfl) (by kernel_rfl) (by kernel_rfl) (by kernel_rfl) (by kernel_rfl) (fun _ _ _ h => h) (Or.inl ⟨by kernel_rfl, ?_⟩) (by assumption) ?_
                rotate_left
                · (intro wX hSw; obtain ⟨zc, z0⟩ := hSw; go_simp; try (with_reducible rfl))
                try simp only [List.getElem_toArray, List.getElem_cons_zero, List.getElem_cons_succ, Act.put, List.setIfInBounds_toArray, List.set_cons_zero, List.set_cons_succ]
                refine PrintLast.wpAnyLast_take (i := 1) (v := ?_) rfl (by kernel_rfl) (by kernel_rfl) (by kernel_rfl) (by kernel_rfl) (by kernel_rfl) (fun _ _ _ h => h) (Or.inl ⟨by kernel_rfl, ?_⟩) (by assumption) ?_
                rotate_left
                · (intro wX hSw; obtain ⟨zc, z0⟩ := hSw; go_simp; try (with_reducible rfl))
                try simp only [List.getElem_toArray, List.getElem_cons_zero, List.getElem_cons_succ, Act.put, List.setIfInBounds_toArray, List.set_cons_zero, List.set_cons_succ]
                refine PrintLast.wpAnyLast_take (i := 2) (v := ?_) rfl (by kernel_rfl) (by kernel_rfl) (by kernel_rfl) (by kernel_rfl) (by kernel_rfl) (fun _ _ _ h => h) (Or.inl ⟨by kernel_rfl, ?_⟩) (by assumption) ?_
                rotate_left
                · (intro wX hSw; obtain ⟨zc, z0⟩ := hSw; go_simp; try (with_reducible rfl))
                try simp only [List.getElem_toArray, List.getElem_cons_zero, List.getElem_cons_succ, Act.put, List.setIfInBounds_toArray, List.set_cons_zero, List.set_cons_succ]
                refine PrintLast.wpAnyLast_take (i := 3) (v := ?_) rfl (by kernel_rfl) (by kernel_rfl) (by kernel_rfl) (by kernel_rfl) (by kernel_rfl) (fun _ _ _ h => h) (Or.inl ⟨by kernel_rfl, ?_⟩) (by assumption) ?_
                rotate_left
                · (intro wX hSw; obtain ⟨zc, z0⟩ := hSw; go_simp; try (with_reducible rfl))
                try simp only [List.getElem_toArray, List.getElem_cons_zero, List.getElem_cons_succ, Act.put, List.setIfInBounds_toArray, List.set_cons_zero, List.set_cons_succ]
                refine PrintLast.wpAnyLast_take (i := 4) (v := ?_) rfl (by kernel_rfl) (by kernel_rfl) (by kernel_rfl) (by kernel_rfl) (by kernel_rfl) (fun _ _ _ h => h) (Or.inl ⟨by kernel_rfl, ?_⟩) (by assumption) ?_
                rotate_left
                · (intro wX hSw; obtain ⟨zc, z0⟩ := hSw; go_simp; try (with_reducible rfl))
                try simp only [List.getElem_toArray, List.getElem_cons_zero, List.getElem_cons_succ, Act.put, List.setIfInBounds_toArray, List.set_cons_zero, List.set_cons_succ]
                refine PrintLast.wpAnyLast_take (i := 5) (v := ?_) rfl (by kernel_rfl) (by kernel_rfl) (by kernel_rfl) (by kernel_rfl) (by kernel_rfl) (fun _ _ _ h => h) (Or.inl ⟨by kernel_rfl, ?_⟩) (by assumption) ?_
                rotate_left
                · (intro wX hSw; obtain ⟨zc, z0⟩ := hSw; go_simp; try (with_reducible rfl))
                try simp only [List.getElem_toArray, List.getElem_cons_zero, List.getElem_cons_succ, Act.put, List.setIfInBounds_toArray, List.set_cons_zero, List.set_cons_succ]
                refine PrintLast.wpAnyLast_take (i := 6) (v := ?_) rfl (by kernel_rfl) (by kernel_rfl) (by kernel_rfl) (by kernel_rfl) (by kernel_rfl) (fun _ _ _ h => h) (Or.inl ⟨by kernel_rfl, ?_⟩) (by assumption) ?_
                rotate_left
                · (intro wX hSw; obtain ⟨zc, z0⟩ := hSw; go_simp; try (with_reducible rfl))
                try simp only [List.getElem_toArray, List.getElem_cons_zero, List.getElem_cons_succ, Act.put, List.setIfInBounds_toArray, List.set_cons_zero, List.set_cons_succ]
                refine PrintLast.wpAnyLast_take (i := 7) (v := ?_) rfl (by kernel_rfl) (by kernel_rfl) (by kernel_rfl) (by kernel_rfl) (by kernel_rfl) (fun _ _ _ h => h) (Or.inl ⟨by kernel_rfl, ?_⟩) (by assumption) ?_
                rotate_left
                · (intro wX hSw; obtain ⟨zc, z0⟩ := hSw; go_simp; try (with_reducible rfl))
                try simp only [List.getElem_toArray, List.getElem_cons_zero, List.getElem_cons_succ, Act.put, List.setIfInBounds_toArray, List.set_cons_zero, List.set_cons_succ]
                refine PrintLast.wpAnyLast_take (i := 8) (v := ?_) rfl (by kernel_rfl) (by kernel_rfl) (by kernel_rfl) (by kernel_rfl) (by kernel_rfl) (fun _ _ _ h => h) (Or.inl ⟨by kernel_rfl, ?_⟩) (by assumption) ?_
                rotate_left
                · (intro wX hSw; obtain ⟨zc, z0⟩ := hSw; go_simp; try (with_reducible rfl))
                try simp only [List.getElem_toArray, List.getElem_cons_zero, List.getElem_cons_succ, Act.put, List.setIfInBounds_toArray, List.set_cons_zero, List.set_cons_succ]
                refine PrintLast.wpAnyLast_take (i := 9) (v := ?_) rfl (by kernel_rfl) (by kernel_rfl) (by kernel_rfl) (by kernel_rfl) (by kernel_rfl) (fun _ _ _ h => h) (Or.inl ⟨by kernel_rfl, ?_⟩) (by assumption) ?_
                rotate_left
                · (intro wX hSw; obtain ⟨zc, z0⟩ := hSw; go_simp; try (with_reducible rfl))
                try simp only [List.getElem_toArray, List.getElem_cons_zero, List.getElem_cons_succ, Act.put, List.setIfInBounds_toArray, List.set_cons_zero, List.set_cons_succ]
                refine PrintLast.wpAnyLast_ready (rs := [10]) (by kernel_rfl) (by simp) ?_
                refine PrintLast.AllReadyL.cons_last rfl (by decide) (fun K hK => ?_) PrintLast.AllReadyL.nil
                rw [if_pos (by kernel_rfl)]
                go_simp
                refine hK.out _ _ ?_
                clear hK K
                try simp only [List.getElem_toArray, List.getElem_cons_zero, List.getElem_cons_succ, Act.put, List.setIfInBounds_toArray, List.set_cons_zero, List.set_cons_succ]
                refine PrintLast.wpAnyLast_done (by kernel_rfl) ?_ _
                go_wp2_with fail
                go_meet
                case rel => exact bel_drew HB3.out
            case rest => as_aux_lemma =>
              have HB15 := Lib.hid hcut
              clear hcut HB12 HK12 HM12
              generalize wc = w15 at *
              clear v0131 v1131 v2131 v3131 v4131 hV131
              have HB132 := Lib.hid (bel_trans HB104.out HB15.out)
              have HK133 := Lib.hid (Below.at HB15.out HK105.out)
              have HK134 := Lib.hid (Below.at HB15.out HK106.out)
              have HJ135 := Lib.hid (JR_later HJ107.out HB15.out)
              have HJ136 := Lib.hid (JR_later HJ108.out HB15.out)
              have HK137 := Lib.hid (Below.at HB15.out HK109.out)
              have HK138 := Lib.hid (Below.at HB15.out HK110.out)
              have HJ139 := Lib.hid (JR_later HJ111.out HB15.out)
              have HJ140 := Lib.hid (JR_later HJ112.out HB15.out)
              have HS141 := Lib.hid (bsl_lat HS113.out HB15.out)
              have HS142 := Lib.hid (bsl_lat HS114.out HB15.out)
              have HK143 := Lib.hid (Below.at HB15.out HK115.out)
              have HJ144 := Lib.hid (JR_later HJ116.out HB15.out)
              have HK145 := Lib.hid (Below.at HB15.out HK117.out)
              have HJ146 := Lib.hid (JR_later HJ118.out HB15.out)
              clear HB104 HK105 HK106 HJ107 HJ108 HK109 HK110 HJ111 HJ112 HS113 HS114 HK115 HJ116 HK117 HJ118
              clear HB15
              obtain ⟨⟨v0147, v1147, v2147, v3147, v4147⟩, _, hV147⟩ := cells5 HK133.out
              have hcl := members_any x A1 c1 A2 c2 w15
              have HCL := Lib.hid hcl
              clear hcl
              go_wp2_with fail
              refine Calls.mono HCL.out ?_
              rintro e w148 ⟨rfl, hz⟩
              clear HCL
              have hb : Below w15.heap.size w15 w148 := by rw [hz]; exact bel_alloc (Below.refl _ _) _
              have hk : w148.heap[w15.heap.size]? = some (.cells #[.int .i64 x.k, .int .i64 x.n, .string x.s, .slice A1 x.l.length c1, .slice A2 x.m.length c2] 28 (0, 0)) := by rw [hz]; exact heap_alloc_new _ _
              clear hz
              obtain ⟨XM, hXM⟩ : ∃ m, m = w15.heap.size := ⟨_, rfl⟩
              rw [← hXM] at hk
              rw [← hXM]
              clear hXM
              have HB149 := Lib.hid (bel_trans HB132.out hb)
              have HK150 := Lib.hid (Below.at hb HK133.out)
              have HK151 := Lib.hid (Below.at hb HK134.out)
              have HJ152 := Lib.hid (JR_later HJ135.out hb)
              have HJ153 := Lib.hid (JR_later HJ136.out hb)
              have HK154 := Lib.hid (Below.at hb HK137.out)
              have HK155 := Lib.hid (Below.at hb HK138.out)
              have HJ156 := Lib.hid (JR_later HJ139.out hb)
              have HJ157 := Lib.hid (JR_later HJ140.out hb)
              have HS158 := Lib.hid (bsl_lat HS141.out hb)
              have HS159 := Lib.hid (bsl_lat HS142.out hb)
              have HK160 := Lib.hid (Below.at hb HK143.out)
              have HJ161 := Lib.hid (JR_later HJ144.out hb)
              have HK162 := Lib.hid (Below.at hb HK145.out)
              have HJ163 := Lib.hid (JR_later HJ146.out hb)
              clear HB132 HK133 HK134 HJ135 HJ136 HK137 HK138 HJ139 HJ140 HS141 HS142 HK143 HJ144 HK145 HJ146 v0147 v1147 v2147 v3147 v4147 hV147
              have HKM := Lib.hid hk
              clear hk hb
              have hcl := names_any x A1 c1 A2 c2 _ XM n w148 HLX.out HKM.out HJ152.out
              have HCL := Lib.hid hcl
              clear hcl
              go_wp2_with fail
              refine Calls.mono HCL.out ?_
              rintro e w164 ⟨⟨v1, v2, rfl, hs1, hs2⟩, hbz⟩
              clear HCL
              obtain ⟨ms, hms⟩ : ∃ ms, ms = (memsOf x).take n.toNat := ⟨_, rfl⟩
              rw [← hms] at hs1 hs2
              obtain ⟨N1, k1, rfl⟩ := hs1.form
              obtain ⟨N2, k2, rfl⟩ := hs2.form
              rw [List.length_map] at hs1 hs2
              simp only [List.length_map]
              have hs1 := hs1.mono (F' := fun _ => True) (fun _ _ => trivial)
              have hs2 := hs2.mono (F' := fun _ => True) (fun _ _ => trivial)
              have HMS := Lib.hid hms
              have HB165 := Lib.hid (bel_trans HB149.out hbz)
              have HK166 := Lib.hid (Below.at hbz HK150.out)
              have HK167 := Lib.hid (Below.at hbz HK151.out)
              have HJ168 := Lib.hid (JR_later HJ152.out hbz)
              have HJ169 := Lib.hid (JR_later HJ153.out hbz)
              have HK170 := Lib.hid (Below.at hbz HK154.out)
              have HK171 := Lib.hid (Below.at hbz HK155.out)
              have HJ172 := Lib.hid (JR_later HJ156.out hbz)
              have HJ173 := Lib.hid (JR_later HJ157.out hbz)
              have HS174 := Lib.hid (bsl_lat HS158.out hbz)
              have HS175 := Lib.hid (bsl_lat HS159.out hbz)
              have HK176 := Lib.hid (Below.at hbz HK160.out)
              have HJ177 := Lib.hid (JR_later HJ161.out hbz)
              have HK178 := Lib.hid (Below.at hbz HK162.out)
              have HJ179 := Lib.hid (JR_later HJ163.out hbz)
              clear HB149 HK150 HK151 HJ152 HJ153 HK154 HK155 HJ156 HJ157 HS158 HS159 HK160 HJ161 HK162 HJ163
              have HT180 := Lib.hid (hs1)
              have HT181 := Lib.hid (hs2)
              clear hms hs1 hs2 hbz HKM
              go_upto_block 0 with (fail)
              have hml : ms.length ≤ 1000000 := by
                have h1 : ms.length ≤ (memsOf x).length := by rw [HMS.out]; exact List.length_take_le' _ _
                exact Nat.le_trans h1 (mems_len HLX.out)
              have HML := Lib.hid hml
              clear hml
              go_cut [23] from 105 to 148 (fun s23 wx => ∃ A c, s23 = .slice A ms.length c ∧ Aside (Sl strTy wx (fun _ => True) (.slice A ms.length c) (ms.map (·.1))) ∧ Aside (Below w164.heap.size w164 wx))
              case first => as_aux_lemma =>
                go_wp2_with fail
                go_loopg [23, 24] ms.length (fun gg s23 s24 wr => ∃ k : Nat, k ≤ ms.length ∧ ms.length - k ≤ gg ∧ s24 = .int .i64 k ∧ ∃ A c, s23 = .slice A k c ∧ Aside (wr.ownsRow w164.heap.size 9 1 (.slice A k c) k ((ms.map fun q => Value.string q.1).take k)) ∧ Aside (Below w164.heap.size w164 wr))
                case atStart => exact ⟨0, Nat.zero_le _, by omega, rfl, none, 0, rfl, World.ownsRow_nil _ _ _ _, Below.refl _ _⟩
                case round =>
                  obtain ⟨k, hk, hgg, rfl, A, c, rfl, ho, hbw⟩ := hrel
                  replace ho := ho.out
                  replace hbw := hbw.out
                  have HO := Lib.hid ho; have HBW := Lib.hid hbw
                  clear ho hbw
                  obtain ⟨⟨p0, p1, p2, p3, p4⟩, _, hPw⟩ := cells5 (Below.at HBW.out HK170.out)
                  clear p1 p2 p3
                  have hk0 : (0 : Int) ≤ (k : Int) := by omega
                  by_cases hlt : k < ms.length
                  · have h7 : memsOf x = x.m ∧ (x.k == 7) = true := by
                      by_cases h : x.k = 7
                      · exact ⟨by unfold memsOf; rw [if_pos h], by simpa using h⟩
                      · exfalso
                        have e := congrArg List.length HMS.out
                        have hm : memsOf x = [] := by unfold memsOf; rw [if_neg h]
                        rw [hm, List.take_nil] at e
                        have e' : ms.length = 0 := e
                        omega
                    have hms' : ms = x.m.take n.toNat := by rw [← h7.1]; exact HMS.out
                    have hk7 := h7.2
                    have hd3 : decide (x.k = 7) = true := by simpa using hk7
                    have hlm : k < x.m.length ∧ (k : Int) < n := by
                      have e := congrArg List.length hms'
                      rw [List.length_take] at e
                      omega
                    have hd1 : decide ((k : Int) < (x.m.length : Int)) = true := decide_eq_true (by omega)
                    have hd2 : decide ((k : Int) < n) = true := decide_eq_true hlm.2
                    have hi1 : (k : Int) < (x.m.length : Int) := by omega
                    have hi2 : (k : Int) < (ms.length : Int) := by omega
                    have hd4 : decide (ms.length ≤ k) = false := decide_eq_false (by omega)
                    obtain ⟨⟨nm, q⟩, hq⟩ : ∃ p, ms[k]? = some p := get_ex hlt
                    have hxm : x.m[k]? = some (nm, q) := by rw [hms', List.getElem?_take_of_lt (by omega)] at hq; exact hq
                    have hmq : (ms.map (·.2))[k]? = some q := by rw [List.getElem?_map, hq]; rfl
                    have HTK := Lib.hid (show (ms.map fun q => Value.string q.1).take (k + 1) = (ms.map fun q => Value.string q.1).take k ++ [Value.string nm] from take_snoc' (by rw [List.getElem?_map, hq]; rfl))
                    obtain ⟨AA, cc, hv, _, hcc⟩ := mem_cells (jr_mems HJ172.out)
                    obtain ⟨b, o, C1, l1, f1, C2, l2, f2, hA, _, y0, y1, y2, y3, y4, y5, hjr⟩ := hcc k nm q hxm
                    obtain ⟨AB, cd, hv', _, hcd⟩ := val_cells HT181.out
                    obtain ⟨bN, oN, E1, m1, g1, E2, m2, g2, hB, r0, r1, r2, r3, r4, hjq⟩ := hcd k q hmq
                    obtain rfl : D2 = some ⟨b, o, none⟩ := by injection hv with h1 _ _; exact h1.trans hA
                    obtain rfl : N2 = some ⟨bN, oN, none⟩ := by injection hv' with h1 _ _; exact h1.trans hB
                    have HKL := Lib.hid (show KwL X9 b (o + k * 6) bN (oN + k * 5) (.slice (some ⟨b, o, none⟩) x.m.length e2) nm (.int .i64 q.k) (.int .i64 q.n) (.string q.s) (.slice C1 l1 f1) (.slice C2 l2 f2) (.int .i64 q.k) (.int .i64 q.n) (.string q.s) (.slice E1 m1 g1) (.slice E2 m2 g2) w164 from
                      ⟨(cells5 HK170.out).1.2.2.2.2, y0, ⟨y1, y2, y3, y4, y5⟩, ⟨r0, r1, r2, r3, r4⟩⟩)
                    have HJR := Lib.hid hjr; have HJQ := Lib.hid hjq
                    clear h7 hms' hlm hq hxm hmq hv hcc hA y0 y1 y2 y3 y4 y5 hjr hv' hcd hB r0 r1 r2 r3 r4 hjq
                    have e0 := (HKL.out.later HBW.out).2.1
                    have hsrc : ∀ j u, [Value.string nm][j]? = some u → (wr.alloc (.cells #[.string nm] 9)).cell? ((⟨wr.heap.size, 0, none⟩ : Addr).add j) = some u := fun j u hj => by
                      rw [Addr.add_lit, Nat.zero_add]; exact cell_newB wr #[.string nm] 9 j u (by simpa using hj)
                    have hbA : Below w164.heap.size w164 (wr.alloc (.cells #[.string nm] 9)) := bel_alloc HBW.out _
                    have hown := own_laterB HO.out (bel_alloc (Below.refl wr.heap.size wr) (.cells #[.string nm] 9))
                    have s1 : k + 1 ≤ maxLen := by have := HML.out; simp only [maxLen]; omega
                    have s2 : (k + 1) * 16 ≤ 140737488355328 := by have := HML.out; omega
                    have SR := Lib.hid hsrc; have OA := Lib.hid hown; have S1 := Lib.hid s1; have S2 := Lib.hid s2; have S3 := Lib.hid hbA.size; have HBA := Lib.hid hbA
                    clear hsrc hbA hown s1 s2
                    obtain ⟨i1, zi1, zy0, zy1, zy2⟩ := info_parts strInfo
                    go_wp2_with (at_builtin; refine wpList_append_ownB rfl _ _ 54 rfl w164.heap.size 9 i1 _ 1 16 Tryz.underlying54 zi1 zy0 zy1 zy2 rfl (by decide) _ k _ rfl OA.out ⟨wr.heap.size, 0, none⟩ 1 1 [.string nm] rfl rfl SR.out (by intro u hu; rw [List.mem_singleton.1 hu]; rfl) S1.out S2.out S3.out ?_)
                    intro v6 w6 ho6 hg6 _
                    have hb6 : Below w164.heap.size w164 w6 := bel_grown HBA.out hg6 (fun j hj => (OA.out.lt j hj).1)
                    rw [← HTK.out] at ho6
                    obtain ⟨A6, c6, rfl⟩ := own_sliceB ho6
                    have HO6 := Lib.hid ho6; have HB6 := Lib.hid hb6
                    clear ho6 hg6 hb6 SR OA S1 S2 S3 HBA HTK zi1 zy0 zy1 zy2 e0 p0 p4 hPw HO HBW
                    go_wp2_with fail
                    have HBV := Lib.hid (bel_drew HB6.out)
                    have HOV := Lib.hid (own_laterB HO6.out (bel_drew (Below.refl w6.heap.size w6)))
                    refine wp_region_E (by kernel_rfl) ?_
                    clear HB6 HO6
                    generalize w6.drew = V6 at *
                    have HRC := Lib.hid (fun w2 (hE : Lat V6 w2) => HKL.out.later (bel_trans HBV.out hE))
                    refine wpAnyE_tk 0 (v := ?_) rfl (by kernel_rfl) (by kernel_rfl) (by kernel_rfl) (by kernel_rfl) ?_ ?_
                    rotate_left
                    · intro w2 hE
                      obtain ⟨z4, z5, ⟨z6, z7, z8, z9, z10⟩, ⟨z11, z12, z13, z14, z15⟩⟩ := HRC.out w2 hE
                      go_simp
                      try (with_reducible rfl)
                    try simp only [List.getElem_toArray, List.getElem_cons_zero, List.getElem_cons_succ, Act.put, List.setIfInBounds_toArray, List.set_cons_zero, List.set_cons_succ]
                    refine wpAnyE_tk 1 (v := ?_) rfl (by kernel_rfl) (by kernel_rfl) (by kernel_rfl) (by kernel_rfl) ?_ ?_
                    rotate_left
                    · intro w2 hE
                      obtain ⟨z4, z5, ⟨z6, z7, z8, z9, z10⟩, ⟨z11, z12, z13, z14, z15⟩⟩ := HRC.out w2 hE
                      go_simp
                      try (with_reducible rfl)
                    try simp only [List.getElem_toArray, List.getElem_cons_zero, List.getElem_cons_succ, Act.put, List.setIfInBounds_toArray, List.set_cons_zero, List.set_cons_succ]
                    refine wpAnyE_tk 2 (v := ?_) rfl (by kernel_rfl) (by kernel_rfl) (by kernel_rfl) (by kernel_rfl) ?_ ?_
                    rotate_left
                    · intro w2 hE
                      obtain ⟨z4, z5, ⟨z6, z7, z8, z9, z10⟩, ⟨z11, z12, z13, z14, z15⟩⟩ := HRC.out w2 hE
                      go_simp
                      try (with_reducible rfl)
                    try simp only [List.getElem_toArray, List.getElem_cons_zero, List.getElem_cons_succ, Act.put, List.setIfInBounds_toArray, List.set_cons_zero, List.set_cons_succ]
                    refine wpAnyE_tk 3 (v := ?_) rfl (by kernel_rfl) (by kernel_rfl) (by kernel_rfl) (by kernel_rfl) ?_ ?_
                    rotate_left
                    · intro w2 hE
                      obtain ⟨z4, z5, ⟨z6, z7, z8, z9, z10⟩, ⟨z11, z12, z13, z14, z15⟩⟩ := HRC.out w2 hE
                      go_simp
                      try (with_reducible rfl)
                    try simp only [List.getElem_toArray, List.getElem_cons_zero, List.getElem_cons_succ, Act.put, List.setIfInBounds_toArray, List.set_cons_zero, List.set_cons_succ]
                    refine wpAnyE_tk 4 (v := ?_) rfl (by kernel_rfl) (by kernel_rfl) (by kernel_rfl) (by kernel_rfl) ?_ ?_
                    rotate_left
                    · intro w2 hE
                      obtain ⟨z4, z5, ⟨z6, z7, z8, z9, z10⟩, ⟨z11, z12, z13, z14, z15⟩⟩ := HRC.out w2 hE
                      go_simp
                      try (with_reducible rfl)
                    try simp only [List.getElem_toArray, List.getElem_cons_zero, List.getElem_cons_succ, Act.put, List.setIfInBounds_toArray, List.set_cons_zero, List.set_cons_succ]
                    refine wpAnyE_tk 5 (v := ?_) rfl (by kernel_rfl) (by kernel_rfl) (by kernel_rfl) (by kernel_rfl) ?_ ?_
                    rotate_left
                    · intro w2 hE
                      obtain ⟨z4, z5, ⟨z6, z7, z8, z9, z10⟩, ⟨z11, z12, z13, z14, z15⟩⟩ := HRC.out w2 hE
                      go_simp
                      try (with_reducible rfl)
                    try simp only [List.getElem_toArray, List.getElem_cons_zero, List.getElem_cons_succ, Act.put, List.setIfInBounds_toArray, List.set_cons_zero, List.set_cons_succ]
                    refine wpAnyE_tk 6 (v := ?_) rfl (by kernel_rfl) (by kernel_rfl) (by kernel_rfl) (by kernel_rfl) ?_ ?_
                    rotate_left
                    · intro w2 hE
                      obtain ⟨z4, z5, ⟨z6, z7, z8, z9, z10⟩, ⟨z11, z12, z13, z14, z15⟩⟩ := HRC.out w2 hE
                      go_simp
                      try (with_reducible rfl)
                    try simp only [List.getElem_toArray, List.getElem_cons_zero, List.getElem_cons_succ, Act.put, List.setIfInBounds_toArray, List.set_cons_zero, List.set_cons_succ]
                    refine wpAnyE_tk 7 (v := ?_) rfl (by kernel_rfl) (by kernel_rfl) (by kernel_rfl) (by kernel_rfl) ?_ ?_
                    rotate_left
                    · intro w2 hE
                      obtain ⟨z4, z5, ⟨z6, z7, z8, z9, z10⟩, ⟨z11, z12, z13, z14, z15⟩⟩ := HRC.out w2 hE
                      go_simp
                      try (with_reducible rfl)
                    try simp only [List.getElem_toArray, List.getElem_cons_zero, List.getElem_cons_succ, Act.put, List.setIfInBounds_toArray, List.set_cons_zero, List.set_cons_succ]
                    refine wpAnyE_tk 8 (v := ?_) rfl (by kernel_rfl) (by kernel_rfl) (by kernel_rfl) (by kernel_rfl) ?_ ?_
                    rotate_left
                    · intro w2 hE
                      obtain ⟨z4, z5, ⟨z6, z7, z8, z9, z10⟩, ⟨z11, z12, z13, z14, z15⟩⟩ := HRC.out w2 hE
                      go_simp
                      try (with_reducible rfl)
                    try simp only [List.getElem_toArray, List.getElem_cons_zero, List.getElem_cons_succ, Act.put, List.setIfInBounds_toArray, List.set_cons_zero, List.set_cons_succ]
                    refine wpAnyE_tk 9 (v := ?_) rfl (by kernel_rfl) (by kernel_rfl) (by kernel_rfl) (by kernel_rfl) ?_ ?_
                    rotate_left
                    · intro w2 hE
                      obtain ⟨z4, z5, ⟨z6, z7, z8, z9, z10⟩, ⟨z11, z12, z13, z14, z15⟩⟩ := HRC.out w2 hE
                      go_simp
                      try (with_reducible rfl)
                    try simp only [List.getElem_toArray, List.getElem_cons_zero, List.getElem_cons_succ, Act.put, List.setIfInBounds_toArray, List.set_cons_zero, List.set_cons_succ]
                    refine wpAnyE_tk 10 (v := ?_) rfl (by kernel_rfl) (by kernel_rfl) (by kernel_rfl) (by kernel_rfl) ?_ ?_
                    rotate_left
                    · intro w2 hE
                      obtain ⟨z4, z5, ⟨z6, z7, z8, z9, z10⟩, ⟨z11, z12, z13, z14, z15⟩⟩ := HRC.out w2 hE
                      go_simp
                      try (with_reducible rfl)
                    try simp only [List.getElem_toArray, List.getElem_cons_zero, List.getElem_cons_succ, Act.put, List.setIfInBounds_toArray, List.set_cons_zero, List.set_cons_succ]
                    refine wpAnyE_tk 11 (v := ?_) rfl (by kernel_rfl) (by kernel_rfl) (by kernel_rfl) (by kernel_rfl) ?_ ?_
                    rotate_left
                    · intro w2 hE
                      obtain ⟨z4, z5, ⟨z6, z7, z8, z9, z10⟩, ⟨z11, z12, z13, z14, z15⟩⟩ := HRC.out w2 hE
                      go_simp
                      try (with_reducible rfl)
                    try simp only [List.getElem_toArray, List.getElem_cons_zero, List.getElem_cons_succ, Act.put, List.setIfInBounds_toArray, List.set_cons_zero, List.set_cons_succ]
                    refine wpAnyE_tk 12 (v := ?_) rfl (by kernel_rfl) (by kernel_rfl) (by kernel_rfl) (by kernel_rfl) ?_ ?_
                    rotate_left
                    · intro w2 hE
                      obtain ⟨z4, z5, ⟨z6, z7, z8, z9, z10⟩, ⟨z11, z12, z13, z14, z15⟩⟩ := HRC.out w2 hE
                      go_simp
                      try (with_reducible rfl)
                    try simp only [List.getElem_toArray, List.getElem_cons_zero, List.getElem_cons_succ, Act.put, List.setIfInBounds_toArray, List.set_cons_zero, List.set_cons_succ]
                    refine wpAnyE_tk 13 (v := ?_) rfl (by kernel_rfl) (by kernel_rfl) (by kernel_rfl) (by kernel_rfl) ?_ ?_
                    rotate_left
                    · intro w2 hE
                      obtain ⟨z4, z5, ⟨z6, z7, z8, z9, z10⟩, ⟨z11, z12, z13, z14, z15⟩⟩ := HRC.out w2 hE
                      go_simp
                      try (with_reducible rfl)
                    try simp only [List.getElem_toArray, List.getElem_cons_zero, List.getElem_cons_succ, Act.put, List.setIfInBounds_toArray, List.set_cons_zero, List.set_cons_succ]
                    refine wpAnyE_tk 14 (v := ?_) rfl (by kernel_rfl) (by kernel_rfl) (by kernel_rfl) (by kernel_rfl) ?_ ?_
                    rotate_left
                    · intro w2 hE
                      obtain ⟨z4, z5, ⟨z6, z7, z8, z9, z10⟩, ⟨z11, z12, z13, z14, z15⟩⟩ := HRC.out w2 hE
                      go_simp
                      try (with_reducible rfl)
                    try simp only [List.getElem_toArray, List.getElem_cons_zero, List.getElem_cons_succ, Act.put, List.setIfInBounds_toArray, List.set_cons_zero, List.set_cons_succ]
                    refine wpAnyE_tk 15 (v := .bool true) rfl (by kernel_rfl) (by kernel_rfl) (by kernel_rfl) (by kernel_rfl) ?_ ?_
                    · intro w2 hE
                      have hsa := rsame_any q q _ _ _ _ w2 (JR_later HJQ.out (bel_trans HBV.out hE)) (JR_later HJR.out (bel_trans HBV.out hE))
                      rw [same_refl] at hsa
                      have HSA := Lib.hid hsa
                      clear hsa
                      go_simp
                      exact HSA.out.mono fun e w3 ⟨h1, h2⟩ => ⟨h1, h2⟩
                    try simp only [List.getElem_toArray, List.getElem_cons_zero, List.getElem_cons_succ, Act.put, List.setIfInBounds_toArray, List.set_cons_zero, List.set_cons_succ]
                    refine wpAnyE_tk 16 (v := ?_) rfl (by kernel_rfl) (by kernel_rfl) (by kernel_rfl) (by kernel_rfl) ?_ ?_
                    rotate_left
                    · intro w2 hE
                      go_simp
                      try (with_reducible rfl)
                    try simp only [List.getElem_toArray, List.getElem_cons_zero, List.getElem_cons_succ, Act.put, List.setIfInBounds_toArray, List.set_cons_zero, List.set_cons_succ]
                    refine wpAnyE_tk 17 (v := ?_) rfl (by kernel_rfl) (by kernel_rfl) (by kernel_rfl) (by kernel_rfl) ?_ ?_
                    rotate_left
                    · intro w2 hE
                      go_simp
                      try (with_reducible rfl)
                    try simp only [List.getElem_toArray, List.getElem_cons_zero, List.getElem_cons_succ, Act.put, List.setIfInBounds_toArray, List.set_cons_zero, List.set_cons_succ]
                    refine wpAnyE_done (by kernel_rfl) (fun w7 hE7 => ?_) _
                    have HB7 := Lib.hid (bel_trans HBV.out hE7)
                    have HO7 := Lib.hid (own_laterB HOV.out hE7)
                    clear hE7 HBV HOV HRC HJR HJQ HKL
                    go_wp2_with fail
                    go_roundg (ms.length - (k + 1))
                    case measure => omega
                    case rel => exact ⟨k + 1, by omega, by omega, congrArg (Value.int .i64) (by first | (unfold wrap64; omega) | omega), _, _, rfl, HO7.out, HB7.out⟩
                  · clear hgg
                    obtain rfl : k = ms.length := by omega
                    have hsl := own_strs (ms := ms) (by have h := HO.out; rw [List.take_of_length_le (by rw [List.length_map]; exact Nat.le_refl _)] at h; exact h)
                    have HSL := Lib.hid hsl
                    clear hsl
                    by_cases hx1 : ms.length < x.m.length
                    · have hd1 : decide ((ms.length : Int) < (x.m.length : Int)) = true := decide_eq_true (by omega)
                      by_cases hx2 : (ms.length : Int) < n
                      · have hd2 : decide ((ms.length : Int) < n) = true := decide_eq_true hx2
                        have hk7 : (x.k == 7) = false := by
                          cases h7 : (x.k == 7) with
                          | false => rfl
                          | true =>
                            exfalso
                            have e := congrArg List.length HMS.out
                            have hm : memsOf x = x.m := by unfold memsOf; rw [if_pos (by simpa using h7)]
                            rw [hm, List.length_take] at e
                            omega
                        have hd3 : decide (x.k = 7) = false := by simpa using hk7
                        clear HMS
                        go_wp2_with fail
                        go_meet
                        case rel => exact ⟨A, c, rfl, HSL.out, HBW.out⟩
                      · have hd2 : decide ((ms.length : Int) < n) = false := decide_eq_false hx2
                        clear HMS
                        go_wp2_with fail
                        go_meet
                        case rel => exact ⟨A, c, rfl, HSL.out, HBW.out⟩
                    · have hd1 : decide ((ms.length : Int) < (x.m.length : Int)) = false := decide_eq_false (by omega)
                      clear HMS
                      go_wp2_with fail
                      go_meet
                      case rel => exact ⟨A, c, rfl, HSL.out, HBW.out⟩
              case rest => as_aux_lemma =>
                obtain ⟨A, c, rfl, hs, hbw⟩ := hcut
                replace hs := hs.out
                replace hbw := hbw.out
                have HB182 := Lib.hid (bel_trans HB165.out hbw)
                have HK183 := Lib.hid (Below.at hbw HK166.out)
                have HK184 := Lib.hid (Below.at hbw HK167.out)
                have HJ185 := Lib.hid (JR_later HJ168.out hbw)
                have HJ186 := Lib.hid (JR_later HJ169.out hbw)
                have HK187 := Lib.hid (Below.at hbw HK170.out)
                have HK188 := Lib.hid (Below.at hbw HK171.out)
                have HJ189 := Lib.hid (JR_later HJ172.out hbw)
                have HJ190 := Lib.hid (JR_later HJ173.out hbw)
                have HS191 := Lib.hid (bsl_lat HS174.out hbw)
                have HS192 := Lib.hid (bsl_lat HS175.out hbw)
                have HK193 := Lib.hid (Below.at hbw HK176.out)
                have HJ194 := Lib.hid (JR_later HJ177.out hbw)
                have HK195 := Lib.hid (Below.at hbw HK178.out)
                have HJ196 := Lib.hid (JR_later HJ179.out hbw)
                have HT197 := Lib.hid (sl_lat HT180.out hbw)
                have HT198 := Lib.hid (sl_lat HT181.out hbw)
                clear HB165 HK166 HK167 HJ168 HJ169 HK170 HK171 HJ172 HJ173 HS174 HS175 HK176 HJ177 HK178 HJ179 HT180 HT181
                have HT199 := Lib.hid (hs)
                clear hs hbw
                go_wp2_with fail
                refine wp_region_E (by kernel_rfl) ?_
                have HLG := Lib.hid (get_ln HGP.out HLX.out)
                obtain ⟨mb, hmb⟩ : ∃ b, mayJ 64 x = b := ⟨_, rfl⟩
                obtain ⟨sb, hsb⟩ : ∃ b, sameB x y = b := ⟨_, rfl⟩
                have HMB := Lib.hid hmb; have HSB := Lib.hid hsb; have HD := Lib.hid (bel_drew (Below.refl wc.heap.size wc))
                clear hmb hsb
                have HB200 := Lib.hid (bel_trans HB182.out HD.out)
                have HK201 := Lib.hid (Below.at HD.out HK183.out)
                have HK202 := Lib.hid (Below.at HD.out HK184.out)
                have HJ203 := Lib.hid (JR_later HJ185.out HD.out)
                have HJ204 := Lib.hid (JR_later HJ186.out HD.out)
                have HK205 := Lib.hid (Below.at HD.out HK187.out)
                have HK206 := Lib.hid (Below.at HD.out HK188.out)
                have HJ207 := Lib.hid (JR_later HJ189.out HD.out)
                have HJ208 := Lib.hid (JR_later HJ190.out HD.out)
                have HS209 := Lib.hid (bsl_lat HS191.out HD.out)
                have HS210 := Lib.hid (bsl_lat HS192.out HD.out)
                have HK211 := Lib.hid (Below.at HD.out HK193.out)
                have HJ212 := Lib.hid (JR_later HJ194.out HD.out)
                have HK213 := Lib.hid (Below.at HD.out HK195.out)
                have HJ214 := Lib.hid (JR_later HJ196.out HD.out)
                have HT215 := Lib.hid (sl_lat HT197.out HD.out)
                have HT216 := Lib.hid (sl_lat HT198.out HD.out)
                have HT217 := Lib.hid (sl_lat HT199.out HD.out)
                clear HB182 HK183 HK184 HJ185 HJ186 HK187 HK188 HJ189 HJ190 HS191 HS192 HK193 HJ194 HK195 HJ196 HT197 HT198 HT199
                clear HD
                generalize wc.drew = V at *
                have HBC := Lib.hid (Below.refl V.heap.size V)
                refine wpAnyE_tk 0 (v := .bool true) rfl (by kernel_rfl) (by kernel_rfl) (by kernel_rfl) (by kernel_rfl) ?_ ?_
                · intro w2 hE
                  have hcl := first_any w2 (HT.out.below (bel_trans HB200.out (bel_trans HBC.out hE)))
                  have HCL := Lib.hid hcl
                  clear hcl
                  go_simp
                  exact HCL.out.mono fun e w3 ⟨h1, h2⟩ => ⟨h1, h2⟩
                try simp only [List.getElem_toArray, List.getElem_cons_zero, List.getElem_cons_succ, Act.put, List.setIfInBounds_toArray, List.set_cons_zero, List.set_cons_succ]
                refine wpAnyE_tk 1 (v := ?_) rfl (by kernel_rfl) (by kernel_rfl) (by kernel_rfl) (by kernel_rfl) ?_ ?_
                rotate_left
                · intro w2 hE
                  go_simp
                  try (with_reducible rfl)
                try simp only [List.getElem_toArray, List.getElem_cons_zero, List.getElem_cons_succ, Act.put, List.setIfInBounds_toArray, List.set_cons_zero, List.set_cons_succ]
                refine wpAnyE_tk 2 (v := ?_) rfl (by kernel_rfl) (by kernel_rfl) (by kernel_rfl) (by kernel_rfl) ?_ ?_
                rotate_left
                · intro w2 hE
                  obtain ⟨⟨v0x, v1x, v2x, v3x, v4x⟩, _, hVx⟩ := cells5 (Below.at (bel_trans HBC.out hE) HK201.out)
                  go_simp
                  try (with_reducible rfl)
                try simp only [List.getElem_toArray, List.getElem_cons_zero, List.getElem_cons_succ, Act.put, List.setIfInBounds_toArray, List.set_cons_zero, List.set_cons_succ]
                refine wpAnyE_tk 4 (v := ?_) rfl (by kernel_rfl) (by kernel_rfl) (by kernel_rfl) (by kernel_rfl) ?_ ?_
                rotate_left
                · intro w2 hE
                  obtain ⟨⟨v0x9, v1x9, v2x9, v3x9, v4x9⟩, _, hVx9⟩ := cells5 (Below.at (bel_trans HBC.out hE) HK205.out)
                  go_simp
                  try (with_reducible rfl)
                try simp only [List.getElem_toArray, List.getElem_cons_zero, List.getElem_cons_succ, Act.put, List.setIfInBounds_toArray, List.set_cons_zero, List.set_cons_succ]
                refine wpAnyE_tk 3 (v := .bool mb) rfl (by kernel_rfl) (by kernel_rfl) (by kernel_rfl) (by kernel_rfl) ?_ ?_
                · intro w2 hE
                  have hcl := May_any x _ _ w2 (JR_later HJ203.out (bel_trans HBC.out hE)) (HT.out.below (bel_trans HB200.out (bel_trans HBC.out hE)))
                  rw [HMB.out] at hcl
                  have HCL := Lib.hid hcl
                  clear hcl
                  go_simp
                  exact HCL.out.mono fun e w3 ⟨h1, h2⟩ => ⟨h1, h2⟩
                try simp only [List.getElem_toArray, List.getElem_cons_zero, List.getElem_cons_succ, Act.put, List.setIfInBounds_toArray, List.set_cons_zero, List.set_cons_succ]
                refine wpAnyE_tk 5 (v := .bool mb) rfl (by kernel_rfl) (by kernel_rfl) (by kernel_rfl) (by kernel_rfl) ?_ ?_
                · intro w2 hE
                  have hcl := rMay_any x _ _ w2 HSX.out (JR_later HJ207.out (bel_trans HBC.out hE))
                  rw [HMB.out] at hcl
                  have HCL := Lib.hid hcl
                  clear hcl
                  go_simp
                  exact HCL.out.mono fun e w3 ⟨h1, h2⟩ => ⟨h1, h2⟩
                try simp only [List.getElem_toArray, List.getElem_cons_zero, List.getElem_cons_succ, Act.put, List.setIfInBounds_toArray, List.set_cons_zero, List.set_cons_succ]
                refine wpAnyE_tk 6 (v := ?_) rfl (by kernel_rfl) (by kernel_rfl) (by kernel_rfl) (by kernel_rfl) ?_ ?_
                rotate_left
                · intro w2 hE
                  go_simp
                  try (with_reducible rfl)
                try simp only [List.getElem_toArray, List.getElem_cons_zero, List.getElem_cons_succ, Act.put, List.setIfInBounds_toArray, List.set_cons_zero, List.set_cons_succ]
                refine wpAnyE_tk 7 (v := ?_) rfl (by kernel_rfl) (by kernel_rfl) (by kernel_rfl) (by kernel_rfl) ?_ ?_
                rotate_left
                · intro w2 hE
                  go_simp
                  try (with_reducible rfl)
                try simp only [List.getElem_toArray, List.getElem_cons_zero, List.getElem_cons_succ, Act.put, List.setIfInBounds_toArray, List.set_cons_zero, List.set_cons_succ]
                refine wpAnyE_tk 8 (v := ?_) rfl (by kernel_rfl) (by kernel_rfl) (by kernel_rfl) (by kernel_rfl) ?_ ?_
                rotate_left
                · intro w2 hE
                  go_simp
                  try (with_reducible rfl)
                try simp only [List.getElem_toArray, List.getElem_cons_zero, List.getElem_cons_succ, Act.put, List.setIfInBounds_toArray, List.set_cons_zero, List.set_cons_succ]
                refine wpAnyE_tk 9 (v := ?_) rfl (by kernel_rfl) (by kernel_rfl) (by kernel_rfl) (by kernel_rfl) ?_ ?_
                rotate_left
                · intro w2 hE
                  go_simp
                  try (with_reducible rfl)
                try simp only [List.getElem_toArray, List.getElem_cons_zero, List.getElem_cons_succ, Act.put, List.setIfInBounds_toArray, List.set_cons_zero, List.set_cons_succ]
                refine wpAnyE_tk 10 (v := ?_) rfl (by kernel_rfl) (by kernel_rfl) (by kernel_rfl) (by kernel_rfl) ?_ ?_
                rotate_left
                · intro w2 hE
                  go_simp
                  try (with_reducible rfl)
                try simp only [List.getElem_toArray, List.getElem_cons_zero, List.getElem_cons_succ, Act.put, List.setIfInBounds_toArray, List.set_cons_zero, List.set_cons_succ]
                refine wpAnyE_tk 11 (v := .bool true) rfl (by kernel_rfl) (by kernel_rfl) (by kernel_rfl) (by kernel_rfl) ?_ ?_
                · intro w2 hE
                  have hcl := bytes_eq _ _ _ _ _ w2 (bsl_lat HS209.out (bel_trans HBC.out hE)) (bsl_lat HS210.out (bel_trans HBC.out hE))
                  have HCL := Lib.hid hcl
                  clear hcl
                  go_simp
                  exact HCL.out.mono fun e w3 ⟨h1, h2⟩ => ⟨h1, h2⟩
                try simp only [List.getElem_toArray, List.getElem_cons_zero, List.getElem_cons_succ, Act.put, List.setIfInBounds_toArray, List.set_cons_zero, List.set_cons_succ]
                refine wpAnyE_tk 12 (v := ?_) rfl (by kernel_rfl) (by kernel_rfl) (by kernel_rfl) (by kernel_rfl) ?_ ?_
                rotate_left
                · intro w2 hE
                  go_simp
                  try (with_reducible rfl)
                try simp only [List.getElem_toArray, List.getElem_cons_zero, List.getElem_cons_succ, Act.put, List.setIfInBounds_toArray, List.set_cons_zero, List.set_cons_succ]
                refine wpAnyE_tk 13 (v := ?_) rfl (by kernel_rfl) (by kernel_rfl) (by kernel_rfl) (by kernel_rfl) ?_ ?_
                rotate_left
                · intro w2 hE
                  go_simp
                  try (with_reducible rfl)
                try simp only [List.getElem_toArray, List.getElem_cons_zero, List.getElem_cons_succ, Act.put, List.setIfInBounds_toArray, List.set_cons_zero, List.set_cons_succ]
                refine wpAnyE_tk 14 (v := ?_) rfl (by kernel_rfl) (by kernel_rfl) (by kernel_rfl) (by kernel_rfl) ?_ ?_
                rotate_left
                · intro w2 hE
                  go_simp
                  try (with_reducible rfl)
                try simp only [List.getElem_toArray, List.getElem_cons_zero, List.getElem_cons_succ, Act.put, List.setIfInBounds_toArray, List.set_cons_zero, List.set_cons_succ]
                refine wpAnyE_tk 15 (v := ?_) rfl (by kernel_rfl) (by kernel_rfl) (by kernel_rfl) (by kernel_rfl) ?_ ?_
                rotate_left
                · intro w2 hE
                  go_simp
                  try (with_reducible rfl)
                try simp only [List.getElem_toArray, List.getElem_cons_zero, List.getElem_cons_succ, Act.put, List.setIfInBounds_toArray, List.set_cons_zero, List.set_cons_succ]
                refine wpAnyE_tk 16 (v := ?_) rfl (by kernel_rfl) (by kernel_rfl) (by kernel_rfl) (by kernel_rfl) ?_ ?_
                rotate_left
                · intro w2 hE
                  go_simp
                  try (with_reducible rfl)
                try simp only [List.getElem_toArray, List.getElem_cons_zero, List.getElem_cons_succ, Act.put, List.setIfInBounds_toArray, List.set_cons_zero, List.set_cons_succ]
                refine wpAnyE_tk 17 (v := ?_) rfl (by kernel_rfl) (by kernel_rfl) (by kernel_rfl) (by kernel_rfl) ?_ ?_
                rotate_left
                · intro w2 hE
                  go_simp
                  try (with_reducible rfl)
                try simp only [List.getElem_toArray, List.getElem_cons_zero, List.getElem_cons_succ, Act.put, List.setIfInBounds_toArray, List.set_cons_zero, List.set_cons_succ]
                refine wpAnyE_tk 18 (v := ?_) rfl (by kernel_rfl) (by kernel_rfl) (by kernel_rfl) (by kernel_rfl) ?_ ?_
                rotate_left
                · intro w2 hE
                  go_simp
                  try (with_reducible rfl)
                try simp only [List.getElem_toArray, List.getElem_cons_zero, List.getElem_cons_succ, Act.put, List.setIfInBounds_toArray, List.set_cons_zero, List.set_cons_succ]
                refine wpAnyE_tk 19 (v := ?_) rfl (by kernel_rfl) (by kernel_rfl) (by kernel_rfl) (by kernel_rfl) ?_ ?_
                rotate_left
                · intro w2 hE
                  obtain ⟨⟨v0x15, v1x15, v2x15, v3x15, v4x15⟩, _, hVx15⟩ := cells5 (Below.at (bel_trans HBC.out hE) HK211.out)
                  go_simp
                  try (with_reducible rfl)
                try simp only [List.getElem_toArray, List.getElem_cons_zero, List.getElem_cons_succ, Act.put, List.setIfInBounds_toArray, List.set_cons_zero, List.set_cons_succ]
                refine wpAnyE_tk 21 (v := ?_) rfl (by kernel_rfl) (by kernel_rfl) (by kernel_rfl) (by kernel_rfl) ?_ ?_
                rotate_left
                · intro w2 hE
                  obtain ⟨⟨v0x17, v1x17, v2x17, v3x17, v4x17⟩, _, hVx17⟩ := cells5 (Below.at (bel_trans HBC.out hE) HK213.out)
                  go_simp
                  try (with_reducible rfl)
                try simp only [List.getElem_toArray, List.getElem_cons_zero, List.getElem_cons_succ, Act.put, List.setIfInBounds_toArray, List.set_cons_zero, List.set_cons_succ]
                refine wpAnyE_one (i := 20) (by kernel_rfl) rfl (fun w4 hE K hK => ?_)
                rw [if_pos (by kernel_rfl)]
                have HPL := Lib.hid (plain_any gp _ _ w4 HLG.out (JR_later HJ212.out (bel_trans HBC.out hE)))
                have HB4 := Lib.hid (bel_trans HBC.out hE)
                clear hE HBC
                go_simp
                refine HPL.out.mono ?_
                rintro e w20 ⟨⟨sA1, sn1, sc1, sA2, sn2, sc2, rfl, hjp⟩, hb⟩
                refine hK.out _ _ hb ?_
                clear hK K
                have HBC := Lib.hid (bel_trans HB4.out hb)
                have HJP := Lib.hid hjp
                clear hb hjp HPL HB4
                try simp only [List.getElem_toArray, List.getElem_cons_zero, List.getElem_cons_succ, Act.put, List.setIfInBounds_toArray, List.set_cons_zero, List.set_cons_succ]
                refine wpAnyE_tk 22 (v := .bool true) rfl (by kernel_rfl) (by kernel_rfl) (by kernel_rfl) (by kernel_rfl) ?_ ?_
                · intro w2 hE
                  have hcl := rsame_any gp gp _ _ _ _ w2 (JR_later HJP.out hE) (JR_later HJ214.out (bel_trans HBC.out hE))
                  rw [same_refl] at hcl
                  have HCL := Lib.hid hcl
                  clear hcl
                  go_simp
                  exact HCL.out.mono fun e w3 ⟨h1, h2⟩ => ⟨h1, h2⟩
                try simp only [List.getElem_toArray, List.getElem_cons_zero, List.getElem_cons_succ, Act.put, List.setIfInBounds_toArray, List.set_cons_zero, List.set_cons_succ]
                clear HJP
                refine wpAnyE_tk 23 (v := ?_) rfl (by kernel_rfl) (by kernel_rfl) (by kernel_rfl) (by kernel_rfl) ?_ ?_
                rotate_left
                · intro w2 hE
                  go_simp
                  try (with_reducible rfl)
                try simp only [List.getElem_toArray, List.getElem_cons_zero, List.getElem_cons_succ, Act.put, List.setIfInBounds_toArray, List.set_cons_zero, List.set_cons_succ]
                refine wpAnyE_tk 24 (v := ?_) rfl (by kernel_rfl) (by kernel_rfl) (by kernel_rfl) (by kernel_rfl) ?_ ?_
                rotate_left
                · intro w2 hE
                  go_simp
                  try (with_reducible rfl)
                try simp only [List.getElem_toArray, List.getElem_cons_zero, List.getElem_cons_succ, Act.put, List.setIfInBounds_toArray, List.set_cons_zero, List.set_cons_succ]
                refine wpAnyE_tk 25 (v := ?_) rfl (by kernel_rfl) (by kernel_rfl) (by kernel_rfl) (by kernel_rfl) ?_ ?_
                rotate_left
                · intro w2 hE
                  go_simp
                  try (with_reducible rfl)
                try simp only [List.getElem_toArray, List.getElem_cons_zero, List.getElem_cons_succ, Act.put, List.setIfInBounds_toArray, List.set_cons_zero, List.set_cons_succ]
                refine wpAnyE_tk 26 (v := ?_) rfl (by kernel_rfl) (by kernel_rfl) (by kernel_rfl) (by kernel_rfl) ?_ ?_
                rotate_left
                · intro w2 hE
                  go_simp
                  try (with_reducible rfl)
                try simp only [List.getElem_toArray, List.getElem_cons_zero, List.getElem_cons_succ, Act.put, List.setIfInBounds_toArray, List.set_cons_zero, List.set_cons_succ]
                refine wpAnyE_tk 27 (v := ?_) rfl (by kernel_rfl) (by kernel_rfl) (by kernel_rfl) (by kernel_rfl) ?_ ?_
                rotate_left
                · intro w2 hE
                  go_simp
                  try (with_reducible rfl)
                try simp only [List.getElem_toArray, List.getElem_cons_zero, List.getElem_cons_succ, Act.put, List.setIfInBounds_toArray, List.set_cons_zero, List.set_cons_succ]
                refine wpAnyE_tk 28 (v := ?_) rfl (by kernel_rfl) (by kernel_rfl) (by kernel_rfl) (by kernel_rfl) ?_ ?_
                rotate_left
                · intro w2 hE
                  go_simp
                  try (with_reducible rfl)
                try simp only [List.getElem_toArray, List.getElem_cons_zero, List.getElem_cons_succ, Act.put, List.setIfInBounds_toArray, List.set_cons_zero, List.set_cons_succ]
                refine wpAnyE_tk 29 (v := ?_) rfl (by kernel_rfl) (by kernel_rfl) (by kernel_rfl) (by kernel_rfl) ?_ ?_
                rotate_left
                · intro w2 hE
                  go_simp
                  try (with_reducible rfl)
                try simp only [List.getElem_toArray, List.getElem_cons_zero, List.getElem_cons_succ, Act.put, List.setIfInBounds_toArray, List.set_cons_zero, List.set_cons_succ]
                refine wpAnyE_tk 30 (v := ?_) rfl (by kernel_rfl) (by kernel_rfl) (by kernel_rfl) (by kernel_rfl) ?_ ?_
                rotate_left
                · intro w2 hE
                  obtain ⟨⟨v0x, v1x, v2x, v3x, v4x⟩, _, hVx⟩ := cells5 (Below.at (bel_trans HBC.out hE) HK201.out)
                  go_simp
                  try (with_reducible rfl)
                try simp only [List.getElem_toArray, List.getElem_cons_zero, List.getElem_cons_succ, Act.put, List.setIfInBounds_toArray, List.set_cons_zero, List.set_cons_succ]
                refine wpAnyE_tk 31 (v := ?_) rfl (by kernel_rfl) (by kernel_rfl) (by kernel_rfl) (by kernel_rfl) ?_ ?_
                rotate_left
                · intro w2 hE
                  obtain ⟨⟨v0y, v1y, v2y, v3y, v4y⟩, _, hVy⟩ := cells5 (Below.at (bel_trans HBC.out hE) HK202.out)
                  go_simp
                  try (with_reducible rfl)
                try simp only [List.getElem_toArray, List.getElem_cons_zero, List.getElem_cons_succ, Act.put, List.setIfInBounds_toArray, List.set_cons_zero, List.set_cons_succ]
                refine wpAnyE_tk 33 (v := ?_) rfl (by kernel_rfl) (by kernel_rfl) (by kernel_rfl) (by kernel_rfl) ?_ ?_
                rotate_left
                · intro w2 hE
                  obtain ⟨⟨v0x9, v1x9, v2x9, v3x9, v4x9⟩, _, hVx9⟩ := cells5 (Below.at (bel_trans HBC.out hE) HK205.out)
                  go_simp
                  try (with_reducible rfl)
                try simp only [List.getElem_toArray, List.getElem_cons_zero, List.getElem_cons_succ, Act.put, List.setIfInBounds_toArray, List.set_cons_zero, List.set_cons_succ]
                refine wpAnyE_tk 34 (v := ?_) rfl (by kernel_rfl) (by kernel_rfl) (by kernel_rfl) (by kernel_rfl) ?_ ?_
                rotate_left
                · intro w2 hE
                  obtain ⟨⟨v0x10, v1x10, v2x10, v3x10, v4x10⟩, _, hVx10⟩ := cells5 (Below.at (bel_trans HBC.out hE) HK206.out)
                  go_simp
                  try (with_reducible rfl)
                try simp only [List.getElem_toArray, List.getElem_cons_zero, List.getElem_cons_succ, Act.put, List.setIfInBounds_toArray, List.set_cons_zero, List.set_cons_succ]
                refine wpAnyE_tk 32 (v := .bool sb) rfl (by kernel_rfl) (by kernel_rfl) (by kernel_rfl) (by kernel_rfl) ?_ ?_
                · intro w2 hE
                  have hcl := same_any x y _ _ _ _ w2 (JR_later HJ203.out (bel_trans HBC.out hE)) (JR_later HJ204.out (bel_trans HBC.out hE))
                  rw [HSB.out] at hcl
                  have HCL := Lib.hid hcl
                  clear hcl
                  go_simp
                  exact HCL.out.mono fun e w3 ⟨h1, h2⟩ => ⟨h1, h2⟩
                try simp only [List.getElem_toArray, List.getElem_cons_zero, List.getElem_cons_succ, Act.put, List.setIfInBounds_toArray, List.set_cons_zero, List.set_cons_succ]
                refine wpAnyE_tk 35 (v := .bool sb) rfl (by kernel_rfl) (by kernel_rfl) (by kernel_rfl) (by kernel_rfl) ?_ ?_
                · intro w2 hE
                  have hcl := rsame_any x y _ _ _ _ w2 (JR_later HJ207.out (bel_trans HBC.out hE)) (JR_later HJ208.out (bel_trans HBC.out hE))
                  rw [HSB.out] at hcl
                  have HCL := Lib.hid hcl
                  clear hcl
                  go_simp
                  exact HCL.out.mono fun e w3 ⟨h1, h2⟩ => ⟨h1, h2⟩
                try simp only [List.getElem_toArray, List.getElem_cons_zero, List.getElem_cons_succ, Act.put, List.setIfInBounds_toArray, List.set_cons_zero, List.set_cons_succ]
                refine wpAnyE_tk 36 (v := ?_) rfl (by kernel_rfl) (by kernel_rfl) (by kernel_rfl) (by kernel_rfl) ?_ ?_
                rotate_left
                · intro w2 hE
                  go_simp
                  try (with_reducible rfl)
                try simp only [List.getElem_toArray, List.getElem_cons_zero, List.getElem_cons_succ, Act.put, List.setIfInBounds_toArray, List.set_cons_zero, List.set_cons_succ]
                refine wpAnyE_tk 37 (v := ?_) rfl (by kernel_rfl) (by kernel_rfl) (by kernel_rfl) (by kernel_rfl) ?_ ?_
                rotate_left
                · intro w2 hE
                  go_simp
                  try (with_reducible rfl)
                try simp only [List.getElem_toArray, List.getElem_cons_zero, List.getElem_cons_succ, Act.put, List.setIfInBounds_toArray, List.set_cons_zero, List.set_cons_succ]
                refine wpAnyE_tk 38 (v := ?_) rfl (by kernel_rfl) (by kernel_rfl) (by kernel_rfl) (by kernel_rfl) ?_ ?_
                rotate_left
                · intro w2 hE
                  go_simp
                  try (with_reducible rfl)
                try simp only [List.getElem_toArray, List.getElem_cons_zero, List.getElem_cons_succ, Act.put, List.setIfInBounds_toArray, List.set_cons_zero, List.set_cons_succ]
                refine wpAnyE_tk 39 (v := ?_) rfl (by kernel_rfl) (by kernel_rfl) (by kernel_rfl) (by kernel_rfl) ?_ ?_
                rotate_left
                · intro w2 hE
                  go_simp
                  try (with_reducible rfl)
                try simp only [List.getElem_toArray, List.getElem_cons_zero, List.getElem_cons_succ, Act.put, List.setIfInBounds_toArray, List.set_cons_zero, List.set_cons_succ]
                refine wpAnyE_tk 40 (v := ?_) rfl (by kernel_rfl) (by kernel_rfl) (by kernel_rfl) (by kernel_rfl) ?_ ?_
                rotate_left
                · intro w2 hE
                  go_simp
                  try (with_reducible rfl)
                try simp only [List.getElem_toArray, List.getElem_cons_zero, List.getElem_cons_succ, Act.put, List.setIfInBounds_toArray, List.set_cons_zero, List.set_cons_succ]
                refine wpAnyE_tk 41 (v := ?_) rfl (by kernel_rfl) (by kernel_rfl) (by kernel_rfl) (by kernel_rfl) ?_ ?_
                rotate_left
                · intro w2 hE
                  go_simp
                  try (with_reducible rfl)
                try simp only [List.getElem_toArray, List.getElem_cons_zero, List.getElem_cons_succ, Act.put, List.setIfInBounds_toArray, List.set_cons_zero, List.set_cons_succ]
                refine wpAnyE_tk 42 (v := ?_) rfl (by kernel_rfl) (by kernel_rfl) (by kernel_rfl) (by kernel_rfl) ?_ ?_
                rotate_left
                · intro w2 hE
                  obtain ⟨⟨v0x, v1x, v2x, v3x, v4x⟩, _, hVx⟩ := cells5 (Below.at (bel_trans HBC.out hE) HK201.out)
                  go_simp
                  try (with_reducible rfl)
                try simp only [List.getElem_toArray, List.getElem_cons_zero, List.getElem_cons_succ, Act.put, List.setIfInBounds_toArray, List.set_cons_zero, List.set_cons_succ]
                refine wpAnyE_tk 44 (v := ?_) rfl (by kernel_rfl) (by kernel_rfl) (by kernel_rfl) (by kernel_rfl) ?_ ?_
                rotate_left
                · intro w2 hE
                  obtain ⟨⟨v0x9, v1x9, v2x9, v3x9, v4x9⟩, _, hVx9⟩ := cells5 (Below.at (bel_trans HBC.out hE) HK205.out)
                  go_simp
                  try (with_reducible rfl)
                try simp only [List.getElem_toArray, List.getElem_cons_zero, List.getElem_cons_succ, Act.put, List.setIfInBounds_toArray, List.set_cons_zero, List.set_cons_succ]
                refine wpAnyE_one (i := 43) (by kernel_rfl) rfl (fun w4 hE K hK => ?_)
                rw [if_pos (by kernel_rfl)]
                have HPL := Lib.hid (plain_any x _ _ w4 HLX.out (JR_later HJ203.out (bel_trans HBC.out hE)))
                have HB4 := Lib.hid (bel_trans HBC.out hE)
                clear hE HBC
                go_simp
                refine HPL.out.mono ?_
                rintro e w43 ⟨⟨tA1, tn1, tc1, tA2, tn2, tc2, rfl, hjp⟩, hb⟩
                refine hK.out _ _ hb ?_
                clear hK K
                have HBC := Lib.hid (bel_trans HB4.out hb)
                have HJP := Lib.hid hjp
                clear hb hjp HPL HB4
                try simp only [List.getElem_toArray, List.getElem_cons_zero, List.getElem_cons_succ, Act.put, List.setIfInBounds_toArray, List.set_cons_zero, List.set_cons_succ]
                refine wpAnyE_tk 45 (v := .bool true) rfl (by kernel_rfl) (by kernel_rfl) (by kernel_rfl) (by kernel_rfl) ?_ ?_
                · intro w2 hE
                  have hcl := rsame_any x x _ _ _ _ w2 (JR_later HJP.out hE) (JR_later HJ207.out (bel_trans HBC.out hE))
                  rw [same_refl] at hcl
                  have HCL := Lib.hid hcl
                  clear hcl
                  go_simp
                  exact HCL.out.mono fun e w3 ⟨h1, h2⟩ => ⟨h1, h2⟩
                try simp only [List.getElem_toArray, List.getElem_cons_zero, List.getElem_cons_succ, Act.put, List.setIfInBounds_toArray, List.set_cons_zero, List.set_cons_succ]
                clear HJP
                refine wpAnyE_tk 46 (v := ?_) rfl (by kernel_rfl) (by kernel_rfl) (by kernel_rfl) (by kernel_rfl) ?_ ?_
                rotate_left
                · intro w2 hE
                  go_simp
                  try (with_reducible rfl)
                try simp only [List.getElem_toArray, List.getElem_cons_zero, List.getElem_cons_succ, Act.put, List.setIfInBounds_toArray, List.set_cons_zero, List.set_cons_succ]
                refine wpAnyE_tk 47 (v := ?_) rfl (by kernel_rfl) (by kernel_rfl) (by kernel_rfl) (by kernel_rfl) ?_ ?_
                rotate_left
                · intro w2 hE
                  go_simp
                  try (with_reducible rfl)
                try simp only [List.getElem_toArray, List.getElem_cons_zero, List.getElem_cons_succ, Act.put, List.setIfInBounds_toArray, List.set_cons_zero, List.set_cons_succ]
                refine wpAnyE_tk 48 (v := ?_) rfl (by kernel_rfl) (by kernel_rfl) (by kernel_rfl) (by kernel_rfl) ?_ ?_
                rotate_left
                · intro w2 hE
                  go_simp
                  try (with_reducible rfl)
                try simp only [List.getElem_toArray, List.getElem_cons_zero, List.getElem_cons_succ, Act.put, List.setIfInBounds_toArray, List.set_cons_zero, List.set_cons_succ]
                refine wpAnyE_tk 49 (v := ?_) rfl (by kernel_rfl) (by kernel_rfl) (by kernel_rfl) (by kernel_rfl) ?_ ?_
                rotate_left
                · intro w2 hE
                  go_simp
                  try (with_reducible rfl)
                try simp only [List.getElem_toArray, List.getElem_cons_zero, List.getElem_cons_succ, Act.put, List.setIfInBounds_toArray, List.set_cons_zero, List.set_cons_succ]
                refine wpAnyE_tk 50 (v := .bool true) rfl (by kernel_rfl) (by kernel_rfl) (by kernel_rfl) (by kernel_rfl) ?_ ?_
                · intro w2 hE
                  have hcl := texts_any _ _ _ _ _ w2 (sl_lat HT215.out (bel_trans HBC.out hE)) (sl_lat HT217.out (bel_trans HBC.out hE)) (by rw [List.length_map]; exact HML.out)
                  have HCL := Lib.hid hcl
                  clear hcl
                  go_simp
                  exact HCL.out.mono fun e w3 ⟨h1, h2⟩ => ⟨h1, h2⟩
                try simp only [List.getElem_toArray, List.getElem_cons_zero, List.getElem_cons_succ, Act.put, List.setIfInBounds_toArray, List.set_cons_zero, List.set_cons_succ]
                refine wpAnyE_tk 51 (v := ?_) rfl (by kernel_rfl) (by kernel_rfl) (by kernel_rfl) (by kernel_rfl) ?_ ?_
                rotate_left
                · intro w2 hE
                  go_simp
                  try (with_reducible rfl)
                try simp only [List.getElem_toArray, List.getElem_cons_zero, List.getElem_cons_succ, Act.put, List.setIfInBounds_toArray, List.set_cons_zero, List.set_cons_succ]
                refine wpAnyE_tk 52 (v := ?_) rfl (by kernel_rfl) (by kernel_rfl) (by kernel_rfl) (by kernel_rfl) ?_ ?_
                rotate_left
                · intro w2 hE
                  go_simp
                  try (with_reducible rfl)
                try simp only [List.getElem_toArray, List.getElem_cons_zero, List.getElem_cons_succ, Act.put, List.setIfInBounds_toArray, List.set_cons_zero, List.set_cons_succ]
                refine wpAnyE_done (by kernel_rfl) (fun w6 hE6 => ?_) _
                have HB6 := Lib.hid (bel_trans HB200.out (bel_trans HBC.out hE6))
                clear hE6
                go_wp2_with fail
                go_ret
                exact ⟨rfl, HB6.out⟩
end Go.Proofs.YtjjgbgojlhaapaaGreatDoor
