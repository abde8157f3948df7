/- Parts of the proof: Jv. -/
import Derived.Test.YtjjgbgojlhaapaaGreatDoorZReads0
namespace Go.Proofs.YtjjgbgojlhaapaaGreatDoor
open Go.RowKit

inductive JV where
  | mk (k n : Int) (s : ByteArray) (l : List JV) (m : List (ByteArray × JV))
namespace JV
def k : JV → Int | mk k _ _ _ _ => k
def n : JV → Int | mk _ n _ _ _ => n
def s : JV → ByteArray | mk _ _ s _ _ => s
def l : JV → List JV | mk _ _ _ l _ => l
def m : JV → List (ByteArray × JV) | mk _ _ _ _ m => m
end JV

mutual
def JR (w : World) (F : Nat → Prop) : JV → List Value → Prop
  | .mk k n s l m, cs => ∃ vl vm, (cs = [.int .i64 k, .int .i64 n, .string s, vl, vm] ∧ s.size ≤ 9223372036854775807) ∧
      ((l = [] ∧ ∃ A c, vl = .slice A 0 c) ∨ (∃ b o c, vl = .slice (some ⟨b, o, none⟩) l.length c ∧ F b ∧ l.length ≤ c ∧ c ≤ 9223372036854775807 ∧ ∃ cs, JRs w F l cs ∧ ∀ j u, cs[j]? = some u → w.cell? ⟨b, o + j, none⟩ = some u)) ∧
      ((m = [] ∧ ∃ A c, vm = .slice A 0 c) ∨ (∃ b o c, vm = .slice (some ⟨b, o, none⟩) m.length c ∧ F b ∧ m.length ≤ c ∧ c ≤ 9223372036854775807 ∧ ∃ cs, JRm w F m cs ∧ ∀ j u, cs[j]? = some u → w.cell? ⟨b, o + j, none⟩ = some u))
def JRs (w : World) (F : Nat → Prop) : List JV → List Value → Prop
  | [], cs => cs = []
  | x :: xs, cs => ∃ c r, cs = c ++ r ∧ JR w F x c ∧ JRs w F xs r
def JRm (w : World) (F : Nat → Prop) : List (ByteArray × JV) → List Value → Prop
  | [], cs => cs = []
  | (nm, x) :: xs, cs => ∃ c r, (cs = (.string nm :: c) ++ r ∧ nm.size ≤ 9223372036854775807) ∧ JR w F x c ∧ JRm w F xs r
end

mutual
theorem JR_mono {w : World} {F F' : Nat → Prop} (h : ∀ k, F k → F' k) : ∀ (x : JV) (cs : List Value), JR w F x cs → JR w F' x cs
  | .mk k n s l m, cs, hx => by
    simp only [JR] at hx ⊢
    obtain ⟨vl, vm, e, h1, h2⟩ := hx
    refine ⟨vl, vm, e, ?_, ?_⟩
    · rcases h1 with h1 | ⟨b, o, c, e1, e2, e3, e4, cs', e5, e6⟩
      · exact .inl h1
      · exact .inr ⟨b, o, c, e1, h _ e2, e3, e4, cs', JRs_mono h l cs' e5, e6⟩
    · rcases h2 with h1 | ⟨b, o, c, e1, e2, e3, e4, cs', e5, e6⟩
      · exact .inl h1
      · exact .inr ⟨b, o, c, e1, h _ e2, e3, e4, cs', JRm_mono h m cs' e5, e6⟩
theorem JRs_mono {w : World} {F F' : Nat → Prop} (h : ∀ k, F k → F' k) : ∀ (x : List JV) (cs : List Value), JRs w F x cs → JRs w F' x cs
  | [], cs, hx => by simpa only [JRs] using hx
  | x :: xs, cs, hx => by
    simp only [JRs] at hx ⊢
    obtain ⟨c, r, e, h1, h2⟩ := hx
    exact ⟨c, r, e, JR_mono h x c h1, JRs_mono h xs r h2⟩
theorem JRm_mono {w : World} {F F' : Nat → Prop} (h : ∀ k, F k → F' k) : ∀ (x : List (ByteArray × JV)) (cs : List Value), JRm w F x cs → JRm w F' x cs
  | [], cs, hx => by simpa only [JRm] using hx
  | (nm, x) :: xs, cs, hx => by
    simp only [JRm] at hx ⊢
    obtain ⟨c, r, e, h1, h2⟩ := hx
    exact ⟨c, r, e, JR_mono h x c h1, JRm_mono h xs r h2⟩
end

mutual
theorem JR_frame {w w' : World} {F : Nat → Prop} (h : ∀ k, F k → w'.heap[k]? = w.heap[k]?) : ∀ (x : JV) (cs : List Value), JR w F x cs → JR w' F x cs
  | .mk k n s l m, cs, hx => by
    simp only [JR] at hx ⊢
    obtain ⟨vl, vm, e, h1, h2⟩ := hx
    refine ⟨vl, vm, e, ?_, ?_⟩
    · rcases h1 with h1 | ⟨b, o, c, e1, e2, e3, e4, cs', e5, e6⟩
      · exact .inl h1
      · exact .inr ⟨b, o, c, e1, e2, e3, e4, cs', JRs_frame h l cs' e5, fun j u hj => (World.cell?_of_block (w := w) (a := ⟨b, o + j, none⟩) (h b e2)).trans (e6 j u hj)⟩
    · rcases h2 with h1 | ⟨b, o, c, e1, e2, e3, e4, cs', e5, e6⟩
      · exact .inl h1
      · exact .inr ⟨b, o, c, e1, e2, e3, e4, cs', JRm_frame h m cs' e5, fun j u hj => (World.cell?_of_block (w := w) (a := ⟨b, o + j, none⟩) (h b e2)).trans (e6 j u hj)⟩
theorem JRs_frame {w w' : World} {F : Nat → Prop} (h : ∀ k, F k → w'.heap[k]? = w.heap[k]?) : ∀ (x : List JV) (cs : List Value), JRs w F x cs → JRs w' F x cs
  | [], cs, hx => by simpa only [JRs] using hx
  | x :: xs, cs, hx => by
    simp only [JRs] at hx ⊢
    obtain ⟨c, r, e, h1, h2⟩ := hx
    exact ⟨c, r, e, JR_frame h x c h1, JRs_frame h xs r h2⟩
theorem JRm_frame {w w' : World} {F : Nat → Prop} (h : ∀ k, F k → w'.heap[k]? = w.heap[k]?) : ∀ (x : List (ByteArray × JV)) (cs : List Value), JRm w F x cs → JRm w' F x cs
  | [], cs, hx => by simpa only [JRm] using hx
  | (nm, x) :: xs, cs, hx => by
    simp only [JRm] at hx ⊢
    obtain ⟨c, r, e, h1, h2⟩ := hx
    exact ⟨c, r, e, JR_frame h x c h1, JRm_frame h xs r h2⟩
end

theorem slice_one (A : Option Addr) (n c : Nat) : (Value.slice A n c).oneCell' = true := rfl
theorem JR_form {w : World} {F : Nat → Prop} {x : JV} {cs : List Value} (h : JR w F x cs) : ∃ A1 n1 c1 A2 n2 c2, cs = [.int .i64 x.k, .int .i64 x.n, .string x.s, .slice A1 n1 c1, .slice A2 n2 c2] := by
  obtain ⟨k, n, s, l, m⟩ := x
  simp only [JR] at h
  obtain ⟨vl, vm, ⟨rfl, _⟩, h1, h2⟩ := h
  rcases h1 with ⟨_, A, c, rfl⟩ | ⟨b, o, c, rfl, _⟩ <;> rcases h2 with ⟨_, A', c', rfl⟩ | ⟨b', o', c', rfl, _⟩ <;> exact ⟨_, _, _, _, _, _, rfl⟩
theorem JR_len {w : World} {F : Nat → Prop} {x : JV} {cs : List Value} (h : JR w F x cs) : cs.length = 5 := by
  obtain ⟨_, _, _, _, _, _, rfl⟩ := JR_form h; rfl
theorem JR_one {w : World} {F : Nat → Prop} {x : JV} {cs : List Value} (h : JR w F x cs) : ∀ u ∈ cs, u.oneCell' = true := by
  obtain ⟨_, _, _, _, _, _, rfl⟩ := JR_form h
  intro u hu
  simp at hu
  rcases hu with rfl | rfl | rfl | rfl | rfl <;> rfl

mutual
theorem JR_bound {w : World} {F : Nat → Prop} : ∀ (x : JV) (cs : List Value), JR w F x cs → JR w (fun k => F k ∧ k < w.heap.size) x cs
  | .mk k n s l m, cs, hx => by
    simp only [JR] at hx ⊢
    obtain ⟨vl, vm, e, h1, h2⟩ := hx
    refine ⟨vl, vm, e, ?_, ?_⟩
    · rcases h1 with h1 | ⟨b, o, c, e1, e2, e3, e4, cs', e5, e6⟩
      · exact .inl h1
      · match l, e1, e3, e5 with
        | [], e1, _, _ => exact .inl ⟨rfl, _, _, e1⟩
        | x :: xs, e1, e3, e5 =>
          refine .inr ⟨b, o, c, e1, ⟨e2, ?_⟩, e3, e4, cs', JRs_bound (x :: xs) cs' e5, e6⟩
          simp only [JRs] at e5
          obtain ⟨c1, r1, rfl, hc1, _⟩ := e5
          have hl := JR_len hc1
          match c1, hl with
          | u :: _, _ => exact World.block_lt_of_cell? w _ (e6 0 u rfl)
    · rcases h2 with h1 | ⟨b, o, c, e1, e2, e3, e4, cs', e5, e6⟩
      · exact .inl h1
      · match m, e1, e3, e5 with
        | [], e1, _, _ => exact .inl ⟨rfl, _, _, e1⟩
        | (nm, x) :: xs, e1, e3, e5 =>
          refine .inr ⟨b, o, c, e1, ⟨e2, ?_⟩, e3, e4, cs', JRm_bound ((nm, x) :: xs) cs' e5, e6⟩
          simp only [JRm] at e5
          obtain ⟨c1, r1, ⟨rfl, _⟩, hc1, _⟩ := e5
          exact World.block_lt_of_cell? w _ (e6 0 _ rfl)
theorem JRs_bound {w : World} {F : Nat → Prop} : ∀ (x : List JV) (cs : List Value), JRs w F x cs → JRs w (fun k => F k ∧ k < w.heap.size) x cs
  | [], cs, hx => by simpa only [JRs] using hx
  | x :: xs, cs, hx => by
    simp only [JRs] at hx ⊢
    obtain ⟨c, r, e, h1, h2⟩ := hx
    exact ⟨c, r, e, JR_bound x c h1, JRs_bound xs r h2⟩
theorem JRm_bound {w : World} {F : Nat → Prop} : ∀ (x : List (ByteArray × JV)) (cs : List Value), JRm w F x cs → JRm w (fun k => F k ∧ k < w.heap.size) x cs
  | [], cs, hx => by simpa only [JRm] using hx
  | (nm, x) :: xs, cs, hx => by
    simp only [JRm] at hx ⊢
    obtain ⟨c, r, e, h1, h2⟩ := hx
    exact ⟨c, r, e, JR_bound x c h1, JRm_bound xs r h2⟩
end

def jvTy : Ty JV where
  sz := 5
  pos := by decide
  R := JR
  len := JR_len
  one := JR_one
  mono := fun h hx => JR_mono h _ _ hx
  frame := fun h hx => JR_frame h _ _ hx
  bound := fun hx => JR_bound _ _ hx

def memTy : Ty (ByteArray × JV) where
  sz := 6
  pos := by decide
  R := fun w F x cs => ∃ c, (cs = .string x.1 :: c ∧ x.1.size ≤ 9223372036854775807) ∧ JR w F x.2 c
  len := by rintro w F x cs ⟨c, ⟨rfl, _⟩, h⟩; simp [JR_len h]
  one := by
    rintro w F x cs ⟨c, ⟨rfl, _⟩, h⟩ u hu
    rcases List.mem_cons.1 hu with rfl | hu
    · rfl
    · exact JR_one h u hu
  mono := by rintro w F F' x cs hF ⟨c, e, h⟩; exact ⟨c, e, JR_mono hF _ _ h⟩
  frame := by rintro w w' F x cs hF ⟨c, e, h⟩; exact ⟨c, e, JR_frame hF _ _ h⟩
  bound := by rintro w F x cs ⟨c, e, h⟩; exact ⟨c, e, JR_bound _ _ h⟩

theorem JRs_chunks {w : World} {F : Nat → Prop} : ∀ (xs : List JV) (cs : List Value), JRs w F xs cs ↔ Chunks jvTy w F xs cs
  | [], cs => by simp only [JRs, Chunks]
  | x :: xs, cs => by
    simp only [JRs, Chunks]
    constructor
    · rintro ⟨c, r, e, h1, h2⟩; exact ⟨c, r, e, h1, (JRs_chunks xs r).1 h2⟩
    · rintro ⟨c, r, e, h1, h2⟩; exact ⟨c, r, e, h1, (JRs_chunks xs r).2 h2⟩
theorem JRm_chunks {w : World} {F : Nat → Prop} : ∀ (xs : List (ByteArray × JV)) (cs : List Value), JRm w F xs cs ↔ Chunks memTy w F xs cs
  | [], cs => by simp only [JRm, Chunks]
  | (nm, x) :: xs, cs => by
    simp only [JRm, Chunks]
    constructor
    · rintro ⟨c, r, ⟨e, hz⟩, h1, h2⟩; exact ⟨.string nm :: c, r, e, ⟨c, ⟨rfl, hz⟩, h1⟩, (JRm_chunks xs r).1 h2⟩
    · rintro ⟨c0, r, e, ⟨c, ⟨e0, hz⟩, h1⟩, h2⟩; exact ⟨c, r, ⟨by rw [e, e0], hz⟩, h1, (JRm_chunks xs r).2 h2⟩

/-- a value's cells -/
theorem JR_iff {w : World} {F : Nat → Prop} {x : JV} {cs : List Value} : JR w F x cs ↔ ∃ vl vm, (cs = [.int .i64 x.k, .int .i64 x.n, .string x.s, vl, vm] ∧ x.s.size ≤ 9223372036854775807) ∧ Sl jvTy w F vl x.l ∧ Sl memTy w F vm x.m := by
  obtain ⟨k, n, s, l, m⟩ := x
  simp only [JR, Sl, JRs_chunks, JRm_chunks]
  rfl

/-- a member's cells -/
theorem mem_cells {w : World} {F : Nat → Prop} {v : Value} {xs : List (ByteArray × JV)} (hs : Sl memTy w F v xs) : ∃ A c, v = .slice A xs.length c ∧ xs.length ≤ 9223372036854775807 ∧ ∀ k nm y, xs[k]? = some (nm, y) → ∃ b o A1 n1 c1 A2 n2 c2, A = some ⟨b, o, none⟩ ∧ nm.size ≤ 9223372036854775807 ∧
    w.cell? ⟨b, o + k * 6, none⟩ = some (.string nm) ∧ w.cell? ⟨b, o + k * 6 + 1, none⟩ = some (.int .i64 y.k) ∧ w.cell? ⟨b, o + k * 6 + 2, none⟩ = some (.int .i64 y.n) ∧ w.cell? ⟨b, o + k * 6 + 3, none⟩ = some (.string y.s) ∧
    w.cell? ⟨b, o + k * 6 + 4, none⟩ = some (.slice A1 n1 c1) ∧ w.cell? ⟨b, o + k * 6 + 5, none⟩ = some (.slice A2 n2 c2) ∧ JR w F y [.int .i64 y.k, .int .i64 y.n, .string y.s, .slice A1 n1 c1, .slice A2 n2 c2] := by
  rcases hs with ⟨rfl, A, c, rfl⟩ | ⟨b, o, c', rfl, _, h3, h4, cs, h1, h2⟩
  · exact ⟨A, c, rfl, by simp, fun k nm y hk => by simp at hk⟩
  · refine ⟨_, _, rfl, by omega, fun k nm y hk => ?_⟩
    obtain ⟨c0, ⟨c1, ⟨rfl, hz⟩, hj⟩, hg⟩ := h1.get k (nm, y) hk
    obtain ⟨A1, n1, c1, A2, n2, c2, rfl⟩ := JR_form hj
    have g := fun i u (hi : (Value.string nm :: [.int .i64 y.k, .int .i64 y.n, .string y.s, .slice A1 n1 c1, .slice A2 n2 c2])[i]? = some u) => h2 _ _ (hg i u hi)
    exact ⟨b, o, A1, n1, c1, A2, n2, c2, rfl, hz, g 0 _ rfl, g 1 _ rfl, g 2 _ rfl, g 3 _ rfl, g 4 _ rfl, g 5 _ rfl, hj⟩
/-- an element's cells -/
theorem val_cells {w : World} {F : Nat → Prop} {v : Value} {xs : List JV} (hs : Sl jvTy w F v xs) : ∃ A c, v = .slice A xs.length c ∧ xs.length ≤ 9223372036854775807 ∧ ∀ k y, xs[k]? = some y → ∃ b o A1 n1 c1 A2 n2 c2, A = some ⟨b, o, none⟩ ∧
    w.cell? ⟨b, o + k * 5, none⟩ = some (.int .i64 y.k) ∧ w.cell? ⟨b, o + k * 5 + 1, none⟩ = some (.int .i64 y.n) ∧ w.cell? ⟨b, o + k * 5 + 2, none⟩ = some (.string y.s) ∧
    w.cell? ⟨b, o + k * 5 + 3, none⟩ = some (.slice A1 n1 c1) ∧ w.cell? ⟨b, o + k * 5 + 4, none⟩ = some (.slice A2 n2 c2) ∧ JR w F y [.int .i64 y.k, .int .i64 y.n, .string y.s, .slice A1 n1 c1, .slice A2 n2 c2] := by
  rcases hs with ⟨rfl, A, c, rfl⟩ | ⟨b, o, c', rfl, _, h3, h4, cs, h1, h2⟩
  · exact ⟨A, c, rfl, by simp, fun k y hk => by simp at hk⟩
  · refine ⟨_, _, rfl, by omega, fun k y hk => ?_⟩
    obtain ⟨c0, hj, hg⟩ := h1.get k y hk
    obtain ⟨A1, n1, c1, A2, n2, c2, rfl⟩ := JR_form hj
    have g := fun i u (hi : [Value.int .i64 y.k, .int .i64 y.n, .string y.s, .slice A1 n1 c1, .slice A2 n2 c2][i]? = some u) => h2 _ _ (hg i u hi)
    exact ⟨b, o, A1, n1, c1, A2, n2, c2, rfl, g 0 _ rfl, g 1 _ rfl, g 2 _ rfl, g 3 _ rfl, g 4 _ rfl, hj⟩
theorem cell_newB (w : World) (cs : Array Value) (t : TypeId) (i : Nat) (v : Value) (h : cs.toList[i]? = some v) : (w.alloc (.cells cs t)).cell? ⟨w.heap.size, i, none⟩ = some v := by
  have := heap_alloc_new w (.cells cs t)
  unfold World.cell?
  simp only [this]
  rw [Array.getElem?_toList] at h
  exact h
end Go.Proofs.YtjjgbgojlhaapaaGreatDoor
