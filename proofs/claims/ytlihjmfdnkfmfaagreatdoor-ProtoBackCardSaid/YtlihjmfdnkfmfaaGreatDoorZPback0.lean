/- Parts of the proof: Lib, Jv. -/
import Derived.WalkKit
import Derived.WalkSpells
import Derived.WalkLawsBesides
import Derived.Deep.QuietTactic
import Derived.BigQuiet
import Derived.Deep.LoopGhost
import Derived.Lib.Hide
import Derived.IntWalk
import Derived.Lib.Overlaps
import Derived.Laws.CopyOwn
import Derived.Laws.OwnMore
import Derived.Laws.MakeOwn
import Derived.Lib.SliceRun
import Derived.OrdersHeld
namespace Go.Proofs.YtlihjmfdnkfmfaaGreatDoor
open Go.RowKit

/-! kinds -/
structure Ty (α : Type) where
  sz : Nat
  pos : 0 < sz
  R : World → (Nat → Prop) → α → List Value → Prop
  len : ∀ {w F x cs}, R w F x cs → cs.length = sz
  one : ∀ {w F x cs}, R w F x cs → ∀ u ∈ cs, u.oneCell' = true
  mono : ∀ {w F F' x cs}, (∀ k, F k → F' k) → R w F x cs → R w F' x cs
  frame : ∀ {w w' F x cs}, (∀ k, F k → w'.heap[k]? = w.heap[k]?) → R w F x cs → R w' F x cs
  bound : ∀ {w : World} {F x cs}, R w F x cs → R w (fun k => F k ∧ k < w.heap.size) x cs

def Chunks {α : Type} (T : Ty α) (w : World) (F : Nat → Prop) : List α → List Value → Prop
  | [], cs => cs = []
  | x :: xs, cs => ∃ c r, cs = c ++ r ∧ T.R w F x c ∧ Chunks T w F xs r

section
variable {α : Type} {T : Ty α} {w w' : World} {F F' : Nat → Prop}
theorem Chunks.len : ∀ {xs : List α} {cs : List Value}, Chunks T w F xs cs → cs.length = xs.length * T.sz
  | [], _, h => by cases h; simp
  | _ :: _, _, ⟨_, _, rfl, h1, h2⟩ => by simp [T.len h1, Chunks.len h2, Nat.succ_mul, Nat.add_comm]
theorem Chunks.one : ∀ {xs : List α} {cs : List Value}, Chunks T w F xs cs → ∀ u ∈ cs, u.oneCell' = true
  | [], _, h, u, hu => by cases h; cases hu
  | _ :: _, _, ⟨_, _, rfl, h1, h2⟩, u, hu => by
    rcases List.mem_append.1 hu with hu | hu
    · exact T.one h1 u hu
    · exact Chunks.one h2 u hu
theorem Chunks.mono (hF : ∀ k, F k → F' k) : ∀ {xs : List α} {cs : List Value}, Chunks T w F xs cs → Chunks T w F' xs cs
  | [], _, h => h
  | _ :: _, _, ⟨c, r, e, h1, h2⟩ => ⟨c, r, e, T.mono hF h1, Chunks.mono hF h2⟩
theorem Chunks.frame (hF : ∀ k, F k → w'.heap[k]? = w.heap[k]?) : ∀ {xs : List α} {cs : List Value}, Chunks T w F xs cs → Chunks T w' F xs cs
  | [], _, h => h
  | _ :: _, _, ⟨c, r, e, h1, h2⟩ => ⟨c, r, e, T.frame hF h1, Chunks.frame hF h2⟩
theorem Chunks.bound : ∀ {xs : List α} {cs : List Value}, Chunks T w F xs cs → Chunks T w (fun k => F k ∧ k < w.heap.size) xs cs
  | [], _, h => h
  | _ :: _, _, ⟨c, r, e, h1, h2⟩ => ⟨c, r, e, T.bound h1, Chunks.bound h2⟩
theorem Chunks.append : ∀ {xs ys : List α} {cs ds : List Value}, Chunks T w F xs cs → Chunks T w F ys ds → Chunks T w F (xs ++ ys) (cs ++ ds)
  | [], _, _, _, h, k => by cases h; exact k
  | _ :: _, _, _, _, ⟨c, r, e, h1, h2⟩, k => ⟨c, r ++ _, by rw [e, List.append_assoc], h1, Chunks.append h2 k⟩
theorem Chunks.single {x : α} {c : List Value} (h : T.R w F x c) : Chunks T w F [x] c := ⟨c, [], by simp, h, rfl⟩
theorem Chunks.get : ∀ {xs : List α} {cs : List Value}, Chunks T w F xs cs → ∀ j x, xs[j]? = some x → ∃ c, T.R w F x c ∧ ∀ i u, c[i]? = some u → cs[j * T.sz + i]? = some u
  | [], _, _, j, x, hj => by simp at hj
  | y :: ys, _, ⟨c, r, e, h1, h2⟩, 0, x, hj => by
    obtain rfl : y = x := by simpa using hj
    subst e
    refine ⟨c, h1, fun i u hi => ?_⟩
    have hl : i < c.length := by
      rcases Nat.lt_or_ge i c.length with h | h
      · exact h
      · simp [List.getElem?_eq_none h] at hi
    rw [Nat.zero_mul, Nat.zero_add, List.getElem?_append_left hl]; exact hi
  | y :: ys, _, ⟨c, r, e, h1, h2⟩, j + 1, x, hj => by
    obtain ⟨c', h3, h4⟩ := Chunks.get h2 j x (by simpa using hj)
    subst e
    refine ⟨c', h3, fun i u hi => ?_⟩
    rw [List.getElem?_append_right (by rw [T.len h1, Nat.succ_mul]; omega), T.len h1, ← h4 i u hi]
    congr 1
    rw [Nat.succ_mul]; omega
theorem Chunks.take : ∀ {xs : List α} {cs : List Value} (m : Nat), Chunks T w F xs cs → Chunks T w F (xs.take m) (cs.take (m * T.sz))
  | xs, cs, 0, h => by simp [Chunks]
  | [], _, m + 1, h => by cases h; simp [Chunks]
  | x :: xs, _, m + 1, ⟨c, r, e, h1, h2⟩ => by
    subst e
    have := Chunks.take m h2
    refine ⟨c, _, ?_, h1, this⟩
    rw [List.take_append, T.len h1, List.take_of_length_le (by rw [T.len h1, Nat.succ_mul]; omega)]
    congr 2
    rw [Nat.succ_mul]; omega
theorem Chunks.drop : ∀ {xs : List α} {cs : List Value} (m : Nat), Chunks T w F xs cs → Chunks T w F (xs.drop m) (cs.drop (m * T.sz))
  | xs, cs, 0, h => by simpa using h
  | [], _, m + 1, h => by cases h; simp [Chunks]
  | x :: xs, _, m + 1, ⟨c, r, e, h1, h2⟩ => by
    subst e
    have := Chunks.drop m h2
    have e2 : (c ++ r).drop ((m + 1) * T.sz) = r.drop (m * T.sz) := by
      rw [List.drop_append, T.len h1, List.drop_of_length_le (l := c) (by rw [T.len h1, Nat.succ_mul]; omega), List.nil_append]
      congr 1; rw [Nat.succ_mul]; omega
    rw [List.drop_succ_cons, e2]
    exact this
end

/-! slices that read as lists -/
def Sl {α : Type} (T : Ty α) (w : World) (F : Nat → Prop) (v : Value) (xs : List α) : Prop :=
  (xs = [] ∧ ∃ A c, v = .slice A 0 c) ∨
  (∃ b o c, v = .slice (some ⟨b, o, none⟩) xs.length c ∧ F b ∧ xs.length ≤ c ∧ c ≤ 9223372036854775807 ∧
    ∃ cs, Chunks T w F xs cs ∧ ∀ j u, cs[j]? = some u → w.cell? ⟨b, o + j, none⟩ = some u)

section
variable {α : Type} {T : Ty α} {w w' : World} {F F' : Nat → Prop}
theorem Sl.mono (hF : ∀ k, F k → F' k) {v : Value} {xs : List α} (h : Sl T w F v xs) : Sl T w F' v xs := by
  rcases h with h | ⟨b, o, c, e, hb, h1, h2, cs, h3, h4⟩
  · exact .inl h
  · exact .inr ⟨b, o, c, e, hF _ hb, h1, h2, cs, h3.mono hF, h4⟩
theorem Sl.frame (hF : ∀ k, F k → w'.heap[k]? = w.heap[k]?) {v : Value} {xs : List α} (h : Sl T w F v xs) : Sl T w' F v xs := by
  rcases h with h | ⟨b, o, c, e, hb, h1, h2, cs, h3, h4⟩
  · exact .inl h
  · exact .inr ⟨b, o, c, e, hb, h1, h2, cs, h3.frame hF, fun j u hj => (World.cell?_of_block (w := w) (hF b hb)).trans (h4 j u hj)⟩
theorem Sl.form {v : Value} {xs : List α} (h : Sl T w F v xs) : ∃ A c, v = .slice A xs.length c := by
  rcases h with ⟨rfl, A, c, rfl⟩ | ⟨b, o, c, e, _⟩
  · exact ⟨A, c, rfl⟩
  · exact ⟨_, c, e⟩
theorem Sl.nil (A : Option Addr) (c : Nat) : Sl T w F (.slice A 0 c) ([] : List α) := .inl ⟨rfl, A, c, rfl⟩
theorem Sl.bound {v : Value} {xs : List α} (h : Sl T w F v xs) : Sl T w (fun k => F k ∧ k < w.heap.size) v xs := by
  rcases h with h | ⟨b, o, c, e, hb, h1, h2, cs, h3, h4⟩
  · exact .inl h
  · by_cases h0 : xs = []
    · subst h0; exact .inl ⟨rfl, _, _, e⟩
    · refine .inr ⟨b, o, c, e, ⟨hb, ?_⟩, h1, h2, cs, h3.bound, h4⟩
      have hp : 0 < cs.length := by rw [h3.len]; exact Nat.mul_pos (List.length_pos_iff.2 h0) T.pos
      exact World.block_lt_of_cell? w _ (h4 0 cs[0] (List.getElem?_eq_getElem hp))
/-- what is read stays read when nothing of what was there changes -/
theorem Sl.below {v : Value} {xs : List α} (h : Sl T w F v xs) (hb : Below w.heap.size w w') : Sl T w' F v xs :=
  ((h.bound).frame (fun k hk => hb.block k hk.2)).mono (fun _ hk => hk.1)
end

theorem enters_of {P : Program} {f : FuncId} {fn : Func} (hf : P.funcs[f]? = some fn) (hname : (fn.name == "runtime.NumGoroutine") = false) (hb : fn.body.isSome = true) : ∀ (args : Array Value) (w : World), (callFunc f args).run P w = .ok (.enter f args) w := by
  intro args w
  obtain ⟨c, hc⟩ := Option.isSome_iff_exists.1 hb
  have h1 : fn.name ≠ "runtime.NumGoroutine" := by simpa using hname
  simp [callFunc, hf, h1, hc]

/-- a slice that reads as a list, taken apart: no array, or an array -/
theorem Sl.open {α : Type} {T : Ty α} {w : World} {F : Nat → Prop} {v : Value} {xs : List α} (h : Sl T w F v xs) :
    (xs = [] ∧ ∃ c, v = .slice none 0 c) ∨ (∃ ad c cs, v = .slice (some ad) xs.length c ∧ Chunks T w F xs cs ∧ ∀ j u, cs[j]? = some u → w.cell? (ad.add j) = some u) := by
  rcases h with ⟨rfl, A, c, rfl⟩ | ⟨b, o, c, rfl, _, _, _, cs, h1, h2⟩
  · cases A with
    | none => exact .inl ⟨rfl, c, rfl⟩
    | some ad => exact .inr ⟨ad, c, [], rfl, rfl, fun j u hj => by simp at hj⟩
  · exact .inr ⟨_, c, cs, rfl, h1, fun j u hj => by rw [Addr.add_lit]; exact h2 j u hj⟩

/-! worlds -/
theorem bel_alloc {w W : World} (h : Below w.heap.size w W) (o : Obj) : Below w.heap.size w (W.alloc o) := h.alloc h.size o
theorem bel_drew {w W : World} (h : Below w.heap.size w W) : Below w.heap.size w W.drew := h.drew
theorem bel_drewN {w W : World} (h : Below w.heap.size w W) (n : Nat) : Below w.heap.size w (W.drewN n) := ⟨h.os, h.tape, h.output, h.size, h.block⟩
theorem bel_set {w W : World} (h : Below w.heap.size w W) {p : Addr} (hp : w.heap.size ≤ p.block) (v : Value) : Below w.heap.size w (W.setCell p v) := h.setCell hp v
theorem bel_trans {w W W' : World} (h : Below w.heap.size w W) (k : Below W.heap.size W W') : Below w.heap.size w W' := h.trans (k.mono h.size)
theorem bel_grown {w W W' : World} (h : Below w.heap.size w W) {row : Option Nat} (hg : W.grownBy W' row) (hr : ∀ k, row = some k → w.heap.size ≤ k) : Below w.heap.size w W' := h.grown hg h.size hr
theorem cell_later' {w W : World} (h : Below w.heap.size w W) {a : Addr} {v : Value} (hc : w.cell? a = some v) : W.cell? a = some v :=
  (h.cell (World.block_lt_of_cell? w a hc)).trans hc
theorem ret_bool {a b : Bool} (h : a = b) : Ending.returned (.bool a) = .returned (.bool b) := by rw [h]
theorem lt_of_get {α : Type} {xs : List α} {k : Nat} {x : α} (h : xs[k]? = some x) : k < xs.length := by
  rcases Nat.lt_or_ge k xs.length with h1 | h1
  · exact h1
  · simp [List.getElem?_eq_none h1] at h
theorem drop_of_get {α : Type} {xs : List α} {k : Nat} {x : α} (h : xs[k]? = some x) : xs.drop k = x :: xs.drop (k + 1) := by
  have hk := lt_of_get h
  rw [List.drop_eq_getElem_cons hk]
  congr 1
  simpa [List.getElem?_eq_getElem hk] using h
theorem get_ex {α : Type} {xs : List α} {k : Nat} (h : k < xs.length) : ∃ x, xs[k]? = some x := ⟨xs[k], List.getElem?_eq_getElem h⟩

/-! rows of the call's own -/
theorem own_to_sl {α : Type} {T : Ty α} {w : World} {F : Nat → Prop} {base : Nat} {e : TypeId} {v : Value} {xs : List α} {cs : List Value}
    (h : w.ownsRow base e T.sz v xs.length cs) (hc : Chunks T w F xs cs) : Sl T w (fun k => F k ∨ some k = v.ownBlock) v xs := by
  rcases h.2 with ⟨rfl, h0⟩ | ⟨g, cap, cur, rfl, hg, hh, h1, h2, h3, h4⟩
  · left
    have : xs = [] := List.eq_nil_of_length_eq_zero h0
    subst this
    exact ⟨rfl, none, 0, rfl⟩
  · right
    refine ⟨g, 0, cap, rfl, .inr rfl, h1, by simpa [maxLen] using h2, cs, hc.mono (fun _ => .inl), fun j u hj => ?_⟩
    have := h.cells (g := g) rfl j u hj
    rw [Addr.add_lit] at this
    exact this

theorem wpList_append_runN {P : Program} {w : World} {ops : Array Oper} {rest : List Oper} {o : Oper} {a : Act} {Q : Exit → Act → World → Prop} (hgd : o.guard = none) (d s : Operand) (dT sT : TypeId)
    (ho : o.op = .call { callee := .builtin .append, args := #[d, s], argTypes := #[dT, sT] }) (dv sv v : Value) (w' : World) (hd : a.eval d = dv) (hs : a.eval s = sv)
    (hrun : (Builtin.append_ #[dT, sT] o.type #[dv, sv]).run P w = .ok v w') (h : wpList P ops Q rest (a.put o.dst v) w') : wpList P ops Q (o :: rest) a w := by
  refine wpList_plain hgd fun K hK => ?_
  unfold Oper.wp
  simp [execOp, ho, resolve, invoke, builtin, hd, hs, hrun, Result.andThen]
  exact hK _ _ h
/-- append to a row of the call's own: and where the result's row lies -/
theorem run_append_ownB {P : Program} {w : World} (base : Nat) (t ty e : TypeId) (i : TypeInfo) (z : Value) (size bytes : Nat) (ht : P.underlying t = some (.slice e)) (hi : P.info? e = some i) (hz : i.zero = some z)
    (hsize : i.size = size) (hby : i.bytes = bytes) (hzs : z.cells.size = size) (hsz : 0 < size)
    (v : Value) (n : Nat) (xs : List Value) (hown : w.ownsRow base e size v n xs)
    (a : Addr) (m c : Nat) (news : List Value) (hl : news.length = m * size) (hnews : ∀ j u, news[j]? = some u → w.cell? (a.add j) = some u) (h1 : ∀ u ∈ news, u.oneCell' = true)
    (h63 : n + m ≤ maxLen) (hbytes : (n + m) * bytes ≤ 140737488355328) (hbase : base ≤ w.heap.size) :
    ∃ v' w', (Builtin.append_ #[t, t] ty #[v, .slice (some a) m c]).run P w = .ok v' w' ∧ w'.ownsRow base e size v' (n + m) (xs ++ news) ∧ w.grownBy w' v.ownBlock ∧
      (v'.ownBlock = v.ownBlock ∨ v'.ownBlock = some w.heap.size) := by
  obtain ⟨v', w', hrun, ho, hg, _⟩ := run_append_own (P := P) w base t ty e i z size bytes ht hi hz hsize hby hzs hsz v n xs hown a m c news hl hnews h1 h63 hbytes hbase
  refine ⟨v', w', hrun, ho, hg, ?_⟩
  subst hsize; subst hby
  have hM : n + m ≤ 9223372036854775807 := by simpa [maxLen] using h63
  rcases hown.2 with ⟨rfl, rfl⟩ | ⟨g, cap, cur, rfl, hbg, hgg, hnc, hcm, hcs, htake⟩
  · by_cases hm : m = 0
    · left
      rcases ho.2 with ⟨rfl, _⟩ | ⟨g', cap', cur', rfl, hb', hg', _⟩
      · rfl
      · exfalso
        subst hm
        have hn : news = [] := List.eq_nil_of_length_eq_zero (by simpa using hl)
        subst hn
        have h2 : (Builtin.append_ #[t, t] ty #[.slice none 0 0, .slice (some a) 0 c]).run P w = .ok (.slice none 0 0) w := by
          simp [Builtin.append_, run_underlying ht, sizeOf, typeInfo, hi, Builtin.lenOf, Builtin.firstCells, loadCells, loadCellsFrom]
        rw [hrun] at h2
        simp at h2
    · right
      have hr := run_append_nil (P := P) w t ty e i z ht hi hz a m c news hl hnews (by omega) (by omega) (by have hb := hbytes; simp only [Nat.zero_add] at hb; omega)
      rw [hrun] at hr
      obtain ⟨rfl, _⟩ : v' = _ ∧ w' = _ := by simpa using hr
      rfl
  · by_cases hroom : n + m ≤ cap
    · left
      have hfit : n * i.size + news.length ≤ cur.size := by rw [hl, hcs, ← Nat.add_mul]; exact Nat.mul_le_mul_right _ hroom
      have hr := run_append_room (P := P) w t ty e i ht hi g n cap cur hgg a m c news hl hnews h1 hroom hfit
      rw [hrun] at hr
      obtain ⟨rfl, _⟩ : v' = _ ∧ w' = _ := by simpa using hr
      rfl
    · right
      have holds : ∀ j u, xs[j]? = some u → w.cell? ((⟨g, 0, none⟩ : Addr).add j) = some u := hown.cells (g := g) rfl
      have hr := run_append_grow (P := P) w t ty e i z ht hi hz ⟨g, 0, none⟩ n cap xs hown.1 holds a m c news hl hnews (by omega) (by omega) (growslice_fits (by omega) hbytes)
      rw [hrun] at hr
      obtain ⟨rfl, _⟩ : v' = _ ∧ w' = _ := by simpa using hr
      rfl
theorem wpList_append_ownB {P : Program} {w : World} {ops : Array Oper} {rest : List Oper} {o : Oper} {a : Act} {Q : Exit → Act → World → Prop} (hgd : o.guard = none) (s x : Operand) (t : TypeId)
    (ho : o.op = .call { callee := .builtin .append, args := #[s, x], argTypes := #[t, t] })
    (base : Nat) (e : TypeId) (i : TypeInfo) (z : Value) (size bytes : Nat) (ht : P.underlying t = some (.slice e)) (hi : P.info? e = some i) (hz : i.zero = some z)
    (hsize : i.size = size) (hby : i.bytes = bytes) (hzs : z.cells.size = size) (hsz : 0 < size)
    (v : Value) (n : Nat) (xs : List Value) (hs : a.eval s = v) (hown : w.ownsRow base e size v n xs)
    (ad : Addr) (m c : Nat) (news : List Value) (hx : a.eval x = .slice (some ad) m c) (hl : news.length = m * size) (hnews : ∀ j u, news[j]? = some u → w.cell? (ad.add j) = some u) (h1 : ∀ u ∈ news, u.oneCell' = true)
    (h63 : n + m ≤ maxLen) (hbytes : (n + m) * bytes ≤ 140737488355328) (hbase : base ≤ w.heap.size)
    (h : ∀ v' w', w'.ownsRow base e size v' (n + m) (xs ++ news) → w.grownBy w' v.ownBlock → (v'.ownBlock = v.ownBlock ∨ v'.ownBlock = some w.heap.size) → wpList P ops Q rest (a.put o.dst v') w') : wpList P ops Q (o :: rest) a w := by
  obtain ⟨v', w', hrun, h2, h3, h4⟩ := run_append_ownB base t o.type e i z size bytes ht hi hz hsize hby hzs hsz v n xs hown ad m c news hl hnews h1 h63 hbytes hbase
  exact wpList_append_runN hgd s x t t ho v _ v' w' hs hx hrun (h v' w' h2 h3 h4)

theorem step_append_own {P : Program} {w : World} {ops : Array Oper} {o : Oper} {a : Act} {K : Act → World → Prop} {Q : Exit → Act → World → Prop} {E : Prop} (hgd : o.guard = none) (s x : Operand) (t : TypeId)
    (ho : o.op = .call { callee := .builtin .append, args := #[s, x], argTypes := #[t, t] })
    (base : Nat) (e : TypeId) (i : TypeInfo) (z : Value) (size bytes : Nat) (ht : P.underlying t = some (.slice e)) (hi : P.info? e = some i) (hz : i.zero = some z)
    (hsize : i.size = size) (hby : i.bytes = bytes) (hzs : z.cells.size = size) (hsz : 0 < size)
    (v : Value) (n : Nat) (xs : List Value) (hs : a.eval s = v) (hown : w.ownsRow base e size v n xs)
    (ad : Addr) (m c : Nat) (news : List Value) (hx : a.eval x = .slice (some ad) m c) (hl : news.length = m * size) (hnews : ∀ j u, news[j]? = some u → w.cell? (ad.add j) = some u) (h1 : ∀ u ∈ news, u.oneCell' = true)
    (h63 : n + m ≤ maxLen) (hbytes : (n + m) * bytes ≤ 140737488355328) (hbase : base ≤ w.heap.size)
    (h : ∀ v' w', w'.ownsRow base e size v' (n + m) (xs ++ news) → w.grownBy w' v.ownBlock → (v'.ownBlock = v.ownBlock ∨ v'.ownBlock = some w.heap.size) → K (a.put o.dst v') w') :
    if Region.wanted o (yielded ops a.tmps) = true then Oper.wp P o a w K Q else E := by
  obtain ⟨v', w', hrun, h2, h3, h4⟩ := run_append_ownB base t o.type e i z size bytes ht hi hz hsize hby hzs hsz v n xs hown ad m c news hl hnews h1 h63 hbytes hbase
  have hw : Region.wanted o (yielded ops a.tmps) = true := by simp [Region.wanted, hgd]
  rw [if_pos hw]
  unfold Oper.wp
  simp [execOp, ho, resolve, invoke, builtin, hs, hx, hrun, Result.andThen]
  exact h v' w' h2 h3 h4

theorem grown_trans {w w1 w2 : World} {row : Option Nat} (h : w.grownBy w1 row) (k : w1.grownBy w2 row) : w.grownBy w2 row :=
  ⟨k.os.trans h.os, k.tape.trans h.tape, k.output.trans h.output, Nat.le_trans h.size k.size, fun i hi hr => (k.block i (Nat.lt_of_lt_of_le hi h.size) hr).trans (h.block i hi hr)⟩
theorem grown_refl (w : World) (row : Option Nat) : w.grownBy w row := ⟨rfl, rfl, rfl, Nat.le_refl _, fun _ _ _ => rfl⟩
theorem grown_of_bel {w w1 : World} (h : Below w.heap.size w w1) (row : Option Nat) : w.grownBy w1 row := ⟨h.os, h.tape, h.output, h.size, fun i hi _ => h.block i hi⟩
theorem grown_set {w : World} {g i : Nat} (u : Value) : w.grownBy (w.setCell ⟨g, i, none⟩ u) (some g) :=
  ⟨rfl, rfl, rfl, by simp [World.setCell], fun k _ hk => Below.heap_setCell _ _ _ _ (fun e => hk (by simp [e]))⟩
theorem grown_drewN {w w1 : World} {row : Option Nat} (h : w.grownBy w1 row) (n : Nat) : w.grownBy (w1.drewN n) row := grown_trans h ⟨rfl, rfl, rfl, Nat.le_refl _, fun _ _ _ => rfl⟩

/-- the walk's frames laid out: what a list's cell is, what is put where -/
theorem lay : (∀ (α : Type) (xs : List α) (i : Nat) (h : i < xs.toArray.size), xs.toArray[i]'h = xs[i]'(by simpa using h)) ∧
  (∀ (α : Type) (a : α) (l : List α) (h : 0 < (a :: l).length), (a :: l)[0]'h = a) ∧
  (∀ (α : Type) (a : α) (l : List α) (i : Nat) (h : i + 1 < (a :: l).length), (a :: l)[i + 1]'h = l[i]'(Nat.lt_of_succ_lt_succ h)) ∧
  (∀ (α : Type) (l : List α) (i : Nat) (v : α), l.toArray.setIfInBounds i v = (l.set i v).toArray) ∧
  (∀ (α : Type) (a b : α) (l : List α), (a :: l).set 0 b = b :: l) ∧
  (∀ (α : Type) (a b : α) (l : List α) (i : Nat), (a :: l).set (i + 1) b = a :: l.set i b) ∧
  (∀ (a : Act) (d : Tmp) (v : Value), a.put (some d) v = { tmps := a.tmps.setIfInBounds d v, defers := a.defers }) ∧ (∀ (a : Act) (v : Value), a.put none v = a) :=
  ⟨fun _ _ _ _ => List.getElem_toArray .., fun _ _ _ _ => rfl, fun _ _ _ _ _ => rfl, fun _ _ _ _ => List.setIfInBounds_toArray .., fun _ _ _ _ => rfl, fun _ _ _ _ _ => rfl, fun _ _ _ => rfl, fun _ _ => rfl⟩
section
variable {P : Program} {ops : Array Oper} {Q : Exit → Act → World → Prop} {md : Region.Mode} {S : World → Prop}
/-- an operation that is wanted, taken first -/
theorem tkq (i : Nat) {oi : Oper} {v : Value} {fuel : Nat} {listed : Array Bool} {a : Act} {w : World} (hi : ops[i]? = some oi) (hS : S w)
    (h : wpAnyH P md ops Q S fuel (listed.setIfInBounds i true) (a.put oi.dst v) w)
    (hs : Region.noSelect ops = true := by kernel_rfl) (hf : Region.free md ops listed i = true := by kernel_rfl) (hr : (Region.ready md ops listed).contains i = true := by kernel_rfl)
    (hw : Region.wanted oi (yielded ops a.tmps) = true := by kernel_rfl)
    (hy : ∀ w, S w → (execOp a.eval oi).run P w = .ok (.value v) w := by intro w hSw; (try dsimp only at hSw); go_simp; try (with_reducible rfl))
    (hQ : ∀ c a w, Q (.panic c) (a.put oi.dst v) w → Q (.panic c) a w := by exact fun _ _ _ h => h) : wpAnyH P md ops Q S (fuel + 1) listed a w :=
  wpAnyH_take hi hs hf hr hQ (.inl ⟨hw, hy⟩) hS h
/-- one that is not wanted -/
theorem skq (i : Nat) {oi : Oper} {fuel : Nat} {listed : Array Bool} {a : Act} {w : World} (hi : ops[i]? = some oi) (hS : S w)
    (h : wpAnyH P md ops Q S fuel (listed.setIfInBounds i true) (a.put oi.dst undef) w)
    (hs : Region.noSelect ops = true := by kernel_rfl) (hf : Region.free md ops listed i = true := by kernel_rfl) (hr : (Region.ready md ops listed).contains i = true := by kernel_rfl)
    (hw : Region.wanted oi (yielded ops a.tmps) = false := by kernel_rfl)
    (hQ : ∀ c a w, Q (.panic c) (a.put oi.dst undef) w → Q (.panic c) a w := by exact fun _ _ _ h => h) : wpAnyH P md ops Q S (fuel + 1) listed a w :=
  wpAnyH_take hi hs hf hr hQ (.inr ⟨hw, rfl⟩) hS h
end
end Go.Proofs.YtlihjmfdnkfmfaaGreatDoor
namespace Go.Proofs.YtlihjmfdnkfmfaaGreatDoor
open Go.RowKit

inductive JV where
  | mk (k n : Int) (s : ByteArray) (l : List JV) (m : List (ByteArray × JV))
namespace JV
def k : JV → Int | mk k _ _ _ _ => k
def n : JV → Int | mk _ n _ _ _ => n
def s : JV → ByteArray | mk _ _ s _ _ => s
def l : JV → List JV | mk _ _ _ l _ => l
def m : JV → List (ByteArray × JV) | mk _ _ _ _ m => m
end JV

mutual
def JR (w : World) (F : Nat → Prop) : JV → List Value → Prop
  | .mk k n s l m, cs => ∃ vl vm, (cs = [.int .i64 k, .int .i64 n, .string s, vl, vm] ∧ s.size ≤ 9223372036854775807) ∧
      ((l = [] ∧ ∃ A c, vl = .slice A 0 c) ∨ (∃ b o c, vl = .slice (some ⟨b, o, none⟩) l.length c ∧ F b ∧ l.length ≤ c ∧ c ≤ 9223372036854775807 ∧ ∃ cs, JRs w F l cs ∧ ∀ j u, cs[j]? = some u → w.cell? ⟨b, o + j, none⟩ = some u)) ∧
      ((m = [] ∧ ∃ A c, vm = .slice A 0 c) ∨ (∃ b o c, vm = .slice (some ⟨b, o, none⟩) m.length c ∧ F b ∧ m.length ≤ c ∧ c ≤ 9223372036854775807 ∧ ∃ cs, JRm w F m cs ∧ ∀ j u, cs[j]? = some u → w.cell? ⟨b, o + j, none⟩ = some u))
def JRs (w : World) (F : Nat → Prop) : List JV → List Value → Prop
  | [], cs => cs = []
  | x :: xs, cs => ∃ c r, cs = c ++ r ∧ JR w F x c ∧ JRs w F xs r
def JRm (w : World) (F : Nat → Prop) : List (ByteArray × JV) → List Value → Prop
  | [], cs => cs = []
  | (nm, x) :: xs, cs => ∃ c r, (cs = (.string nm :: c) ++ r ∧ nm.size ≤ 9223372036854775807) ∧ JR w F x c ∧ JRm w F xs r
end

mutual
theorem JR_mono {w : World} {F F' : Nat → Prop} (h : ∀ k, F k → F' k) : ∀ (x : JV) (cs : List Value), JR w F x cs → JR w F' x cs
  | .mk k n s l m, cs, hx => by
    simp only [JR] at hx ⊢
    obtain ⟨vl, vm, e, h1, h2⟩ := hx
    refine ⟨vl, vm, e, ?_, ?_⟩
    · rcases h1 with h1 | ⟨b, o, c, e1, e2, e3, e4, cs', e5, e6⟩
      · exact .inl h1
      · exact .inr ⟨b, o, c, e1, h _ e2, e3, e4, cs', JRs_mono h l cs' e5, e6⟩
    · rcases h2 with h1 | ⟨b, o, c, e1, e2, e3, e4, cs', e5, e6⟩
      · exact .inl h1
      · exact .inr ⟨b, o, c, e1, h _ e2, e3, e4, cs', JRm_mono h m cs' e5, e6⟩
theorem JRs_mono {w : World} {F F' : Nat → Prop} (h : ∀ k, F k → F' k) : ∀ (x : List JV) (cs : List Value), JRs w F x cs → JRs w F' x cs
  | [], cs, hx => by simpa only [JRs] using hx
  | x :: xs, cs, hx => by
    simp only [JRs] at hx ⊢
    obtain ⟨c, r, e, h1, h2⟩ := hx
    exact ⟨c, r, e, JR_mono h x c h1, JRs_mono h xs r h2⟩
theorem JRm_mono {w : World} {F F' : Nat → Prop} (h : ∀ k, F k → F' k) : ∀ (x : List (ByteArray × JV)) (cs : List Value), JRm w F x cs → JRm w F' x cs
  | [], cs, hx => by simpa only [JRm] using hx
  | (nm, x) :: xs, cs, hx => by
    simp only [JRm] at hx ⊢
    obtain ⟨c, r, e, h1, h2⟩ := hx
    exact ⟨c, r, e, JR_mono h x c h1, JRm_mono h xs r h2⟩
end

mutual
theorem JR_frame {w w' : World} {F : Nat → Prop} (h : ∀ k, F k → w'.heap[k]? = w.heap[k]?) : ∀ (x : JV) (cs : List Value), JR w F x cs → JR w' F x cs
  | .mk k n s l m, cs, hx => by
    simp only [JR] at hx ⊢
    obtain ⟨vl, vm, e, h1, h2⟩ := hx
    refine ⟨vl, vm, e, ?_, ?_⟩
    · rcases h1 with h1 | ⟨b, o, c, e1, e2, e3, e4, cs', e5, e6⟩
      · exact .inl h1
      · exact .inr ⟨b, o, c, e1, e2, e3, e4, cs', JRs_frame h l cs' e5, fun j u hj => (World.cell?_of_block (w := w) (a := ⟨b, o + j, none⟩) (h b e2)).trans (e6 j u hj)⟩
    · rcases h2 with h1 | ⟨b, o, c, e1, e2, e3, e4, cs', e5, e6⟩
      · exact .inl h1
      · exact .inr ⟨b, o, c, e1, e2, e3, e4, cs', JRm_frame h m cs' e5, fun j u hj => (World.cell?_of_block (w := w) (a := ⟨b, o + j, none⟩) (h b e2)).trans (e6 j u hj)⟩
theorem JRs_frame {w w' : World} {F : Nat → Prop} (h : ∀ k, F k → w'.heap[k]? = w.heap[k]?) : ∀ (x : List JV) (cs : List Value), JRs w F x cs → JRs w' F x cs
  | [], cs, hx => by simpa only [JRs] using hx
  | x :: xs, cs, hx => by
    simp only [JRs] at hx ⊢
    obtain ⟨c, r, e, h1, h2⟩ := hx
    exact ⟨c, r, e, JR_frame h x c h1, JRs_frame h xs r h2⟩
theorem JRm_frame {w w' : World} {F : Nat → Prop} (h : ∀ k, F k → w'.heap[k]? = w.heap[k]?) : ∀ (x : List (ByteArray × JV)) (cs : List Value), JRm w F x cs → JRm w' F x cs
  | [], cs, hx => by simpa only [JRm] using hx
  | (nm, x) :: xs, cs, hx => by
    simp only [JRm] at hx ⊢
    obtain ⟨c, r, e, h1, h2⟩ := hx
    exact ⟨c, r, e, JR_frame h x c h1, JRm_frame h xs r h2⟩
end

theorem JR_form {w : World} {F : Nat → Prop} {x : JV} {cs : List Value} (h : JR w F x cs) : ∃ A1 n1 c1 A2 n2 c2, cs = [.int .i64 x.k, .int .i64 x.n, .string x.s, .slice A1 n1 c1, .slice A2 n2 c2] := by
  obtain ⟨k, n, s, l, m⟩ := x
  simp only [JR] at h
  obtain ⟨vl, vm, ⟨rfl, _⟩, h1, h2⟩ := h
  rcases h1 with ⟨_, A, c, rfl⟩ | ⟨b, o, c, rfl, _⟩ <;> rcases h2 with ⟨_, A', c', rfl⟩ | ⟨b', o', c', rfl, _⟩ <;> exact ⟨_, _, _, _, _, _, rfl⟩
theorem JR_len {w : World} {F : Nat → Prop} {x : JV} {cs : List Value} (h : JR w F x cs) : cs.length = 5 := by
  obtain ⟨_, _, _, _, _, _, rfl⟩ := JR_form h; rfl
theorem JR_one {w : World} {F : Nat → Prop} {x : JV} {cs : List Value} (h : JR w F x cs) : ∀ u ∈ cs, u.oneCell' = true := by
  obtain ⟨_, _, _, _, _, _, rfl⟩ := JR_form h
  intro u hu
  simp at hu
  rcases hu with rfl | rfl | rfl | rfl | rfl <;> rfl

mutual
theorem JR_bound {w : World} {F : Nat → Prop} : ∀ (x : JV) (cs : List Value), JR w F x cs → JR w (fun k => F k ∧ k < w.heap.size) x cs
  | .mk k n s l m, cs, hx => by
    simp only [JR] at hx ⊢
    obtain ⟨vl, vm, e, h1, h2⟩ := hx
    refine ⟨vl, vm, e, ?_, ?_⟩
    · rcases h1 with h1 | ⟨b, o, c, e1, e2, e3, e4, cs', e5, e6⟩
      · exact .inl h1
      · match l, e1, e3, e5 with
        | [], e1, _, _ => exact .inl ⟨rfl, _, _, e1⟩
        | x :: xs, e1, e3, e5 =>
          refine .inr ⟨b, o, c, e1, ⟨e2, ?_⟩, e3, e4, cs', JRs_bound (x :: xs) cs' e5, e6⟩
          simp only [JRs] at e5
          obtain ⟨c1, r1, rfl, hc1, _⟩ := e5
          have hl := JR_len hc1
          match c1, hl with
          | u :: _, _ => exact World.block_lt_of_cell? w _ (e6 0 u rfl)
    · rcases h2 with h1 | ⟨b, o, c, e1, e2, e3, e4, cs', e5, e6⟩
      · exact .inl h1
      · match m, e1, e3, e5 with
        | [], e1, _, _ => exact .inl ⟨rfl, _, _, e1⟩
        | (nm, x) :: xs, e1, e3, e5 =>
          refine .inr ⟨b, o, c, e1, ⟨e2, ?_⟩, e3, e4, cs', JRm_bound ((nm, x) :: xs) cs' e5, e6⟩
          simp only [JRm] at e5
          obtain ⟨c1, r1, ⟨rfl, _⟩, hc1, _⟩ := e5
          exact World.block_lt_of_cell? w _ (e6 0 _ rfl)
theorem JRs_bound {w : World} {F : Nat → Prop} : ∀ (x : List JV) (cs : List Value), JRs w F x cs → JRs w (fun k => F k ∧ k < w.heap.size) x cs
  | [], cs, hx => by simpa only [JRs] using hx
  | x :: xs, cs, hx => by
    simp only [JRs] at hx ⊢
    obtain ⟨c, r, e, h1, h2⟩ := hx
    exact ⟨c, r, e, JR_bound x c h1, JRs_bound xs r h2⟩
theorem JRm_bound {w : World} {F : Nat → Prop} : ∀ (x : List (ByteArray × JV)) (cs : List Value), JRm w F x cs → JRm w (fun k => F k ∧ k < w.heap.size) x cs
  | [], cs, hx => by simpa only [JRm] using hx
  | (nm, x) :: xs, cs, hx => by
    simp only [JRm] at hx ⊢
    obtain ⟨c, r, e, h1, h2⟩ := hx
    exact ⟨c, r, e, JR_bound x c h1, JRm_bound xs r h2⟩
end

def jvTy : Ty JV where
  sz := 5
  pos := by decide
  R := JR
  len := JR_len
  one := JR_one
  mono := fun h hx => JR_mono h _ _ hx
  frame := fun h hx => JR_frame h _ _ hx
  bound := fun hx => JR_bound _ _ hx

def memTy : Ty (ByteArray × JV) where
  sz := 6
  pos := by decide
  R := fun w F x cs => ∃ c, (cs = .string x.1 :: c ∧ x.1.size ≤ 9223372036854775807) ∧ JR w F x.2 c
  len := by rintro w F x cs ⟨c, ⟨rfl, _⟩, h⟩; simp [JR_len h]
  one := by
    rintro w F x cs ⟨c, ⟨rfl, _⟩, h⟩ u hu
    rcases List.mem_cons.1 hu with rfl | hu
    · rfl
    · exact JR_one h u hu
  mono := by rintro w F F' x cs hF ⟨c, e, h⟩; exact ⟨c, e, JR_mono hF _ _ h⟩
  frame := by rintro w w' F x cs hF ⟨c, e, h⟩; exact ⟨c, e, JR_frame hF _ _ h⟩
  bound := by rintro w F x cs ⟨c, e, h⟩; exact ⟨c, e, JR_bound _ _ h⟩

theorem JRs_chunks {w : World} {F : Nat → Prop} : ∀ (xs : List JV) (cs : List Value), JRs w F xs cs ↔ Chunks jvTy w F xs cs
  | [], cs => by simp only [JRs, Chunks]
  | x :: xs, cs => by
    simp only [JRs, Chunks]
    constructor
    · rintro ⟨c, r, e, h1, h2⟩; exact ⟨c, r, e, h1, (JRs_chunks xs r).1 h2⟩
    · rintro ⟨c, r, e, h1, h2⟩; exact ⟨c, r, e, h1, (JRs_chunks xs r).2 h2⟩
theorem JRm_chunks {w : World} {F : Nat → Prop} : ∀ (xs : List (ByteArray × JV)) (cs : List Value), JRm w F xs cs ↔ Chunks memTy w F xs cs
  | [], cs => by simp only [JRm, Chunks]
  | (nm, x) :: xs, cs => by
    simp only [JRm, Chunks]
    constructor
    · rintro ⟨c, r, ⟨e, hz⟩, h1, h2⟩; exact ⟨.string nm :: c, r, e, ⟨c, ⟨rfl, hz⟩, h1⟩, (JRm_chunks xs r).1 h2⟩
    · rintro ⟨c0, r, e, ⟨c, ⟨e0, hz⟩, h1⟩, h2⟩; exact ⟨c, r, ⟨by rw [e, e0], hz⟩, h1, (JRm_chunks xs r).2 h2⟩

/-- a value's cells -/
theorem JR_iff {w : World} {F : Nat → Prop} {x : JV} {cs : List Value} : JR w F x cs ↔ ∃ vl vm, (cs = [.int .i64 x.k, .int .i64 x.n, .string x.s, vl, vm] ∧ x.s.size ≤ 9223372036854775807) ∧ Sl jvTy w F vl x.l ∧ Sl memTy w F vm x.m := by
  obtain ⟨k, n, s, l, m⟩ := x
  simp only [JR, Sl, JRs_chunks, JRm_chunks]
  rfl

/-- a member's cells -/
theorem mem_cells {w : World} {F : Nat → Prop} {v : Value} {xs : List (ByteArray × JV)} (hs : Sl memTy w F v xs) : ∃ A c, v = .slice A xs.length c ∧ xs.length ≤ 9223372036854775807 ∧ ∀ k nm y, xs[k]? = some (nm, y) → ∃ b o A1 n1 c1 A2 n2 c2, A = some ⟨b, o, none⟩ ∧ nm.size ≤ 9223372036854775807 ∧
    w.cell? ⟨b, o + k * 6, none⟩ = some (.string nm) ∧ w.cell? ⟨b, o + k * 6 + 1, none⟩ = some (.int .i64 y.k) ∧ w.cell? ⟨b, o + k * 6 + 2, none⟩ = some (.int .i64 y.n) ∧ w.cell? ⟨b, o + k * 6 + 3, none⟩ = some (.string y.s) ∧
    w.cell? ⟨b, o + k * 6 + 4, none⟩ = some (.slice A1 n1 c1) ∧ w.cell? ⟨b, o + k * 6 + 5, none⟩ = some (.slice A2 n2 c2) ∧ JR w F y [.int .i64 y.k, .int .i64 y.n, .string y.s, .slice A1 n1 c1, .slice A2 n2 c2] := by
  rcases hs with ⟨rfl, A, c, rfl⟩ | ⟨b, o, c', rfl, _, h3, h4, cs, h1, h2⟩
  · exact ⟨A, c, rfl, by simp, fun k nm y hk => by simp at hk⟩
  · refine ⟨_, _, rfl, by omega, fun k nm y hk => ?_⟩
    obtain ⟨c0, ⟨c1, ⟨rfl, hz⟩, hj⟩, hg⟩ := h1.get k (nm, y) hk
    obtain ⟨A1, n1, c1, A2, n2, c2, rfl⟩ := JR_form hj
    have g := fun i u (hi : (Value.string nm :: [.int .i64 y.k, .int .i64 y.n, .string y.s, .slice A1 n1 c1, .slice A2 n2 c2])[i]? = some u) => h2 _ _ (hg i u hi)
    exact ⟨b, o, A1, n1, c1, A2, n2, c2, rfl, hz, g 0 _ rfl, g 1 _ rfl, g 2 _ rfl, g 3 _ rfl, g 4 _ rfl, g 5 _ rfl, hj⟩
/-- an element's cells -/
theorem val_cells {w : World} {F : Nat → Prop} {v : Value} {xs : List JV} (hs : Sl jvTy w F v xs) : ∃ A c, v = .slice A xs.length c ∧ xs.length ≤ 9223372036854775807 ∧ ∀ k y, xs[k]? = some y → ∃ b o A1 n1 c1 A2 n2 c2, A = some ⟨b, o, none⟩ ∧
    w.cell? ⟨b, o + k * 5, none⟩ = some (.int .i64 y.k) ∧ w.cell? ⟨b, o + k * 5 + 1, none⟩ = some (.int .i64 y.n) ∧ w.cell? ⟨b, o + k * 5 + 2, none⟩ = some (.string y.s) ∧
    w.cell? ⟨b, o + k * 5 + 3, none⟩ = some (.slice A1 n1 c1) ∧ w.cell? ⟨b, o + k * 5 + 4, none⟩ = some (.slice A2 n2 c2) ∧ JR w F y [.int .i64 y.k, .int .i64 y.n, .string y.s, .slice A1 n1 c1, .slice A2 n2 c2] := by
  rcases hs with ⟨rfl, A, c, rfl⟩ | ⟨b, o, c', rfl, _, h3, h4, cs, h1, h2⟩
  · exact ⟨A, c, rfl, by simp, fun k y hk => by simp at hk⟩
  · refine ⟨_, _, rfl, by omega, fun k y hk => ?_⟩
    obtain ⟨c0, hj, hg⟩ := h1.get k y hk
    obtain ⟨A1, n1, c1, A2, n2, c2, rfl⟩ := JR_form hj
    have g := fun i u (hi : [Value.int .i64 y.k, .int .i64 y.n, .string y.s, .slice A1 n1 c1, .slice A2 n2 c2][i]? = some u) => h2 _ _ (hg i u hi)
    exact ⟨b, o, A1, n1, c1, A2, n2, c2, rfl, g 0 _ rfl, g 1 _ rfl, g 2 _ rfl, g 3 _ rfl, g 4 _ rfl, hj⟩
theorem cell_newB (w : World) (cs : Array Value) (t : TypeId) (i : Nat) (v : Value) (h : cs.toList[i]? = some v) : (w.alloc (.cells cs t)).cell? ⟨w.heap.size, i, none⟩ = some v := by
  have := heap_alloc_new w (.cells cs t)
  unfold World.cell?
  simp only [this]
  rw [Array.getElem?_toList] at h
  exact h
end Go.Proofs.YtlihjmfdnkfmfaaGreatDoor
