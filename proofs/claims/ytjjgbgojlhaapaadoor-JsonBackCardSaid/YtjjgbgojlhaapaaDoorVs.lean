/- json: members in a row and their order; sorted members. -/
import Derived.Test.YtjjgbgojlhaapaaDoorVm
namespace Go.Proofs.YtjjgbgojlhaapaaDoor
open Go.RowKit Go.Lib

inductive All2 {α β : Type} (R : α → β → Prop) : List α → List β → Prop
  | nil : All2 R [] []
  | cons {a : α} {b : β} {xs : List α} {ys : List β} : R a b → All2 R xs ys → All2 R (a :: xs) (b :: ys)
theorem All2.perm {α β : Type} {R : α → β → Prop} {xs xs' : List α} (hp : xs'.Perm xs) : ∀ {ys : List β}, All2 R xs ys → ∃ ys', ys'.Perm ys ∧ All2 R xs' ys' := by
  induction hp with
  | nil => intro ys h; cases h; exact ⟨[], .nil, .nil⟩
  | cons x _ ih =>
    intro ys h
    cases h with
    | cons h1 h2 =>
      obtain ⟨ys', p, q⟩ := ih h2
      exact ⟨_ :: ys', p.cons _, .cons h1 q⟩
  | swap x y l =>
    intro ys h
    cases h with
    | cons h1 h2 =>
      cases h2 with
      | cons h3 h4 => exact ⟨_, .swap _ _ _, .cons h3 (.cons h1 h4)⟩
  | trans _ _ ih1 ih2 =>
    intro ys h
    obtain ⟨ys1, p1, q1⟩ := ih2 h
    obtain ⟨ys2, p2, q2⟩ := ih1 q1
    exact ⟨ys2, p2.trans p1, q2⟩
theorem All2.len {α β : Type} {R : α → β → Prop} {xs : List α} {ys : List β} (h : All2 R xs ys) : xs.length = ys.length := by
  induction h with
  | nil => rfl
  | cons _ _ ih => simp [ih]
def MemR (w : World) (F : Nat → Prop) (m : MC) (v : ByteArray × JV) : Prop := m.nm = v.1 ∧ memTy.R w F v m.cells
theorem chunks_mc {w : World} {F : Nat → Prop} : ∀ {vs : List (ByteArray × JV)} {cs : List Value}, Chunks memTy w F vs cs → ∃ ms : List MC, cs = mcFlat ms ∧ All2 (MemR w F) ms vs
  | [], cs, h => ⟨[], h, .nil⟩
  | (nm, y) :: vs, cs, ⟨c, r, e, hc, hr⟩ => by
    obtain ⟨ms, rfl, h2⟩ := chunks_mc hr
    obtain ⟨c', ⟨rfl, hz⟩, hj⟩ := hc
    obtain ⟨A1, n1, c1, A2, n2, c2, rfl⟩ := JR_form hj
    exact ⟨⟨nm, y.k, y.n, y.s, A1, n1, c1, A2, n2, c2⟩ :: ms, by rw [e]; rfl, .cons ⟨rfl, _, ⟨rfl, hz⟩, hj⟩ h2⟩
theorem mc_chunks {w : World} {F : Nat → Prop} {ms : List MC} {vs : List (ByteArray × JV)} (h : All2 (MemR w F) ms vs) : Chunks memTy w F vs (mcFlat ms) := by
  induction h with
  | nil => rfl
  | cons h1 _ ih => exact ⟨_, _, rfl, h1.2, ih⟩
def SortedNm (l : List (ByteArray × JV)) : Prop := l.Pairwise (fun a b => Op.bytesLess b.1.toList a.1.toList = false)
theorem All2.sorted {w : World} {F : Nat → Prop} {ms : List MC} {vs : List (ByteArray × JV)} (h : All2 (MemR w F) ms vs) (hs : ms.Pairwise (fun a b => Op.bytesLess b.nm.toList a.nm.toList = false)) : SortedNm vs := by
  induction h with
  | nil => exact .nil
  | cons h1 h2 ih =>
    obtain ⟨p1, p2⟩ := List.pairwise_cons.1 hs
    refine List.pairwise_cons.2 ⟨fun b hb => ?_, ih p2⟩
    have key : ∀ {ms : List MC} {vs : List (ByteArray × JV)}, All2 (MemR w F) ms vs → ∀ b ∈ vs, ∃ m ∈ ms, m.nm = b.1 := by
      intro ms vs h
      induction h with
      | nil => intro b hb; cases hb
      | cons h1 _ ih =>
        intro b hb
        rcases List.mem_cons.1 hb with rfl | hb
        · exact ⟨_, List.mem_cons_self, h1.1⟩
        · obtain ⟨m, hm, e⟩ := ih b hb
          exact ⟨m, List.mem_cons_of_mem _ hm, e⟩
    obtain ⟨m, hm, e⟩ := key h2 b hb
    rw [← e, ← h1.1]; exact p1 m hm

/-! the order is one, where names differ -/
theorem insName_perm (m : ByteArray × JV) : ∀ l, (insName m l).Perm (m :: l)
  | [] => .refl _
  | x :: r => by
    simp only [insName]
    split
    · exact .refl _
    · exact ((insName_perm m r).cons x).trans (.swap _ _ _)
theorem sortNames_perm (l : List (ByteArray × JV)) : (sortNames l).Perm l := by
  induction l with
  | nil => exact .refl _
  | cons x l ih => exact (insName_perm x _).trans (ih.cons x)
theorem less_trans {a b c : List UInt8} (h1 : Op.bytesLess a b = true) (h2 : Op.bytesLess b c = true) : Op.bytesLess a c = true := by
  rw [bytesLess_eq] at *; simp at *; exact List.lt_trans h1 h2
theorem le_tr {a b c : List UInt8} (h1 : Op.bytesLess b a = false) (h2 : Op.bytesLess c b = false) : Op.bytesLess c a = false := by
  rw [bytesLess_eq] at *; simp at *; exact List.le_trans h1 h2
theorem less_le {a b : List UInt8} (h1 : Op.bytesLess a b = true) : Op.bytesLess b a = false := by
  rw [bytesLess_eq] at *; simp at *; exact List.le_of_lt h1
theorem le_anti {a b : List UInt8} (h1 : Op.bytesLess a b = false) (h2 : Op.bytesLess b a = false) : a = b := by
  rw [bytesLess_eq] at *; simp at *; exact List.le_antisymm h2 h1
theorem insName_sorted (m : ByteArray × JV) : ∀ l, SortedNm l → SortedNm (insName m l)
  | [], _ => List.pairwise_singleton _ _
  | x :: r, h => by
    obtain ⟨p1, p2⟩ := List.pairwise_cons.1 h
    simp only [insName]
    split
    · rename_i hlt
      refine List.pairwise_cons.2 ⟨fun b hb => ?_, h⟩
      rcases List.mem_cons.1 hb with rfl | hb
      · exact less_le hlt
      · exact le_tr (less_le hlt) (p1 b hb)
    · rename_i hlt
      refine List.pairwise_cons.2 ⟨fun b hb => ?_, insName_sorted m r p2⟩
      rcases List.mem_cons.1 ((insName_perm m r).mem_iff.1 hb) with rfl | hb
      · simpa using hlt
      · exact p1 b hb
theorem sortNames_sorted (l : List (ByteArray × JV)) : SortedNm (sortNames l) := by
  induction l with
  | nil => exact .nil
  | cons x l ih => exact insName_sorted x _ ih
theorem sorted_unique : ∀ {a b : List (ByteArray × JV)}, a.Perm b → SortedNm a → SortedNm b → (a.map (fun m => m.1.toList)).Nodup → a = b
  | [], b, hp, _, _, _ => (List.nil_perm.1 hp).symm
  | x :: a, [], hp, _, _, _ => by have := hp.length_eq; simp at this
  | x :: a, y :: b, hp, ha, hb, hn => by
    obtain ⟨p1, p2⟩ := List.pairwise_cons.1 ha
    obtain ⟨q1, q2⟩ := List.pairwise_cons.1 hb
    have e : x = y := by
      rcases List.mem_cons.1 (hp.mem_iff.1 (List.mem_cons_self (a := x) (l := a))) with e | h1
      · exact e
      · rcases List.mem_cons.1 (hp.mem_iff.2 (List.mem_cons_self (a := y) (l := b))) with e | h2
        · exact e.symm
        · exfalso
          have hxy := le_anti (q1 x h1) (p1 y h2)
          rw [List.map_cons, List.nodup_cons] at hn
          exact hn.1 (List.mem_map.2 ⟨y, h2, hxy.symm⟩)
    subst e
    rw [List.map_cons, List.nodup_cons] at hn
    rw [sorted_unique (List.Perm.cons_inv hp) p2 q2 hn.2]
theorem RowIn.sorted {V : Nat} {va : Value} {vs : List (ByteArray × JV)} {w w' : World} {T : TypeId} {ms ms' : List MC} {cs : List Value} (h1 : w.heap[V]? = some (.cells (mkM va) T (0, 0))) (h2 : w.ownsRow (V + 1) 78 6 va vs.length cs)
    (h3 : All2 (MemR w (fun b => V < b ∧ b < w.heap.size ∧ some b ≠ va.ownBlock)) ms vs) (hp : ms'.Perm ms) (hs : ms'.Pairwise (fun a b => Op.bytesLess b.nm.toList a.nm.toList = false))
    (ho : w'.ownsRow (V + 1) 78 6 va ms'.length (mcFlat ms')) (hg : w.grownBy w' va.ownBlock) :
    ∃ vs', vs'.Perm vs ∧ SortedNm vs' ∧ RowIn T 78 memTy V mkM va vs' w' := by
  obtain ⟨vs', p, q⟩ := All2.perm hp h3
  refine ⟨vs', p, q.sorted hs, (hg.block V (Array.getElem?_eq_some_iff.1 h1).1 ?_).trans h1, mcFlat ms', by rw [← q.len]; exact ho, ?_⟩
  · intro e; have := (h2.lt V e.symm).1; omega
  · exact ((mc_chunks q).frame (w' := w') (fun b hb => hg.block b hb.2.1 hb.2.2)).mono (fun b hb => ⟨hb.1, Nat.lt_of_lt_of_le hb.2.1 hg.size, hb.2.2⟩)
theorem memInfo : (Tryd.prog.info? 78).map (fun i => (i.zero, i.size, i.bytes)) = some (some (.agg #[.string ⟨#[]⟩, .int .i64 0, .int .i64 0, .string ⟨#[]⟩, .slice none 0 0, .slice none 0 0]), 6, 96) := by kernel_rfl
theorem member_new {s : ByteArray} {pv : St → JV × St} {l : List (ByteArray × JV)} {x : St} (h : (memberB s pv l x).2.e = 0) (hn : (l.map (fun m => m.1.toList)).Nodup) : ((l ++ [(memberB s pv l x).1]).map (fun m => m.1.toList)).Nodup := by
  unfold memberB at *
  simp only at *
  generalize (if (x.see s).1 ≠ 34 then (x.see s).2.fail 4 else (x.see s).2) = y at *
  generalize hnm : (⟨(textB s y).1.toArray⟩ : ByteArray) = nm at *
  generalize (textB s y).2 = u at *
  cases hany : l.any (fun m => m.1.toList == nm.toList)
  · rw [List.map_append, List.nodup_append]
    refine ⟨hn, by simp, fun a ha b hb hab => ?_⟩
    obtain ⟨m, hm, rfl⟩ := List.mem_map.1 ha
    have hb' : b = nm.toList := by
      simp only [List.map_cons, List.map_nil, List.mem_singleton] at hb
      rw [hb]
      repeat' split
      all_goals rfl
    have := List.any_eq_false.1 hany m hm
    rw [hab, hb'] at this
    simp at this
  · exfalso
    try rw [hany] at h
    simp only [if_true] at h
    have hz : ¬ (u.fail 4).e = 0 := by unfold St.fail; split <;> rename_i h0 <;> simp [h0]
    rw [if_neg hz, if_neg hz] at h
    exact hz h
end Go.Proofs.YtjjgbgojlhaapaaDoor
