/- Marks: plain laws of Add; the walk of first. -/
import Derived.Test.YtjjgbgojlhaapaaDoorMkK
namespace Go.Proofs.YtjjgbgojlhaapaaDoor
open Go.RowKit

theorem own_sl {w : World} {base : Nat} {v : Value} {ms : List Mk} {e : TypeId} (h : w.ownsRow base e 2 v ms.length (mkCells ms)) : Sl mkTy w (fun _ => True) v ms :=
  (own_to_sl (T := mkTy) (F := fun _ => False) h (mkCells_chunks w _ ms)).mono (fun _ _ => trivial)

/-! the staircase -/
def stair (l : List Mk) : Prop := l.Pairwise (fun a b => b.t < a.t ∧ a.u < b.u) ∧ ∀ x, x ∈ l → okOne x = true
theorem okFrom_stair : ∀ (l : List Mk) (p : Option Mk), okFrom p l = true ↔ (stair l ∧ ∀ a, p = some a → ∀ x, x ∈ l → x.t < a.t ∧ a.u < x.u)
  | [], p => by simp [okFrom, stair]
  | x :: r, p => by
    have ih := okFrom_stair r (some x)
    have h2 : okFrom p (x :: r) = true ↔ okOne x = true ∧ (∀ a, p = some a → okTwo a x = true) ∧ okFrom (some x) r = true := by
      cases p <;> simp [okFrom, and_assoc]
    rw [h2, ih]
    constructor
    · rintro ⟨ho, hp, ⟨hs1, hs2⟩, hr⟩
      refine ⟨⟨List.pairwise_cons.2 ⟨fun y hy => hr x rfl y hy, hs1⟩, fun y hy => ?_⟩, fun a ha y hy => ?_⟩
      · rcases List.mem_cons.1 hy with rfl | hy
        · exact ho
        · exact hs2 y hy
      · have h3 := hp a ha
        simp [okTwo] at h3
        rcases List.mem_cons.1 hy with rfl | hy
        · exact h3
        · have := hr x rfl y hy; omega
    · rintro ⟨⟨hs1, hs2⟩, hp⟩
      have hc := List.pairwise_cons.1 hs1
      refine ⟨hs2 x (List.mem_cons_self), fun a ha => ?_, ⟨hc.2, fun y hy => hs2 y (List.mem_cons_of_mem _ hy)⟩, fun a ha y hy => ?_⟩
      · have := hp a ha x (List.mem_cons_self); simp [okTwo]; omega
      · obtain rfl := Option.some.inj ha
        exact hc.1 y hy
theorem mayB_iff (l : List Mk) : mayB l = true ↔ stair l ∧ l.length ≤ 8 := by
  unfold mayB
  have := okFrom_stair l none
  simp at this ⊢
  rw [this]
  exact fun _ => Iff.rfl

/-- what marks cover -/
def coveredBy (z : Mk) (l : List Mk) : Prop := ∃ y, y ∈ l ∧ z.t ≤ y.t ∧ z.u ≤ y.u

theorem placeMk_split (ys : List Mk) (m : Mk) : (∀ x, x ∈ ys.take (placeMk ys m) → m.t < x.t) ∧ (∀ x r, ys.drop (placeMk ys m) = x :: r → x.t ≤ m.t) := by
  unfold placeMk
  constructor
  · intro x hx
    obtain ⟨j, hj, rfl⟩ := List.mem_iff_getElem.1 hx
    rw [List.length_take] at hj
    rw [List.getElem_take]
    have := List.not_of_lt_findIdx (p := fun x : Mk => decide (x.t ≤ m.t)) (xs := ys) (i := j) (by omega)
    simpa using this
  · intro x r h
    have hl : (ys.findIdx fun x => decide (x.t ≤ m.t)) < ys.length := by
      rcases Nat.lt_or_ge (ys.findIdx fun x => decide (x.t ≤ m.t)) ys.length with h1 | h1
      · exact h1
      · rw [List.drop_of_length_le h1] at h; cases h
    rw [List.drop_eq_getElem_cons hl] at h
    have e := (List.cons.inj h).1
    have := List.findIdx_getElem (w := hl)
    rw [e] at this
    simpa using this

theorem insMk_stair {xs : List Mk} {m : Mk} (h : stair xs) (hm : okOne m = true) (hd : xs.any (fun x => domB x m) = false) : stair (insMk (xs.filter (fun x => !domB m x)) (placeMk (xs.filter (fun x => !domB m x)) m) m) := by
  have hd' : ∀ x, x ∈ xs → ¬ (m.t ≤ x.t ∧ m.u ≤ x.u) := by
    intro x hx hc
    have := List.any_eq_false.1 hd x hx
    simp [domB] at this; omega
  have hys : stair (xs.filter (fun x => !domB m x)) := ⟨h.1.filter _, fun x hx => h.2 x (List.mem_filter.1 hx).1⟩
  have hnd : ∀ x, x ∈ xs.filter (fun x => !domB m x) → ¬ (x.t ≤ m.t ∧ x.u ≤ m.u) ∧ ¬ (m.t ≤ x.t ∧ m.u ≤ x.u) := by
    intro x hx
    obtain ⟨h1, h2⟩ := List.mem_filter.1 hx
    refine ⟨fun hc => ?_, hd' x h1⟩
    simp [domB] at h2; omega
  generalize xs.filter (fun x => !domB m x) = ys at *
  obtain ⟨hp1, hp2⟩ := placeMk_split ys m
  have hsplit : ys = ys.take (placeMk ys m) ++ ys.drop (placeMk ys m) := (List.take_append_drop _ _).symm
  generalize hA : ys.take (placeMk ys m) = A at *
  generalize hB : ys.drop (placeMk ys m) = B at *
  have hs := hys.1
  rw [hsplit] at hs
  obtain ⟨sA, sB, sAB⟩ := List.pairwise_append.1 hs
  have hBt : ∀ x, x ∈ B → x.t ≤ m.t := by
    cases B with
    | nil => intro x hx; cases hx
    | cons b r =>
      have h0 := hp2 b r rfl
      intro x hx
      rcases List.mem_cons.1 hx with rfl | hx
      · exact h0
      · have := (List.pairwise_cons.1 sB).1 x hx; omega
  have hmem : ∀ x, x ∈ ys ↔ x ∈ A ∨ x ∈ B := by intro x; rw [hsplit]; exact List.mem_append
  show stair (insMk ys (placeMk ys m) m)
  unfold insMk
  rw [hA, hB]
  refine ⟨List.pairwise_append.2 ⟨sA, List.pairwise_cons.2 ⟨fun x hx => ?_, sB⟩, fun a ha b hb => ?_⟩, fun x hx => ?_⟩
  · have h1 := hBt x hx
    have h2 := hnd x ((hmem x).2 (.inr hx))
    omega
  · rcases List.mem_cons.1 hb with rfl | hb
    · have h1 := hp1 a ha
      have h2 := hnd a ((hmem a).2 (.inl ha))
      omega
    · exact sAB a ha b hb
  · rcases List.mem_append.1 hx with hx | hx
    · exact hys.2 x ((hmem x).2 (.inl hx))
    · rcases List.mem_cons.1 hx with rfl | hx
      · exact hm
      · exact hys.2 x ((hmem x).2 (.inr hx))

/-- with a mark more: a staircase again; what was covered is covered, and the mark -/
theorem addMk_ok {xs zs : List Mk} {m : Mk} (h : addMk xs m = (zs, 0)) : mayB xs = true ∧ okOne m = true ∧ mayB zs = true ∧ (∀ z, coveredBy z xs → coveredBy z zs) ∧ coveredBy m zs := by
  unfold addMk at h
  cases h0 : mayB xs && mayB [m] with
  | false => rw [h0] at h; simp at h
  | true =>
    rw [h0] at h
    simp only [if_true] at h
    obtain ⟨hx, hm⟩ : mayB xs = true ∧ mayB [m] = true := by simpa using h0
    have hmo : okOne m = true := ((mayB_iff [m]).1 hm).1.2 m (List.mem_singleton.2 rfl)
    refine ⟨hx, hmo, ?_⟩
    cases h1 : xs.any (fun x => domB x m) with
    | true =>
      rw [h1] at h
      simp only [if_true, Prod.mk.injEq, and_true] at h
      subst h
      refine ⟨hx, fun z hz => hz, ?_⟩
      obtain ⟨x, hxm, hd⟩ := List.any_eq_true.1 h1
      simp [domB] at hd
      exact ⟨x, hxm, hd⟩
    | false =>
      rw [h1] at h
      simp only [Bool.false_eq_true, if_false] at h
      split at h
      · rename_i h8
        simp only [Prod.mk.injEq, and_true] at h
        subst h
        have hst := ((mayB_iff xs).1 hx).1
        refine ⟨(mayB_iff _).2 ⟨insMk_stair hst hmo h1, h8⟩, fun z ⟨y, hy, hz⟩ => ?_, ?_⟩
        · by_cases hd : domB m y = true
          · refine ⟨m, by simp [insMk], ?_⟩
            simp [domB] at hd; omega
          · refine ⟨y, ?_, hz⟩
            have : y ∈ xs.filter (fun x => !domB m x) := List.mem_filter.2 ⟨hy, by simpa using hd⟩
            generalize xs.filter (fun x => !domB m x) = ys at *
            rw [← List.take_append_drop (placeMk ys m) ys] at this
            unfold insMk
            rcases List.mem_append.1 this with h | h
            · exact List.mem_append.2 (.inl h)
            · exact List.mem_append.2 (.inr (List.mem_cons_of_mem _ h))
        · exact ⟨m, by simp [insMk], by omega, by omega⟩
      · simp at h
end Go.Proofs.YtjjgbgojlhaapaaDoor
