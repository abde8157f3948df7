/- Marks: plain laws of Add for RowsCover: what is covered, told twice, in whichever order. -/
import Derived.Test.YtjjgbgojlhaapaaDoorMkL
namespace Go.Proofs.YtjjgbgojlhaapaaDoor
open Go.RowKit

def addRaw (xs : List Mk) (m : Mk) : List Mk :=
  if xs.any (fun x => domB x m) then xs
  else insMk (xs.filter (fun x => !domB m x)) (placeMk (xs.filter (fun x => !domB m x)) m) m
theorem addMk_raw (xs : List Mk) (m : Mk) (h1 : mayB xs = true) (h2 : okOne m = true) (h8 : (addRaw xs m).length ≤ 8) : addMk xs m = (addRaw xs m, 0) := by
  have h2' : mayB [m] = true := (mayB_iff [m]).2 ⟨⟨List.pairwise_singleton _ _, fun x hx => by obtain rfl := List.mem_singleton.1 hx; exact h2⟩, by simp⟩
  unfold addMk
  unfold addRaw at h8 ⊢
  simp only [h1, h2', Bool.and_self, if_true]
  split
  · rfl
  · rename_i h3
    rw [if_neg h3] at h8
    rw [if_pos h8]
theorem addMk_raw' {xs zs : List Mk} {m : Mk} (h : addMk xs m = (zs, 0)) : zs = addRaw xs m := by
  unfold addMk at h
  unfold addRaw
  split at h
  · split at h
    · rename_i h3; rw [if_pos h3]; simpa using h.symm
    · rename_i h3
      rw [if_neg h3]
      simp only at h
      split at h
      · simpa using h.symm
      · simp at h
  · simp at h
theorem addMk_bad {xs zs : List Mk} {m : Mk} {e : Int} (h : addMk xs m = (zs, e)) (he : e ≠ 0) : zs = [] := by
  unfold addMk at h
  split at h
  · split at h
    · simp at h; exact absurd h.2.symm he
    · simp only at h
      split at h
      · simp at h; exact absurd h.2.symm he
      · simp at h; exact h.1
  · simp at h; exact h.1
theorem mem_insMk (ys : List Mk) (i : Nat) (m x : Mk) : x ∈ insMk ys i m ↔ x = m ∨ x ∈ ys := by
  unfold insMk
  rw [List.mem_append, List.mem_cons]
  constructor
  · rintro (h | h | h)
    · exact .inr (List.mem_of_mem_take h)
    · exact .inl h
    · exact .inr (List.mem_of_mem_drop h)
  · rintro (h | h)
    · exact .inr (.inl h)
    · rw [← List.take_append_drop i ys] at h
      rcases List.mem_append.1 h with h | h
      · exact .inl h
      · exact .inr (.inr h)
/-- one mark says all that another one says -/
def Dom (y x : Mk) : Prop := x.t ≤ y.t ∧ x.u ≤ y.u
theorem domB_iff (y x : Mk) : domB y x = true ↔ Dom y x := by simp [domB, Dom]
theorem Dom.anti {x y : Mk} (h : Dom y x) (k : Dom x y) : y = x := by
  cases x; cases y; simp [Dom] at *; omega
theorem Dom.trans {x y z : Mk} (h : Dom z y) (k : Dom y x) : Dom z x := by simp only [Dom] at *; omega
/-- the greatest ones of a set -/
def Top (S : Mk → Prop) (x : Mk) : Prop := S x ∧ ∀ y, S y → Dom y x → y = x
theorem stair_anti {l : List Mk} (h : stair l) {x y : Mk} (hx : x ∈ l) (hy : y ∈ l) (hd : Dom y x) : y = x := by
  obtain ⟨i, hi, rfl⟩ := List.mem_iff_getElem.1 hx
  obtain ⟨j, hj, rfl⟩ := List.mem_iff_getElem.1 hy
  have hp := List.pairwise_iff_getElem.1 h.1
  rcases Nat.lt_trichotomy i j with h1 | h1 | h1
  · have := hp i j hi hj h1; simp only [Dom] at hd; omega
  · subst h1; rfl
  · have := hp j i hj hi h1; simp only [Dom] at hd; omega
theorem addRaw_mem {xs : List Mk} {m : Mk} (h : stair xs) (x : Mk) : x ∈ addRaw xs m ↔ Top (fun y => y ∈ xs ∨ y = m) x := by
  unfold addRaw
  cases h1 : xs.any (fun x => domB x m) with
  | true =>
    obtain ⟨d, hd, hdm⟩ := List.any_eq_true.1 h1
    rw [domB_iff] at hdm
    simp only [if_true]
    constructor
    · intro hx
      refine ⟨.inl hx, fun y hy hyx => ?_⟩
      rcases hy with hy | rfl
      · exact stair_anti h hx hy hyx
      · have e := stair_anti h hx hd (hdm.trans hyx)
        subst e
        exact Dom.anti hyx hdm
    · rintro ⟨hx | rfl, ht⟩
      · exact hx
      · have := ht d (.inl hd) hdm
        subst this; exact hd
  | false =>
    have hn : ∀ y, y ∈ xs → ¬ Dom y m := fun y hy hc => by
      have := List.any_eq_false.1 h1 y hy
      exact this ((domB_iff y m).2 hc)
    simp only [Bool.false_eq_true, if_false]
    rw [mem_insMk, List.mem_filter]
    have hb : ∀ y, (!domB m y) = true ↔ ¬ Dom m y := fun y => by rw [← domB_iff]; simp
    rw [hb]
    constructor
    · rintro (rfl | ⟨hx, hnd⟩)
      · refine ⟨.inr rfl, fun y hy hyx => ?_⟩
        rcases hy with hy | rfl
        · exact absurd hyx (hn y hy)
        · rfl
      · refine ⟨.inl hx, fun y hy hyx => ?_⟩
        rcases hy with hy | rfl
        · exact stair_anti h hx hy hyx
        · exact absurd hyx hnd
    · rintro ⟨hx | rfl, ht⟩
      · by_cases hd : Dom m x
        · have := ht m (.inr rfl) hd
          subst this
          exact .inl rfl
        · exact .inr ⟨hx, hd⟩
      · exact .inl rfl
theorem addRaw_stair {xs : List Mk} {m : Mk} (h : stair xs) (hm : okOne m = true) : stair (addRaw xs m) := by
  unfold addRaw
  cases h1 : xs.any (fun x => domB x m) with
  | true => simpa using h
  | false => simp only [Bool.false_eq_true, if_false]; exact insMk_stair h hm h1
theorem addRaw_cov {xs : List Mk} {m : Mk} (y : Mk) (hy : y ∈ xs ∨ y = m) : ∃ z, z ∈ addRaw xs m ∧ Dom z y := by
  unfold addRaw
  cases h1 : xs.any (fun x => domB x m) with
  | true =>
    obtain ⟨d, hd, hdm⟩ := List.any_eq_true.1 h1
    rw [domB_iff] at hdm
    simp only [if_true]
    rcases hy with hy | rfl
    · exact ⟨y, hy, by simp [Dom]⟩
    · exact ⟨d, hd, hdm⟩
  | false =>
    simp only [Bool.false_eq_true, if_false]
    rcases hy with hy | rfl
    · by_cases hd : Dom m y
      · exact ⟨m, (mem_insMk _ _ _ _).2 (.inl rfl), hd⟩
      · refine ⟨y, (mem_insMk _ _ _ _).2 (.inr (List.mem_filter.2 ⟨hy, ?_⟩)), by simp [Dom]⟩
        rw [← domB_iff] at hd; simpa using hd
    · exact ⟨y, (mem_insMk _ _ _ _).2 (.inl rfl), by simp [Dom]⟩
theorem top_top {S : Mk → Prop} {R : List Mk} {o : Mk} (hR : ∀ x, x ∈ R ↔ Top S x) (hc : ∀ y, S y → ∃ z, z ∈ R ∧ Dom z y) (x : Mk) :
    Top (fun y => y ∈ R ∨ y = o) x ↔ Top (fun y => S y ∨ y = o) x := by
  constructor
  · rintro ⟨hx, ht⟩
    refine ⟨hx.imp (fun h => ((hR x).1 h).1) id, fun y hy hyx => ?_⟩
    rcases hy with hy | rfl
    · obtain ⟨z, hz, hzy⟩ := hc y hy
      have := ht z (.inl hz) (hzy.trans hyx)
      subst this
      exact Dom.anti hyx hzy
    · exact ht y (.inr rfl) hyx
  · rintro ⟨hx, ht⟩
    refine ⟨?_, fun y hy hyx => ?_⟩
    · rcases hx with hx | rfl
      · obtain ⟨z, hz, hzx⟩ := hc x hx
        have := ht z (.inl ((hR z).1 hz).1) hzx
        subst this
        exact .inl hz
      · exact .inr rfl
    · rcases hy with hy | rfl
      · exact ht y (.inl ((hR y).1 hy).1) hyx
      · exact ht y (.inr rfl) hyx
theorem stair_ext : ∀ {a b : List Mk}, stair a → stair b → (∀ x, x ∈ a ↔ x ∈ b) → a = b
  | [], [], _, _, _ => rfl
  | [], y :: b, _, _, h => by have := (h y).2 (List.mem_cons_self); cases this
  | x :: a, [], _, _, h => by have := (h x).1 (List.mem_cons_self); cases this
  | x :: a, y :: b, ha, hb, h => by
    obtain ⟨pa, qa⟩ := List.pairwise_cons.1 ha.1
    obtain ⟨pb, qb⟩ := List.pairwise_cons.1 hb.1
    have e : x = y := by
      rcases List.mem_cons.1 ((h x).1 List.mem_cons_self) with e | h1
      · exact e
      · rcases List.mem_cons.1 ((h y).2 List.mem_cons_self) with e | h2
        · exact e.symm
        · have := pa y h2; have := pb x h1; omega
    subst e
    congr 1
    refine stair_ext ⟨qa, fun z hz => ha.2 z (List.mem_cons_of_mem _ hz)⟩ ⟨qb, fun z hz => hb.2 z (List.mem_cons_of_mem _ hz)⟩ fun z => ?_
    constructor
    · intro hz
      rcases List.mem_cons.1 ((h z).1 (List.mem_cons_of_mem _ hz)) with rfl | h1
      · have := pa z hz; omega
      · exact h1
    · intro hz
      rcases List.mem_cons.1 ((h z).2 (List.mem_cons_of_mem _ hz)) with rfl | h1
      · have := pb z hz; omega
      · exact h1
/-- in whichever order two marks are told -/
theorem addRaw_swap {xs : List Mk} {m o : Mk} (h : stair xs) (hm : okOne m = true) (ho : okOne o = true) : addRaw (addRaw xs m) o = addRaw (addRaw xs o) m := by
  have sm := addRaw_stair h hm
  have so := addRaw_stair h ho
  refine stair_ext (addRaw_stair sm ho) (addRaw_stair so hm) fun x => ?_
  rw [addRaw_mem sm, addRaw_mem so, top_top (addRaw_mem h) addRaw_cov, top_top (addRaw_mem h) addRaw_cov]
  have e : (fun y => (y ∈ xs ∨ y = m) ∨ y = o) = (fun y => (y ∈ xs ∨ y = o) ∨ y = m) := by
    funext y; apply propext; constructor <;> (rintro ((h | h) | h) <;> simp [h])
  rw [e]
/-- told twice -/
theorem addRaw_twice {xs : List Mk} {m : Mk} (h : stair xs) (hm : okOne m = true) : addRaw (addRaw xs m) m = addRaw xs m := by
  have sm := addRaw_stair h hm
  refine stair_ext (addRaw_stair sm hm) sm fun x => ?_
  rw [addRaw_mem sm, top_top (addRaw_mem h) addRaw_cov, addRaw_mem h]
  have e : (fun y => (y ∈ xs ∨ y = m) ∨ y = m) = (fun y => y ∈ xs ∨ y = m) := by
    funext y; apply propext; constructor
    · rintro (h | h)
      · exact h
      · exact .inr h
    · exact .inl
  rw [e]
/-- what is covered -/
theorem addRaw_any (xs : List Mk) (m : Mk) (num when : Int) : (addRaw xs m).any (covB num when) = (xs.any (covB num when) || covB num when m) := by
  have mono : ∀ y z, Dom z y → covB num when y = true → covB num when z = true := by
    intro y z hd hc
    simp only [covB, Bool.and_eq_true, decide_eq_true_eq, Dom] at *; omega
  rw [Bool.eq_iff_iff, Bool.or_eq_true, List.any_eq_true, List.any_eq_true]
  constructor
  · rintro ⟨x, hx, hc⟩
    have : x ∈ xs ∨ x = m := by
      unfold addRaw at hx
      split at hx
      · exact .inl hx
      · rw [mem_insMk, List.mem_filter] at hx
        exact hx.symm.imp And.left id
    rcases this with h | rfl
    · exact .inl ⟨x, h, hc⟩
    · exact .inr hc
  · rintro (⟨x, hx, hc⟩ | hc)
    · obtain ⟨z, hz, hd⟩ := addRaw_cov (m := m) x (.inl hx)
      exact ⟨z, hz, mono x z hd hc⟩
    · obtain ⟨z, hz, hd⟩ := addRaw_cov (xs := xs) m (.inr rfl)
      exact ⟨z, hz, mono m z hd hc⟩
/-- the law RowsCover, plainly -/
theorem cover_law {xs ra : List Mk} {m : Mk} (h : addMk xs m = (ra, 0)) :
    mayB ra = true ∧ (∀ num when, ra.any (covB num when) = (xs.any (covB num when) || covB num when m)) ∧ addMk ra m = (ra, 0) ∧
    ∀ o rc rd, addMk ra o = (rc, 0) → addMk xs o = (rd, 0) → addMk rd m = (rc, 0) := by
  obtain ⟨hx, hm, hra, _, _⟩ := addMk_ok h
  have hst := ((mayB_iff xs).1 hx).1
  have e := addMk_raw' h
  refine ⟨hra, fun num when => by rw [e]; exact addRaw_any _ _ _ _, ?_, fun o rc rd hc hd => ?_⟩
  · have e2 : addRaw ra m = ra := by rw [e]; exact addRaw_twice hst hm
    have := addMk_raw ra m hra hm (by rw [e2]; exact mayB_len hra)
    rw [e2] at this; exact this
  · obtain ⟨_, ho, hrc, _, _⟩ := addMk_ok hc
    obtain ⟨_, _, hrd, _, _⟩ := addMk_ok hd
    have ec := addMk_raw' hc
    have ed := addMk_raw' hd
    have e2 : addRaw rd m = rc := by rw [ed, ec, e]; exact (addRaw_swap hst hm ho).symm
    have := addMk_raw rd m hrd hm (by rw [e2]; exact mayB_len hrc)
    rw [e2] at this; exact this
end Go.Proofs.YtjjgbgojlhaapaaDoor
