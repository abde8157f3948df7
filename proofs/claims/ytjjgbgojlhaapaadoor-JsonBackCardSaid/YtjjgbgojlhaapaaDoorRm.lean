/- json: plain laws: what is read, may be. -/
import Derived.Test.YtjjgbgojlhaapaaDoorRc
namespace Go.Proofs.YtjjgbgojlhaapaaDoor
open Go.RowKit Go.Lib

theorem fail_not {x : St} {e : Int} (he : e ≠ 0) : (x.fail e).e ≠ 0 := by
  unfold St.fail
  split
  · exact he
  · assumption
theorem ne1 : (1 : Int) ≠ 0 := by decide
theorem number_may {s : ByteArray} {x : St} (h : (numberB s x).2.e = 0) (d : Nat) : mayJ (d + 1) (numberB s x).1 = true := by
  unfold numberB at h ⊢
  generalize anyB s [45] x.p = neg at *
  generalize numStart s _ = y at *
  have hr := numLoop_range s (anyB s [48] y.p) y.p (s.size - y.p) 0 y.p (by omega) (by omega)
  unfold numEnd at h ⊢
  simp only at h ⊢
  split at h
  · exact absurd h (fail_not ne4)
  · split at h
    · exact absurd h (fail_not ne1)
    · refine may_numV ?_ ?_ <;> split <;> omega
theorem see_good {s : ByteArray} {x : St} (h : (x.see s).2.e = 0) : (x.see s).2.p < s.size ∧ byteAt s (x.see s).2.p = (x.see s).1 := by
  unfold St.see at *
  simp only at *
  split at h
  · exact absurd h (fail_not ne2)
  · rename_i h1
    rw [if_neg h1]
    exact ⟨Nat.lt_of_not_le h1, rfl⟩
theorem digit_opens {c : UInt8} (h : c = 45 ∨ isDigit c = true) : opens.contains c = true := by
  have h1 := digit_heads h
  simp only [heads, List.mem_cons, List.not_mem_nil, or_false] at h1
  rcases h1 with rfl | rfl | rfl | rfl | rfl | rfl | rfl | rfl | rfl | rfl | rfl | rfl | rfl | rfl | rfl | rfl | rfl <;> decide
theorem number_none {s : ByteArray} {y : St} (hp : y.p < s.size) (hc : opens.contains (byteAt s y.p) = false) : (numberB s y).2.e ≠ 0 := by
  have h1 : anyB s [45] y.p = false := by
    unfold anyB
    rw [decide_eq_true hp]
    by_cases h : byteAt s y.p = 45
    · rw [digit_opens (.inl h)] at hc; exact absurd hc (by decide)
    · simpa using h
  have h2 : digitB s y.p = false := by
    unfold digitB
    rcases hd : isDigit (byteAt s y.p) with _ | _
    · simp
    · rw [digit_opens (.inr hd)] at hc; exact absurd hc (by decide)
  unfold numberB
  rw [h1, if_neg (show ¬ ((false : Bool) = true) by decide)]
  have hns : numStart s y = y := by
    unfold numStart
    rw [if_neg (by omega)]
  rw [hns]
  unfold numEnd
  simp only [numLoop_stop (s := s) (z := anyB s [48] y.p) (fr := y.p) (p := y.p) (n := 0) (.inl h2)]
  rw [if_pos (.inl trivial)]
  exact fail_not ne4
theorem word_may {s : ByteArray} {l : List UInt8} {k : Int} (hk : k = 1 ∨ k = 2 ∨ k = 3) : ∀ {x : St}, (wordB s l k x).2.e = 0 → ∀ d, mayJ (d + 1) (wordB s l k x).1 = true := fun {x} h d => by
  have key : ∀ (l : List UInt8) (x : St), (wordIn s l x).2.e = 0 → (wordIn s l x).1 = true := fun l => by
    induction l with
    | nil => intro x _; rfl
    | cons c l ih =>
      intro x h
      simp only [wordIn] at h ⊢
      split at h
      · exact absurd h (fail_not ne2)
      · rename_i h1
        rw [if_neg h1]
        split at h
        · exact absurd h (fail_not ne4)
        · rename_i h2
          rw [if_neg h2]
          exact ih _ h
  unfold wordB at h ⊢
  simp only at h ⊢
  rw [if_pos (key l x h)]
  rcases hk with rfl | rfl | rfl <;> (rw [may_succ]; simp [oneB, badK, membersB, rangeB, JV.k, JV.n, JV.s, JV.l, JV.m, short_nil, ByteArray.toList_eq])
theorem list_may {s : ByteArray} {pv : St → JV × St} {d : Nat} (hpv : ∀ x, (pv x).2.e = 0 → mayJ d (pv x).1 = true) : ∀ (f : Nat) (acc : List JV) (x : St), (∀ y ∈ acc, mayJ d y = true) → (listLoop s pv f acc x).2.e = 0 → ∀ y ∈ (listLoop s pv f acc x).1, mayJ d y = true
  | 0, acc, x, ha, _ => ha
  | f + 1, acc, x, ha, h => by
    have more : (pv x).2.e = 0 → ∀ y ∈ acc ++ [(pv x).1], mayJ d y = true := fun h0 y hy => by
      rcases List.mem_append.1 hy with hy | hy
      · exact ha y hy
      · rw [List.mem_singleton.1 hy]; exact hpv x h0
    simp only [listLoop] at h ⊢
    split at h
    · rename_i h1; rw [if_pos h1]; exact ha
    · rename_i h1
      rw [if_neg h1]
      split at h
      · rename_i h2; exact absurd h h2
      · rename_i h2
        have h2' : (pv x).2.e = 0 := Decidable.of_not_not h2
        rw [if_neg h2]
        split at h
        · rename_i h3; rw [if_pos h3]; exact more h2'
        · rename_i h3
          rw [if_neg h3]
          split at h
          · rename_i h4; exact absurd h h4
          · rename_i h4
            rw [if_neg h4]
            exact list_may hpv f _ _ (more h2') h
theorem wants_err {s : ByteArray} {x : St} {c : UInt8} (h : x.e ≠ 0) : (x.wants s c).e ≠ 0 := by
  have h1 : (x.see s).2.e ≠ 0 := by
    have hb : (x.blanks s).e = x.e := rfl
    unfold St.see
    simp only
    split
    · exact fail_not ne2
    · rw [hb]; exact h
  unfold St.wants
  simp only
  rw [if_neg (fun h2 => h1 h2.1)]
  exact h1
theorem member_may {s : ByteArray} {pv : St → JV × St} {d : Nat} (hpv : ∀ x, (pv x).2.e = 0 → mayJ d (pv x).1 = true) {l : List (ByteArray × JV)} {x : St} (h : (memberB s pv l x).2.e = 0) :
    shortB (memberB s pv l x).1.1 = true ∧ mayJ d (memberB s pv l x).1.2 = true ∧ ∀ q ∈ l, q.1.toList ≠ (memberB s pv l x).1.1.toList := by
  have ht : (textB s (if (x.see s).1 ≠ 34 then (x.see s).2.fail 4 else (x.see s).2)).2.e = 0 := Decidable.of_not_not fun h1 => member_text h1 h
  have hv := text_valid s _ ht
  unfold memberB at h ⊢
  simp only at h ⊢
  generalize textB s (if (x.see s).1 ≠ 34 then (x.see s).2.fail 4 else (x.see s).2) = t at *
  cases ha : (l.any fun m => m.1.toList == (⟨t.1.toArray⟩ : ByteArray).toList) with
  | true =>
    rw [ha] at h
    simp only [if_true] at h
    have h4 : (t.2.fail 4).e ≠ 0 := fail_not ne4
    rw [if_neg h4, if_neg h4] at h
    exact absurd h h4
  | false =>
    rw [ha] at h
    simp only [Bool.false_eq_true, if_false] at h ⊢
    rw [if_pos ht] at h ⊢
    have hd : ∀ q ∈ l, q.1.toList ≠ (⟨t.1.toArray⟩ : ByteArray).toList := fun q hq e => by
      have := List.any_eq_false.1 ha q hq
      simp [e] at this
    split at h
    · rename_i h1
      rw [if_pos h1]
      exact ⟨hv, hpv _ h, hd⟩
    · rename_i h1
      exact absurd h h1
/-- names that are apart -/
def NmNe (a b : ByteArray × JV) : Prop := a.1.toList ≠ b.1.toList
theorem obj_may {s : ByteArray} {pv : St → JV × St} {d : Nat} (hpv : ∀ x, (pv x).2.e = 0 → mayJ d (pv x).1 = true) : ∀ (f : Nat) (acc : List (ByteArray × JV)) (x : St), (∀ y ∈ acc, shortB y.1 = true ∧ mayJ d y.2 = true) → acc.Pairwise NmNe → (objLoop s pv f acc x).2.e = 0 →
    (∀ y ∈ (objLoop s pv f acc x).1, shortB y.1 = true ∧ mayJ d y.2 = true) ∧ (objLoop s pv f acc x).1.Pairwise NmNe
  | 0, acc, x, ha, hp, _ => ⟨ha, hp⟩
  | f + 1, acc, x, ha, hp, h => by
    have more : (memberB s pv acc x).2.e = 0 → (∀ y ∈ acc ++ [(memberB s pv acc x).1], shortB y.1 = true ∧ mayJ d y.2 = true) ∧ (acc ++ [(memberB s pv acc x).1]).Pairwise NmNe := fun h0 => by
      have hm := member_may hpv h0
      refine ⟨fun y hy => ?_, ?_⟩
      · rcases List.mem_append.1 hy with hy | hy
        · exact ha y hy
        · rw [List.mem_singleton.1 hy]; exact ⟨hm.1, hm.2.1⟩
      · rw [List.pairwise_append]
        refine ⟨hp, List.pairwise_singleton .., fun a ha b hb => ?_⟩
        rw [List.mem_singleton.1 hb]
        exact hm.2.2 a ha
    simp only [objLoop] at h ⊢
    split at h
    · rename_i h1; rw [if_pos h1]; exact ⟨ha, hp⟩
    · rename_i h1
      rw [if_neg h1]
      split at h
      · rename_i h2; exact absurd h h2
      · rename_i h2
        have h2' : (memberB s pv acc x).2.e = 0 := Decidable.of_not_not h2
        rw [if_neg h2]
        split at h
        · rename_i h3; rw [if_pos h3]; exact more h2'
        · rename_i h3
          rw [if_neg h3]
          split at h
          · rename_i h4; exact absurd h h4
          · rename_i h4
            rw [if_neg h4]
            exact obj_may hpv f _ _ (more h2').1 (more h2').2 h
theorem ins_mem (m q : ByteArray × JV) : ∀ l, q ∈ insName m l ↔ q = m ∨ q ∈ l
  | [] => by simp [insName]
  | x :: r => by
    simp only [insName]
    split
    · simp
    · simp only [List.mem_cons, ins_mem m q r]
      constructor
      · rintro (h | h | h)
        · exact .inr (.inl h)
        · exact .inl h
        · exact .inr (.inr h)
      · rintro (h | h | h)
        · exact .inr (.inl h)
        · exact .inl h
        · exact .inr (.inr h)
theorem sort_mem (q : ByteArray × JV) : ∀ l, q ∈ sortNames l ↔ q ∈ l
  | [] => by simp [sortNames]
  | x :: r => by
    have ih := sort_mem q r
    unfold sortNames at ih ⊢
    rw [List.foldr_cons, ins_mem, ih, List.mem_cons]
theorem lt_of_ne {a b : List UInt8} (h : ¬ a < b) (hn : a ≠ b) : b < a := by
  rcases List.le_iff_lt_or_eq.1 (List.not_lt.1 h) with h1 | h1
  · exact h1
  · exact absurd h1.symm hn
theorem ins_rising (m : ByteArray × JV) : ∀ l : List (ByteArray × JV), l.Pairwise NmLt → (∀ q ∈ l, NmNe m q) → (insName m l).Pairwise NmLt
  | [], _, _ => by simp [insName]
  | x :: r, hp, hn => by
    have hp' := List.pairwise_cons.1 hp
    simp only [insName]
    by_cases hlt : Op.bytesLess m.1.toList x.1.toList = true
    · rw [if_pos hlt]
      have h1 := (less_iff _ _).1 hlt
      refine List.Pairwise.cons (fun q hq => ?_) hp
      rcases List.mem_cons.1 hq with rfl | hq
      · exact h1
      · exact List.lt_trans h1 (hp'.1 q hq)
    · rw [if_neg hlt]
      have h1 : x.1.toList < m.1.toList := lt_of_ne (fun h => hlt ((less_iff _ _).2 h)) (hn x (List.mem_cons_self ..))
      refine List.Pairwise.cons (fun q hq => ?_) (ins_rising m r hp'.2 (fun q hq => hn q (List.mem_cons_of_mem _ hq)))
      rcases (ins_mem m q r).1 hq with rfl | hq
      · exact h1
      · exact hp'.1 q hq
theorem sort_names : ∀ l : List (ByteArray × JV), l.Pairwise NmNe → (sortNames l).Pairwise NmLt
  | [], _ => by simp [sortNames]
  | x :: r, hp => by
    have hp' := List.pairwise_cons.1 hp
    have ih := sort_names r hp'.2
    have hm : ∀ q, q ∈ sortNames r → NmNe x q := fun q hq => hp'.1 q ((sort_mem q r).1 hq)
    unfold sortNames at ih hm ⊢
    rw [List.foldr_cons]
    exact ins_rising x _ ih hm
theorem list_out {d : Nat} {l : List JV} (h : ∀ y ∈ l, mayJ d y = true) : mayJ (d + 1) (listV l) = true := by
  unfold listV
  rw [may_list, List.all_eq_true]
  exact h
theorem obj_out {d : Nat} {m : List (ByteArray × JV)} (h : ∀ y ∈ m, shortB y.1 = true ∧ mayJ d y.2 = true) (hp : m.Pairwise NmNe) : mayJ (d + 1) (objV (sortNames m)) = true := by
  have hmem : ∀ y ∈ sortNames m, shortB y.1 = true ∧ mayJ d y.2 = true := fun y hy => h y ((sort_mem y m).1 hy)
  unfold objV
  rw [may_obj ((members_iff none _).2 ⟨fun q hq => (hmem q hq).1, fun a ha => (by cases ha), sort_names m hp⟩), List.all_eq_true]
  exact fun q hq => (hmem q hq).2
/-- a value that is read may be -/
theorem value_may (s : ByteArray) : ∀ (d : Nat) (x : St), (valueB s d x).2.e = 0 → mayJ d (valueB s d x).1 = true
  | 0, x, h => by
    exfalso
    simp only [valueB] at h
    split at h
    · rename_i h1; exact h1 h
    · rename_i h1
      have h1' : (x.see s).2.e = 0 := Decidable.of_not_not h1
      split at h
      · exact absurd h (fail_not (by decide))
      · rename_i h2
        have hg := see_good h1'
        exact number_none hg.1 (by rw [hg.2]; simpa using h2) h
  | d + 1, x, h => by
    have ih := value_may s d
    simp only [valueB] at h ⊢
    split at h
    · rename_i h1; exact absurd h h1
    · rename_i h1
      rw [if_neg h1]
      split at h
      · rename_i h2
        rw [if_pos h2]
        unfold listB at h ⊢
        simp only at h ⊢
        split at h
        · rename_i h3; rw [if_pos h3]; exact list_out (by simp)
        · rename_i h3; rw [if_neg h3]; exact list_out (list_may ih _ _ _ (by simp) h)
      · rename_i h2
        rw [if_neg h2]
        split at h
        · rename_i h3
          rw [if_pos h3]
          unfold objectB at h ⊢
          simp only at h ⊢
          split at h
          · rename_i h4; rw [if_pos h4]; exact obj_out (m := []) (by simp) (by simp)
          · rename_i h4
            rw [if_neg h4]
            have hm := obj_may ih _ _ _ (by simp) (by simp) h
            exact obj_out hm.1 hm.2
        · rename_i h3
          rw [if_neg h3]
          split at h
          · rename_i h4; rw [if_pos h4]; exact may_wordV (text_valid s _ h)
          · rename_i h4
            rw [if_neg h4]
            split at h
            · rename_i h5; rw [if_pos h5]; exact word_may (by decide) h d
            · rename_i h5
              rw [if_neg h5]
              split at h
              · rename_i h6; rw [if_pos h6]; exact word_may (by decide) h d
              · rename_i h6
                rw [if_neg h6]
                split at h
                · rename_i h7; rw [if_pos h7]; exact word_may (by decide) h d
                · rename_i h7; rw [if_neg h7]; exact number_may h d
theorem endB_zero {s : ByteArray} {y : St} (h : (endB s y).e = 0) : y.e = 0 := Decidable.of_not_not fun h1 => by rw [endB_err h1] at h; exact h1 h
/-- what Parse leaves -/
theorem parse_may {s : ByteArray} (h : (parseB s).2 = 0) : mayJ 64 (parseB s).1 = true := by
  unfold parseB at h ⊢
  split at h
  · exact absurd h (by decide)
  · rename_i h1
    rw [if_neg h1]
    split at h
    · rename_i h2; exact absurd h h2
    · rename_i h2
      rw [if_neg h2]
      exact value_may s 64 _ (endB_zero (Decidable.of_not_not h2))
theorem parse_zeroV {s : ByteArray} (h : (parseB s).2 ≠ 0) : (parseB s).1 = zeroV := by
  unfold parseB at h ⊢
  split at h
  · rename_i h1; rw [if_pos h1]
  · rename_i h1
    rw [if_neg h1]
    split at h
    · rename_i h2; rw [if_pos h2]
    · exact absurd rfl h
end Go.Proofs.YtjjgbgojlhaapaaDoor
