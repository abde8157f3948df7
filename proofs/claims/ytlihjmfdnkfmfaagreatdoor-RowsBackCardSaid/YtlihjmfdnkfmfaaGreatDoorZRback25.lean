/- Parts of the proof: Rm, Sq, Sr, Sp. -/
import Derived.Test.YtlihjmfdnkfmfaaGreatDoorZRback24
import Derived.Test.YtlihjmfdnkfmfaaGreatDoorZRback21
import Derived.Lib.ItoaLen
namespace Go.Proofs.YtlihjmfdnkfmfaaGreatDoor
open Go.RowKit Go.Lib

theorem fail_not {x : St} {e : Int} (he : e ≠ 0) : (x.fail e).e ≠ 0 := by
  unfold St.fail
  split
  · exact he
  · assumption
theorem ne1 : (1 : Int) ≠ 0 := by decide
theorem number_may {s : ByteArray} {x : St} (h : (numberB s x).2.e = 0) (d : Nat) : mayJ (d + 1) (numberB s x).1 = true := by
  unfold numberB at h ⊢
  generalize anyB s [45] x.p = neg at *
  generalize numStart s _ = y at *
  have hr := numLoop_range s (anyB s [48] y.p) y.p (s.size - y.p) 0 y.p (by omega) (by omega)
  unfold numEnd at h ⊢
  simp only at h ⊢
  split at h
  · exact absurd h (fail_not ne4)
  · split at h
    · exact absurd h (fail_not ne1)
    · refine may_numV ?_ ?_ <;> split <;> omega
theorem see_good {s : ByteArray} {x : St} (h : (x.see s).2.e = 0) : (x.see s).2.p < s.size ∧ byteAt s (x.see s).2.p = (x.see s).1 := by
  unfold St.see at *
  simp only at *
  split at h
  · exact absurd h (fail_not ne2)
  · rename_i h1
    rw [if_neg h1]
    exact ⟨Nat.lt_of_not_le h1, rfl⟩
theorem digit_opens {c : UInt8} (h : c = 45 ∨ isDigit c = true) : opens.contains c = true := by
  have h1 := digit_heads h
  simp only [heads, List.mem_cons, List.not_mem_nil, or_false] at h1
  rcases h1 with rfl | rfl | rfl | rfl | rfl | rfl | rfl | rfl | rfl | rfl | rfl | rfl | rfl | rfl | rfl | rfl | rfl <;> decide
theorem number_none {s : ByteArray} {y : St} (hp : y.p < s.size) (hc : opens.contains (byteAt s y.p) = false) : (numberB s y).2.e ≠ 0 := by
  have h1 : anyB s [45] y.p = false := by
    unfold anyB
    rw [decide_eq_true hp]
    by_cases h : byteAt s y.p = 45
    · rw [digit_opens (.inl h)] at hc; exact absurd hc (by decide)
    · simpa using h
  have h2 : digitB s y.p = false := by
    unfold digitB
    rcases hd : isDigit (byteAt s y.p) with _ | _
    · simp
    · rw [digit_opens (.inr hd)] at hc; exact absurd hc (by decide)
  unfold numberB
  rw [h1, if_neg (show ¬ ((false : Bool) = true) by decide)]
  have hns : numStart s y = y := by
    unfold numStart
    rw [if_neg (by omega)]
  rw [hns]
  unfold numEnd
  simp only [numLoop_stop (s := s) (z := anyB s [48] y.p) (fr := y.p) (p := y.p) (n := 0) (.inl h2)]
  rw [if_pos (.inl trivial)]
  exact fail_not ne4
theorem word_may {s : ByteArray} {l : List UInt8} {k : Int} (hk : k = 1 ∨ k = 2 ∨ k = 3) : ∀ {x : St}, (wordB s l k x).2.e = 0 → ∀ d, mayJ (d + 1) (wordB s l k x).1 = true := fun {x} h d => by
  have key : ∀ (l : List UInt8) (x : St), (wordIn s l x).2.e = 0 → (wordIn s l x).1 = true := fun l => by
    induction l with
    | nil => intro x _; rfl
    | cons c l ih =>
      intro x h
      simp only [wordIn] at h ⊢
      split at h
      · exact absurd h (fail_not ne2)
      · rename_i h1
        rw [if_neg h1]
        split at h
        · exact absurd h (fail_not ne4)
        · rename_i h2
          rw [if_neg h2]
          exact ih _ h
  unfold wordB at h ⊢
  simp only at h ⊢
  rw [if_pos (key l x h)]
  rcases hk with rfl | rfl | rfl <;> (rw [may_succ]; simp [oneB, badK, membersB, rangeB, JV.k, JV.n, JV.s, JV.l, JV.m, short_nil, ByteArray.toList_eq])
theorem list_may {s : ByteArray} {pv : St → JV × St} {d : Nat} (hpv : ∀ x, (pv x).2.e = 0 → mayJ d (pv x).1 = true) : ∀ (f : Nat) (acc : List JV) (x : St), (∀ y ∈ acc, mayJ d y = true) → (listLoop s pv f acc x).2.e = 0 → ∀ y ∈ (listLoop s pv f acc x).1, mayJ d y = true
  | 0, acc, x, ha, _ => ha
  | f + 1, acc, x, ha, h => by
    have more : (pv x).2.e = 0 → ∀ y ∈ acc ++ [(pv x).1], mayJ d y = true := fun h0 y hy => by
      rcases List.mem_append.1 hy with hy | hy
      · exact ha y hy
      · rw [List.mem_singleton.1 hy]; exact hpv x h0
    simp only [listLoop] at h ⊢
    split at h
    · rename_i h1; rw [if_pos h1]; exact ha
    · rename_i h1
      rw [if_neg h1]
      split at h
      · rename_i h2; exact absurd h h2
      · rename_i h2
        have h2' : (pv x).2.e = 0 := Decidable.of_not_not h2
        rw [if_neg h2]
        split at h
        · rename_i h3; rw [if_pos h3]; exact more h2'
        · rename_i h3
          rw [if_neg h3]
          split at h
          · rename_i h4; exact absurd h h4
          · rename_i h4
            rw [if_neg h4]
            exact list_may hpv f _ _ (more h2') h
theorem member_may {s : ByteArray} {pv : St → JV × St} {d : Nat} (hpv : ∀ x, (pv x).2.e = 0 → mayJ d (pv x).1 = true) {l : List (ByteArray × JV)} {x : St} (h : (memberB s pv l x).2.e = 0) :
    shortB (memberB s pv l x).1.1 = true ∧ mayJ d (memberB s pv l x).1.2 = true ∧ ∀ q ∈ l, q.1.toList ≠ (memberB s pv l x).1.1.toList := by
  have ht : (textB s (if (x.see s).1 ≠ 34 then (x.see s).2.fail 4 else (x.see s).2)).2.e = 0 := Decidable.of_not_not fun h1 => member_text h1 h
  have hv := text_valid s _ ht
  unfold memberB at h ⊢
  simp only at h ⊢
  generalize textB s (if (x.see s).1 ≠ 34 then (x.see s).2.fail 4 else (x.see s).2) = t at *
  cases ha : (l.any fun m => m.1.toList == (⟨t.1.toArray⟩ : ByteArray).toList) with
  | true =>
    rw [ha] at h
    simp only [if_true] at h
    have h4 : (t.2.fail 4).e ≠ 0 := fail_not ne4
    rw [if_neg h4, if_neg h4] at h
    exact absurd h h4
  | false =>
    rw [ha] at h
    simp only [Bool.false_eq_true, if_false] at h ⊢
    rw [if_pos ht] at h ⊢
    have hd : ∀ q ∈ l, q.1.toList ≠ (⟨t.1.toArray⟩ : ByteArray).toList := fun q hq e => by
      have := List.any_eq_false.1 ha q hq
      simp [e] at this
    split at h
    · rename_i h1
      rw [if_pos h1]
      exact ⟨hv, hpv _ h, hd⟩
    · rename_i h1
      exact absurd h h1
/-- names that are apart -/
def NmNe (a b : ByteArray × JV) : Prop := a.1.toList ≠ b.1.toList
theorem obj_may {s : ByteArray} {pv : St → JV × St} {d : Nat} (hpv : ∀ x, (pv x).2.e = 0 → mayJ d (pv x).1 = true) : ∀ (f : Nat) (acc : List (ByteArray × JV)) (x : St), (∀ y ∈ acc, shortB y.1 = true ∧ mayJ d y.2 = true) → acc.Pairwise NmNe → (objLoop s pv f acc x).2.e = 0 →
    (∀ y ∈ (objLoop s pv f acc x).1, shortB y.1 = true ∧ mayJ d y.2 = true) ∧ (objLoop s pv f acc x).1.Pairwise NmNe
  | 0, acc, x, ha, hp, _ => ⟨ha, hp⟩
  | f + 1, acc, x, ha, hp, h => by
    have more : (memberB s pv acc x).2.e = 0 → (∀ y ∈ acc ++ [(memberB s pv acc x).1], shortB y.1 = true ∧ mayJ d y.2 = true) ∧ (acc ++ [(memberB s pv acc x).1]).Pairwise NmNe := fun h0 => by
      have hm := member_may hpv h0
      refine ⟨fun y hy => ?_, ?_⟩
      · rcases List.mem_append.1 hy with hy | hy
        · exact ha y hy
        · rw [List.mem_singleton.1 hy]; exact ⟨hm.1, hm.2.1⟩
      · rw [List.pairwise_append]
        refine ⟨hp, List.pairwise_singleton .., fun a ha b hb => ?_⟩
        rw [List.mem_singleton.1 hb]
        exact hm.2.2 a ha
    simp only [objLoop] at h ⊢
    split at h
    · rename_i h1; rw [if_pos h1]; exact ⟨ha, hp⟩
    · rename_i h1
      rw [if_neg h1]
      split at h
      · rename_i h2; exact absurd h h2
      · rename_i h2
        have h2' : (memberB s pv acc x).2.e = 0 := Decidable.of_not_not h2
        rw [if_neg h2]
        split at h
        · rename_i h3; rw [if_pos h3]; exact more h2'
        · rename_i h3
          rw [if_neg h3]
          split at h
          · rename_i h4; exact absurd h h4
          · rename_i h4
            rw [if_neg h4]
            exact obj_may hpv f _ _ (more h2').1 (more h2').2 h
theorem ins_mem (m q : ByteArray × JV) : ∀ l, q ∈ insName m l ↔ q = m ∨ q ∈ l
  | [] => by simp [insName]
  | x :: r => by
    simp only [insName]
    split
    · simp
    · simp only [List.mem_cons, ins_mem m q r]
      constructor
      · rintro (h | h | h)
        · exact .inr (.inl h)
        · exact .inl h
        · exact .inr (.inr h)
      · rintro (h | h | h)
        · exact .inr (.inl h)
        · exact .inl h
        · exact .inr (.inr h)
theorem sort_mem (q : ByteArray × JV) : ∀ l, q ∈ sortNames l ↔ q ∈ l
  | [] => by simp [sortNames]
  | x :: r => by
    have ih := sort_mem q r
    unfold sortNames at ih ⊢
    rw [List.foldr_cons, ins_mem, ih, List.mem_cons]
theorem lt_of_ne {a b : List UInt8} (h : ¬ a < b) (hn : a ≠ b) : b < a := by
  rcases List.le_iff_lt_or_eq.1 (List.not_lt.1 h) with h1 | h1
  · exact h1
  · exact absurd h1.symm hn
theorem ins_rising (m : ByteArray × JV) : ∀ l : List (ByteArray × JV), l.Pairwise NmLt → (∀ q ∈ l, NmNe m q) → (insName m l).Pairwise NmLt
  | [], _, _ => by simp [insName]
  | x :: r, hp, hn => by
    have hp' := List.pairwise_cons.1 hp
    simp only [insName]
    by_cases hlt : Op.bytesLess m.1.toList x.1.toList = true
    · rw [if_pos hlt]
      have h1 := (less_iff _ _).1 hlt
      refine List.Pairwise.cons (fun q hq => ?_) hp
      rcases List.mem_cons.1 hq with rfl | hq
      · exact h1
      · exact List.lt_trans h1 (hp'.1 q hq)
    · rw [if_neg hlt]
      have h1 : x.1.toList < m.1.toList := lt_of_ne (fun h => hlt ((less_iff _ _).2 h)) (hn x (List.mem_cons_self ..))
      refine List.Pairwise.cons (fun q hq => ?_) (ins_rising m r hp'.2 (fun q hq => hn q (List.mem_cons_of_mem _ hq)))
      rcases (ins_mem m q r).1 hq with rfl | hq
      · exact h1
      · exact hp'.1 q hq
theorem sort_names : ∀ l : List (ByteArray × JV), l.Pairwise NmNe → (sortNames l).Pairwise NmLt
  | [], _ => by simp [sortNames]
  | x :: r, hp => by
    have hp' := List.pairwise_cons.1 hp
    have ih := sort_names r hp'.2
    have hm : ∀ q, q ∈ sortNames r → NmNe x q := fun q hq => hp'.1 q ((sort_mem q r).1 hq)
    unfold sortNames at ih hm ⊢
    rw [List.foldr_cons]
    exact ins_rising x _ ih hm
theorem list_out {d : Nat} {l : List JV} (h : ∀ y ∈ l, mayJ d y = true) : mayJ (d + 1) (listV l) = true := by
  unfold listV
  rw [may_list, List.all_eq_true]
  exact h
theorem obj_out {d : Nat} {m : List (ByteArray × JV)} (h : ∀ y ∈ m, shortB y.1 = true ∧ mayJ d y.2 = true) (hp : m.Pairwise NmNe) : mayJ (d + 1) (objV (sortNames m)) = true := by
  have hmem : ∀ y ∈ sortNames m, shortB y.1 = true ∧ mayJ d y.2 = true := fun y hy => h y ((sort_mem y m).1 hy)
  unfold objV
  rw [may_obj ((members_iff none _).2 ⟨fun q hq => (hmem q hq).1, fun a ha => (by cases ha), sort_names m hp⟩), List.all_eq_true]
  exact fun q hq => (hmem q hq).2
/-- a value that is read may be -/
theorem value_may (s : ByteArray) : ∀ (d : Nat) (x : St), (valueB s d x).2.e = 0 → mayJ d (valueB s d x).1 = true
  | 0, x, h => by
    exfalso
    simp only [valueB] at h
    split at h
    · rename_i h1; exact h1 h
    · rename_i h1
      have h1' : (x.see s).2.e = 0 := Decidable.of_not_not h1
      split at h
      · exact absurd h (fail_not (by decide))
      · rename_i h2
        have hg := see_good h1'
        exact number_none hg.1 (by rw [hg.2]; simpa using h2) h
  | d + 1, x, h => by
    have ih := value_may s d
    simp only [valueB] at h ⊢
    split at h
    · rename_i h1; exact absurd h h1
    · rename_i h1
      rw [if_neg h1]
      split at h
      · rename_i h2
        rw [if_pos h2]
        unfold listB at h ⊢
        simp only at h ⊢
        split at h
        · rename_i h3; rw [if_pos h3]; exact list_out (by simp)
        · rename_i h3; rw [if_neg h3]; exact list_out (list_may ih _ _ _ (by simp) h)
      · rename_i h2
        rw [if_neg h2]
        split at h
        · rename_i h3
          rw [if_pos h3]
          unfold objectB at h ⊢
          simp only at h ⊢
          split at h
          · rename_i h4; rw [if_pos h4]; exact obj_out (m := []) (by simp) (by simp)
          · rename_i h4
            rw [if_neg h4]
            have hm := obj_may ih _ _ _ (by simp) (by simp) h
            exact obj_out hm.1 hm.2
        · rename_i h3
          rw [if_neg h3]
          split at h
          · rename_i h4; rw [if_pos h4]; exact may_wordV (text_valid s _ h)
          · rename_i h4
            rw [if_neg h4]
            split at h
            · rename_i h5; rw [if_pos h5]; exact word_may (by decide) h d
            · rename_i h5
              rw [if_neg h5]
              split at h
              · rename_i h6; rw [if_pos h6]; exact word_may (by decide) h d
              · rename_i h6
                rw [if_neg h6]
                split at h
                · rename_i h7; rw [if_pos h7]; exact word_may (by decide) h d
                · rename_i h7; rw [if_neg h7]; exact number_may h d
theorem endB_zero {s : ByteArray} {y : St} (h : (endB s y).e = 0) : y.e = 0 := Decidable.of_not_not fun h1 => by rw [endB_err h1] at h; exact h1 h
/-- what Parse leaves -/
theorem parse_may {s : ByteArray} (h : (parseB s).2 = 0) : mayJ 64 (parseB s).1 = true := by
  unfold parseB at h ⊢
  split at h
  · exact absurd h (by decide)
  · rename_i h1
    rw [if_neg h1]
    split at h
    · rename_i h2; exact absurd h h2
    · rename_i h2
      rw [if_neg h2]
      exact value_may s 64 _ (endB_zero (Decidable.of_not_not h2))
theorem parse_zeroV {s : ByteArray} (h : (parseB s).2 ≠ 0) : (parseB s).1 = zeroV := by
  unfold parseB at h ⊢
  split at h
  · rename_i h1; rw [if_pos h1]
  · rename_i h1
    rw [if_neg h1]
    split at h
    · rename_i h2; rw [if_pos h2]
    · exact absurd rfl h
end Go.Proofs.YtlihjmfdnkfmfaaGreatDoor
namespace Go.Proofs.YtlihjmfdnkfmfaaGreatDoor
open Go.RowKit Go.Lib

/-- what a row's text says of a member: its text, its number -/
def gS (s nm : ByteArray) : ByteArray := (getB nm (memsOf (parseB s).1)).1.s
def gN (s nm : ByteArray) : Int := (getB nm (memsOf (parseB s).1)).1.n
theorem may_text : ∀ {d : Nat} {x : JV}, mayJ d x = true → x.s.size ≤ 8000
  | 0, _, h => absurd h (by simp [mayJ])
  | d + 1, x, h => by
    cases shape_of h with
    | word k hk => exact Nat.zero_le _
    | num m hmr => exact Nat.zero_le _
    | text u hu => exact (short_len hu).2
    | list l hl => exact Nat.zero_le _
    | obj m hmm hl => exact Nat.zero_le _
theorem may_mem {d : Nat} {x : JV} (h : mayJ (d + 1) x = true) : ∀ q ∈ memsOf x, mayJ d q.2 = true := by
  intro q hq
  unfold memsOf at hq
  split at hq
  case isFalse => cases hq
  rename_i hk
  cases shape_of h with
  | word k hk' => exact absurd hq (by simp [JV.m])
  | num m hmr => exact absurd hk (by simp [numV, JV.k])
  | text u hu => exact absurd hk (by simp [wordV, JV.k])
  | list l hl => exact absurd hk (by simp [listV, JV.k])
  | obj m hmm hl => exact hl q hq
theorem getB_or (nm : ByteArray) : ∀ l : List (ByteArray × JV), (getB nm l).1 = zeroV ∨ ∃ q ∈ l, (getB nm l).1 = q.2
  | [] => .inl rfl
  | q :: l => by
    unfold getB
    split
    · exact .inr ⟨q, List.mem_cons_self .., rfl⟩
    · rcases getB_or nm l with h | ⟨r, hr, h⟩
      · exact .inl h
      · exact .inr ⟨r, List.mem_cons_of_mem _ hr, h⟩
/-- what a member of what is read is: nothing, or a value that may be -/
theorem get_may (s nm : ByteArray) : (getB nm (memsOf (parseB s).1)).1 = zeroV ∨ mayJ 63 (getB nm (memsOf (parseB s).1)).1 = true := by
  by_cases he : (parseB s).2 = 0
  · rcases getB_or nm (memsOf (parseB s).1) with h | ⟨q, hq, h⟩
    · exact .inl h
    · exact .inr (by rw [h]; exact may_mem (parse_may he) q hq)
  · rw [parse_zeroV he]
    exact .inl (by unfold memsOf; split <;> rfl)
theorem gS_size (s nm : ByteArray) : (gS s nm).size ≤ 8000 := by
  unfold gS
  rcases get_may s nm with h | h
  · rw [h]; exact Nat.zero_le _
  · exact may_text h
/-- is the row just what is printed? -/
def isRow (ok : Bool) (x : JV) (s : ByteArray) : Bool := (ok && mayJ 64 x) && (printB 64 x == s.toList)
theorem print_inj {x y : JV} (hx : mayJ 64 x = true) (hy : mayJ 64 y = true) (lx : (printB 64 x).length ≤ 20000) (ly : (printB 64 y).length ≤ 20000) (h : printB 64 x = printB 64 y) : x = y := by
  have h1 := parse_print hx lx
  rw [h, parse_print hy ly] at h1
  exact (congrArg Prod.fst h1).symm
theorem len600 {d : Nat} {x : JV} (h : 0 < countB d x 600) (hm : mayJ 64 x = true) : (printB 64 x).length ≤ 20000 := by
  have := count_len d 64 x 600 hm h
  omega
theorem feed_short {n : Int} {t : ByteArray} (hk : feedOk n t = true) (hm : mayJ 64 (feedO n t) = true) : (printB 64 (feedO n t)).length ≤ 20000 := by
  have ht : t.size ≤ 500 := by
    simp only [feedOk, short5R, Bool.and_eq_true, decide_eq_true_eq] at hk
    exact hk.2.1
  refine len600 (d := 2) ?_ hm
  have h1 := cap_le t
  have h2 := cap_le nmN
  have h3 := cap_le nmTitle
  have h4 := cap_le ⟨#[]⟩
  have e2 : nmN.size = 1 := by decide
  have e3 : nmTitle.size = 5 := by decide
  have e4 : (⟨#[]⟩ : ByteArray).size = 0 := rfl
  simp only [feedO, countB, cntL, JV.m, JV.l, JV.s, numV, wordV]
  (repeat' split) <;> omega
theorem state_short {r s : Int} (hm : mayJ 64 (stateO r s) = true) : (printB 64 (stateO r s)).length ≤ 20000 := by
  refine len600 (d := 2) ?_ hm
  have h2 := cap_le nmRead
  have h3 := cap_le nmStar
  have h4 := cap_le ⟨#[]⟩
  have e2 : nmRead.size = 4 := by decide
  have e3 : nmStar.size = 4 := by decide
  have e4 : (⟨#[]⟩ : ByteArray).size = 0 := rfl
  simp only [stateO, countB, cntL, JV.m, JV.l, JV.s, numV]
  (repeat' split) <;> omega
theorem sub_short {f : ByteArray} (hk : subOk f = true) (hm : mayJ 64 (subO f) = true) : (printB 64 (subO f)).length ≤ 20000 := by
  have ht : f.size ≤ 20 := by
    simp only [subOk, nameB, Bool.or_eq_true, Bool.and_eq_true, decide_eq_true_eq, List.isEmpty_iff] at hk
    rcases hk with hk | hk
    · have := nm_len f; rw [hk] at this; simp at this; omega
    · exact hk.2.2
  refine len600 (d := 2) ?_ hm
  have h1 := cap_le f
  have h2 := cap_le nmFolder
  have h4 := cap_le ⟨#[]⟩
  have e2 : nmFolder.size = 6 := by decide
  have e4 : (⟨#[]⟩ : ByteArray).size = 0 := rfl
  simp only [subO, countB, cntL, JV.m, JV.l, JV.s, wordV]
  (repeat' split) <;> omega
theorem sub_len' {f : ByteArray} (hf : f.size ≤ 20000) (hm : mayJ 64 (subO f) = true) : (printB 64 (subO f)).length ≤ 1000000000 := by
  refine obj_len (d := 2) ?_ hm
  have h1 := cap_le f
  have h3 := cap_le nmFolder
  have h4 := cap_le ⟨#[]⟩
  have e3 : nmFolder.size = 6 := by decide
  have e4 : (⟨#[]⟩ : ByteArray).size = 0 := rfl
  simp only [subO, countB, cntL, JV.m, JV.l, JV.s, wordV]
  (repeat' split) <;> omega
end Go.Proofs.YtlihjmfdnkfmfaaGreatDoor
namespace Go.Proofs.YtlihjmfdnkfmfaaGreatDoor
open Go.RowKit Go.Lib

def gV (s nm : ByteArray) : JV := (getB nm (memsOf (parseB s).1)).1
theorem marks_short {xs : List Mk} (h : xs.length ≤ 8) (hm : mayJ 64 (marksO xs) = true) : (printB 64 (marksO xs)).length ≤ 20000 := by
  refine len600 (d := 4) ?_ hm
  have h3 := cap_le nmMarks
  have e3 : nmMarks.size = 5 := by decide
  have h0 := (cap_range nmMarks).1
  simp only [marksO, marksV]
  rw [countB]
  simp only [JV.m, JV.l, JV.s, cntL, cap_zero]
  rw [if_pos (by omega)]
  rw [countB]
  simp only [JV.m, JV.l, JV.s, cntL, cap_zero]
  rw [mark_cnt xs _ (by omega)]
  omega
theorem entry_short {g l t : ByteArray} {n : Int} (hk : entryOk g l t n = true) : (printB 64 (entryO g l t n)).length ≤ 20000 := by
  simp only [entryOk, short5R, Bool.and_eq_true, decide_eq_true_eq] at hk
  obtain ⟨⟨⟨⟨⟨_, hg, vg⟩, hl, vl⟩, ht, vt⟩, h0⟩, h1⟩ := hk
  have qg := quoteB_len vg
  have ql := quoteB_len vl
  have qt := quoteB_len vt
  have e1 : (quoteB nmGuid).length = 6 := by decide +kernel
  have e2 : (quoteB nmLink).length = 6 := by decide +kernel
  have e3 : (quoteB nmTitle).length = 7 := by decide +kernel
  have e4 : (quoteB nmWhen).length = 6 := by decide +kernel
  have l1 := Lib.itoa_length_le n (by omega) (by omega)
  rw [entryO, print_obj]
  simp only [joinFrom, if_true, List.length_cons, List.length_append, List.append_nil, List.length_nil, Bool.false_eq_true, if_false, print_wordV, print_numV, e1, e2, e3, e4]
  omega
/-! what a printed object's text says -/
theorem gV_print {x : JV} (hk : x.k = 7) (hm : mayJ 64 x = true) (hl : (printB 64 x).length ≤ 20000) (nm : ByteArray) : gV ⟨(printB 64 x).toArray⟩ nm = (getB nm x.m).1 := by
  unfold gV memsOf
  rw [parse_print hm hl]
  simp only
  rw [if_pos hk]
theorem gS_eq (s nm : ByteArray) : gS s nm = (gV s nm).s := rfl
theorem gN_eq (s nm : ByteArray) : gN s nm = (gV s nm).n := rfl
/-- a text that is a row is just that row's text -/
theorem isRow_iff {ok : Bool} {x : JV} {s : ByteArray} : isRow ok x s = true ↔ ok = true ∧ mayJ 64 x = true ∧ s = ⟨(printB 64 x).toArray⟩ := by
  unfold isRow
  simp only [Bool.and_eq_true, beq_iff_eq]
  constructor
  · rintro ⟨⟨h1, h2⟩, h3⟩
    refine ⟨h1, h2, ?_⟩
    rw [h3, ByteArray.toList_eq]
  · rintro ⟨h1, h2, h3⟩
    refine ⟨⟨h1, h2⟩, ?_⟩
    rw [h3, ByteArray.toList_eq]
/-! marks -/
def mkOf (x : JV) : Mk := ⟨(x.l.getD 0 zeroV).n, (x.l.getD 1 zeroV).n⟩
def pairB (x : JV) : Bool := x.l.length == 2
/-- what a text says as marks: the program's way -/
def getMarksB (s : ByteArray) : List Mk × Bool :=
  if (gV s nmMarks).l.all pairB && isRow (mayB ((gV s nmMarks).l.map mkOf)) (marksO ((gV s nmMarks).l.map mkOf)) s then ((gV s nmMarks).l.map mkOf, true) else ([], false)
/-- the document's way -/
def refMarksB (s : ByteArray) : List Mk × Bool :=
  if isRow (mayB ((((gV s nmMarks).l.take 9).filter pairB).map mkOf)) (marksO ((((gV s nmMarks).l.take 9).filter pairB).map mkOf)) s then ((((gV s nmMarks).l.take 9).filter pairB).map mkOf, true) else ([], false)
theorem map_mkOf (xs : List Mk) : (xs.map markV).map mkOf = xs := by
  rw [List.map_map]
  exact List.map_id _
theorem all_markV (xs : List Mk) : (xs.map markV).all pairB = true := by
  rw [List.all_eq_true]
  intro x hx
  obtain ⟨m, _, rfl⟩ := List.mem_map.1 hx
  rfl
theorem gV_marks {xs : List Mk} {s : ByteArray} (hk : mayB xs = true) (hm : mayJ 64 (marksO xs) = true) (hs : s = ⟨(printB 64 (marksO xs)).toArray⟩) : (gV s nmMarks).l = xs.map markV := by
  rw [hs, gV_print rfl hm (marks_short (mayB_len hk) hm)]
  have e : getB nmMarks (marksO xs).m = (marksV xs, true) := by
    show getB nmMarks [(nmMarks, marksV xs)] = _
    unfold getB
    rw [if_pos (by simp)]
  rw [e]
  rfl
theorem marks_row (s : ByteArray) (xs : List Mk) (h : isRow (mayB xs) (marksO xs) s = true) : getMarksB s = (xs, true) ∧ refMarksB s = (xs, true) := by
  obtain ⟨h1, h2, h3⟩ := isRow_iff.1 h
  have hv := gV_marks h1 h2 h3
  have h8 := mayB_len h1
  constructor
  · unfold getMarksB
    rw [hv, map_mkOf, all_markV, h]
    rfl
  · unfold refMarksB
    rw [hv, List.take_of_length_le (by rw [List.length_map]; omega), List.filter_eq_self.2 (by
      intro x hx
      obtain ⟨m, _, rfl⟩ := List.mem_map.1 hx
      rfl), map_mkOf, h]
    rfl
/-- two rows with unlike first names are unlike -/
theorem row_other {ok : Bool} {x y : JV} (hx : x.k = 7 ∧ mayJ 64 x = true ∧ (printB 64 x).length ≤ 20000) (hy : ok = true → mayJ 64 y = true → (printB 64 y).length ≤ 20000) (hne : x.m.map (·.1) ≠ y.m.map (·.1)) : isRow ok y ⟨(printB 64 x).toArray⟩ = false := by
  cases h : isRow ok y ⟨(printB 64 x).toArray⟩ with
  | false => rfl
  | true =>
    exfalso
    obtain ⟨h1, h2, h3⟩ := isRow_iff.1 h
    have h4 : printB 64 x = printB 64 y := by
      have := congrArg ByteArray.toList h3
      rw [ByteArray.toList_eq, ByteArray.toList_eq] at this
      simpa using this
    have h5 := print_inj hx.2.1 h2 hx.2.2 (hy h1 h2) h4
    exact hne (by rw [h5])
end Go.Proofs.YtlihjmfdnkfmfaaGreatDoor
namespace Go.Proofs.YtlihjmfdnkfmfaaGreatDoor
open Go.RowKit Go.Lib

def isF (s : ByteArray) : Bool := isRow (feedOk (gN s nmN) (gS s nmTitle)) (feedO (gN s nmN) (gS s nmTitle)) s
def isE (s : ByteArray) : Bool := isRow (entryOk (gS s nmGuid) (gS s nmLink) (gS s nmTitle) (gN s nmWhen)) (entryO (gS s nmGuid) (gS s nmLink) (gS s nmTitle) (gN s nmWhen)) s
def isU (s : ByteArray) : Bool := isRow (subOk (gS s nmFolder)) (subO (gS s nmFolder)) s
def isT (s : ByteArray) : Bool := isRow (stateOk (gN s nmRead) (gN s nmStar)) (stateO (gN s nmRead) (gN s nmStar)) s
/-- none of the other kinds -/
theorem back_none {x : JV} (hk : x.k = 7) (hm : mayJ 64 x = true) (hl : (printB 64 x).length ≤ 20000) :
    (x.m.map (·.1) ≠ [nmN, nmTitle] → isF ⟨(printB 64 x).toArray⟩ = false) ∧ (x.m.map (·.1) ≠ [nmGuid, nmLink, nmTitle, nmWhen] → isE ⟨(printB 64 x).toArray⟩ = false) ∧
    (x.m.map (·.1) ≠ [nmFolder] → isU ⟨(printB 64 x).toArray⟩ = false) ∧ (x.m.map (·.1) ≠ [nmRead, nmStar] → isT ⟨(printB 64 x).toArray⟩ = false) ∧
    (x.m.map (·.1) ≠ [nmMarks] → getMarksB ⟨(printB 64 x).toArray⟩ = ([], false)) := by
  refine ⟨fun h => row_other ⟨hk, hm, hl⟩ (fun h1 h2 => feed_short h1 h2) h, fun h => row_other ⟨hk, hm, hl⟩ (fun h1 _ => entry_short h1) h, fun h => row_other ⟨hk, hm, hl⟩ (fun h1 h2 => sub_short h1 h2) h,
    fun h => row_other ⟨hk, hm, hl⟩ (fun _ h2 => state_short h2) h, fun h => ?_⟩
  unfold getMarksB
  rw [row_other ⟨hk, hm, hl⟩ (fun h1 h2 => marks_short (mayB_len h1) h2) h, Bool.and_false]
  rfl
theorem get1 (nm : ByteArray) (x : JV) (l : List (ByteArray × JV)) : getB nm ((nm, x) :: l) = (x, true) := by unfold getB; rw [if_pos (by simp)]
theorem get2 {nm nm' : ByteArray} (x : JV) (l : List (ByteArray × JV)) (h : (nm'.toList == nm.toList) = false) : getB nm ((nm', x) :: l) = getB nm l := by rw [getB, h, if_neg Bool.false_ne_true]
theorem self_row {ok : Bool} {x : JV} (hk : ok = true) (hm : mayJ 64 x = true) : isRow ok x ⟨(printB 64 x).toArray⟩ = true := isRow_iff.2 ⟨hk, hm, rfl⟩
theorem back_feed {n : Int} {t : ByteArray} (hk : feedOk n t = true) (hm : mayJ 64 (feedO n t) = true) {s : ByteArray} (hs : s = ⟨(printB 64 (feedO n t)).toArray⟩) :
    gN s nmN = n ∧ gS s nmTitle = t ∧ isF s = true ∧ isE s = false ∧ isU s = false ∧ isT s = false ∧ getMarksB s = ([], false) := by
  have hl := feed_short hk hm
  have h1 : gN s nmN = n := by rw [gN_eq, hs, gV_print rfl hm hl]; show (getB nmN [(nmN, numV n), (nmTitle, wordV t)]).1.n = n; rw [get1]; rfl
  have h2 : gS s nmTitle = t := by rw [gS_eq, hs, gV_print rfl hm hl]; show (getB nmTitle [(nmN, numV n), (nmTitle, wordV t)]).1.s = t; rw [get2 _ _ (by decide +kernel), get1]; rfl
  have hb := back_none rfl hm hl
  rw [← hs] at hb
  refine ⟨h1, h2, ?_, hb.2.1 ?_, hb.2.2.1 ?_, hb.2.2.2.1 ?_, hb.2.2.2.2 ?_⟩
  · unfold isF; rw [h1, h2, hs]; exact self_row hk hm
  all_goals (show [nmN, nmTitle] ≠ _; decide +kernel)
theorem back_entry {g l t : ByteArray} {n : Int} (hk : entryOk g l t n = true) (hm : mayJ 64 (entryO g l t n) = true) {s : ByteArray} (hs : s = ⟨(printB 64 (entryO g l t n)).toArray⟩) :
    (gS s nmGuid = g ∧ gS s nmLink = l ∧ gS s nmTitle = t ∧ gN s nmWhen = n) ∧ isE s = true ∧ isF s = false ∧ isU s = false ∧ isT s = false ∧ getMarksB s = ([], false) := by
  have hl := entry_short hk
  have hv : ∀ nm, gV s nm = (getB nm [(nmGuid, wordV g), (nmLink, wordV l), (nmTitle, wordV t), (nmWhen, numV n)]).1 := fun nm => by rw [hs, gV_print rfl hm hl]; rfl
  have h1 : gS s nmGuid = g := by rw [gS_eq, hv, get1]; rfl
  have h2 : gS s nmLink = l := by rw [gS_eq, hv, get2 _ _ (by decide +kernel), get1]; rfl
  have h3 : gS s nmTitle = t := by rw [gS_eq, hv, get2 _ _ (by decide +kernel), get2 _ _ (by decide +kernel), get1]; rfl
  have h4 : gN s nmWhen = n := by rw [gN_eq, hv, get2 _ _ (by decide +kernel), get2 _ _ (by decide +kernel), get2 _ _ (by decide +kernel), get1]; rfl
  have hb := back_none rfl hm hl
  rw [← hs] at hb
  refine ⟨⟨h1, h2, h3, h4⟩, ?_, hb.1 ?_, hb.2.2.1 ?_, hb.2.2.2.1 ?_, hb.2.2.2.2 ?_⟩
  · unfold isE; rw [h1, h2, h3, h4, hs]; exact self_row hk hm
  all_goals (show [nmGuid, nmLink, nmTitle, nmWhen] ≠ _; decide +kernel)
theorem back_sub {f : ByteArray} (hk : subOk f = true) (hm : mayJ 64 (subO f) = true) {s : ByteArray} (hs : s = ⟨(printB 64 (subO f)).toArray⟩) :
    gS s nmFolder = f ∧ isU s = true ∧ isF s = false ∧ isE s = false ∧ isT s = false ∧ getMarksB s = ([], false) := by
  have hl := sub_short hk hm
  have h1 : gS s nmFolder = f := by rw [gS_eq, hs, gV_print rfl hm hl]; show (getB nmFolder [(nmFolder, wordV f)]).1.s = f; rw [get1]; rfl
  have hb := back_none rfl hm hl
  rw [← hs] at hb
  refine ⟨h1, ?_, hb.1 ?_, hb.2.1 ?_, hb.2.2.2.1 ?_, hb.2.2.2.2 ?_⟩
  · unfold isU; rw [h1, hs]; exact self_row hk hm
  all_goals (show [nmFolder] ≠ _; decide +kernel)
theorem back_state {a b : Int} (hk : stateOk a b = true) (hm : mayJ 64 (stateO a b) = true) {s : ByteArray} (hs : s = ⟨(printB 64 (stateO a b)).toArray⟩) :
    (gN s nmRead = a ∧ gN s nmStar = b) ∧ isT s = true ∧ isF s = false ∧ isE s = false ∧ isU s = false ∧ getMarksB s = ([], false) := by
  have hl := state_short hm
  have hv : ∀ nm, gV s nm = (getB nm [(nmRead, numV a), (nmStar, numV b)]).1 := fun nm => by rw [hs, gV_print rfl hm hl]; rfl
  have h1 : gN s nmRead = a := by rw [gN_eq, hv, get1]; rfl
  have h2 : gN s nmStar = b := by rw [gN_eq, hv, get2 _ _ (by decide +kernel), get1]; rfl
  have hb := back_none rfl hm hl
  rw [← hs] at hb
  refine ⟨⟨h1, h2⟩, ?_, hb.1 ?_, hb.2.1 ?_, hb.2.2.1 ?_, hb.2.2.2.2 ?_⟩
  · unfold isT; rw [h1, h2, hs]; exact self_row hk hm
  all_goals (show [nmRead, nmStar] ≠ _; decide +kernel)
theorem back_marks {xs : List Mk} (hk : mayB xs = true) (hm : mayJ 64 (marksO xs) = true) {s : ByteArray} (hs : s = ⟨(printB 64 (marksO xs)).toArray⟩) :
    getMarksB s = (xs, true) ∧ isF s = false ∧ isE s = false ∧ isU s = false ∧ isT s = false := by
  have hb := back_none rfl hm (marks_short (mayB_len hk) hm)
  rw [← hs] at hb
  refine ⟨(marks_row s xs (by rw [hs]; exact self_row hk hm)).1, hb.1 ?_, hb.2.1 ?_, hb.2.2.1 ?_, hb.2.2.2.1 ?_⟩
  all_goals (show [nmMarks] ≠ _; decide +kernel)
end Go.Proofs.YtlihjmfdnkfmfaaGreatDoor
