/- Parts of the proof: Rp, Gp. -/
import Derived.Test.YtjjgbgojlhaapaaDoorZWrites17
import Derived.Test.YtjjgbgojlhaapaaDoorZWrites19
import Derived.Test.YtjjgbgojlhaapaaDoorZWrites22
namespace Go.Proofs.YtjjgbgojlhaapaaDoor
open Go.RowKit Go.Lib

theorem bytes_nil {s : ByteArray} (h : s.toList.isEmpty = true) : s = ⟨#[]⟩ := by
  rw [ByteArray.toList_eq, List.isEmpty_iff] at h
  apply ByteArray.ext
  apply Array.eq_empty_of_size_eq_zero
  have := congrArg List.length h
  simpa using this
/-- what a value that may be looks like -/
inductive Shape (d : Nat) : JV → Prop
  | word (k : Int) (h : k = 1 ∨ k = 2 ∨ k = 3) : Shape d (.mk k 0 ⟨#[]⟩ [] [])
  | num (n : Int) (h : -9007199254740991 ≤ n ∧ n ≤ 9007199254740991) : Shape d (numV n)
  | text (s : ByteArray) (h : shortB s = true) : Shape d (wordV s)
  | list (l : List JV) (h : ∀ y ∈ l, mayJ d y = true) : Shape d (listV l)
  | obj (m : List (ByteArray × JV)) (hm : membersB none m = true) (h : ∀ q ∈ m, mayJ d q.2 = true) : Shape d (objV m)
theorem shape_of {d : Nat} {x : JV} (h : mayJ (d + 1) x = true) : Shape d x := by
  obtain ⟨k, n, s, l, m⟩ := x
  rw [may_succ] at h
  simp only [Bool.and_eq_true, JV.l, JV.m, List.all_eq_true] at h
  obtain ⟨⟨h1, h2⟩, h3⟩ := h
  unfold oneB at h1
  simp only [Bool.and_eq_true, JV.m] at h1
  obtain ⟨⟨h4, h5⟩, h6⟩ := h1
  unfold rangeB at h6
  simp only [Bool.and_eq_true, JV.n, JV.s] at h6
  obtain ⟨⟨h7, h8⟩, h9⟩ := h6
  simp only [badK, JV.k, JV.n, JV.s, JV.l, JV.m, Bool.not_eq_true', Bool.or_eq_false_iff, Bool.and_eq_false_iff, bne_eq_false_iff_eq] at h4
  obtain ⟨⟨⟨⟨⟨a1, a2⟩, a3⟩, a4⟩, a5⟩, a6⟩ := h4
  have a1 := of_decide_eq_false a1
  have a2 := of_decide_eq_false a2
  have hn : k ≠ 4 → n = 0 := fun hk => a3.resolve_right hk
  have hs : k ≠ 5 → s = ⟨#[]⟩ := fun hk => bytes_nil (by simpa using a4.resolve_right hk)
  have hl : k ≠ 6 → l = [] := fun hk => List.eq_nil_of_length_eq_zero (by have := of_decide_eq_false (a5.resolve_right hk); omega)
  have hm : k ≠ 7 → m = [] := fun hk => List.eq_nil_of_length_eq_zero (by have := of_decide_eq_false (a6.resolve_right hk); omega)
  have hk : k = 1 ∨ k = 2 ∨ k = 3 ∨ k = 4 ∨ k = 5 ∨ k = 6 ∨ k = 7 := by omega
  rcases hk with rfl | rfl | rfl | rfl | rfl | rfl | rfl
  · rw [hn (by decide), hs (by decide), hl (by decide), hm (by decide)]; exact .word 1 (by decide)
  · rw [hn (by decide), hs (by decide), hl (by decide), hm (by decide)]; exact .word 2 (by decide)
  · rw [hn (by decide), hs (by decide), hl (by decide), hm (by decide)]; exact .word 3 (by decide)
  · rw [hs (by decide), hl (by decide), hm (by decide)]; exact .num n ⟨of_decide_eq_true h7, of_decide_eq_true h8⟩
  · rw [hn (by decide), hl (by decide), hm (by decide)]; exact .text s h9
  · rw [hn (by decide), hs (by decide), hm (by decide)]; exact .list l h2
  · rw [hn (by decide), hs (by decide), hl (by decide)]; exact .obj m h5 h3

/-! names that rise -/
def NmLt (a b : ByteArray × JV) : Prop := a.1.toList < b.1.toList
theorem less_iff (a b : List UInt8) : Op.bytesLess a b = true ↔ a < b := by rw [bytesLess_eq]; simp
theorem leB_iff (a b : ByteArray) : leB a b = false ↔ b.toList < a.toList := by
  unfold leB
  rw [bytesLess_eq]
  constructor
  · intro h
    simp only [Bool.or_eq_false_iff, decide_eq_false_iff_not, beq_eq_false_iff_ne, ne_eq] at h
    rcases List.le_iff_lt_or_eq.1 (List.not_lt.1 h.1) with h1 | h1
    · exact h1
    · exact absurd h1.symm h.2
  · intro h
    have h1 : ¬ a.toList < b.toList := fun h2 => List.lt_irrefl _ (List.lt_trans h h2)
    have h2 : a.toList ≠ b.toList := fun e => by rw [e] at h; exact List.lt_irrefl _ h
    simp [h1, h2]
theorem members_iff : ∀ (p : Option ByteArray) (m : List (ByteArray × JV)), membersB p m = true ↔ (∀ q ∈ m, shortB q.1 = true) ∧ (∀ a, p = some a → ∀ q ∈ m, a.toList < q.1.toList) ∧ m.Pairwise NmLt
  | p, [] => by simp [membersB]
  | p, (nm, y) :: r => by
    have ih := members_iff (some nm) r
    simp only [membersB, Bool.and_eq_true, ih]
    constructor
    · rintro ⟨⟨h1, h2⟩, h3, h4, h5⟩
      refine ⟨fun q hq => ?_, fun a ha q hq => ?_, ?_⟩
      · rcases List.mem_cons.1 hq with rfl | hq
        · exact h1
        · exact h3 q hq
      · subst ha
        have h2' : a.toList < nm.toList := (leB_iff nm a).1 (by simpa using h2)
        rcases List.mem_cons.1 hq with rfl | hq
        · exact h2'
        · exact List.lt_trans h2' (h4 nm rfl q hq)
      · exact List.Pairwise.cons (fun q hq => h4 nm rfl q hq) h5
    · rintro ⟨h1, h2, h3⟩
      rw [List.pairwise_cons] at h3
      refine ⟨⟨h1 _ (List.mem_cons_self ..), ?_⟩, fun q hq => h1 q (List.mem_cons_of_mem _ hq), fun a ha q hq => by cases ha; exact h3.1 q hq, h3.2⟩
      rcases p with _ | a
      · rfl
      · have := (leB_iff nm a).2 (h2 a rfl _ (List.mem_cons_self ..))
        simpa using this
theorem sort_rising : ∀ (m : List (ByteArray × JV)), m.Pairwise NmLt → sortNames m = m
  | [], _ => rfl
  | x :: r, h => by
    rw [List.pairwise_cons] at h
    have ih := sort_rising r h.2
    unfold sortNames at ih ⊢
    rw [List.foldr_cons, ih]
    rcases r with _ | ⟨y, r⟩
    · rfl
    · simp only [insName]
      rw [if_pos ((less_iff _ _).2 (h.1 y (List.mem_cons_self ..)))]

/-! words, and what a value begins with -/
theorem word_rest (s : ByteArray) : ∀ (l : List UInt8) (p : Nat) (t : List UInt8), rest s p = l ++ t → wordIn s l ⟨p, 0⟩ = (true, ⟨p + l.length, 0⟩)
  | [], _, _, _ => rfl
  | c :: l, p, t, h => by
    have hl := rest_lt h
    have hb := rest_byte h
    have ih := word_rest s l (p + 1) t (rest_next h)
    simp only [wordIn]
    rw [if_neg (by omega), if_neg (by rw [hb]; simp)]
    simp only [St.step] at *
    rw [ih]
    simp only [List.length_cons]; congr 2; omega
/-- bytes that a value may begin with -/
def heads : List UInt8 := [110, 102, 116, 45, 48, 49, 50, 51, 52, 53, 54, 55, 56, 57, 34, 91, 123]
theorem digit_heads {c : UInt8} (h : c = 45 ∨ isDigit c = true) : c ∈ heads := by
  rcases h with rfl | h
  · decide
  · simp only [isDigit, Bool.and_eq_true, decide_eq_true_eq] at h
    have hc : c = UInt8.ofNat c.toNat := by simp
    rcases (show c.toNat = 48 ∨ c.toNat = 49 ∨ c.toNat = 50 ∨ c.toNat = 51 ∨ c.toNat = 52 ∨ c.toNat = 53 ∨ c.toNat = 54 ∨ c.toNat = 55 ∨ c.toNat = 56 ∨ c.toNat = 57 by omega) with e | e | e | e | e | e | e | e | e | e <;> (rw [e] at hc; rw [hc]; decide)
theorem print_head {d : Nat} {x : JV} (h : mayJ (d + 1) x = true) : ∃ c r, printB (d + 1) x = c :: r ∧ c ∈ heads := by
  rw [printB.eq_2]
  cases shape_of h with
  | word k hk => rcases hk with rfl | rfl | rfl <;> exact ⟨_, _, rfl, by decide⟩
  | num n hn =>
    obtain ⟨c, r, e, hc⟩ := itoa_head n
    exact ⟨c, r, e, digit_heads hc⟩
  | text s hs => exact ⟨_, _, rfl, by decide⟩
  | list l hl => exact ⟨_, _, rfl, by decide⟩
  | obj m hm hl => exact ⟨_, _, rfl, by decide⟩
theorem heads_blank {c : UInt8} (h : c ∈ heads) : isBlank c = false ∧ c ≠ 93 ∧ c ≠ 125 ∧ c ≠ 44 ∧ c ≠ 58 := by
  simp only [heads, List.mem_cons, List.not_mem_nil, or_false] at h
  rcases h with rfl | rfl | rfl | rfl | rfl | rfl | rfl | rfl | rfl | rfl | rfl | rfl | rfl | rfl | rfl | rfl | rfl <;> decide
theorem print_pos {d : Nat} {x : JV} (h : mayJ (d + 1) x = true) : 1 ≤ (printB (d + 1) x).length := by
  obtain ⟨c, r, e, _⟩ := print_head h
  rw [e]; simp
/-- what stands behind a number -/
def NumEnd (t : List UInt8) : Prop := ∀ c r, t = c :: r → isDigit c = false ∧ [46, 101, 69].contains c = false
theorem numEnd_cons {c : UInt8} {r : List UInt8} (h : isDigit c = false) (h2 : [46, 101, 69].contains c = false) : NumEnd (c :: r) := fun d t e => by
  injection e with e1 e2; rw [← e1]; exact ⟨h, h2⟩
theorem value_number {s : ByteArray} {p : Nat} {n : Int} {t : List UInt8} (d : Nat) (hn : -9007199254740991 ≤ n ∧ n ≤ 9007199254740991) (h : rest s p = Lib.itoa n ++ t) (ht : NumEnd t) :
    valueB s (d + 1) ⟨p, 0⟩ = (numV n, ⟨p + (Lib.itoa n).length, 0⟩) := by
  have hv := value_itoa d h (fun c r e => (ht c r e).1)
  have ha : anyB s [46, 101, 69] (p + (Lib.itoa n).length) = false := by
    have hre := drop_rest h
    rcases t with _ | ⟨c, r⟩
    · exact anyB_nil _ hre
    · rw [anyB_rest _ hre]; exact (ht c r rfl).2
  rw [show ((if n < 0 then -1 else 1) * min (n.natAbs : Int) 9007199254740992) = n by split <;> omega, ha, if_neg (show ¬ ((false : Bool) = true) by decide), if_neg (by omega)] at hv
  exact hv

/-! lists and objects -/
theorem join_cons {α : Type} (f : α → List UInt8) (x : α) (xs : List α) (b : Bool) : joinFrom f b (x :: xs) = (if b then [] else [44]) ++ f x ++ joinFrom f false xs := by
  cases b <;> rfl
theorem join_false {α : Type} (f : α → List UInt8) (x : α) (xs : List α) : joinFrom f false (x :: xs) = 44 :: joinFrom f true (x :: xs) := rfl
theorem wants_rest {s : ByteArray} {p : Nat} {c : UInt8} {r : List UInt8} (h : rest s p = c :: r) (hb : isBlank c = false) : St.wants s ⟨p, 0⟩ c = ⟨p + 1, 0⟩ := by
  unfold St.wants
  rw [see_rest 0 h hb]
  simp [St.step]
/-- a value at depth d is read as it -/
def Reads (s : ByteArray) (d : Nat) : Prop := ∀ (x : JV) (p : Nat) (t : List UInt8), mayJ d x = true → rest s p = printB d x ++ t → (x.k = 4 → NumEnd t) → valueB s d ⟨p, 0⟩ = (x, ⟨p + (printB d x).length, 0⟩)
theorem list_loop {s : ByteArray} {d : Nat} (ih : Reads s d) (t : List UInt8) : ∀ (l : List JV) (acc : List JV) (f p : Nat), l ≠ [] → (∀ y ∈ l, mayJ d y = true) → p ≤ s.size → s.size + 1 - p ≤ f → rest s p = joinFrom (printB d) true l ++ 93 :: t →
    listLoop s (valueB s d) f acc ⟨p, 0⟩ = (acc ++ l, ⟨p + (joinFrom (printB d) true l).length + 1, 0⟩)
  | [], _, _, _, h, _, _, _, _ => absurd rfl h
  | x :: xs, acc, 0, p, _, _, hp, hf, _ => by omega
  | x :: xs, acc, f + 1, p, _, hm, hp, hf, h => by
    have hx := hm x (List.mem_cons_self ..)
    rw [join_cons] at h ⊢
    simp only [if_true, List.nil_append, List.append_assoc] at h ⊢
    rcases xs with _ | ⟨y, ys⟩
    · simp only [joinFrom, List.nil_append] at h
      have hv := ih x p _ hx h (fun _ => numEnd_cons (by decide) (by decide))
      have hs := see_rest 0 (drop_rest h) (by decide)
      simp only [listLoop, hv, hs]
      simp [St.step, joinFrom]
    · rw [join_false] at h ⊢
      have hv := ih x p _ hx h (fun _ => numEnd_cons (by decide) (by decide))
      have h2 := drop_rest h
      have hs := see_rest 0 h2 (by decide)
      have hw := wants_rest h2 (by decide)
      have hlt := rest_lt h2
      have h3 := rest_next h2
      simp only [listLoop, hv, hs, hw]
      rw [if_neg (by decide), if_neg (by decide), if_neg (by decide), if_neg (by decide)]
      rw [list_loop ih t (y :: ys) _ f _ (by simp) (fun q hq => hm q (List.mem_cons_of_mem _ hq)) (by omega) (by omega) h3]
      simp only [List.append_assoc, List.length_append, List.length_cons, List.cons_append, List.nil_append]
      congr 2; omega
def prMem (d : Nat) (q : ByteArray × JV) : List UInt8 := quoteB q.1 ++ 58 :: printB d q.2
theorem quote_head (u : ByteArray) : ∃ r, quoteB u = 34 :: r := ⟨_, rfl⟩
theorem member_rest {s : ByteArray} {d : Nat} (ih : Reads s d) {acc : List (ByteArray × JV)} {nm : ByteArray} {y : JV} {p : Nat} {t : List UInt8} (hs : shortB nm = true) (hy : mayJ d y = true) (ha : ∀ q ∈ acc, q.1.toList ≠ nm.toList) (h : rest s p = prMem d (nm, y) ++ t) (ht : y.k = 4 → NumEnd t) :
    memberB s (valueB s d) acc ⟨p, 0⟩ = ((nm, y), ⟨p + (prMem d (nm, y)).length, 0⟩) := by
  unfold prMem at h ⊢
  simp only at h ⊢
  have hv : validB nm = true ∧ nm.size ≤ 8000 := by unfold shortB at hs; simpa using hs
  obtain ⟨r, hq⟩ := quote_head nm
  have h0 := h
  rw [hq, List.cons_append, List.cons_append] at h0
  have hsee := see_rest 0 h0 (by decide)
  rw [List.append_assoc] at h
  have htx := text_quote hv.1 hv.2 h
  have h2 := drop_rest h
  have hw := wants_rest (c := 58) h2 (by decide)
  have h3 := rest_next h2
  have hva := ih y _ t hy h3 ht
  have hnm : (⟨nm.data.toList.toArray⟩ : ByteArray) = nm := array_list _ nm rfl
  have hany : (acc.any fun q => q.1.toList == nm.toList) = false := by
    rw [List.any_eq_false]
    intro q hq2 e
    exact ha q hq2 (by simpa using e)
  simp only [memberB, hsee, ne_eq, not_true_eq_false, if_false, htx, hnm, hany]
  rw [if_neg (show ¬ ((false : Bool) = true) by decide)]
  simp only [if_true, hw, hva]
  simp only [List.length_append, List.length_cons]
  congr 2; omega
theorem obj_loop {s : ByteArray} {d : Nat} (ih : Reads s d) (t : List UInt8) : ∀ (l : List (ByteArray × JV)) (acc : List (ByteArray × JV)) (f p : Nat), l ≠ [] → (∀ y ∈ l, mayJ d y.2 = true ∧ shortB y.1 = true) → (acc ++ l).Pairwise NmLt → p ≤ s.size → s.size + 1 - p ≤ f → rest s p = joinFrom (prMem d) true l ++ 125 :: t →
    objLoop s (valueB s d) f acc ⟨p, 0⟩ = (acc ++ l, ⟨p + (joinFrom (prMem d) true l).length + 1, 0⟩)
  | [], _, _, _, h, _, _, _, _, _ => absurd rfl h
  | x :: xs, acc, 0, p, _, _, _, hp, hf, _ => by omega
  | (nm, v) :: xs, acc, f + 1, p, _, hm, hpw, hp, hf, h => by
    have hx := hm _ (List.mem_cons_self ..)
    have hacc : ∀ q ∈ acc, q.1.toList ≠ nm.toList := fun q hq e => by
      have := (List.pairwise_append.1 hpw).2.2 q hq _ (List.mem_cons_self ..)
      unfold NmLt at this
      rw [e] at this
      exact List.lt_irrefl _ this
    rw [join_cons] at h ⊢
    simp only [if_true, List.nil_append, List.append_assoc] at h ⊢
    rcases xs with _ | ⟨y, ys⟩
    · simp only [joinFrom, List.nil_append] at h
      have hv := member_rest ih hx.2 hx.1 hacc h (fun _ => numEnd_cons (by decide) (by decide))
      have hs := see_rest 0 (drop_rest h) (by decide)
      simp only [objLoop, hv, hs]
      simp [St.step, joinFrom]
    · rw [join_false] at h ⊢
      have hv := member_rest ih hx.2 hx.1 hacc h (fun _ => numEnd_cons (by decide) (by decide))
      have h2 := drop_rest h
      have hs := see_rest 0 h2 (by decide)
      have hw := wants_rest h2 (by decide)
      have hlt := rest_lt h2
      have h3 := rest_next h2
      simp only [objLoop, hv, hs, hw]
      rw [if_neg (by decide), if_neg (by decide), if_neg (by decide), if_neg (by decide)]
      rw [obj_loop ih t (y :: ys) _ f _ (by simp) (fun q hq => hm q (List.mem_cons_of_mem _ hq)) (by simpa using hpw) (by omega) (by omega) h3]
      simp only [List.append_assoc, List.length_append, List.length_cons, List.cons_append, List.nil_append]
      congr 2; omega
theorem join_head {α : Type} (f : α → List UInt8) (x : α) (xs : List α) {c : UInt8} {r : List UInt8} (h : f x = c :: r) (t : List UInt8) : ∃ u, joinFrom f true (x :: xs) ++ t = c :: u := by
  rw [join_cons, h]; exact ⟨_, rfl⟩
theorem value_reads (s : ByteArray) : ∀ d, Reads s d
  | 0 => fun x p t h => absurd h (by simp [mayJ])
  | d + 1 => fun x p t h hr ht => by
    have ih := value_reads s d
    have hsh := shape_of h
    rw [printB.eq_2] at hr ⊢
    cases hsh with
    | word k hk =>
      rcases hk with rfl | rfl | rfl
      · have hr' : rest s p = [110, 117, 108, 108] ++ t := hr
        have hs := see_rest 0 hr' (by decide)
        have hw := word_rest s _ p t hr'
        simp only [valueB, hs, wordB, hw]
        rfl
      · have hr' : rest s p = [102, 97, 108, 115, 101] ++ t := hr
        have hs := see_rest 0 hr' (by decide)
        have hw := word_rest s _ p t hr'
        simp only [valueB, hs, wordB, hw]
        rfl
      · have hr' : rest s p = [116, 114, 117, 101] ++ t := hr
        have hs := see_rest 0 hr' (by decide)
        have hw := word_rest s _ p t hr'
        simp only [valueB, hs, wordB, hw]
        rfl
    | num n hn => exact value_number d hn hr (ht rfl)
    | text u hu =>
      have hv : validB u = true ∧ u.size ≤ 8000 := by unfold shortB at hu; simpa using hu
      have hr' : rest s p = quoteB u ++ t := hr
      obtain ⟨r, hq⟩ := quote_head u
      have h0 := hr'
      rw [hq, List.cons_append] at h0
      have hs := see_rest 0 h0 (by decide)
      have htx := text_quote hv.1 hv.2 hr'
      have hva : valueB s (d + 1) ⟨p, 0⟩ = (wordV u, ⟨p + (quoteB u).length, 0⟩) := by
        simp only [valueB, hs]
        rw [if_neg (by decide), if_neg (by decide), if_neg (by decide), if_pos (by decide), htx, array_list _ u rfl]
      exact hva
    | list l hl =>
      have hr' : rest s p = 91 :: (joinFrom (printB d) true l ++ 93 :: t) := by rw [hr]; show 91 :: (joinFrom (printB d) true l ++ [93]) ++ t = _; simp
      have hs := see_rest 0 hr' (by decide)
      have h1 := rest_next hr'
      have hva : valueB s (d + 1) ⟨p, 0⟩ = listB s (valueB s d) ⟨p, 0⟩ := by
        simp only [valueB, hs]
        rw [if_neg (by decide), if_pos (by decide)]
      have hgoal : valueB s (d + 1) ⟨p, 0⟩ = (listV l, ⟨p + (91 :: (joinFrom (printB d) true l ++ [93])).length, 0⟩) := by
        rw [hva]
        rcases l with _ | ⟨y, ys⟩
        · have hs1 := see_rest 0 (show rest s (p + 1) = 93 :: t from h1) (by decide)
          simp only [listB, St.step, hs1]
          rfl
        · rcases d with _ | d
          · exact absurd (hl y (List.mem_cons_self ..)) (by simp [mayJ])
          obtain ⟨c, r, hc, hch⟩ := print_head (hl y (List.mem_cons_self ..))
          obtain ⟨u, hu⟩ := join_head (printB (d + 1)) y ys hc (93 :: t)
          have hb := heads_blank hch
          have hlt := rest_lt (h1.trans hu)
          have hs1 := see_rest 0 (h1.trans hu) hb.1
          have hlo := list_loop ih t (y :: ys) [] (s.size + 1 - (p + 1)) (p + 1) (by simp) hl (by omega) (Nat.le_refl _) h1
          simp only [listB, St.step, hs1]
          rw [if_neg hb.2.1, hlo]
          simp only [List.nil_append, List.length_cons, List.length_append, List.length_nil]
          congr 2; omega
      exact hgoal
    | obj m hm hl =>
      have hmi := (members_iff none m).1 hm
      have hr' : rest s p = 123 :: (joinFrom (prMem d) true m ++ 125 :: t) := by rw [hr]; show 123 :: (joinFrom (prMem d) true m ++ [125]) ++ t = _; simp
      have hs := see_rest 0 hr' (by decide)
      have h1 := rest_next hr'
      have hva : valueB s (d + 1) ⟨p, 0⟩ = objectB s (valueB s d) ⟨p, 0⟩ := by
        simp only [valueB, hs]
        rw [if_neg (by decide), if_neg (by decide), if_pos (by decide)]
      have hgoal : valueB s (d + 1) ⟨p, 0⟩ = (objV m, ⟨p + (123 :: (joinFrom (prMem d) true m ++ [125])).length, 0⟩) := by
        rw [hva]
        rcases m with _ | ⟨y, ys⟩
        · have hs1 := see_rest 0 (show rest s (p + 1) = 125 :: t from h1) (by decide)
          simp only [objectB, St.step, hs1]
          rfl
        · obtain ⟨r, hq⟩ := quote_head y.1
          obtain ⟨u, hu⟩ := join_head (prMem d) y ys (c := 34) (r := r ++ 58 :: printB d y.2) (by unfold prMem; rw [hq]; rfl) (125 :: t)
          have hlt := rest_lt (h1.trans hu)
          have hs1 := see_rest 0 (h1.trans hu) (by decide)
          have hlo := obj_loop ih t (y :: ys) [] (s.size + 1 - (p + 1)) (p + 1) (by simp) (fun q hq => ⟨hl q hq, hmi.1 q hq⟩) (by simpa using hmi.2.2) (by omega) (Nat.le_refl _) h1
          simp only [objectB, St.step, hs1]
          rw [if_neg (by decide), hlo]
          simp only [List.nil_append, List.length_cons, List.length_append, List.length_nil]
          rw [sort_rising _ hmi.2.2]
          congr 2; omega
      exact hgoal
end Go.Proofs.YtjjgbgojlhaapaaDoor
namespace Go.Proofs.YtjjgbgojlhaapaaDoor
open Go.RowKit Go.Lib

theorem quoteB_pos (s : ByteArray) : 1 ≤ (quoteB s).length := by unfold quoteB; simp
def PrAt (d : Nat) : Prop := ∀ (x : JV) (cs : List Value) (F : Nat → Prop) (w : World), mayJ d x = true → JR w F x cs → (printB d x).length ≤ 1000000000 →
  Calls Tryd.prog 85 #[.agg cs.toArray] w fun e w' => e = .returned (.string ⟨(printB d x).toArray⟩) ∧ Below w.heap.size w w'
set_option maxRecDepth 100000 in
set_option maxHeartbeats 8000000 in
theorem print_word1 (x : JV) (cs : List Value) (F : Nat → Prop) (w : World) (hk : x.k = 1) (h : JR w F x cs) : Calls Tryd.prog 85 #[.agg cs.toArray] w fun e w' => e = .returned (.string ⟨([110, 117, 108, 108] : List UInt8).toArray⟩) ∧ Below w.heap.size w w' := by
  obtain ⟨A1, n1, c1, A2, n2, c2, rfl⟩ := JR_form h
  have e1 : (x.k == 1) = true := by rw [hk]; rfl
  clear h hk
  go_enter Tryd.func85, Tryd.ntmps85
  go_wp2_with fail
  go_ret
  exact ⟨rfl, bel_alloc (Below.refl _ _) _⟩
set_option maxRecDepth 100000 in
set_option maxHeartbeats 8000000 in
theorem print_word2 (x : JV) (cs : List Value) (F : Nat → Prop) (w : World) (hk : x.k = 2) (h : JR w F x cs) : Calls Tryd.prog 85 #[.agg cs.toArray] w fun e w' => e = .returned (.string ⟨([102, 97, 108, 115, 101] : List UInt8).toArray⟩) ∧ Below w.heap.size w w' := by
  obtain ⟨A1, n1, c1, A2, n2, c2, rfl⟩ := JR_form h
  have e1 : (x.k == 1) = false := by rw [hk]; rfl
  have e2 : (x.k == 2) = true := by rw [hk]; rfl
  clear h hk
  go_enter Tryd.func85, Tryd.ntmps85
  go_wp2_with fail
  go_ret
  exact ⟨rfl, bel_alloc (Below.refl _ _) _⟩
set_option maxRecDepth 100000 in
set_option maxHeartbeats 8000000 in
theorem print_word3 (x : JV) (cs : List Value) (F : Nat → Prop) (w : World) (hk : x.k = 3) (h : JR w F x cs) : Calls Tryd.prog 85 #[.agg cs.toArray] w fun e w' => e = .returned (.string ⟨([116, 114, 117, 101] : List UInt8).toArray⟩) ∧ Below w.heap.size w w' := by
  obtain ⟨A1, n1, c1, A2, n2, c2, rfl⟩ := JR_form h
  have e1 : (x.k == 1) = false := by rw [hk]; rfl
  have e2 : (x.k == 2) = false := by rw [hk]; rfl
  have e3 : (x.k == 3) = true := by rw [hk]; rfl
  clear h hk
  go_enter Tryd.func85, Tryd.ntmps85
  go_wp2_with fail
  go_ret
  exact ⟨rfl, bel_alloc (Below.refl _ _) _⟩
set_option maxRecDepth 100000 in
set_option maxHeartbeats 8000000 in
theorem print_num (x : JV) (cs : List Value) (F : Nat → Prop) (w : World) (hk : x.k = 4) (hn : -9007199254740991 ≤ x.n ∧ x.n ≤ 9007199254740991) (h : JR w F x cs) : Calls Tryd.prog 85 #[.agg cs.toArray] w fun e w' => e = .returned (.string ⟨(Lib.itoa x.n).toArray⟩) ∧ Below w.heap.size w w' := by
  have hd := fun W => dec_any x.n (by omega) (by omega) W
  obtain ⟨A1, n1, c1, A2, n2, c2, rfl⟩ := JR_form h
  have e1 : (x.k == 1) = false := by rw [hk]; rfl
  have e2 : (x.k == 2) = false := by rw [hk]; rfl
  have e3 : (x.k == 3) = false := by rw [hk]; rfl
  have e4 : (x.k == 4) = true := by rw [hk]; rfl
  have HD := Lib.hid hd
  clear h hk hd hn
  go_enter Tryd.func85, Tryd.ntmps85
  go_wp2_with fail
  refine Calls.mono (HD.out _) ?_
  rintro e w1 ⟨rfl, hb⟩
  go_wp2_with fail
  go_ret
  exact ⟨rfl, bel_trans (bel_alloc (Below.refl _ _) _) hb⟩
set_option maxRecDepth 100000 in
set_option maxHeartbeats 8000000 in
theorem print_text (x : JV) (cs : List Value) (F : Nat → Prop) (w : World) (hk : x.k = 5) (hv : validB x.s = true) (hz : x.s.size ≤ 8000) (h : JR w F x cs) : Calls Tryd.prog 85 #[.agg cs.toArray] w fun e w' => e = .returned (.string ⟨(quoteB x.s).toArray⟩) ∧ Below w.heap.size w w' := by
  have hd := fun W => quote_ref_good x.s hv (by omega) W
  obtain ⟨A1, n1, c1, A2, n2, c2, rfl⟩ := JR_form h
  have e1 : (x.k == 1) = false := by rw [hk]; rfl
  have e2 : (x.k == 2) = false := by rw [hk]; rfl
  have e3 : (x.k == 3) = false := by rw [hk]; rfl
  have e4 : (x.k == 4) = false := by rw [hk]; rfl
  have e5 : (x.k == 5) = true := by rw [hk]; rfl
  have HD := Lib.hid hd
  clear h hk hd hv hz
  go_enter Tryd.func85, Tryd.ntmps85
  go_wp2_with fail
  refine Calls.mono (HD.out _) ?_
  rintro e w1 ⟨rfl, hb⟩
  go_wp2_with fail
  go_ret
  exact ⟨rfl, bel_trans (bel_alloc (Below.refl _ _) _) hb⟩
set_option maxRecDepth 100000 in
set_option maxHeartbeats 8000000 in
theorem print_list_ref (d : Nat) (ih : PrAt d) (x : JV) (cs : List Value) (F : Nat → Prop) (w : World) (hk : x.k = 6) (hmay : ∀ y ∈ x.l, mayJ d y = true) (hlen : (91 :: (joinFrom (printB d) true x.l ++ [93])).length ≤ 1000000000) (h : JR w F x cs) :
    Calls Tryd.prog 85 #[.agg cs.toArray] w fun e w' => e = .returned (.string ⟨(91 :: (joinFrom (printB d) true x.l ++ [93])).toArray⟩) ∧ Below w.heap.size w w' := by
  obtain ⟨vl, vm, ⟨rfl, hsz⟩, hl, hm⟩ := JR_iff.1 h
  obtain ⟨A1, c1, rfl, hl63, hel⟩ := val_cells hl
  obtain ⟨A2, c2, rfl, hm63, hem⟩ := mem_cells hm
  have e1 : (x.k == 1) = false := by rw [hk]; rfl
  have e2 : (x.k == 2) = false := by rw [hk]; rfl
  have e3 : (x.k == 3) = false := by rw [hk]; rfl
  have e4 : (x.k == 4) = false := by rw [hk]; rfl
  have e5 : (x.k == 5) = false := by rw [hk]; rfl
  have e6 : (x.k == 6) = true := by rw [hk]; rfl
  have hl0 := cell_newB w #[.int .i64 x.k, .int .i64 x.n, .string x.s, .slice A1 x.l.length c1, .slice A2 x.m.length c2] 87 3 _ rfl
  have HEL := Lib.hid hel; have IH := Lib.hid ih; have HM := Lib.hid hmay; have HLN := Lib.hid hlen
  clear h hk hl hm hel hem hsz ih hmay hlen hm63
  go_enter Tryd.func85, Tryd.ntmps85
  go_upto_region 1 with (fail)
  have hbA : Below w.heap.size w (w.alloc (.cells #[.int .i64 x.k, .int .i64 x.n, .string x.s, .slice A1 x.l.length c1, .slice A2 x.m.length c2] 87)) := bel_alloc (Below.refl _ _) _
  have ka := cell_newB w #[.int .i64 x.k, .int .i64 x.n, .string x.s, .slice A1 x.l.length c1, .slice A2 x.m.length c2] 87 0 _ rfl
  generalize w.alloc (.cells #[.int .i64 x.k, .int .i64 x.n, .string x.s, .slice A1 x.l.length c1, .slice A2 x.m.length c2] 87) = W at *
  generalize hn : x.l.length = n at *
  have Hn := Lib.hid hn
  clear hn
  go_wp2_with fail
  go_loopg [5, 6] n (fun gg s5 s6 wr => ∃ (k : Nat) (T : List UInt8), k ≤ n ∧ n - k ≤ gg ∧ s6 = .int .i64 k ∧ s5 = .string ⟨T.toArray⟩ ∧ Aside (Below W.heap.size W wr) ∧ Aside (91 :: joinFrom (printB d) true x.l = T ++ joinFrom (printB d) (k == 0) (x.l.drop k)))
  case atStart => exact ⟨0, [91], Nat.zero_le _, by omega, rfl, rfl, Below.refl _ _, rfl⟩
  case round =>
    obtain ⟨k, T, hk, hgg, rfl, rfl, HB, HA⟩ := hrel
    have hbw := bel_trans hbA HB.out
    have l2 := cell_later' HB.out hl0
    have hzr : w.heap.size < wr.heap.size := World.block_lt_of_cell? _ _ l2
    by_cases hlt : k < n
    · have hltz : (k : Int) < (n : Int) := by omega
      obtain ⟨y, hx⟩ : ∃ p, x.l[k]? = some p := get_ex (by have := Hn.out; omega)
      obtain ⟨b, o, B1, k1, d1, B2, k2, d2, rfl, e0, e1', e2', e3', e4', hjr⟩ := HEL.out k y hx
      have r0 := cell_later' hbw e0
      have r1 := cell_later' hbw e1'
      have r2 := cell_later' hbw e2'
      have r3 := cell_later' hbw e3'
      have r4 := cell_later' hbw e4'
      have hbr : b < wr.heap.size := World.block_lt_of_cell? _ _ r0
      have hst := HA.out
      rw [join_step hx] at hst
      have hle : T.length + (printB d y).length + 1 ≤ 1000000000 := by
        have h1 := congrArg List.length hst
        have h2 := HLN.out
        simp only [List.length_cons, List.length_append, List.length_nil] at h1 h2
        split at h1 <;> (try simp only [List.length_cons] at h1) <;> omega
      have hcall := IH.out y _ F wr (HM.out y (List.mem_of_getElem? hx)) (JR_later hjr hbw) (by omega)
      have HC := Lib.hid hcall; have HS := Lib.hid hst; have HLE := Lib.hid hle
      clear hx hjr e0 e1' e2' e3' e4' hcall hst hle
      by_cases hk0 : k = 0
      · have hz1 : decide (0 < k) = false := by simp [hk0]
        have hz2 : decide ((0 : Int) < (k : Int)) = false := by simp [hk0]
        have hT : 91 :: joinFrom (printB d) true x.l = (T ++ printB d y) ++ joinFrom (printB d) (k + 1 == 0) (x.l.drop (k + 1)) := by rw [HS.out, if_pos hk0, List.append_assoc]; rfl
        have s1 := fun W : World => str_sum (P := Tryd.prog) T (printB d y) W (by have := HLE.out; omega)
        generalize T ++ printB d y = T2 at *
        have HT := Lib.hid hT; have HK0 := Lib.hid hk0
        clear hT hk0
        go_wp2_with fail
        refine Calls.mono HC.out ?_
        rintro e w5 ⟨rfl, hb5⟩
        go_wp2_with fail
        go_roundg (n - (k + 1))
        case measure => omega
        case rel => exact ⟨k + 1, T2, by omega, by omega, by simp, rfl, bel_trans HB.out hb5, HT.out⟩
      · have hz1 : decide (0 < k) = true := by simp; omega
        have hz2 : decide ((0 : Int) < (k : Int)) = true := by simp; omega
        have hT : 91 :: joinFrom (printB d) true x.l = (T ++ [44] ++ printB d y) ++ joinFrom (printB d) (k + 1 == 0) (x.l.drop (k + 1)) := by rw [HS.out, if_neg hk0]; simp
        have s0 := fun W : World => str_sum (P := Tryd.prog) T [44] W (by have := HLE.out; simp; omega)
        have hle1 : (T ++ [44]).length = T.length + 1 := by simp
        generalize T ++ [44] = T1 at *
        have s1 := fun W : World => str_sum (P := Tryd.prog) T1 (printB d y) W (by have := HLE.out; omega)
        generalize T1 ++ printB d y = T2 at *
        have HT := Lib.hid hT; have HK0 := Lib.hid hk0
        clear hT hle1 hk0
        go_wp2_with fail
        refine Calls.mono HC.out ?_
        rintro e w5 ⟨rfl, hb5⟩
        go_wp2_with fail
        go_roundg (n - (k + 1))
        case measure => omega
        case rel => exact ⟨k + 1, T2, by omega, by omega, by simp, rfl, bel_trans HB.out hb5, HT.out⟩
    · have hltz : ¬ ((k : Int) < (n : Int)) := by omega
      have hT : 91 :: (joinFrom (printB d) true x.l ++ [93]) = T ++ [93] := by
        have := HA.out
        rw [List.drop_of_length_le (by have := Hn.out; omega)] at this
        rw [← List.cons_append, this]
        simp [joinFrom]
      have hle : T.length + 1 ≤ 1000000000 := by have := HLN.out; rw [hT] at this; simpa using this
      have s0 := fun W : World => str_sum (P := Tryd.prog) T [93] W (by simp; omega)
      generalize T ++ [93] = T1 at *
      have HTT := Lib.hid hT
      clear hT hle
      go_wp2_with fail
      go_ret
      exact ⟨by rw [HTT.out]; rfl, hbw⟩
set_option maxRecDepth 100000 in
set_option maxHeartbeats 8000000 in
theorem print_obj_ref (d : Nat) (ih : PrAt d) (x : JV) (cs : List Value) (F : Nat → Prop) (w : World) (hk : x.k = 7) (hmay : ∀ y ∈ x.m, mayJ d y.2 = true ∧ shortB y.1 = true) (hlen : (123 :: (joinFrom (prMem d) true x.m ++ [125])).length ≤ 1000000000) (h : JR w F x cs) :
    Calls Tryd.prog 85 #[.agg cs.toArray] w fun e w' => e = .returned (.string ⟨(123 :: (joinFrom (prMem d) true x.m ++ [125])).toArray⟩) ∧ Below w.heap.size w w' := by
  obtain ⟨vl, vm, ⟨rfl, hsz⟩, hl, hm⟩ := JR_iff.1 h
  obtain ⟨A1, c1, rfl, hl63, hel⟩ := val_cells hl
  obtain ⟨A2, c2, rfl, hm63, hem⟩ := mem_cells hm
  have e1 : (x.k == 1) = false := by rw [hk]; rfl
  have e2 : (x.k == 2) = false := by rw [hk]; rfl
  have e3 : (x.k == 3) = false := by rw [hk]; rfl
  have e4 : (x.k == 4) = false := by rw [hk]; rfl
  have e5 : (x.k == 5) = false := by rw [hk]; rfl
  have e6 : (x.k == 6) = false := by rw [hk]; rfl
  have hl0 := cell_newB w #[.int .i64 x.k, .int .i64 x.n, .string x.s, .slice A1 x.l.length c1, .slice A2 x.m.length c2] 87 4 _ rfl
  have HEL := Lib.hid hem; have IH := Lib.hid ih; have HM := Lib.hid hmay; have HLN := Lib.hid hlen
  clear h hk hl hm hel hem hsz ih hmay hlen hl63
  go_enter Tryd.func85, Tryd.ntmps85
  go_upto_region 1 with (fail)
  have hbA : Below w.heap.size w (w.alloc (.cells #[.int .i64 x.k, .int .i64 x.n, .string x.s, .slice A1 x.l.length c1, .slice A2 x.m.length c2] 87)) := bel_alloc (Below.refl _ _) _
  have ka := cell_newB w #[.int .i64 x.k, .int .i64 x.n, .string x.s, .slice A1 x.l.length c1, .slice A2 x.m.length c2] 87 0 _ rfl
  generalize w.alloc (.cells #[.int .i64 x.k, .int .i64 x.n, .string x.s, .slice A1 x.l.length c1, .slice A2 x.m.length c2] 87) = W at *
  generalize hn : x.m.length = n at *
  have Hn := Lib.hid hn
  clear hn
  go_wp2_with fail
  go_loopg [7, 8] n (fun gg s7 s8 wr => ∃ (k : Nat) (T : List UInt8), k ≤ n ∧ n - k ≤ gg ∧ s8 = .int .i64 k ∧ s7 = .string ⟨T.toArray⟩ ∧ Aside (Below W.heap.size W wr) ∧ Aside (123 :: joinFrom (prMem d) true x.m = T ++ joinFrom (prMem d) (k == 0) (x.m.drop k)))
  case atStart => exact ⟨0, [123], Nat.zero_le _, by omega, rfl, rfl, Below.refl _ _, rfl⟩
  case round =>
    obtain ⟨k, T, hk, hgg, rfl, rfl, HB, HA⟩ := hrel
    have hbw := bel_trans hbA HB.out
    have l2 := cell_later' HB.out hl0
    have hzr : w.heap.size < wr.heap.size := World.block_lt_of_cell? _ _ l2
    by_cases hlt : k < n
    · have hltz : (k : Int) < (n : Int) := by omega
      obtain ⟨⟨nm, y⟩, hx⟩ : ∃ p, x.m[k]? = some p := get_ex (by have := Hn.out; omega)
      obtain ⟨b, o, B1, k1, d1, B2, k2, d2, rfl, hnz, e0, e1', e2', e3', e4', e5', hjr⟩ := HEL.out k nm y hx
      have hms := HM.out _ (List.mem_of_getElem? hx)
      have hst := HA.out
      rw [join_step hx] at hst
      have hpm : prMem d (nm, y) = quoteB nm ++ [58] ++ printB d y := by simp [prMem]
      have hle : T.length + ((quoteB nm).length + 1 + (printB d y).length) + 1 ≤ 1000000000 := by
        have h1 := congrArg List.length hst
        have h2 := HLN.out
        have h3 := congrArg List.length hpm
        simp only [List.length_cons, List.length_append, List.length_nil] at h1 h2 h3
        split at h1 <;> (try simp only [List.length_cons] at h1) <;> omega
      rw [hpm] at hst
      have hv : validB nm = true ∧ nm.size ≤ 8000 := by have := hms.2; unfold shortB at this; simpa using this
      have hqc := quote_ref_good nm hv.1 (by omega) wr
      have hcall := fun V (hV : Below wr.heap.size wr V) => IH.out y _ F V hms.1 (JR_later hjr (bel_trans hbw hV)) (by omega)
      have HQC := Lib.hid hqc; have HC := Lib.hid hcall; have HS := Lib.hid hst; have HLE := Lib.hid hle
      have R := fun V (hV : Below wr.heap.size wr V) => And.intro (cell_later' (bel_trans hbw hV) e0) (And.intro (cell_later' (bel_trans hbw hV) e1') (And.intro (cell_later' (bel_trans hbw hV) e2') (And.intro (cell_later' (bel_trans hbw hV) e3') (And.intro (cell_later' (bel_trans hbw hV) e4') (cell_later' (bel_trans hbw hV) e5')))))
      have HRR := Lib.hid R
      have r0 := cell_later' hbw e0
      have hbr : b < wr.heap.size := World.block_lt_of_cell? _ _ r0
      clear hx hjr e0 e1' e2' e3' e4' e5' hcall hst hle hqc hpm hms hv hnz R
      generalize quoteB nm = Q at *
      have q1 := fun W : World => str_sum (P := Tryd.prog) Q [58] W (by have := HLE.out; simp; omega)
      have ql : (Q ++ [58]).length = Q.length + 1 := by simp
      generalize Q ++ [58] = Q2 at *
      have q2 := fun W : World => str_sum (P := Tryd.prog) Q2 (printB d y) W (by have := HLE.out; omega)
      have qm : (Q2 ++ printB d y).length = Q.length + 1 + (printB d y).length := by rw [List.length_append, ql]
      generalize Q2 ++ printB d y = M at *
      have HQM := Lib.hid qm
      clear ql qm
      by_cases hk0 : k = 0
      · have hz1 : decide (0 < k) = false := by simp [hk0]
        have hz2 : decide ((0 : Int) < (k : Int)) = false := by simp [hk0]
        have hT : 123 :: joinFrom (prMem d) true x.m = (T ++ M) ++ joinFrom (prMem d) (k + 1 == 0) (x.m.drop (k + 1)) := by rw [HS.out, if_pos hk0, List.append_assoc]; rfl
        have s1 := fun W : World => str_sum (P := Tryd.prog) T M W (by have := HLE.out; have := HQM.out; omega)
        generalize T ++ M = T2 at *
        have HT := Lib.hid hT; have HK0 := Lib.hid hk0
        clear hT hk0
        go_wp2_with fail
        refine Calls.mono HQC.out ?_
        rintro e w4 ⟨rfl, hb4⟩
        obtain ⟨t0, t1, t2, t3, t4, t5⟩ := HRR.out w4 hb4
        have l4 := cell_later' hb4 l2
        go_wp2_with fail
        refine Calls.mono (HC.out _ hb4) ?_
        rintro e w5 ⟨rfl, hb5⟩
        go_wp2_with fail
        go_roundg (n - (k + 1))
        case measure => omega
        case rel => exact ⟨k + 1, T2, by omega, by omega, by simp, rfl, bel_trans HB.out (bel_trans hb4 hb5), HT.out⟩
      · have hz1 : decide (0 < k) = true := by simp; omega
        have hz2 : decide ((0 : Int) < (k : Int)) = true := by simp; omega
        have hT : 123 :: joinFrom (prMem d) true x.m = (T ++ [44] ++ M) ++ joinFrom (prMem d) (k + 1 == 0) (x.m.drop (k + 1)) := by rw [HS.out, if_neg hk0]; simp
        have s0 := fun W : World => str_sum (P := Tryd.prog) T [44] W (by have := HLE.out; simp; omega)
        have hle1 : (T ++ [44]).length = T.length + 1 := by simp
        generalize T ++ [44] = T1 at *
        have s1 := fun W : World => str_sum (P := Tryd.prog) T1 M W (by have := HLE.out; have := HQM.out; omega)
        generalize T1 ++ M = T2 at *
        have HT := Lib.hid hT; have HK0 := Lib.hid hk0
        clear hT hle1 hk0
        go_wp2_with fail
        refine Calls.mono HQC.out ?_
        rintro e w4 ⟨rfl, hb4⟩
        obtain ⟨t0, t1, t2, t3, t4, t5⟩ := HRR.out w4 hb4
        have l4 := cell_later' hb4 l2
        go_wp2_with fail
        refine Calls.mono (HC.out _ hb4) ?_
        rintro e w5 ⟨rfl, hb5⟩
        go_wp2_with fail
        go_roundg (n - (k + 1))
        case measure => omega
        case rel => exact ⟨k + 1, T2, by omega, by omega, by simp, rfl, bel_trans HB.out (bel_trans hb4 hb5), HT.out⟩
    · have hltz : ¬ ((k : Int) < (n : Int)) := by omega
      have hT : 123 :: (joinFrom (prMem d) true x.m ++ [125]) = T ++ [125] := by
        have := HA.out
        rw [List.drop_of_length_le (by have := Hn.out; omega)] at this
        rw [← List.cons_append, this]
        simp [joinFrom]
      have hle : T.length + 1 ≤ 1000000000 := by have := HLN.out; rw [hT] at this; simpa using this
      have s0 := fun W : World => str_sum (P := Tryd.prog) T [125] W (by simp; omega)
      generalize T ++ [125] = T1 at *
      have HTT := Lib.hid hT
      clear hT hle
      go_wp2_with fail
      go_ret
      exact ⟨by rw [HTT.out]; rfl, hbw⟩
theorem print1_at : ∀ d, PrAt d
  | 0 => fun x cs F w h => absurd h (by simp [mayJ])
  | d + 1 => fun x cs F w hm h hlen => by
    have ih := print1_at d
    have hsh := shape_of hm
    rw [printB.eq_2] at hlen ⊢
    cases hsh with
    | word k hk => rcases hk with rfl | rfl | rfl
                   · exact print_word1 _ cs F w rfl h
                   · exact print_word2 _ cs F w rfl h
                   · exact print_word3 _ cs F w rfl h
    | num n hn => exact print_num _ cs F w rfl hn h
    | text s hs =>
      have hv : validB s = true ∧ s.size ≤ 8000 := by unfold shortB at hs; simpa using hs
      exact print_text _ cs F w rfl hv.1 hv.2 h
    | list l hl => exact print_list_ref d ih _ cs F w rfl hl hlen h
    | obj m hmm hl =>
      have hmi := (members_iff none m).1 hmm
      exact print_obj_ref d ih _ cs F w rfl (fun q hq => ⟨hl q hq, hmi.1 q hq⟩) hlen h
end Go.Proofs.YtjjgbgojlhaapaaDoor
