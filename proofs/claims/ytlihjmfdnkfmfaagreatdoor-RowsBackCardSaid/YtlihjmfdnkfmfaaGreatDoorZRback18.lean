/- Parts of the proof: Rp, Fw, Ln, Sn, Eq. -/
import Derived.Test.YtlihjmfdnkfmfaaGreatDoorZRback17
import Derived.Test.YtlihjmfdnkfmfaaGreatDoorZRback7
import Derived.Test.YtlihjmfdnkfmfaaGreatDoorZRback13
namespace Go.Proofs.YtlihjmfdnkfmfaaGreatDoor
open Go.RowKit Go.Lib

theorem bytes_nil {s : ByteArray} (h : s.toList.isEmpty = true) : s = ⟨#[]⟩ := by
  rw [ByteArray.toList_eq, List.isEmpty_iff] at h
  apply ByteArray.ext
  apply Array.eq_empty_of_size_eq_zero
  have := congrArg List.length h
  simpa using this
/-- what a value that may be looks like -/
inductive Shape (d : Nat) : JV → Prop
  | word (k : Int) (h : k = 1 ∨ k = 2 ∨ k = 3) : Shape d (.mk k 0 ⟨#[]⟩ [] [])
  | num (n : Int) (h : -9007199254740991 ≤ n ∧ n ≤ 9007199254740991) : Shape d (numV n)
  | text (s : ByteArray) (h : shortB s = true) : Shape d (wordV s)
  | list (l : List JV) (h : ∀ y ∈ l, mayJ d y = true) : Shape d (listV l)
  | obj (m : List (ByteArray × JV)) (hm : membersB none m = true) (h : ∀ q ∈ m, mayJ d q.2 = true) : Shape d (objV m)
theorem shape_of {d : Nat} {x : JV} (h : mayJ (d + 1) x = true) : Shape d x := by
  obtain ⟨k, n, s, l, m⟩ := x
  rw [may_succ] at h
  simp only [Bool.and_eq_true, JV.l, JV.m, List.all_eq_true] at h
  obtain ⟨⟨h1, h2⟩, h3⟩ := h
  unfold oneB at h1
  simp only [Bool.and_eq_true, JV.m] at h1
  obtain ⟨⟨h4, h5⟩, h6⟩ := h1
  unfold rangeB at h6
  simp only [Bool.and_eq_true, JV.n, JV.s] at h6
  obtain ⟨⟨h7, h8⟩, h9⟩ := h6
  simp only [badK, JV.k, JV.n, JV.s, JV.l, JV.m, Bool.not_eq_true', Bool.or_eq_false_iff, Bool.and_eq_false_iff, bne_eq_false_iff_eq] at h4
  obtain ⟨⟨⟨⟨⟨a1, a2⟩, a3⟩, a4⟩, a5⟩, a6⟩ := h4
  have a1 := of_decide_eq_false a1
  have a2 := of_decide_eq_false a2
  have hn : k ≠ 4 → n = 0 := fun hk => a3.resolve_right hk
  have hs : k ≠ 5 → s = ⟨#[]⟩ := fun hk => bytes_nil (by simpa using a4.resolve_right hk)
  have hl : k ≠ 6 → l = [] := fun hk => List.eq_nil_of_length_eq_zero (by have := of_decide_eq_false (a5.resolve_right hk); omega)
  have hm : k ≠ 7 → m = [] := fun hk => List.eq_nil_of_length_eq_zero (by have := of_decide_eq_false (a6.resolve_right hk); omega)
  have hk : k = 1 ∨ k = 2 ∨ k = 3 ∨ k = 4 ∨ k = 5 ∨ k = 6 ∨ k = 7 := by omega
  rcases hk with rfl | rfl | rfl | rfl | rfl | rfl | rfl
  · rw [hn (by decide), hs (by decide), hl (by decide), hm (by decide)]; exact .word 1 (by decide)
  · rw [hn (by decide), hs (by decide), hl (by decide), hm (by decide)]; exact .word 2 (by decide)
  · rw [hn (by decide), hs (by decide), hl (by decide), hm (by decide)]; exact .word 3 (by decide)
  · rw [hs (by decide), hl (by decide), hm (by decide)]; exact .num n ⟨of_decide_eq_true h7, of_decide_eq_true h8⟩
  · rw [hn (by decide), hl (by decide), hm (by decide)]; exact .text s h9
  · rw [hn (by decide), hs (by decide), hm (by decide)]; exact .list l h2
  · rw [hn (by decide), hs (by decide), hl (by decide)]; exact .obj m h5 h3

/-! names that rise -/
def NmLt (a b : ByteArray × JV) : Prop := a.1.toList < b.1.toList
theorem less_iff (a b : List UInt8) : Op.bytesLess a b = true ↔ a < b := by rw [bytesLess_eq]; simp
theorem leB_iff (a b : ByteArray) : leB a b = false ↔ b.toList < a.toList := by
  unfold leB
  rw [bytesLess_eq]
  constructor
  · intro h
    simp only [Bool.or_eq_false_iff, decide_eq_false_iff_not, beq_eq_false_iff_ne, ne_eq] at h
    rcases List.le_iff_lt_or_eq.1 (List.not_lt.1 h.1) with h1 | h1
    · exact h1
    · exact absurd h1.symm h.2
  · intro h
    have h1 : ¬ a.toList < b.toList := fun h2 => List.lt_irrefl _ (List.lt_trans h h2)
    have h2 : a.toList ≠ b.toList := fun e => by rw [e] at h; exact List.lt_irrefl _ h
    simp [h1, h2]
theorem members_iff : ∀ (p : Option ByteArray) (m : List (ByteArray × JV)), membersB p m = true ↔ (∀ q ∈ m, shortB q.1 = true) ∧ (∀ a, p = some a → ∀ q ∈ m, a.toList < q.1.toList) ∧ m.Pairwise NmLt
  | p, [] => by simp [membersB]
  | p, (nm, y) :: r => by
    have ih := members_iff (some nm) r
    simp only [membersB, Bool.and_eq_true, ih]
    constructor
    · rintro ⟨⟨h1, h2⟩, h3, h4, h5⟩
      refine ⟨fun q hq => ?_, fun a ha q hq => ?_, ?_⟩
      · rcases List.mem_cons.1 hq with rfl | hq
        · exact h1
        · exact h3 q hq
      · subst ha
        have h2' : a.toList < nm.toList := (leB_iff nm a).1 (by simpa using h2)
        rcases List.mem_cons.1 hq with rfl | hq
        · exact h2'
        · exact List.lt_trans h2' (h4 nm rfl q hq)
      · exact List.Pairwise.cons (fun q hq => h4 nm rfl q hq) h5
    · rintro ⟨h1, h2, h3⟩
      rw [List.pairwise_cons] at h3
      refine ⟨⟨h1 _ (List.mem_cons_self ..), ?_⟩, fun q hq => h1 q (List.mem_cons_of_mem _ hq), fun a ha q hq => by cases ha; exact h3.1 q hq, h3.2⟩
      rcases p with _ | a
      · rfl
      · have := (leB_iff nm a).2 (h2 a rfl _ (List.mem_cons_self ..))
        simpa using this
theorem sort_rising : ∀ (m : List (ByteArray × JV)), m.Pairwise NmLt → sortNames m = m
  | [], _ => rfl
  | x :: r, h => by
    rw [List.pairwise_cons] at h
    have ih := sort_rising r h.2
    unfold sortNames at ih ⊢
    rw [List.foldr_cons, ih]
    rcases r with _ | ⟨y, r⟩
    · rfl
    · simp only [insName]
      rw [if_pos ((less_iff _ _).2 (h.1 y (List.mem_cons_self ..)))]

/-! words, and what a value begins with -/
theorem word_rest (s : ByteArray) : ∀ (l : List UInt8) (p : Nat) (t : List UInt8), rest s p = l ++ t → wordIn s l ⟨p, 0⟩ = (true, ⟨p + l.length, 0⟩)
  | [], _, _, _ => rfl
  | c :: l, p, t, h => by
    have hl := rest_lt h
    have hb := rest_byte h
    have ih := word_rest s l (p + 1) t (rest_next h)
    simp only [wordIn]
    rw [if_neg (by omega), if_neg (by rw [hb]; simp)]
    simp only [St.step] at *
    rw [ih]
    simp only [List.length_cons]; congr 2; omega
/-- bytes that a value may begin with -/
def heads : List UInt8 := [110, 102, 116, 45, 48, 49, 50, 51, 52, 53, 54, 55, 56, 57, 34, 91, 123]
theorem digit_heads {c : UInt8} (h : c = 45 ∨ isDigit c = true) : c ∈ heads := by
  rcases h with rfl | h
  · decide
  · simp only [isDigit, Bool.and_eq_true, decide_eq_true_eq] at h
    have hc : c = UInt8.ofNat c.toNat := by simp
    rcases (show c.toNat = 48 ∨ c.toNat = 49 ∨ c.toNat = 50 ∨ c.toNat = 51 ∨ c.toNat = 52 ∨ c.toNat = 53 ∨ c.toNat = 54 ∨ c.toNat = 55 ∨ c.toNat = 56 ∨ c.toNat = 57 by omega) with e | e | e | e | e | e | e | e | e | e <;> (rw [e] at hc; rw [hc]; decide)
theorem print_head {d : Nat} {x : JV} (h : mayJ (d + 1) x = true) : ∃ c r, printB (d + 1) x = c :: r ∧ c ∈ heads := by
  rw [printB.eq_2]
  cases shape_of h with
  | word k hk => rcases hk with rfl | rfl | rfl <;> exact ⟨_, _, rfl, by decide⟩
  | num n hn =>
    obtain ⟨c, r, e, hc⟩ := itoa_head n
    exact ⟨c, r, e, digit_heads hc⟩
  | text s hs => exact ⟨_, _, rfl, by decide⟩
  | list l hl => exact ⟨_, _, rfl, by decide⟩
  | obj m hm hl => exact ⟨_, _, rfl, by decide⟩
theorem heads_blank {c : UInt8} (h : c ∈ heads) : isBlank c = false ∧ c ≠ 93 ∧ c ≠ 125 ∧ c ≠ 44 ∧ c ≠ 58 := by
  simp only [heads, List.mem_cons, List.not_mem_nil, or_false] at h
  rcases h with rfl | rfl | rfl | rfl | rfl | rfl | rfl | rfl | rfl | rfl | rfl | rfl | rfl | rfl | rfl | rfl | rfl <;> decide
/-- what stands behind a number -/
def NumEnd (t : List UInt8) : Prop := ∀ c r, t = c :: r → isDigit c = false ∧ [46, 101, 69].contains c = false
theorem numEnd_cons {c : UInt8} {r : List UInt8} (h : isDigit c = false) (h2 : [46, 101, 69].contains c = false) : NumEnd (c :: r) := fun d t e => by
  injection e with e1 e2; rw [← e1]; exact ⟨h, h2⟩
theorem value_number {s : ByteArray} {p : Nat} {n : Int} {t : List UInt8} (d : Nat) (hn : -9007199254740991 ≤ n ∧ n ≤ 9007199254740991) (h : rest s p = Lib.itoa n ++ t) (ht : NumEnd t) :
    valueB s (d + 1) ⟨p, 0⟩ = (numV n, ⟨p + (Lib.itoa n).length, 0⟩) := by
  have hv := value_itoa d h (fun c r e => (ht c r e).1)
  have ha : anyB s [46, 101, 69] (p + (Lib.itoa n).length) = false := by
    have hre := drop_rest h
    rcases t with _ | ⟨c, r⟩
    · exact anyB_nil _ hre
    · rw [anyB_rest _ hre]; exact (ht c r rfl).2
  rw [show ((if n < 0 then -1 else 1) * min (n.natAbs : Int) 9007199254740992) = n by split <;> omega, ha, if_neg (show ¬ ((false : Bool) = true) by decide), if_neg (by omega)] at hv
  exact hv

/-! lists and objects -/
theorem join_cons {α : Type} (f : α → List UInt8) (x : α) (xs : List α) (b : Bool) : joinFrom f b (x :: xs) = (if b then [] else [44]) ++ f x ++ joinFrom f false xs := by
  cases b <;> rfl
theorem join_false {α : Type} (f : α → List UInt8) (x : α) (xs : List α) : joinFrom f false (x :: xs) = 44 :: joinFrom f true (x :: xs) := rfl
theorem wants_rest {s : ByteArray} {p : Nat} {c : UInt8} {r : List UInt8} (h : rest s p = c :: r) (hb : isBlank c = false) : St.wants s ⟨p, 0⟩ c = ⟨p + 1, 0⟩ := by
  unfold St.wants
  rw [see_rest 0 h hb]
  simp [St.step]
/-- a value at depth d is read as it -/
def Reads (s : ByteArray) (d : Nat) : Prop := ∀ (x : JV) (p : Nat) (t : List UInt8), mayJ d x = true → rest s p = printB d x ++ t → (x.k = 4 → NumEnd t) → valueB s d ⟨p, 0⟩ = (x, ⟨p + (printB d x).length, 0⟩)
theorem list_loop {s : ByteArray} {d : Nat} (ih : Reads s d) (t : List UInt8) : ∀ (l : List JV) (acc : List JV) (f p : Nat), l ≠ [] → (∀ y ∈ l, mayJ d y = true) → p ≤ s.size → s.size + 1 - p ≤ f → rest s p = joinFrom (printB d) true l ++ 93 :: t →
    listLoop s (valueB s d) f acc ⟨p, 0⟩ = (acc ++ l, ⟨p + (joinFrom (printB d) true l).length + 1, 0⟩)
  | [], _, _, _, h, _, _, _, _ => absurd rfl h
  | x :: xs, acc, 0, p, _, _, hp, hf, _ => by omega
  | x :: xs, acc, f + 1, p, _, hm, hp, hf, h => by
    have hx := hm x (List.mem_cons_self ..)
    rw [join_cons] at h ⊢
    simp only [if_true, List.nil_append, List.append_assoc] at h ⊢
    rcases xs with _ | ⟨y, ys⟩
    · simp only [joinFrom, List.nil_append] at h
      have hv := ih x p _ hx h (fun _ => numEnd_cons (by decide) (by decide))
      have hs := see_rest 0 (drop_rest h) (by decide)
      simp only [listLoop, hv, hs]
      simp [St.step, joinFrom]
    · rw [join_false] at h ⊢
      have hv := ih x p _ hx h (fun _ => numEnd_cons (by decide) (by decide))
      have h2 := drop_rest h
      have hs := see_rest 0 h2 (by decide)
      have hw := wants_rest h2 (by decide)
      have hlt := rest_lt h2
      have h3 := rest_next h2
      simp only [listLoop, hv, hs, hw]
      rw [if_neg (by decide), if_neg (by decide), if_neg (by decide), if_neg (by decide)]
      rw [list_loop ih t (y :: ys) _ f _ (by simp) (fun q hq => hm q (List.mem_cons_of_mem _ hq)) (by omega) (by omega) h3]
      simp only [List.append_assoc, List.length_append, List.length_cons, List.cons_append, List.nil_append]
      congr 2; omega
def prMem (d : Nat) (q : ByteArray × JV) : List UInt8 := quoteB q.1 ++ 58 :: printB d q.2
theorem quote_head (u : ByteArray) : ∃ r, quoteB u = 34 :: r := ⟨_, rfl⟩
theorem member_rest {s : ByteArray} {d : Nat} (ih : Reads s d) {acc : List (ByteArray × JV)} {nm : ByteArray} {y : JV} {p : Nat} {t : List UInt8} (hs : shortB nm = true) (hy : mayJ d y = true) (ha : ∀ q ∈ acc, q.1.toList ≠ nm.toList) (h : rest s p = prMem d (nm, y) ++ t) (ht : y.k = 4 → NumEnd t) :
    memberB s (valueB s d) acc ⟨p, 0⟩ = ((nm, y), ⟨p + (prMem d (nm, y)).length, 0⟩) := by
  unfold prMem at h ⊢
  simp only at h ⊢
  have hv : validB nm = true ∧ nm.size ≤ 8000 := by unfold shortB at hs; simpa using hs
  obtain ⟨r, hq⟩ := quote_head nm
  have h0 := h
  rw [hq, List.cons_append, List.cons_append] at h0
  have hsee := see_rest 0 h0 (by decide)
  rw [List.append_assoc] at h
  have htx := text_quote hv.1 hv.2 h
  have h2 := drop_rest h
  have hw := wants_rest (c := 58) h2 (by decide)
  have h3 := rest_next h2
  have hva := ih y _ t hy h3 ht
  have hnm : (⟨nm.data.toList.toArray⟩ : ByteArray) = nm := array_list _ nm rfl
  have hany : (acc.any fun q => q.1.toList == nm.toList) = false := by
    rw [List.any_eq_false]
    intro q hq2 e
    exact ha q hq2 (by simpa using e)
  simp only [memberB, hsee, ne_eq, not_true_eq_false, if_false, htx, hnm, hany]
  rw [if_neg (show ¬ ((false : Bool) = true) by decide)]
  simp only [if_true, hw, hva]
  simp only [List.length_append, List.length_cons]
  congr 2; omega
theorem obj_loop {s : ByteArray} {d : Nat} (ih : Reads s d) (t : List UInt8) : ∀ (l : List (ByteArray × JV)) (acc : List (ByteArray × JV)) (f p : Nat), l ≠ [] → (∀ y ∈ l, mayJ d y.2 = true ∧ shortB y.1 = true) → (acc ++ l).Pairwise NmLt → p ≤ s.size → s.size + 1 - p ≤ f → rest s p = joinFrom (prMem d) true l ++ 125 :: t →
    objLoop s (valueB s d) f acc ⟨p, 0⟩ = (acc ++ l, ⟨p + (joinFrom (prMem d) true l).length + 1, 0⟩)
  | [], _, _, _, h, _, _, _, _, _ => absurd rfl h
  | x :: xs, acc, 0, p, _, _, _, hp, hf, _ => by omega
  | (nm, v) :: xs, acc, f + 1, p, _, hm, hpw, hp, hf, h => by
    have hx := hm _ (List.mem_cons_self ..)
    have hacc : ∀ q ∈ acc, q.1.toList ≠ nm.toList := fun q hq e => by
      have := (List.pairwise_append.1 hpw).2.2 q hq _ (List.mem_cons_self ..)
      unfold NmLt at this
      rw [e] at this
      exact List.lt_irrefl _ this
    rw [join_cons] at h ⊢
    simp only [if_true, List.nil_append, List.append_assoc] at h ⊢
    rcases xs with _ | ⟨y, ys⟩
    · simp only [joinFrom, List.nil_append] at h
      have hv := member_rest ih hx.2 hx.1 hacc h (fun _ => numEnd_cons (by decide) (by decide))
      have hs := see_rest 0 (drop_rest h) (by decide)
      simp only [objLoop, hv, hs]
      simp [St.step, joinFrom]
    · rw [join_false] at h ⊢
      have hv := member_rest ih hx.2 hx.1 hacc h (fun _ => numEnd_cons (by decide) (by decide))
      have h2 := drop_rest h
      have hs := see_rest 0 h2 (by decide)
      have hw := wants_rest h2 (by decide)
      have hlt := rest_lt h2
      have h3 := rest_next h2
      simp only [objLoop, hv, hs, hw]
      rw [if_neg (by decide), if_neg (by decide), if_neg (by decide), if_neg (by decide)]
      rw [obj_loop ih t (y :: ys) _ f _ (by simp) (fun q hq => hm q (List.mem_cons_of_mem _ hq)) (by simpa using hpw) (by omega) (by omega) h3]
      simp only [List.append_assoc, List.length_append, List.length_cons, List.cons_append, List.nil_append]
      congr 2; omega
theorem join_head {α : Type} (f : α → List UInt8) (x : α) (xs : List α) {c : UInt8} {r : List UInt8} (h : f x = c :: r) (t : List UInt8) : ∃ u, joinFrom f true (x :: xs) ++ t = c :: u := by
  rw [join_cons, h]; exact ⟨_, rfl⟩
theorem value_reads (s : ByteArray) : ∀ d, Reads s d
  | 0 => fun x p t h => absurd h (by simp [mayJ])
  | d + 1 => fun x p t h hr ht => by
    have ih := value_reads s d
    have hsh := shape_of h
    rw [printB.eq_2] at hr ⊢
    cases hsh with
    | word k hk =>
      rcases hk with rfl | rfl | rfl
      · have hr' : rest s p = [110, 117, 108, 108] ++ t := hr
        have hs := see_rest 0 hr' (by decide)
        have hw := word_rest s _ p t hr'
        simp only [valueB, hs, wordB, hw]
        rfl
      · have hr' : rest s p = [102, 97, 108, 115, 101] ++ t := hr
        have hs := see_rest 0 hr' (by decide)
        have hw := word_rest s _ p t hr'
        simp only [valueB, hs, wordB, hw]
        rfl
      · have hr' : rest s p = [116, 114, 117, 101] ++ t := hr
        have hs := see_rest 0 hr' (by decide)
        have hw := word_rest s _ p t hr'
        simp only [valueB, hs, wordB, hw]
        rfl
    | num n hn => exact value_number d hn hr (ht rfl)
    | text u hu =>
      have hv : validB u = true ∧ u.size ≤ 8000 := by unfold shortB at hu; simpa using hu
      have hr' : rest s p = quoteB u ++ t := hr
      obtain ⟨r, hq⟩ := quote_head u
      have h0 := hr'
      rw [hq, List.cons_append] at h0
      have hs := see_rest 0 h0 (by decide)
      have htx := text_quote hv.1 hv.2 hr'
      have hva : valueB s (d + 1) ⟨p, 0⟩ = (wordV u, ⟨p + (quoteB u).length, 0⟩) := by
        simp only [valueB, hs]
        rw [if_neg (by decide), if_neg (by decide), if_neg (by decide), if_pos (by decide), htx, array_list _ u rfl]
      exact hva
    | list l hl =>
      have hr' : rest s p = 91 :: (joinFrom (printB d) true l ++ 93 :: t) := by rw [hr]; show 91 :: (joinFrom (printB d) true l ++ [93]) ++ t = _; simp
      have hs := see_rest 0 hr' (by decide)
      have h1 := rest_next hr'
      have hva : valueB s (d + 1) ⟨p, 0⟩ = listB s (valueB s d) ⟨p, 0⟩ := by
        simp only [valueB, hs]
        rw [if_neg (by decide), if_pos (by decide)]
      have hgoal : valueB s (d + 1) ⟨p, 0⟩ = (listV l, ⟨p + (91 :: (joinFrom (printB d) true l ++ [93])).length, 0⟩) := by
        rw [hva]
        rcases l with _ | ⟨y, ys⟩
        · have hs1 := see_rest 0 (show rest s (p + 1) = 93 :: t from h1) (by decide)
          simp only [listB, St.step, hs1]
          rfl
        · rcases d with _ | d
          · exact absurd (hl y (List.mem_cons_self ..)) (by simp [mayJ])
          obtain ⟨c, r, hc, hch⟩ := print_head (hl y (List.mem_cons_self ..))
          obtain ⟨u, hu⟩ := join_head (printB (d + 1)) y ys hc (93 :: t)
          have hb := heads_blank hch
          have hlt := rest_lt (h1.trans hu)
          have hs1 := see_rest 0 (h1.trans hu) hb.1
          have hlo := list_loop ih t (y :: ys) [] (s.size + 1 - (p + 1)) (p + 1) (by simp) hl (by omega) (Nat.le_refl _) h1
          simp only [listB, St.step, hs1]
          rw [if_neg hb.2.1, hlo]
          simp only [List.nil_append, List.length_cons, List.length_append, List.length_nil]
          congr 2; omega
      exact hgoal
    | obj m hm hl =>
      have hmi := (members_iff none m).1 hm
      have hr' : rest s p = 123 :: (joinFrom (prMem d) true m ++ 125 :: t) := by rw [hr]; show 123 :: (joinFrom (prMem d) true m ++ [125]) ++ t = _; simp
      have hs := see_rest 0 hr' (by decide)
      have h1 := rest_next hr'
      have hva : valueB s (d + 1) ⟨p, 0⟩ = objectB s (valueB s d) ⟨p, 0⟩ := by
        simp only [valueB, hs]
        rw [if_neg (by decide), if_neg (by decide), if_pos (by decide)]
      have hgoal : valueB s (d + 1) ⟨p, 0⟩ = (objV m, ⟨p + (123 :: (joinFrom (prMem d) true m ++ [125])).length, 0⟩) := by
        rw [hva]
        rcases m with _ | ⟨y, ys⟩
        · have hs1 := see_rest 0 (show rest s (p + 1) = 125 :: t from h1) (by decide)
          simp only [objectB, St.step, hs1]
          rfl
        · obtain ⟨r, hq⟩ := quote_head y.1
          obtain ⟨u, hu⟩ := join_head (prMem d) y ys (c := 34) (r := r ++ 58 :: printB d y.2) (by unfold prMem; rw [hq]; rfl) (125 :: t)
          have hlt := rest_lt (h1.trans hu)
          have hs1 := see_rest 0 (h1.trans hu) (by decide)
          have hlo := obj_loop ih t (y :: ys) [] (s.size + 1 - (p + 1)) (p + 1) (by simp) (fun q hq => ⟨hl q hq, hmi.1 q hq⟩) (by simpa using hmi.2.2) (by omega) (Nat.le_refl _) h1
          simp only [objectB, St.step, hs1]
          rw [if_neg (by decide), hlo]
          simp only [List.nil_append, List.length_cons, List.length_append, List.length_nil]
          rw [sort_rising _ hmi.2.2]
          congr 2; omega
      exact hgoal
end Go.Proofs.YtlihjmfdnkfmfaaGreatDoor
namespace Go.Proofs.YtlihjmfdnkfmfaaGreatDoor
open Go.RowKit Go.Lib

def cap20 (s : ByteArray) : Int := min (s.size : Int) 1048576
def cntL {α : Type} (f : α → Int → Int) : List α → Int → Int
  | [], n => n
  | x :: xs, n => if 0 < n then cntL f xs (f x n) else n
def countB : Nat → JV → Int → Int
  | 0, _, _ => 0
  | d + 1, x, n => cntL (fun p n => countB d p.2 (n - cap20 p.1)) x.m (cntL (countB d) x.l (n - 1 - cap20 x.s))
theorem cap_range (s : ByteArray) : 0 ≤ cap20 s ∧ cap20 s ≤ 1048576 := by unfold cap20; omega
theorem cap_nil : cap20 ⟨#[]⟩ = 0 := by decide +kernel
/-! a printed value is not long -/
theorem cntL_spend {α : Type} {f : α → Int → Int} {g : α → Nat} : ∀ (l : List α), (∀ x ∈ l, ∀ n, 0 < f x n → (g x : Int) + 30 * f x n ≤ 30 * n) → ∀ (n : Int), 0 < cntL f l n → ((l.map g).sum : Int) + 30 * cntL f l n ≤ 30 * n ∧ 0 < n
  | [], _, n, h => by simp [cntL] at h ⊢; exact h
  | x :: xs, hf, n, h => by
    simp only [cntL] at h ⊢
    by_cases hn : 0 < n
    · rw [if_pos hn] at h ⊢
      have ih := cntL_spend xs (fun y hy => hf y (List.mem_cons_of_mem _ hy)) (f x n) h
      have h1 := hf x (List.mem_cons_self ..) n ih.2
      simp only [List.map_cons, List.sum_cons]
      refine ⟨?_, hn⟩
      omega
    · rw [if_neg hn] at h
      exact absurd h hn
theorem join_sum {α : Type} (f : α → List UInt8) : ∀ (l : List α) (b : Bool), (joinFrom f b l).length ≤ (l.map fun x => (f x).length + 1).sum
  | [], _ => by simp [joinFrom]
  | x :: xs, b => by
    have ih := join_sum f xs false
    rw [join_cons]
    simp only [List.length_append, List.map_cons, List.sum_cons]
    have : (if b = true then ([] : List UInt8) else [44]).length ≤ 1 := by cases b <;> simp
    omega
theorem quoteOne_len {r : Nat} (_hr : Scal r) : (quoteOne r).length ≤ 6 * (Lib.encodeRune (r : Int)).length := by
  have hp := enc_pos (r : Int)
  unfold quoteOne
  split
  · simp only [List.length_cons, List.length_nil]; omega
  · split
    · simp only [List.length_cons, List.length_nil]; omega
    · omega
theorem quoteB_len {s : ByteArray} (hv : validB s = true) : (quoteB s).length ≤ 2 + 6 * s.size := by
  obtain ⟨rs, hr, hu⟩ := validB_runes hv
  have key : ∀ rs : List Nat, (∀ r ∈ rs, Scal r) → (rs.flatMap (fun r => quoteOne r)).length ≤ 6 * (encs rs).length := fun rs => by
    induction rs with
    | nil => intro _; simp
    | cons r rs ih =>
      intro h
      have h1 := ih (fun q hq => h q (List.mem_cons_of_mem _ hq))
      have h2 := quoteOne_len (h r (List.mem_cons_self ..))
      rw [encs_cons, List.flatMap_cons, List.length_append, List.length_append]
      omega
  have h1 := key rs hr
  have hz : s.data.toList.length = s.size := Array.length_toList ..
  rw [hu] at hz
  rw [quoteB_runes hr hu]
  simp only [List.length_cons, List.length_append, List.length_nil]
  omega
theorem short_len {s : ByteArray} (h : shortB s = true) : (quoteB s).length ≤ 2 + 6 * s.size ∧ s.size ≤ 8000 := by
  have hv : validB s = true ∧ s.size ≤ 8000 := by unfold shortB at h; simpa using h
  exact ⟨quoteB_len hv.1, hv.2⟩
theorem sum_le {α : Type} {f g : α → Nat} : ∀ (l : List α), (∀ x ∈ l, f x ≤ g x) → (l.map f).sum ≤ (l.map g).sum
  | [], _ => Nat.le_refl _
  | x :: xs, h => by
    have := sum_le xs (fun y hy => h y (List.mem_cons_of_mem _ hy))
    have := h x (List.mem_cons_self ..)
    simp only [List.map_cons, List.sum_cons]; omega
theorem count_len : ∀ (d e : Nat) (x : JV) (n : Int), mayJ e x = true → 0 < countB d x n → (((printB e x).length + 8 : Nat) : Int) + 30 * countB d x n ≤ 30 * n
  | 0, _, _, _, _, h => by simp [countB] at h
  | _, 0, x, _, h, _ => absurd h (by simp [mayJ])
  | d + 1, e + 1, x, n, hm, h => by
    have hcap := cap_range x.s
    simp only [countB] at h ⊢
    rw [printB.eq_2]
    cases shape_of hm with
    | word k hk =>
      simp only [JV.m, JV.l, JV.s, cntL] at h ⊢
      simp only [cap20] at h ⊢
      rcases hk with rfl | rfl | rfl <;> (simp [JV.k, ByteArray.size]; omega)
    | num m hmr =>
      simp only [numV, JV.m, JV.l, JV.s, cntL] at h ⊢
      have hl := itoa_len m (by omega) (by omega)
      have hc0 := (cap_range ⟨#[]⟩).1
      show (((Lib.itoa m).length + 8 : Nat) : Int) + 30 * (n - 1 - cap20 ⟨#[]⟩) ≤ 30 * n
      clear hm hmr hcap h
      generalize cap20 ⟨#[]⟩ = z at *
      generalize (Lib.itoa m).length = q at *
      omega
    | text u hu =>
      have hs := short_len hu
      simp only [wordV, JV.m, JV.l, JV.s, cntL] at h ⊢
      have hc : cap20 u = (u.size : Int) := by unfold cap20; omega
      rw [hc]
      show (((quoteB u).length + 8 : Nat) : Int) + 30 * (n - 1 - (u.size : Int)) ≤ 30 * n
      omega
    | list l hl =>
      have hcl : (printB e) = (printB e) := rfl
      simp only [listV, JV.m, JV.l, JV.s, cntL] at h ⊢
      have hsp := cntL_spend (f := countB d) (g := fun y => (printB e y).length + 8) l (fun y hy m hm2 => count_len d e y m (hl y hy) hm2) _ h
      have hj := join_sum (printB e) l true
      have hle := sum_le (f := fun y => (printB e y).length + 1) (g := fun y => (printB e y).length + 8) l (fun y _ => by omega)
      rw [cap_nil] at hsp ⊢
      show (((91 :: (joinFrom (printB e) true l ++ [93])).length + 8 : Nat) : Int) + 30 * cntL (countB d) l (n - 1 - 0) ≤ 30 * n
      simp only [List.length_cons, List.length_append, List.length_nil]
      omega
    | obj m hmm hl =>
      have hmi := (members_iff none m).1 hmm
      simp only [objV, JV.m, JV.l, JV.s, cntL] at h ⊢
      have hsp := cntL_spend (f := fun p n => countB d p.2 (n - cap20 p.1)) (g := fun q => (prMem e q).length + 1) m (fun q hq z hz => by
        have h1 := count_len d e q.2 _ (hl q hq) hz
        have h2 := short_len (hmi.1 q hq)
        have hc : cap20 q.1 = (q.1.size : Int) := by unfold cap20; omega
        have hp : (prMem e q).length = (quoteB q.1).length + ((printB e q.2).length + 1) := by unfold prMem; simp
        rw [hc] at h1
        rw [hp]
        simp only [hc]
        omega) _ h
      have hj := join_sum (prMem e) m true
      rw [cap_nil] at hsp ⊢
      show (((123 :: (joinFrom (prMem e) true m ++ [125])).length + 8 : Nat) : Int) + 30 * cntL _ m (n - 1 - 0) ≤ 30 * n
      simp only [List.length_cons, List.length_append, List.length_nil]
      omega
end Go.Proofs.YtlihjmfdnkfmfaaGreatDoor
namespace Go.Proofs.YtlihjmfdnkfmfaaGreatDoor
open Go.RowKit Go.Lib

theorem take_snoc' {α : Type} {l : List α} {k : Nat} {x : α} (h : l[k]? = some x) : l.take (k + 1) = l.take k ++ [x] := by
  rw [List.take_add_one, h]; rfl
mutual
def LnJ : JV → Prop
  | .mk _ _ _ l m => (l.length ≤ 1000000 ∧ m.length ≤ 1000000) ∧ LnJs l ∧ LnJm m
def LnJs : List JV → Prop
  | [] => True
  | x :: xs => LnJ x ∧ LnJs xs
def LnJm : List (ByteArray × JV) → Prop
  | [] => True
  | (_, x) :: xs => LnJ x ∧ LnJm xs
end
theorem LnJs_iff : ∀ l : List JV, LnJs l ↔ ∀ y ∈ l, LnJ y
  | [] => by simp [LnJs]
  | x :: xs => by simp [LnJs, LnJs_iff xs]
theorem LnJm_iff : ∀ l : List (ByteArray × JV), LnJm l ↔ ∀ q ∈ l, LnJ q.2
  | [] => by simp [LnJm]
  | (a, x) :: xs => by simp only [LnJm, LnJm_iff xs, List.forall_mem_cons]
theorem LnJ_iff (x : JV) : LnJ x ↔ (x.l.length ≤ 1000000 ∧ x.m.length ≤ 1000000) ∧ (∀ y ∈ x.l, LnJ y) ∧ ∀ q ∈ x.m, LnJ q.2 := by
  obtain ⟨k, n, s, l, m⟩ := x
  simp only [LnJ, LnJs_iff, LnJm_iff, JV.l, JV.m]
theorem join_ge {α : Type} (f : α → List UInt8) : ∀ (l : List α) (b : Bool), l.length ≤ (joinFrom f b l).length + (if b then 1 else 0) ∧ ∀ x ∈ l, (f x).length ≤ (joinFrom f b l).length
  | [], _ => by simp
  | x :: xs, b => by
    have ih := join_ge f xs false
    rw [join_cons]
    simp only [List.length_append, List.length_cons, List.mem_cons, Bool.false_eq_true, if_false, Nat.add_zero] at ih ⊢
    refine ⟨?_, ?_⟩
    · have := ih.1
      cases b <;> simp <;> omega
    · rintro y (rfl | hy)
      · omega
      · have := ih.2 y hy; omega
theorem print_ln : ∀ (d : Nat) (x : JV), mayJ d x = true → (printB d x).length ≤ 600000 → LnJ x
  | 0, _, h, _ => absurd h (by simp [mayJ])
  | d + 1, x, hm, h => by
    rw [printB.eq_2] at h
    cases shape_of hm with
    | word k hk => exact (LnJ_iff _).2 ⟨⟨by simp [JV.l], by simp [JV.m]⟩, by simp [JV.l], by simp [JV.m]⟩
    | num m hmr => exact (LnJ_iff _).2 ⟨⟨by simp [numV, JV.l], by simp [numV, JV.m]⟩, by simp [numV, JV.l], by simp [numV, JV.m]⟩
    | text u hu => exact (LnJ_iff _).2 ⟨⟨by simp [wordV, JV.l], by simp [wordV, JV.m]⟩, by simp [wordV, JV.l], by simp [wordV, JV.m]⟩
    | list l hl =>
      have h' : (91 :: (joinFrom (printB d) true l ++ [93])).length ≤ 600000 := h
      simp only [List.length_cons, List.length_append, List.length_nil] at h'
      have hj := join_ge (printB d) l true
      simp only [if_true] at hj
      refine (LnJ_iff _).2 ⟨⟨by simp only [listV, JV.l]; omega, by simp [listV, JV.m]⟩, fun y hy => ?_, by simp [listV, JV.m]⟩
      have hy' : y ∈ l := hy
      exact print_ln d y (hl y hy') (by have := hj.2 y hy'; omega)
    | obj m hmm hl =>
      have h' : (123 :: (joinFrom (prMem d) true m ++ [125])).length ≤ 600000 := h
      simp only [List.length_cons, List.length_append, List.length_nil] at h'
      have hj := join_ge (prMem d) m true
      simp only [if_true] at hj
      refine (LnJ_iff _).2 ⟨⟨by simp [objV, JV.l], by simp only [objV, JV.m]; omega⟩, by simp [objV, JV.l], fun q hq => ?_⟩
      have hq' : q ∈ m := hq
      have hp : (prMem d q).length = (quoteB q.1).length + ((printB d q.2).length + 1) := by unfold prMem; simp
      exact print_ln d q.2 (hl q hq') (by have := hj.2 q hq'; omega)
end Go.Proofs.YtlihjmfdnkfmfaaGreatDoor
namespace Go.Proofs.YtlihjmfdnkfmfaaGreatDoor
open Go.RowKit Go.Lib

mutual
def sameB : JV → JV → Bool
  | .mk k n s l m, .mk k' n' s' l' m' => k == k' && n == n' && s.toList == s'.toList && sameL l l' && sameM m m'
def sameL : List JV → List JV → Bool
  | [], [] => true
  | x :: xs, y :: ys => sameB x y && sameL xs ys
  | _, _ => false
def sameM : List (ByteArray × JV) → List (ByteArray × JV) → Bool
  | [], [] => true
  | (a, x) :: xs, (b, y) :: ys => (a.toList == b.toList && sameB x y) && sameM xs ys
  | _, _ => false
end
mutual
theorem same_refl : ∀ x : JV, sameB x x = true
  | .mk k n s l m => by simp [sameB, sameL_refl l, sameM_refl m]
theorem sameL_refl : ∀ l : List JV, sameL l l = true
  | [] => rfl
  | x :: xs => by simp [sameL, same_refl x, sameL_refl xs]
theorem sameM_refl : ∀ l : List (ByteArray × JV), sameM l l = true
  | [] => rfl
  | (a, x) :: xs => by simp [sameM, same_refl x, sameM_refl xs]
end
theorem get_mem {α : Type} {l : List α} {k : Nat} {x : α} (h : l[k]? = some x) : x ∈ l := List.mem_of_getElem? h
theorem mem_size {x : JV} {q : ByteArray × JV} (h : q ∈ x.m) : SizeOf.sizeOf q.2 < SizeOf.sizeOf x := by
  have hm := List.sizeOf_lt_of_mem h
  obtain ⟨a, b, s, l, m⟩ := x
  obtain ⟨nm, q⟩ := q
  simp only [JV.mk.sizeOf_spec, JV.m, Prod.mk.sizeOf_spec] at *
  omega
theorem val_size' {x q : JV} (h : q ∈ x.l) : SizeOf.sizeOf q < SizeOf.sizeOf x := by
  have hm := List.sizeOf_lt_of_mem h
  obtain ⟨a, b, s, l, m⟩ := x
  simp only [JV.mk.sizeOf_spec, JV.l] at *
  omega
end Go.Proofs.YtlihjmfdnkfmfaaGreatDoor
namespace Go.Proofs.YtlihjmfdnkfmfaaGreatDoor
open Go.RowKit Go.Lib

/-- what a call of Plain on a tree says -/
def PlRes (x : JV) (w : World) (z : Ending) (w' : World) : Prop := (∃ (A1 : Option Addr) (n1 c1 : Nat) (A2 : Option Addr) (n2 c2 : Nat),
  z = .returned (.agg #[.int .i64 x.k, .int .i64 x.n, .string x.s, .slice A1 n1 c1, .slice A2 n2 c2]) ∧ JR w' (fun b => w.heap.size ≤ b) x [.int .i64 x.k, .int .i64 x.n, .string x.s, .slice A1 n1 c1, .slice A2 n2 c2]) ∧ Below w.heap.size w w'
def PlS (V P i : Nat) (u pv : Value) (b o : Nat) (es : List Value) (w : World) : Prop := w.cell? ⟨V, i, none⟩ = some u ∧ w.cell? ⟨P, i, none⟩ = some pv ∧ ∀ j e, es[j]? = some e → w.cell? ⟨b, o + j, none⟩ = some e
theorem PlS.later {V P i : Nat} {u pv : Value} {b o : Nat} {es : List Value} {w W : World} (h : PlS V P i u pv b o es w) (hb : Below w.heap.size w W) : PlS V P i u pv b o es W :=
  ⟨cell_later' hb h.1, cell_later' hb h.2.1, fun j e he => cell_later' hb (h.2.2 j e he)⟩
theorem Below.at {w w' : World} {b : Nat} {o : Obj} (h : Below w.heap.size w w') (hb : w.heap[b]? = some o) : w'.heap[b]? = some o := (h.block b (Array.getElem?_eq_some_iff.1 hb).1).trans hb
end Go.Proofs.YtlihjmfdnkfmfaaGreatDoor
