/- Parts of the proof: Rm, Fu. -/
import Derived.Test.YtjjgbgojlhaapaaGreatDoorZReads20
import Derived.Test.YtjjgbgojlhaapaaGreatDoorZReads19
namespace Go.Proofs.YtjjgbgojlhaapaaGreatDoor
open Go.RowKit Go.Lib

theorem fail_not {x : St} {e : Int} (he : e ≠ 0) : (x.fail e).e ≠ 0 := by
  unfold St.fail
  split
  · exact he
  · assumption
theorem ne1 : (1 : Int) ≠ 0 := by decide
theorem number_may {s : ByteArray} {x : St} (h : (numberB s x).2.e = 0) (d : Nat) : mayJ (d + 1) (numberB s x).1 = true := by
  unfold numberB at h ⊢
  generalize anyB s [45] x.p = neg at *
  generalize numStart s _ = y at *
  have hr := numLoop_range s (anyB s [48] y.p) y.p (s.size - y.p) 0 y.p (by omega) (by omega)
  unfold numEnd at h ⊢
  simp only at h ⊢
  split at h
  · exact absurd h (fail_not ne4)
  · split at h
    · exact absurd h (fail_not ne1)
    · refine may_numV ?_ ?_ <;> split <;> omega
theorem see_good {s : ByteArray} {x : St} (h : (x.see s).2.e = 0) : (x.see s).2.p < s.size ∧ byteAt s (x.see s).2.p = (x.see s).1 := by
  unfold St.see at *
  simp only at *
  split at h
  · exact absurd h (fail_not ne2)
  · rename_i h1
    rw [if_neg h1]
    exact ⟨Nat.lt_of_not_le h1, rfl⟩
theorem digit_opens {c : UInt8} (h : c = 45 ∨ isDigit c = true) : opens.contains c = true := by
  have h1 := digit_heads h
  simp only [heads, List.mem_cons, List.not_mem_nil, or_false] at h1
  rcases h1 with rfl | rfl | rfl | rfl | rfl | rfl | rfl | rfl | rfl | rfl | rfl | rfl | rfl | rfl | rfl | rfl | rfl <;> decide
theorem number_none {s : ByteArray} {y : St} (hp : y.p < s.size) (hc : opens.contains (byteAt s y.p) = false) : (numberB s y).2.e ≠ 0 := by
  have h1 : anyB s [45] y.p = false := by
    unfold anyB
    rw [decide_eq_true hp]
    by_cases h : byteAt s y.p = 45
    · rw [digit_opens (.inl h)] at hc; exact absurd hc (by decide)
    · simpa using h
  have h2 : digitB s y.p = false := by
    unfold digitB
    rcases hd : isDigit (byteAt s y.p) with _ | _
    · simp
    · rw [digit_opens (.inr hd)] at hc; exact absurd hc (by decide)
  unfold numberB
  rw [h1, if_neg (show ¬ ((false : Bool) = true) by decide)]
  have hns : numStart s y = y := by
    unfold numStart
    rw [if_neg (by omega)]
  rw [hns]
  unfold numEnd
  simp only [numLoop_stop (s := s) (z := anyB s [48] y.p) (fr := y.p) (p := y.p) (n := 0) (.inl h2)]
  rw [if_pos (.inl trivial)]
  exact fail_not ne4
theorem word_may {s : ByteArray} {l : List UInt8} {k : Int} (hk : k = 1 ∨ k = 2 ∨ k = 3) : ∀ {x : St}, (wordB s l k x).2.e = 0 → ∀ d, mayJ (d + 1) (wordB s l k x).1 = true := fun {x} h d => by
  have key : ∀ (l : List UInt8) (x : St), (wordIn s l x).2.e = 0 → (wordIn s l x).1 = true := fun l => by
    induction l with
    | nil => intro x _; rfl
    | cons c l ih =>
      intro x h
      simp only [wordIn] at h ⊢
      split at h
      · exact absurd h (fail_not ne2)
      · rename_i h1
        rw [if_neg h1]
        split at h
        · exact absurd h (fail_not ne4)
        · rename_i h2
          rw [if_neg h2]
          exact ih _ h
  unfold wordB at h ⊢
  simp only at h ⊢
  rw [if_pos (key l x h)]
  rcases hk with rfl | rfl | rfl <;> (rw [may_succ]; simp [oneB, badK, membersB, rangeB, JV.k, JV.n, JV.s, JV.l, JV.m, short_nil, ByteArray.toList_eq])
theorem list_may {s : ByteArray} {pv : St → JV × St} {d : Nat} (hpv : ∀ x, (pv x).2.e = 0 → mayJ d (pv x).1 = true) : ∀ (f : Nat) (acc : List JV) (x : St), (∀ y ∈ acc, mayJ d y = true) → (listLoop s pv f acc x).2.e = 0 → ∀ y ∈ (listLoop s pv f acc x).1, mayJ d y = true
  | 0, acc, x, ha, _ => ha
  | f + 1, acc, x, ha, h => by
    have more : (pv x).2.e = 0 → ∀ y ∈ acc ++ [(pv x).1], mayJ d y = true := fun h0 y hy => by
      rcases List.mem_append.1 hy with hy | hy
      · exact ha y hy
      · rw [List.mem_singleton.1 hy]; exact hpv x h0
    simp only [listLoop] at h ⊢
    split at h
    · rename_i h1; rw [if_pos h1]; exact ha
    · rename_i h1
      rw [if_neg h1]
      split at h
      · rename_i h2; exact absurd h h2
      · rename_i h2
        have h2' : (pv x).2.e = 0 := Decidable.of_not_not h2
        rw [if_neg h2]
        split at h
        · rename_i h3; rw [if_pos h3]; exact more h2'
        · rename_i h3
          rw [if_neg h3]
          split at h
          · rename_i h4; exact absurd h h4
          · rename_i h4
            rw [if_neg h4]
            exact list_may hpv f _ _ (more h2') h
theorem wants_err {s : ByteArray} {x : St} {c : UInt8} (h : x.e ≠ 0) : (x.wants s c).e ≠ 0 := by
  have h1 : (x.see s).2.e ≠ 0 := by
    have hb : (x.blanks s).e = x.e := rfl
    unfold St.see
    simp only
    split
    · exact fail_not ne2
    · rw [hb]; exact h
  unfold St.wants
  simp only
  rw [if_neg (fun h2 => h1 h2.1)]
  exact h1
theorem member_may {s : ByteArray} {pv : St → JV × St} {d : Nat} (hpv : ∀ x, (pv x).2.e = 0 → mayJ d (pv x).1 = true) {l : List (ByteArray × JV)} {x : St} (h : (memberB s pv l x).2.e = 0) :
    shortB (memberB s pv l x).1.1 = true ∧ mayJ d (memberB s pv l x).1.2 = true ∧ ∀ q ∈ l, q.1.toList ≠ (memberB s pv l x).1.1.toList := by
  have ht : (textB s (if (x.see s).1 ≠ 34 then (x.see s).2.fail 4 else (x.see s).2)).2.e = 0 := Decidable.of_not_not fun h1 => member_text h1 h
  have hv := text_valid s _ ht
  unfold memberB at h ⊢
  simp only at h ⊢
  generalize textB s (if (x.see s).1 ≠ 34 then (x.see s).2.fail 4 else (x.see s).2) = t at *
  cases ha : (l.any fun m => m.1.toList == (⟨t.1.toArray⟩ : ByteArray).toList) with
  | true =>
    rw [ha] at h
    simp only [if_true] at h
    have h4 : (t.2.fail 4).e ≠ 0 := fail_not ne4
    rw [if_neg h4, if_neg h4] at h
    exact absurd h h4
  | false =>
    rw [ha] at h
    simp only [Bool.false_eq_true, if_false] at h ⊢
    rw [if_pos ht] at h ⊢
    have hd : ∀ q ∈ l, q.1.toList ≠ (⟨t.1.toArray⟩ : ByteArray).toList := fun q hq e => by
      have := List.any_eq_false.1 ha q hq
      simp [e] at this
    split at h
    · rename_i h1
      rw [if_pos h1]
      exact ⟨hv, hpv _ h, hd⟩
    · rename_i h1
      exact absurd h h1
/-- names that are apart -/
def NmNe (a b : ByteArray × JV) : Prop := a.1.toList ≠ b.1.toList
theorem obj_may {s : ByteArray} {pv : St → JV × St} {d : Nat} (hpv : ∀ x, (pv x).2.e = 0 → mayJ d (pv x).1 = true) : ∀ (f : Nat) (acc : List (ByteArray × JV)) (x : St), (∀ y ∈ acc, shortB y.1 = true ∧ mayJ d y.2 = true) → acc.Pairwise NmNe → (objLoop s pv f acc x).2.e = 0 →
    (∀ y ∈ (objLoop s pv f acc x).1, shortB y.1 = true ∧ mayJ d y.2 = true) ∧ (objLoop s pv f acc x).1.Pairwise NmNe
  | 0, acc, x, ha, hp, _ => ⟨ha, hp⟩
  | f + 1, acc, x, ha, hp, h => by
    have more : (memberB s pv acc x).2.e = 0 → (∀ y ∈ acc ++ [(memberB s pv acc x).1], shortB y.1 = true ∧ mayJ d y.2 = true) ∧ (acc ++ [(memberB s pv acc x).1]).Pairwise NmNe := fun h0 => by
      have hm := member_may hpv h0
      refine ⟨fun y hy => ?_, ?_⟩
      · rcases List.mem_append.1 hy with hy | hy
        · exact ha y hy
        · rw [List.mem_singleton.1 hy]; exact ⟨hm.1, hm.2.1⟩
      · rw [List.pairwise_append]
        refine ⟨hp, List.pairwise_singleton .., fun a ha b hb => ?_⟩
        rw [List.mem_singleton.1 hb]
        exact hm.2.2 a ha
    simp only [objLoop] at h ⊢
    split at h
    · rename_i h1; rw [if_pos h1]; exact ⟨ha, hp⟩
    · rename_i h1
      rw [if_neg h1]
      split at h
      · rename_i h2; exact absurd h h2
      · rename_i h2
        have h2' : (memberB s pv acc x).2.e = 0 := Decidable.of_not_not h2
        rw [if_neg h2]
        split at h
        · rename_i h3; rw [if_pos h3]; exact more h2'
        · rename_i h3
          rw [if_neg h3]
          split at h
          · rename_i h4; exact absurd h h4
          · rename_i h4
            rw [if_neg h4]
            exact obj_may hpv f _ _ (more h2').1 (more h2').2 h
theorem ins_mem (m q : ByteArray × JV) : ∀ l, q ∈ insName m l ↔ q = m ∨ q ∈ l
  | [] => by simp [insName]
  | x :: r => by
    simp only [insName]
    split
    · simp
    · simp only [List.mem_cons, ins_mem m q r]
      constructor
      · rintro (h | h | h)
        · exact .inr (.inl h)
        · exact .inl h
        · exact .inr (.inr h)
      · rintro (h | h | h)
        · exact .inr (.inl h)
        · exact .inl h
        · exact .inr (.inr h)
theorem sort_mem (q : ByteArray × JV) : ∀ l, q ∈ sortNames l ↔ q ∈ l
  | [] => by simp [sortNames]
  | x :: r => by
    have ih := sort_mem q r
    unfold sortNames at ih ⊢
    rw [List.foldr_cons, ins_mem, ih, List.mem_cons]
theorem lt_of_ne {a b : List UInt8} (h : ¬ a < b) (hn : a ≠ b) : b < a := by
  rcases List.le_iff_lt_or_eq.1 (List.not_lt.1 h) with h1 | h1
  · exact h1
  · exact absurd h1.symm hn
theorem ins_rising (m : ByteArray × JV) : ∀ l : List (ByteArray × JV), l.Pairwise NmLt → (∀ q ∈ l, NmNe m q) → (insName m l).Pairwise NmLt
  | [], _, _ => by simp [insName]
  | x :: r, hp, hn => by
    have hp' := List.pairwise_cons.1 hp
    simp only [insName]
    by_cases hlt : Op.bytesLess m.1.toList x.1.toList = true
    · rw [if_pos hlt]
      have h1 := (less_iff _ _).1 hlt
      refine List.Pairwise.cons (fun q hq => ?_) hp
      rcases List.mem_cons.1 hq with rfl | hq
      · exact h1
      · exact List.lt_trans h1 (hp'.1 q hq)
    · rw [if_neg hlt]
      have h1 : x.1.toList < m.1.toList := lt_of_ne (fun h => hlt ((less_iff _ _).2 h)) (hn x (List.mem_cons_self ..))
      refine List.Pairwise.cons (fun q hq => ?_) (ins_rising m r hp'.2 (fun q hq => hn q (List.mem_cons_of_mem _ hq)))
      rcases (ins_mem m q r).1 hq with rfl | hq
      · exact h1
      · exact hp'.1 q hq
theorem sort_names : ∀ l : List (ByteArray × JV), l.Pairwise NmNe → (sortNames l).Pairwise NmLt
  | [], _ => by simp [sortNames]
  | x :: r, hp => by
    have hp' := List.pairwise_cons.1 hp
    have ih := sort_names r hp'.2
    have hm : ∀ q, q ∈ sortNames r → NmNe x q := fun q hq => hp'.1 q ((sort_mem q r).1 hq)
    unfold sortNames at ih hm ⊢
    rw [List.foldr_cons]
    exact ins_rising x _ ih hm
theorem list_out {d : Nat} {l : List JV} (h : ∀ y ∈ l, mayJ d y = true) : mayJ (d + 1) (listV l) = true := by
  unfold listV
  rw [may_list, List.all_eq_true]
  exact h
theorem obj_out {d : Nat} {m : List (ByteArray × JV)} (h : ∀ y ∈ m, shortB y.1 = true ∧ mayJ d y.2 = true) (hp : m.Pairwise NmNe) : mayJ (d + 1) (objV (sortNames m)) = true := by
  have hmem : ∀ y ∈ sortNames m, shortB y.1 = true ∧ mayJ d y.2 = true := fun y hy => h y ((sort_mem y m).1 hy)
  unfold objV
  rw [may_obj ((members_iff none _).2 ⟨fun q hq => (hmem q hq).1, fun a ha => (by cases ha), sort_names m hp⟩), List.all_eq_true]
  exact fun q hq => (hmem q hq).2
/-- a value that is read may be -/
theorem value_may (s : ByteArray) : ∀ (d : Nat) (x : St), (valueB s d x).2.e = 0 → mayJ d (valueB s d x).1 = true
  | 0, x, h => by
    exfalso
    simp only [valueB] at h
    split at h
    · rename_i h1; exact h1 h
    · rename_i h1
      have h1' : (x.see s).2.e = 0 := Decidable.of_not_not h1
      split at h
      · exact absurd h (fail_not (by decide))
      · rename_i h2
        have hg := see_good h1'
        exact number_none hg.1 (by rw [hg.2]; simpa using h2) h
  | d + 1, x, h => by
    have ih := value_may s d
    simp only [valueB] at h ⊢
    split at h
    · rename_i h1; exact absurd h h1
    · rename_i h1
      rw [if_neg h1]
      split at h
      · rename_i h2
        rw [if_pos h2]
        unfold listB at h ⊢
        simp only at h ⊢
        split at h
        · rename_i h3; rw [if_pos h3]; exact list_out (by simp)
        · rename_i h3; rw [if_neg h3]; exact list_out (list_may ih _ _ _ (by simp) h)
      · rename_i h2
        rw [if_neg h2]
        split at h
        · rename_i h3
          rw [if_pos h3]
          unfold objectB at h ⊢
          simp only at h ⊢
          split at h
          · rename_i h4; rw [if_pos h4]; exact obj_out (m := []) (by simp) (by simp)
          · rename_i h4
            rw [if_neg h4]
            have hm := obj_may ih _ _ _ (by simp) (by simp) h
            exact obj_out hm.1 hm.2
        · rename_i h3
          rw [if_neg h3]
          split at h
          · rename_i h4; rw [if_pos h4]; exact may_wordV (text_valid s _ h)
          · rename_i h4
            rw [if_neg h4]
            split at h
            · rename_i h5; rw [if_pos h5]; exact word_may (by decide) h d
            · rename_i h5
              rw [if_neg h5]
              split at h
              · rename_i h6; rw [if_pos h6]; exact word_may (by decide) h d
              · rename_i h6
                rw [if_neg h6]
                split at h
                · rename_i h7; rw [if_pos h7]; exact word_may (by decide) h d
                · rename_i h7; rw [if_neg h7]; exact number_may h d
theorem endB_zero {s : ByteArray} {y : St} (h : (endB s y).e = 0) : y.e = 0 := Decidable.of_not_not fun h1 => by rw [endB_err h1] at h; exact h1 h
/-- what Parse leaves -/
theorem parse_may {s : ByteArray} (h : (parseB s).2 = 0) : mayJ 64 (parseB s).1 = true := by
  unfold parseB at h ⊢
  split at h
  · exact absurd h (by decide)
  · rename_i h1
    rw [if_neg h1]
    split at h
    · rename_i h2; exact absurd h h2
    · rename_i h2
      rw [if_neg h2]
      exact value_may s 64 _ (endB_zero (Decidable.of_not_not h2))
theorem parse_zeroV {s : ByteArray} (h : (parseB s).2 ≠ 0) : (parseB s).1 = zeroV := by
  unfold parseB at h ⊢
  split at h
  · rename_i h1; rw [if_pos h1]
  · rename_i h1
    rw [if_neg h1]
    split at h
    · rename_i h2; rw [if_pos h2]
    · exact absurd rfl h
end Go.Proofs.YtjjgbgojlhaapaaGreatDoor
namespace Go.Proofs.YtjjgbgojlhaapaaGreatDoor
open Go.RowKit Go.Lib

def digitR (c : UInt8) : Int := if 48 ≤ c.toNat ∧ c.toNat ≤ 57 then (c.toNat : Int) - 48 else if 97 ≤ c.toNat ∧ c.toNat ≤ 102 then (c.toNat : Int) - 87 else if 65 ≤ c.toNat ∧ c.toNat ≤ 70 then (c.toNat : Int) - 55 else -1
theorem digit_hex : ∀ n : Fin 256, digitR (UInt8.ofNat n.val) = (if hexIdx (UInt8.ofNat n.val) < 0 then -1 else hexIdx (UInt8.ofNat n.val)) ∧ -1 ≤ hexIdx (UInt8.ofNat n.val) := by decide +kernel
theorem digit_idx (c : UInt8) : digitR c = hexIdx c := by
  have h := digit_hex ⟨c.toNat, c.toNat_lt⟩
  simp only [UInt8.ofNat_toNat] at h
  rw [h.1]
  split
  · omega
  · rfl
/-- so many digits of 16 from a place on: the number, an error -/
def fourR (s : ByteArray) : Nat → Int → Nat → Int × Int
  | 0, n, _ => (n, 0)
  | k + 1, n, p => if s.size ≤ p then (0, 2) else if digitR (byteAt s p) < 0 then (0, 4) else fourR s k (n * 16 + digitR (byteAt s p)) (p + 1)
theorem next_st (s : ByteArray) (p : Nat) : St.next s ⟨p, 0⟩ = if s.size ≤ p then (0, ⟨p, 2⟩) else (byteAt s p, ⟨p + 1, 0⟩) := by
  unfold St.next
  simp [St.fail, St.step]
theorem hex_zero : hexIdx 0 < 0 := by decide +kernel
theorem four_R (s : ByteArray) : ∀ (k : Nat) (n : Int) (p : Nat), ((fourR s k n p).2 = 0 → fourB s k n ⟨p, 0⟩ = ((fourR s k n p).1, ⟨p + k, 0⟩)) ∧ (fourB s k n ⟨p, 0⟩).2.e = (fourR s k n p).2
  | 0, n, p => ⟨fun _ => rfl, rfl⟩
  | k + 1, n, p => by
    have ih := four_R s k (n * 16 + digitR (byteAt s p)) (p + 1)
    simp only [fourB, fourR]
    rw [next_st]
    by_cases h1 : s.size ≤ p
    · rw [if_pos h1, if_pos h1]
      simp only [hex_zero, if_true, St.fail]
      exact ⟨fun h => absurd h (by decide), by simp⟩
    · rw [if_neg h1, if_neg h1]
      simp only
      rw [digit_idx] at *
      by_cases h2 : hexIdx (byteAt s p) < 0
      · rw [if_pos h2, if_pos h2]
        exact ⟨fun h => absurd h (by decide), by simp [St.fail]⟩
      · rw [if_neg h2, if_neg h2]
        rw [show p + (k + 1) = p + 1 + k by omega]
        exact ih
theorem next_err1 (s : ByteArray) {x : St} (h : x.e ≠ 0) : St.next s x = (0, x) := by unfold St.next; rw [if_pos h]
theorem four_err (s : ByteArray) : ∀ (k : Nat) (n : Int) (x : St), x.e ≠ 0 → (fourB s k n x).2.e = x.e
  | 0, _, _, _ => rfl
  | k + 1, n, x, h => by
    simp only [fourB, next_err1 s h, hex_zero, if_true, St.fail]
    rw [if_neg h]
theorem four_0 (s : ByteArray) (x : St) (h : x.e ≠ 0) : (fourB s 4 0 x).1 = 0 := by
  simp only [fourB, next_err1 s h, hex_zero, if_true]
/-- the UTF-8 of a number -/
def textR (c : Int) : Option (List UInt8) := if c < 0 ∨ 1114111 < c ∨ (55296 ≤ c ∧ c ≤ 57343) then none else some (Lib.encodeRune c)
/-- the sign that a letter behind a backslash is for -/
def findR (c : UInt8) : Option Nat := (List.range 128).find? (fun k => c != 0 && shortR (UInt8.ofNat k) == c)
theorem find_all : ∀ n : Fin 256, (findR (UInt8.ofNat n.val) = if escV (UInt8.ofNat n.val) = 0 then none else some (escV (UInt8.ofNat n.val)).toNat) ∧ 0 ≤ escV (UInt8.ofNat n.val) ∧ escV (UInt8.ofNat n.val) < 128 := by decide +kernel
theorem find_esc (c : UInt8) : (findR c = if escV c = 0 then none else some (escV c).toNat) ∧ 0 ≤ escV c ∧ escV c < 128 := by
  have h := find_all ⟨c.toNat, c.toNat_lt⟩
  simpa only [UInt8.ofNat_toNat] using h
/-- a pair's second half, and what the pair is -/
def pairR (s : ByteArray) (n : Int) (p : Nat) : List UInt8 × Nat × Int :=
  if s.size ≤ p ∨ (s.size ≤ p + 1 ∧ byteAt s p = 92) then ([], 0, 2)
  else if byteAt s p ≠ 92 ∨ byteAt s (p + 1) ≠ 117 then ([], 0, 4)
  else if (fourR s 4 0 (p + 2)).2 ≠ 0 then ([], 0, (fourR s 4 0 (p + 2)).2)
  else if (fourR s 4 0 (p + 2)).1 < 56320 ∨ 57343 < (fourR s 4 0 (p + 2)).1 then ([], 0, 4)
  else match textR (65536 + (n - 55296) * 1024 + ((fourR s 4 0 (p + 2)).1 - 56320)) with
    | none => ([], 0, 4)
    | some l => (l, p + 6, 0)
def unitR (s : ByteArray) (p : Nat) : List UInt8 × Nat × Int :=
  if (fourR s 4 0 p).2 ≠ 0 then ([], 0, (fourR s 4 0 p).2)
  else if 55296 ≤ (fourR s 4 0 p).1 ∧ (fourR s 4 0 p).1 ≤ 56319 then pairR s (fourR s 4 0 p).1 (p + 4)
  else match textR (fourR s 4 0 p).1 with
    | none => ([], 0, 4)
    | some l => (l, p + 4, 0)
/-- what a backslash at a place begins -/
def escR (s : ByteArray) (p : Nat) : List UInt8 × Nat × Int :=
  if s.size ≤ p + 1 then ([], 0, 2)
  else match findR (byteAt s (p + 1)) with
    | some k => ([UInt8.ofNat k], p + 2, 0)
    | none => if byteAt s (p + 1) = 47 then ([47], p + 2, 0) else if byteAt s (p + 1) ≠ 117 then ([], 0, 4) else unitR s (p + 2)
/-- what the program reads behind the backslash agrees -/
def EscOK (r : List UInt8 × Nat × Int) (q : Int × St) : Prop := q.2.e = r.2.2 ∧ (r.2.2 = 0 → Lib.encodeRune q.1 = r.1 ∧ q.2.p = r.2.1)
theorem fourR_range (s : ByteArray) (p : Nat) (h : (fourR s 4 0 p).2 = 0) : 0 ≤ (fourR s 4 0 p).1 ∧ (fourR s 4 0 p).1 < 65536 := by
  have h1 := (four_R s 4 0 p).1 h
  have h2 := fourB_range s 4 0 ⟨p, 0⟩ (Nat.le_refl _) (by decide) (by decide)
  rw [h1] at h2
  exact h2
theorem twants_err (s : ByteArray) (c : UInt8) {x : St} (h : x.e ≠ 0) : St.twants s x c = x := by
  unfold St.twants St.next
  rw [if_pos h]
  simp only
  rw [if_neg (fun h2 => h h2.1)]
theorem twants_st (s : ByteArray) (p : Nat) (c : UInt8) : St.twants s ⟨p, 0⟩ c = if s.size ≤ p then ⟨p, 2⟩ else if byteAt s p = c then ⟨p + 1, 0⟩ else ⟨p + 1, 4⟩ := by
  unfold St.twants
  rw [next_st]
  by_cases h1 : s.size ≤ p
  · rw [if_pos h1, if_pos h1]; simp
  · rw [if_neg h1, if_neg h1]
    by_cases h2 : byteAt s p = c
    · rw [if_pos h2]; simp [h2]
    · rw [if_neg h2]; simp [h2, St.fail]
theorem pair_R (s : ByteArray) (n : Int) (p : Nat) (hn : 55296 ≤ n ∧ n ≤ 56319) :
    EscOK (pairR s n p) (65536 + (n - 55296) * 1024 + (fourB s 4 0 ((St.twants s ⟨p, 0⟩ 92).twants s 117)).1 - 56320,
      if (fourB s 4 0 ((St.twants s ⟨p, 0⟩ 92).twants s 117)).1 < 56320 ∨ 57343 < (fourB s 4 0 ((St.twants s ⟨p, 0⟩ 92).twants s 117)).1 then (fourB s 4 0 ((St.twants s ⟨p, 0⟩ 92).twants s 117)).2.fail 4 else (fourB s 4 0 ((St.twants s ⟨p, 0⟩ 92).twants s 117)).2) := by
  have bad : ∀ (x : St) (e : Int), x.e = e → e ≠ 0 → EscOK (([], 0, e) : List UInt8 × Nat × Int) (65536 + (n - 55296) * 1024 + (fourB s 4 0 x).1 - 56320, if (fourB s 4 0 x).1 < 56320 ∨ 57343 < (fourB s 4 0 x).1 then (fourB s 4 0 x).2.fail 4 else (fourB s 4 0 x).2) := fun x e hx he => by
    have h0 : x.e ≠ 0 := by rw [hx]; exact he
    have h1 := four_0 s x h0
    have h2 := four_err s 4 0 x h0
    rw [h1, if_pos (Or.inl (by decide))]
    refine ⟨?_, fun h => absurd h he⟩
    unfold St.fail
    rw [h2, if_neg h0]
    exact hx ▸ h2
  unfold pairR
  rw [twants_st]
  by_cases h1 : s.size ≤ p
  · rw [if_pos h1, if_pos (Or.inl h1), twants_err s 117 (show (2 : Int) ≠ 0 by decide)]
    exact bad _ 2 rfl (by decide)
  · rw [if_neg h1]
    by_cases h2 : byteAt s p = 92
    · rw [if_pos h2, twants_st]
      by_cases h3 : s.size ≤ p + 1
      · rw [if_pos (Or.inr ⟨h3, h2⟩), if_pos h3]
        exact bad _ 2 rfl (by decide)
      · rw [if_neg (by rintro (h | h) <;> omega), if_neg h3]
        by_cases h4 : byteAt s (p + 1) = 117
        · rw [if_pos h4, if_neg (by rintro (h | h) <;> contradiction)]
          have k := four_R s 4 0 (p + 2)
          by_cases h5 : (fourR s 4 0 (p + 2)).2 = 0
          · rw [if_neg (by simpa using h5)]
            have kr := fourR_range s (p + 2) h5
            rw [show p + 1 + 1 = p + 2 from rfl, k.1 h5]
            simp only
            by_cases h6 : (fourR s 4 0 (p + 2)).1 < 56320 ∨ 57343 < (fourR s 4 0 (p + 2)).1
            · rw [if_pos h6, if_pos h6]
              exact ⟨rfl, fun h => absurd h (by decide)⟩
            · rw [if_neg h6, if_neg h6]
              unfold textR
              rw [if_neg (by omega)]
              exact ⟨rfl, fun _ => ⟨by simp only; congr 1; omega, rfl⟩⟩
          · rw [if_pos h5, show p + 1 + 1 = p + 2 from rfl]
            have e2 := k.2
            refine ⟨?_, fun h => absurd h h5⟩
            simp only
            split
            · unfold St.fail
              rw [e2, if_neg h5]
              exact e2
            · exact e2
        · rw [if_neg h4, if_pos (Or.inr h4)]
          exact bad _ 4 rfl (by decide)
    · rw [if_neg h2, twants_err s 117 (show (4 : Int) ≠ 0 by decide)]
      rw [if_neg (by rintro (h | h); · exact h1 h
                     · exact h2 h.2), if_pos (Or.inl h2)]
      exact bad _ 4 rfl (by decide)
theorem unit_R (s : ByteArray) (p : Nat) : EscOK (unitR s p) (unitB s ⟨p, 0⟩) := by
  have k := four_R s 4 0 p
  unfold unitR unitB
  simp only
  by_cases h5 : (fourR s 4 0 p).2 = 0
  · rw [if_neg (by simpa using h5)]
    have kr := fourR_range s p h5
    rw [k.1 h5]
    simp only
    by_cases h6 : 55296 ≤ (fourR s 4 0 p).1 ∧ (fourR s 4 0 p).1 ≤ 56319
    · rw [if_pos h6, if_neg (by rintro (h | h | h); · exact h rfl
                                · omega
                                · omega), if_neg (by omega)]
      exact pair_R s _ (p + 4) h6
    · rw [if_neg h6]
      by_cases h7 : (fourR s 4 0 p).1 < 55296 ∨ 57343 < (fourR s 4 0 p).1
      · rw [if_pos (Or.inr h7)]
        unfold textR
        rw [if_neg (by omega)]
        exact ⟨rfl, fun _ => ⟨rfl, rfl⟩⟩
      · rw [if_neg (by rintro (h | h); · exact h rfl
                       · exact h7 h), if_pos (by omega)]
        unfold textR
        rw [if_pos (by omega)]
        exact ⟨rfl, fun h => absurd (show (4 : Int) = 0 from h) (by decide)⟩
  · rw [if_pos h5]
    have e2 := k.2
    rw [if_pos (Or.inl (by rw [e2]; exact h5))]
    exact ⟨e2, fun h => absurd h h5⟩
theorem enc_one {k : Int} (h0 : 0 ≤ k) (h1 : k < 128) : Lib.encodeRune k = [UInt8.ofNat k.toNat] := by
  unfold Lib.encodeRune
  rw [Lib.encodeRuneZ_one h0 (by omega)]
  rfl
theorem esc_R (s : ByteArray) (p : Nat) : EscOK (escR s p) (escapeB s ⟨p + 1, 0⟩) := by
  unfold escR escapeB
  simp only
  rw [next_st]
  by_cases h1 : s.size ≤ p + 1
  · rw [if_pos h1, if_pos h1]
    exact ⟨rfl, fun h => absurd h (by decide)⟩
  · rw [if_neg h1, if_neg h1]
    obtain ⟨hf, hv0, hv1⟩ := find_esc (byteAt s (p + 1))
    simp only [ne_eq, not_true_eq_false, if_false]
    rw [hf]
    by_cases h117 : byteAt s (p + 1) = 117
    · have : escV 117 = 0 := by decide +kernel
      rw [if_pos h117, h117, if_pos this]
      simp only
      rw [if_neg (by decide), if_neg (by decide)]
      exact unit_R s (p + 2)
    · rw [if_neg h117]
      by_cases h47 : byteAt s (p + 1) = 47
      · have : escV 47 = 0 := by decide +kernel
        rw [if_pos h47, h47, if_pos this]
        simp only
        rw [if_pos trivial]
        exact ⟨rfl, fun _ => ⟨by show Lib.encodeRune 47 = [47]; decide +kernel, rfl⟩⟩
      · rw [if_neg h47]
        by_cases hz : escV (byteAt s (p + 1)) = 0
        · rw [if_pos hz, if_pos hz]
          simp only
          rw [if_neg h47, if_pos h117]
          exact ⟨rfl, fun h => absurd h (by decide)⟩
        · rw [if_neg hz, if_neg hz]
          simp only
          rw [if_neg h47]
          exact ⟨rfl, fun _ => ⟨enc_one hv0 hv1, rfl⟩⟩
/-- the document's loop -/
def runqLoop (s : ByteArray) : Nat → List UInt8 → Nat → List UInt8 × Nat × Int
  | 0, _, _ => ([], 0, 2)
  | f + 1, acc, p =>
    if s.size ≤ p then ([], 0, 2)
    else if byteAt s p = 34 then (acc, p + 1, 0)
    else if byteAt s p = 92 then (if (escR s p).2.2 ≠ 0 then ([], 0, (escR s p).2.2) else runqLoop s f (acc ++ (escR s p).1) (escR s p).2.1)
    else if (signR s p).2.2 = false ∨ byteAt s p < 32 then ([], 0, 4)
    else runqLoop s f (acc ++ (rest s p).take (signR s p).2.1) (p + (signR s p).2.1)
def runquoteB (s : ByteArray) (p : Nat) : List UInt8 × Nat × Int :=
  if s.size ≤ p then ([], 0, 2) else if byteAt s p ≠ 34 then ([], 0, 4) else runqLoop s (s.size + 1 - p) [] (p + 1)
theorem rest_cons {s : ByteArray} {p : Nat} (h : p < s.size) : rest s p = byteAt s p :: rest s (p + 1) := drop_byte h
theorem dec_low {s : ByteArray} {p : Nat} (h : p < s.size) (hc : (byteAt s p).toNat < 128) : dec s p = ((byteAt s p).toNat, 1) := dec_rest (rest_cons h) hc
/-- what is decoded below 128 is a byte -/
theorem dec_ge {s : ByteArray} {p : Nat} (h : p < s.size) (hc : ¬ (byteAt s p).toNat < 128) : 128 ≤ (dec s p).1 := by
  rw [dec_L h, decodeL_N, rest_getD, Nat.add_zero]
  rcases decodeN_shape (rest s p).length (byteAt s p).toNat ((rest s p).getD 1 0).toNat ((rest s p).getD 2 0).toNat ((rest s p).getD 3 0).toNat with ⟨c, e⟩ | ⟨c1, c2, c3, cv, e⟩ | ⟨c1, c2, c3, c4, cv, cs, e⟩ | ⟨c1, c2, c3, c4, c5, cv, cw, e⟩ | e
  all_goals (rw [e]; dsimp only)
  all_goals omega
theorem runq_loop (s : ByteArray) : ∀ (f : Nat) (acc : List UInt8) (p : Nat), s.size + 1 - p ≤ f → p ≤ s.size → runqLoop s f acc p = unqLoop s f acc ⟨p, 0⟩
  | 0, acc, p, hf, hp => by omega
  | f + 1, acc, p, hf, hp => by
    simp only [runqLoop, unqLoop]
    simp only [ne_eq, not_true_eq_false, if_false]
    by_cases h1 : s.size ≤ p
    · have e : signB s ⟨p, 0⟩ = (0, ⟨p, 2⟩) := by unfold signB; rw [if_pos h1]; rfl
      rw [if_pos h1, e]
      simp
    · rw [if_neg h1]
      have hlt : p < s.size := by omega
      have hw := dec_w s p hlt
      by_cases hlow : (byteAt s p).toNat < 128
      · have hd := dec_low hlt hlow
        have hsR : signR s p = ((byteAt s p).toNat, 1, true) := by unfold signR; rw [if_pos hlow]
        by_cases h32 : byteAt s p < 32
        · have h32' : (byteAt s p).toNat < 32 := h32
          have e : signB s ⟨p, 0⟩ = (0, ⟨p, 4⟩) := by
            unfold signB
            simp only
            rw [if_neg h1, hd]
            simp only
            rw [if_pos (Or.inl h32')]
            rfl
          have n34 : byteAt s p ≠ 34 := fun e => by rw [e] at h32'; exact absurd h32' (by decide)
          have n92 : byteAt s p ≠ 92 := fun e => by rw [e] at h32'; exact absurd h32' (by decide)
          rw [if_neg n34, if_neg n92, if_pos (Or.inr h32), e]
          simp
        · have h32' : ¬ (byteAt s p).toNat < 32 := h32
          have e : signB s ⟨p, 0⟩ = ((byteAt s p).toNat, ⟨p + 1, 0⟩) := by
            unfold signB
            simp only
            rw [if_neg h1, hd]
            simp only
            rw [if_neg (by omega)]
          have t34 : (byteAt s p).toNat = 34 ↔ byteAt s p = 34 := ⟨fun h => UInt8.toNat.inj h, fun h => by rw [h]; rfl⟩
          have t92 : (byteAt s p).toNat = 92 ↔ byteAt s p = 92 := ⟨fun h => UInt8.toNat.inj h, fun h => by rw [h]; rfl⟩
          rw [e]
          simp only [not_true_eq_false, if_false, t34, t92]
          by_cases n34 : byteAt s p = 34
          · rw [if_pos n34, if_pos n34]
          · rw [if_neg n34, if_neg n34]
            by_cases n92 : byteAt s p = 92
            · rw [if_pos n92, if_pos n92]
              obtain ⟨k1, k2⟩ := esc_R s p
              by_cases he : (escR s p).2.2 = 0
              · obtain ⟨k3, k4⟩ := k2 he
                rw [if_neg (by simpa using he), k3]
                have ex : (escapeB s ⟨p + 1, 0⟩).2 = ⟨(escR s p).2.1, 0⟩ := by
                  have : (escapeB s ⟨p + 1, 0⟩).2 = ⟨(escapeB s ⟨p + 1, 0⟩).2.p, (escapeB s ⟨p + 1, 0⟩).2.e⟩ := rfl
                  rw [this, k1, k4, he]
                have hm := escape_mono s ⟨p + 1, 0⟩
                have hm1 := hm.1
                have hm2 := hm.2 (by simp only; omega)
                rw [ex] at hm1 hm2 ⊢
                simp only at hm1 hm2
                exact runq_loop s f _ _ (by omega) hm2
              · rw [if_pos he]
                cases f with
                | zero => omega
                | succ f =>
                  simp only [unqLoop]
                  rw [if_pos (by rw [k1]; exact he), k1]
            · rw [if_neg n92, if_neg n92, hsR]
              rw [if_neg (by rintro (h | h); · exact absurd (show (true : Bool) = false from h) (by decide)
                             · exact h32 h)]
              have ht : (rest s p).take 1 = Lib.encodeRune (((byteAt s p).toNat : Nat) : Int) := by
                rw [rest_cons hlt, enc_one (by omega) (by omega)]
                simp
              simp only
              rw [ht]
              exact runq_loop s f _ _ (by omega) (by omega)
      · have hge := dec_ge hlt hlow
        have n34 : byteAt s p ≠ 34 := fun e => by rw [e] at hlow; exact absurd hlow (by decide)
        have n92 : byteAt s p ≠ 92 := fun e => by rw [e] at hlow; exact absurd hlow (by decide)
        have n32 : ¬ byteAt s p < 32 := fun e => by have : (byteAt s p).toNat < 32 := e; omega
        rw [if_neg n34, if_neg n92]
        have hsd := sign_dec (s := s) (p := p)
        rw [← dec_L hlt] at hsd
        by_cases hb : (dec s p).1 = 65533 ∧ (dec s p).2 = 1
        · rw [if_pos hb] at hsd
          have e : signB s ⟨p, 0⟩ = (0, ⟨p, 4⟩) := by
            unfold signB
            simp only
            rw [if_neg h1, if_pos (Or.inr ⟨hb.1, by omega⟩)]
            rfl
          rw [hsd, e]
          simp
        · rw [if_neg hb] at hsd
          have e : signB s ⟨p, 0⟩ = ((dec s p).1, ⟨p + (dec s p).2, 0⟩) := by
            unfold signB
            simp only
            rw [if_neg h1, if_neg (by rintro (h | h); · omega
                                      · exact hb ⟨h.1, by omega⟩)]
          rw [hsd, e]
          simp only [not_true_eq_false, if_false]
          rw [if_neg (by rintro (h | h); · exact absurd h (by decide)
                         · exact n32 h), if_neg (by omega), if_neg (by omega)]
          have ht : (rest s p).take (dec s p).2 = Lib.encodeRune (((dec s p).1 : Nat) : Int) := by
            rw [dec_L hlt] at hb ⊢
            exact (encode_decode _ (by rw [rest_cons hlt]; simp) hb).symm
          rw [ht]
          exact runq_loop s f _ _ (by omega) (by omega)
theorem runq_eq (s : ByteArray) (p : Nat) (hp : p ≤ s.size) : runquoteB s p = unquoteB s p := by
  unfold runquoteB unquoteB
  rw [twants_st]
  by_cases h1 : s.size ≤ p
  · rw [if_pos h1, if_pos h1]
    have e : s.size + 1 - p = (s.size - p) + 1 := by omega
    rw [e]
    simp [unqLoop]
  · rw [if_neg h1, if_neg h1]
    by_cases h2 : byteAt s p = 34
    · rw [if_neg (by simpa using h2), if_pos h2]
      exact runq_loop s _ [] (p + 1) (by omega) (by omega)
    · rw [if_pos h2, if_neg h2]
      have e : s.size + 1 - p = (s.size - p) + 1 := by omega
      rw [e]
      simp [unqLoop]
end Go.Proofs.YtjjgbgojlhaapaaGreatDoor
