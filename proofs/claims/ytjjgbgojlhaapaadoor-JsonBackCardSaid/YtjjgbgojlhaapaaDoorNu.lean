/- JsonNumbers: plain law: numerals. -/
import Derived.Test.YtjjgbgojlhaapaaDoorNd
namespace Go.Proofs.YtjjgbgojlhaapaaDoor
open Go.RowKit Go.Lib

theorem dec_small {u : Nat} (h : u < 10) : decDigits u = [UInt8.ofNat (48 + u)] := by rw [decDigits, dif_pos h]
theorem dec_big {u : Nat} (h : ¬ u < 10) : decDigits u = decDigits (u / 10) ++ [UInt8.ofNat (48 + u % 10)] := by rw [decDigits, dif_neg h]
theorem digit_nat {u : Nat} (h : u < 10) : (UInt8.ofNat (48 + u)).toNat = 48 + u := by
  rw [UInt8.toNat_ofNat']; omega
theorem dec_ind {P : Nat → Prop} (h0 : ∀ u, u < 10 → P u) (h1 : ∀ u, ¬ u < 10 → P (u / 10) → P u) : ∀ u, P u := fun u => by
  induction u using Nat.strongRecOn with
  | _ u ih =>
    by_cases h : u < 10
    · exact h0 u h
    · exact h1 u h (ih _ (by omega))
def sat (n : Int) (c : UInt8) : Int := min (n * 10 + ((c.toNat : Int) - 48)) 9007199254740992
theorem dec_fold : ∀ u : Nat, (decDigits u).foldl sat 0 = min (u : Int) 9007199254740992 := by
  refine dec_ind (fun u h => ?_) (fun u h ih => ?_)
  · rw [dec_small h]
    simp only [List.foldl_cons, List.foldl_nil, sat, digit_nat h]
    omega
  · rw [dec_big h, List.foldl_append, ih]
    simp only [List.foldl_cons, List.foldl_nil, sat, digit_nat (show u % 10 < 10 by omega)]
    omega
theorem dec_isDigit : ∀ u : Nat, ∀ c ∈ decDigits u, isDigit c = true := by
  refine dec_ind (fun u h => ?_) (fun u h ih => ?_)
  · rw [dec_small h]
    intro c hc
    obtain rfl := List.mem_singleton.1 hc
    simp only [isDigit, digit_nat h]; simp; omega
  · rw [dec_big h]
    intro c hc
    rcases List.mem_append.1 hc with hc | hc
    · exact ih c hc
    · obtain rfl := List.mem_singleton.1 hc
      simp only [isDigit, digit_nat (show u % 10 < 10 by omega)]; simp; omega
/-- the first digit, and that it is 0 for 0 alone -/
theorem dec_head : ∀ u : Nat, ∃ c r, decDigits u = c :: r ∧ (c = 48 → u = 0 ∧ r = []) := by
  refine dec_ind (fun u h => ?_) (fun u h ih => ?_)
  · refine ⟨_, [], dec_small h, fun e => ⟨?_, rfl⟩⟩
    have := congrArg UInt8.toNat e
    rw [digit_nat h] at this
    have h48 : (48 : UInt8).toNat = 48 := rfl
    omega
  · obtain ⟨c, r, e, hc⟩ := ih
    refine ⟨c, r ++ [_], by rw [dec_big h, e]; rfl, fun e => ?_⟩
    have := (hc e).1
    omega
/-- what stands behind is no digit -/
def NoDigit (l : List UInt8) : Prop := ∀ c r, l = c :: r → isDigit c = false
theorem digitB_rest {s : ByteArray} {p : Nat} {c : UInt8} {r : List UInt8} (h : rest s p = c :: r) : digitB s p = isDigit c := by
  unfold digitB
  rw [rest_byte h]
  simp [rest_lt h]
theorem rest_nil {s : ByteArray} {p : Nat} (h : rest s p = []) : ¬ p < s.size := by
  intro hl
  unfold rest at h
  rw [drop_byte hl] at h
  exact absurd h (by simp)
theorem digitB_no {s : ByteArray} {p : Nat} {l : List UInt8} (h : rest s p = l) (hl : NoDigit l) : digitB s p = false := by
  rcases l with _ | ⟨c, r⟩
  · unfold digitB
    simp [rest_nil h]
  · rw [digitB_rest h]; exact hl c r rfl
theorem anyB_rest {s : ByteArray} {p : Nat} {c : UInt8} {r : List UInt8} (l : List UInt8) (h : rest s p = c :: r) : anyB s l p = l.contains c := by
  unfold anyB
  rw [rest_byte h]
  simp [rest_lt h]
theorem anyB_nil {s : ByteArray} {p : Nat} (l : List UInt8) (h : rest s p = []) : anyB s l p = false := by
  unfold anyB
  simp [rest_nil h]
theorem numLoop_digits (s : ByteArray) (fr : Nat) : ∀ (l r : List UInt8) (n : Int) (p : Nat), rest s p = l ++ r → (∀ c ∈ l, isDigit c = true) → NoDigit r → numLoop s false fr (s.size - p) n p = (l.foldl sat n, p + l.length)
  | [], r, n, p, h, _, hr => by
    rw [numLoop_stop (.inl (digitB_no h hr))]
    rfl
  | c :: l, r, n, p, h, hl, hr => by
    have hc := hl c (List.mem_cons_self ..)
    rw [numLoop_step (by rw [digitB_rest h]; exact hc) (by simp), numLoop_digits s fr l r _ (p + 1) (rest_next h) (fun d hd => hl d (List.mem_cons_of_mem _ hd)) hr, rest_byte h]
    simp only [List.foldl_cons, List.length_cons, sat]
    congr 1; omega
/-- the digits of a number without sign -/
theorem numLoop_dec {s : ByteArray} {p u : Nat} {r : List UInt8} (h : rest s p = decDigits u ++ r) (hr : NoDigit r) :
    numLoop s (anyB s [48] p) p (s.size - p) 0 p = (min (u : Int) 9007199254740992, p + (decDigits u).length) := by
  obtain ⟨c, t, e, hc⟩ := dec_head u
  have h' := h
  rw [e] at h'
  have ha := anyB_rest [48] h'
  by_cases h0 : c = 48
  · obtain ⟨rfl, rfl⟩ := hc h0
    subst h0
    rw [ha, numLoop_step (by rw [digitB_rest h']; rfl) (by simp), numLoop_stop (.inl (digitB_no (rest_next h') hr)), rest_byte h', e]
    rfl
  · have hf : anyB s [48] p = false := by rw [ha]; simpa using h0
    rw [hf, numLoop_digits s p (decDigits u) r 0 p h (dec_isDigit u) hr, dec_fold]
theorem dec_ne (u : Nat) : 1 ≤ (decDigits u).length := by
  obtain ⟨c, r, e, _⟩ := dec_head u
  rw [e]; simp
def signL (neg : Bool) : List UInt8 := if neg then [45] else []
theorem digit_ne {c d : UInt8} (h : isDigit c = true) (hd : isDigit d = false) : c ≠ d := fun e => by rw [e, hd] at h; exact absurd h (by decide)
theorem drop_rest {s : ByteArray} {p : Nat} {l r : List UInt8} (h : rest s p = l ++ r) : rest s (p + l.length) = r := by
  unfold rest at h ⊢
  rw [← List.drop_drop, h, List.drop_left]
theorem number_dec {s : ByteArray} {p u : Nat} {r : List UInt8} (neg : Bool) (h : rest s p = signL neg ++ (decDigits u ++ r)) (hr : NoDigit r) :
    numberB s ⟨p, 0⟩ = (numV ((if neg then -1 else 1) * min (u : Int) 9007199254740992),
      if anyB s [46, 101, 69] (p + (signL neg).length + (decDigits u).length) = true then ⟨p + (signL neg).length + (decDigits u).length, 4⟩
      else if 9007199254740991 < min (u : Int) 9007199254740992 then ⟨p + (signL neg).length + (decDigits u).length, 1⟩ else ⟨p + (signL neg).length + (decDigits u).length, 0⟩) := by
  have h1 : rest s (p + (signL neg).length) = decDigits u ++ r := drop_rest h
  have hneg : anyB s [45] p = neg := by
    cases neg
    · obtain ⟨c, t, e, _⟩ := dec_head u
      have hc : isDigit c = true := dec_isDigit u c (by rw [e]; exact List.mem_cons_self ..)
      have h' : rest s p = c :: (t ++ r) := by rw [h, e]; rfl
      rw [anyB_rest [45] h']
      simpa using digit_ne hc (d := 45) (by decide)
    · rw [anyB_rest [45] h]; rfl
  have hst : (if anyB s [45] p = true then St.step ⟨p, 0⟩ else ⟨p, 0⟩) = (⟨p + (signL neg).length, 0⟩ : St) := by
    rw [hneg]; cases neg <;> rfl
  have hlt : p + (signL neg).length < s.size := by
    obtain ⟨c, t, e, _⟩ := dec_head u
    rw [e] at h1
    exact rest_lt h1
  have hns : numStart s ⟨p + (signL neg).length, 0⟩ = ⟨p + (signL neg).length, 0⟩ := by
    unfold numStart
    rw [if_neg (by simp only; omega)]
  have hlp := numLoop_dec h1 hr
  have hnd : digitB s (p + (signL neg).length + (decDigits u).length) = false := digitB_no (drop_rest h1) hr
  have hlen := dec_ne u
  unfold numberB
  simp only
  rw [hst, hns, hneg]
  unfold numEnd
  simp only [hlp, hnd]
  congr 1
  by_cases ha : anyB s [46, 101, 69] (p + (signL neg).length + (decDigits u).length) = true
  · rw [if_pos (.inr (.inl ha)), if_pos ha]; rfl
  · rw [if_neg (by rintro (h | h | h); · omega
                   · exact ha h
                   · exact absurd h.2 (by decide)), if_neg ha]
    rfl
/-! the whole text -/
theorem dec_length : ∀ (k u : Nat), u < 10 ^ (k + 1) → (decDigits u).length ≤ k + 1
  | 0, u, h => by rw [dec_small (by omega)]; simp
  | k + 1, u, h => by
    by_cases h0 : u < 10
    · rw [dec_small h0]; simp
    · rw [dec_big h0]
      rw [Nat.pow_succ] at h
      have := dec_length k (u / 10) (by generalize 10 ^ (k + 1) = T at *; omega)
      simp; omega
theorem itoa_sign (n : Int) : Lib.itoa n = signL (decide (n < 0)) ++ decDigits n.natAbs := by
  unfold Lib.itoa signL
  by_cases h : n < 0
  · simp [h]
  · simp only [h, decide_false, if_false, Bool.false_eq_true, List.nil_append]
    congr 1; omega
theorem itoa_len (n : Int) (h1 : -9223372036854775808 ≤ n) (h2 : n < 9223372036854775808) : (Lib.itoa n).length ≤ 20 := by
  rw [itoa_sign]
  have := dec_length 18 n.natAbs (by have : (10 : Nat) ^ (18 + 1) = 10000000000000000000 := by decide
                                     omega)
  have hs : (signL (decide (n < 0))).length ≤ 1 := by unfold signL; split <;> simp
  simp; omega
theorem itoa_head (n : Int) : ∃ c r, Lib.itoa n = c :: r ∧ (c = 45 ∨ isDigit c = true) := by
  obtain ⟨c, t, e, _⟩ := dec_head n.natAbs
  rw [itoa_sign]
  by_cases h : n < 0
  · exact ⟨45, decDigits n.natAbs, by simp [signL, h], .inl rfl⟩
  · exact ⟨c, t, by simp [signL, h, e], .inr (dec_isDigit _ c (by rw [e]; exact List.mem_cons_self ..))⟩
theorem num_ne {c d : UInt8} (h : c = 45 ∨ isDigit c = true) (h1 : d ≠ 45) (h2 : isDigit d = false) : c ≠ d := by
  rcases h with rfl | h
  · exact fun e => h1 e.symm
  · exact digit_ne h h2
theorem num_blank {c : UInt8} (h : c = 45 ∨ isDigit c = true) : isBlank c = false := by
  have h1 := num_ne h (d := 32) (by decide) (by decide)
  have h2 := num_ne h (d := 9) (by decide) (by decide)
  have h3 := num_ne h (d := 10) (by decide) (by decide)
  have h4 := num_ne h (d := 13) (by decide) (by decide)
  simp [isBlank, h1, h2, h3, h4]
theorem value_num {s : ByteArray} {p : Nat} {c : UInt8} {r : List UInt8} (d : Nat) (h : rest s p = c :: r) (hc : c = 45 ∨ isDigit c = true) : valueB s (d + 1) ⟨p, 0⟩ = numberB s ⟨p, 0⟩ := by
  have hs := see_rest 0 h (num_blank hc)
  simp only [valueB, hs]
  rw [if_neg (by decide), if_neg (num_ne hc (by decide) (by decide)), if_neg (num_ne hc (by decide) (by decide)), if_neg (num_ne hc (by decide) (by decide)), if_neg (num_ne hc (by decide) (by decide)), if_neg (num_ne hc (by decide) (by decide)), if_neg (num_ne hc (by decide) (by decide))]
theorem value_itoa {s : ByteArray} {p : Nat} {n : Int} {r : List UInt8} (d : Nat) (h : rest s p = Lib.itoa n ++ r) (hr : NoDigit r) :
    valueB s (d + 1) ⟨p, 0⟩ = (numV ((if n < 0 then -1 else 1) * min (n.natAbs : Int) 9007199254740992),
      if anyB s [46, 101, 69] (p + (Lib.itoa n).length) = true then ⟨p + (Lib.itoa n).length, 4⟩
      else if 9007199254740991 < min (n.natAbs : Int) 9007199254740992 then ⟨p + (Lib.itoa n).length, 1⟩ else ⟨p + (Lib.itoa n).length, 0⟩) := by
  obtain ⟨c, t, e, hc⟩ := itoa_head n
  have h' := h
  rw [e] at h'
  rw [value_num d h' hc]
  rw [itoa_sign, List.append_assoc] at h
  have hn := number_dec (decide (n < 0)) h hr
  rw [hn, itoa_sign, List.length_append, Nat.add_assoc]
  simp
theorem rest_zero (l : List UInt8) : rest ⟨l.toArray⟩ 0 = l := by simp [rest]
theorem list_size (l : List UInt8) : (⟨l.toArray⟩ : ByteArray).size = l.length := by simp [ByteArray.size]
theorem endB_err {s : ByteArray} {y : St} (h : y.e ≠ 0) : (endB s y).e = y.e := by
  have hb : (y.blanks s).e = y.e := rfl
  unfold endB
  rw [if_neg (by rw [hb]; exact fun h1 => h h1.1)]
  exact hb
theorem parse_err {s : ByteArray} {e : Int} (hs : s.size ≤ 20000) (h : (valueB s 64 ⟨0, 0⟩).2.e = e) (he : e ≠ 0) : (parseB s).2 = e := by
  unfold parseB
  rw [if_neg (by omega), if_pos (by rw [endB_err (by rw [h]; exact he), h]; exact he)]
  rw [endB_err (by rw [h]; exact he), h]
theorem noDigit_nil : NoDigit [] := fun c r h => by simp at h
theorem noDigit_cons {c : UInt8} {r : List UInt8} (h : isDigit c = false) : NoDigit (c :: r) := fun d t e => by
  injection e with e1 e2; rw [← e1]; exact h
theorem parse_num {n : Int} (h : -9007199254740991 ≤ n ∧ n ≤ 9007199254740991) : parseB ⟨(Lib.itoa n).toArray⟩ = (numV n, 0) := by
  have hr : rest ⟨(Lib.itoa n).toArray⟩ 0 = Lib.itoa n ++ [] := by rw [rest_zero, List.append_nil]
  have hl := itoa_len n (by omega) (by omega)
  have hz := list_size (Lib.itoa n)
  have hv := value_itoa 63 hr noDigit_nil
  have hre : rest ⟨(Lib.itoa n).toArray⟩ (0 + (Lib.itoa n).length) = [] := drop_rest hr
  rw [show ((if n < 0 then -1 else 1) * min (n.natAbs : Int) 9007199254740992) = n by split <;> omega, anyB_nil _ hre, if_neg (show ¬ ((false : Bool) = true) by decide), if_neg (by omega)] at hv
  have hbl := see_end hre
  have he : endB ⟨(Lib.itoa n).toArray⟩ ⟨0 + (Lib.itoa n).length, 0⟩ = ⟨0 + (Lib.itoa n).length, 0⟩ := by
    unfold endB
    rw [hbl, if_neg (by rw [hz]; simp)]
  unfold parseB
  rw [if_neg (by omega), hv]
  simp only
  rw [he, if_neg (by simp)]
theorem parse_num_big {n : Int} (h1 : -9223372036854775808 ≤ n) (h2 : n < 9223372036854775808) (h : ¬ (-9007199254740991 ≤ n ∧ n ≤ 9007199254740991)) : (parseB ⟨(Lib.itoa n).toArray⟩).2 = 1 := by
  have hr : rest ⟨(Lib.itoa n).toArray⟩ 0 = Lib.itoa n ++ [] := by rw [rest_zero, List.append_nil]
  have hl := itoa_len n (by omega) (by omega)
  have hz := list_size (Lib.itoa n)
  have hv := value_itoa 63 hr noDigit_nil
  have hre : rest ⟨(Lib.itoa n).toArray⟩ (0 + (Lib.itoa n).length) = [] := drop_rest hr
  rw [anyB_nil _ hre, if_neg (show ¬ ((false : Bool) = true) by decide), if_pos (show 9007199254740991 < min (n.natAbs : Int) 9007199254740992 by omega)] at hv
  exact parse_err (by omega) (by rw [hv]) (by decide)
theorem parse_num_more {n : Int} {c : UInt8} {t : List UInt8} (h1 : -9223372036854775808 ≤ n) (h2 : n < 9223372036854775808) (hc : [46, 101, 69].contains c = true) (ht : t.length ≤ 10) : (parseB ⟨(Lib.itoa n ++ c :: t).toArray⟩).2 = 4 := by
  have hr : rest ⟨(Lib.itoa n ++ c :: t).toArray⟩ 0 = Lib.itoa n ++ (c :: t) := by rw [rest_zero]
  have hl := itoa_len n (by omega) (by omega)
  have hz := list_size (Lib.itoa n ++ c :: t)
  have hcd : isDigit c = false := by
    have hm := List.contains_iff_mem.1 hc
    simp only [List.mem_cons, List.not_mem_nil, or_false] at hm
    rcases hm with rfl | rfl | rfl <;> decide
  have hv := value_itoa 63 hr (noDigit_cons hcd)
  have hre : rest ⟨(Lib.itoa n ++ c :: t).toArray⟩ (0 + (Lib.itoa n).length) = c :: t := drop_rest hr
  rw [anyB_rest _ hre, if_pos hc] at hv
  exact parse_err (by rw [hz]; simp; omega) (by rw [hv]) (by decide)
theorem parse_zero {n : Int} (h1 : -9223372036854775808 ≤ n) (h2 : n < 9223372036854775808) : (parseB ⟨(48 :: Lib.itoa n).toArray⟩).2 = 4 := by
  have hr : rest ⟨(48 :: Lib.itoa n).toArray⟩ 0 = 48 :: Lib.itoa n := rest_zero _
  have hl := itoa_len n (by omega) (by omega)
  have hz := list_size (48 :: Lib.itoa n)
  rw [List.length_cons] at hz
  obtain ⟨c, t, e, hc⟩ := itoa_head n
  generalize (⟨(48 :: Lib.itoa n).toArray⟩ : ByteArray) = s at *
  rw [e] at hr
  have hv := value_num 63 hr (.inr (by decide))
  have h1r : rest s 1 = c :: t := rest_next hr
  have hlt := rest_lt h1r
  have hneg : anyB s [45] 0 = false := by rw [anyB_rest _ hr]; decide
  have h0 : anyB s [48] 0 = true := by rw [anyB_rest _ hr]; decide
  have hlp : numLoop s true 0 (s.size - 0) 0 0 = (0, 1) := by
    rw [numLoop_step (by rw [digitB_rest hr]; decide) (by simp), numLoop_stop (.inr (by simp)), rest_byte hr]
    rfl
  have hns : numStart s ⟨0, 0⟩ = ⟨0, 0⟩ := by
    unfold numStart
    rw [if_neg (by simp only; omega)]
  have hn : numberB s ⟨0, 0⟩ = (numV (1 * 0), if anyB s [46, 101, 69] 1 = true ∨ digitB s 1 = true then ⟨1, 4⟩ else ⟨1, 0⟩) := by
    unfold numberB
    simp only [hneg]
    rw [if_neg (by decide), hns]
    unfold numEnd
    simp only [h0, hlp]
    congr 1
    by_cases hd : anyB s [46, 101, 69] 1 = true ∨ digitB s 1 = true
    · rw [if_pos hd, if_pos (by rcases hd with h | h
                                · exact .inr (.inl h)
                                · exact .inr (.inr ⟨trivial, h⟩))]
      rfl
    · rw [if_neg hd, if_neg (by rintro (h | h | h)
                                · exact absurd h (by decide)
                                · exact hd (.inl h)
                                · exact hd (.inr h.2)), if_neg (by decide)]
  rw [hn] at hv
  by_cases hd : anyB s [46, 101, 69] 1 = true ∨ digitB s 1 = true
  · rw [if_pos hd] at hv
    exact parse_err (by omega) (by rw [hv]) (by decide)
  · rw [if_neg hd] at hv
    have hk := skip_stop (s := s) (q := 1) (.inr (by rw [rest_byte h1r]; exact num_blank hc))
    have he : endB s ⟨1, 0⟩ = ⟨1, 4⟩ := by
      have hb : St.blanks s ⟨1, 0⟩ = ⟨1, 0⟩ := by unfold St.blanks; simp only [hk]
      unfold endB
      rw [hb, if_pos ⟨rfl, hlt⟩]
      rfl
    unfold parseB
    rw [if_neg (by omega), hv]
    simp only
    rw [he, if_pos (by decide)]
end Go.Proofs.YtjjgbgojlhaapaaDoor
