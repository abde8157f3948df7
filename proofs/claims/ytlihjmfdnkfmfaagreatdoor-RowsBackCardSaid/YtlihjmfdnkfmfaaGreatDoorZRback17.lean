/- Parts of the proof: Nu, Tx. -/
import Derived.Test.YtlihjmfdnkfmfaaGreatDoorZRback16
import Derived.Lib.MapLaws
namespace Go.Proofs.YtlihjmfdnkfmfaaGreatDoor
open Go.RowKit Go.Lib

theorem dec_small {u : Nat} (h : u < 10) : decDigits u = [UInt8.ofNat (48 + u)] := by rw [decDigits, dif_pos h]
theorem dec_big {u : Nat} (h : ¬ u < 10) : decDigits u = decDigits (u / 10) ++ [UInt8.ofNat (48 + u % 10)] := by rw [decDigits, dif_neg h]
theorem digit_nat {u : Nat} (h : u < 10) : (UInt8.ofNat (48 + u)).toNat = 48 + u := by
  rw [UInt8.toNat_ofNat']; omega
theorem dec_ind {P : Nat → Prop} (h0 : ∀ u, u < 10 → P u) (h1 : ∀ u, ¬ u < 10 → P (u / 10) → P u) : ∀ u, P u := fun u => by
  induction u using Nat.strongRecOn with
  | _ u ih =>
    by_cases h : u < 10
    · exact h0 u h
    · exact h1 u h (ih _ (by omega))
def sat (n : Int) (c : UInt8) : Int := min (n * 10 + ((c.toNat : Int) - 48)) 9007199254740992
theorem dec_fold : ∀ u : Nat, (decDigits u).foldl sat 0 = min (u : Int) 9007199254740992 := by
  refine dec_ind (fun u h => ?_) (fun u h ih => ?_)
  · rw [dec_small h]
    simp only [List.foldl_cons, List.foldl_nil, sat, digit_nat h]
    omega
  · rw [dec_big h, List.foldl_append, ih]
    simp only [List.foldl_cons, List.foldl_nil, sat, digit_nat (show u % 10 < 10 by omega)]
    omega
theorem dec_isDigit : ∀ u : Nat, ∀ c ∈ decDigits u, isDigit c = true := by
  refine dec_ind (fun u h => ?_) (fun u h ih => ?_)
  · rw [dec_small h]
    intro c hc
    obtain rfl := List.mem_singleton.1 hc
    simp only [isDigit, digit_nat h]; simp; omega
  · rw [dec_big h]
    intro c hc
    rcases List.mem_append.1 hc with hc | hc
    · exact ih c hc
    · obtain rfl := List.mem_singleton.1 hc
      simp only [isDigit, digit_nat (show u % 10 < 10 by omega)]; simp; omega
/-- the first digit, and that it is 0 for 0 alone -/
theorem dec_head : ∀ u : Nat, ∃ c r, decDigits u = c :: r ∧ (c = 48 → u = 0 ∧ r = []) := by
  refine dec_ind (fun u h => ?_) (fun u h ih => ?_)
  · refine ⟨_, [], dec_small h, fun e => ⟨?_, rfl⟩⟩
    have := congrArg UInt8.toNat e
    rw [digit_nat h] at this
    have h48 : (48 : UInt8).toNat = 48 := rfl
    omega
  · obtain ⟨c, r, e, hc⟩ := ih
    refine ⟨c, r ++ [_], by rw [dec_big h, e]; rfl, fun e => ?_⟩
    have := (hc e).1
    omega
/-- what stands behind is no digit -/
def NoDigit (l : List UInt8) : Prop := ∀ c r, l = c :: r → isDigit c = false
theorem digitB_rest {s : ByteArray} {p : Nat} {c : UInt8} {r : List UInt8} (h : rest s p = c :: r) : digitB s p = isDigit c := by
  unfold digitB
  rw [rest_byte h]
  simp [rest_lt h]
theorem rest_nil {s : ByteArray} {p : Nat} (h : rest s p = []) : ¬ p < s.size := by
  intro hl
  unfold rest at h
  rw [drop_byte hl] at h
  exact absurd h (by simp)
theorem digitB_no {s : ByteArray} {p : Nat} {l : List UInt8} (h : rest s p = l) (hl : NoDigit l) : digitB s p = false := by
  rcases l with _ | ⟨c, r⟩
  · unfold digitB
    simp [rest_nil h]
  · rw [digitB_rest h]; exact hl c r rfl
theorem anyB_rest {s : ByteArray} {p : Nat} {c : UInt8} {r : List UInt8} (l : List UInt8) (h : rest s p = c :: r) : anyB s l p = l.contains c := by
  unfold anyB
  rw [rest_byte h]
  simp [rest_lt h]
theorem anyB_nil {s : ByteArray} {p : Nat} (l : List UInt8) (h : rest s p = []) : anyB s l p = false := by
  unfold anyB
  simp [rest_nil h]
theorem numLoop_digits (s : ByteArray) (fr : Nat) : ∀ (l r : List UInt8) (n : Int) (p : Nat), rest s p = l ++ r → (∀ c ∈ l, isDigit c = true) → NoDigit r → numLoop s false fr (s.size - p) n p = (l.foldl sat n, p + l.length)
  | [], r, n, p, h, _, hr => by
    rw [numLoop_stop (.inl (digitB_no h hr))]
    rfl
  | c :: l, r, n, p, h, hl, hr => by
    have hc := hl c (List.mem_cons_self ..)
    rw [numLoop_step (by rw [digitB_rest h]; exact hc) (by simp), numLoop_digits s fr l r _ (p + 1) (rest_next h) (fun d hd => hl d (List.mem_cons_of_mem _ hd)) hr, rest_byte h]
    simp only [List.foldl_cons, List.length_cons, sat]
    congr 1; omega
/-- the digits of a number without sign -/
theorem numLoop_dec {s : ByteArray} {p u : Nat} {r : List UInt8} (h : rest s p = decDigits u ++ r) (hr : NoDigit r) :
    numLoop s (anyB s [48] p) p (s.size - p) 0 p = (min (u : Int) 9007199254740992, p + (decDigits u).length) := by
  obtain ⟨c, t, e, hc⟩ := dec_head u
  have h' := h
  rw [e] at h'
  have ha := anyB_rest [48] h'
  by_cases h0 : c = 48
  · obtain ⟨rfl, rfl⟩ := hc h0
    subst h0
    rw [ha, numLoop_step (by rw [digitB_rest h']; rfl) (by simp), numLoop_stop (.inl (digitB_no (rest_next h') hr)), rest_byte h', e]
    rfl
  · have hf : anyB s [48] p = false := by rw [ha]; simpa using h0
    rw [hf, numLoop_digits s p (decDigits u) r 0 p h (dec_isDigit u) hr, dec_fold]
theorem dec_ne (u : Nat) : 1 ≤ (decDigits u).length := by
  obtain ⟨c, r, e, _⟩ := dec_head u
  rw [e]; simp
def signL (neg : Bool) : List UInt8 := if neg then [45] else []
theorem digit_ne {c d : UInt8} (h : isDigit c = true) (hd : isDigit d = false) : c ≠ d := fun e => by rw [e, hd] at h; exact absurd h (by decide)
theorem drop_rest {s : ByteArray} {p : Nat} {l r : List UInt8} (h : rest s p = l ++ r) : rest s (p + l.length) = r := by
  unfold rest at h ⊢
  rw [← List.drop_drop, h, List.drop_left]
theorem number_dec {s : ByteArray} {p u : Nat} {r : List UInt8} (neg : Bool) (h : rest s p = signL neg ++ (decDigits u ++ r)) (hr : NoDigit r) :
    numberB s ⟨p, 0⟩ = (numV ((if neg then -1 else 1) * min (u : Int) 9007199254740992),
      if anyB s [46, 101, 69] (p + (signL neg).length + (decDigits u).length) = true then ⟨p + (signL neg).length + (decDigits u).length, 4⟩
      else if 9007199254740991 < min (u : Int) 9007199254740992 then ⟨p + (signL neg).length + (decDigits u).length, 1⟩ else ⟨p + (signL neg).length + (decDigits u).length, 0⟩) := by
  have h1 : rest s (p + (signL neg).length) = decDigits u ++ r := drop_rest h
  have hneg : anyB s [45] p = neg := by
    cases neg
    · obtain ⟨c, t, e, _⟩ := dec_head u
      have hc : isDigit c = true := dec_isDigit u c (by rw [e]; exact List.mem_cons_self ..)
      have h' : rest s p = c :: (t ++ r) := by rw [h, e]; rfl
      rw [anyB_rest [45] h']
      simpa using digit_ne hc (d := 45) (by decide)
    · rw [anyB_rest [45] h]; rfl
  have hst : (if anyB s [45] p = true then St.step ⟨p, 0⟩ else ⟨p, 0⟩) = (⟨p + (signL neg).length, 0⟩ : St) := by
    rw [hneg]; cases neg <;> rfl
  have hlt : p + (signL neg).length < s.size := by
    obtain ⟨c, t, e, _⟩ := dec_head u
    rw [e] at h1
    exact rest_lt h1
  have hns : numStart s ⟨p + (signL neg).length, 0⟩ = ⟨p + (signL neg).length, 0⟩ := by
    unfold numStart
    rw [if_neg (by simp only; omega)]
  have hlp := numLoop_dec h1 hr
  have hnd : digitB s (p + (signL neg).length + (decDigits u).length) = false := digitB_no (drop_rest h1) hr
  have hlen := dec_ne u
  unfold numberB
  simp only
  rw [hst, hns, hneg]
  unfold numEnd
  simp only [hlp, hnd]
  congr 1
  by_cases ha : anyB s [46, 101, 69] (p + (signL neg).length + (decDigits u).length) = true
  · rw [if_pos (.inr (.inl ha)), if_pos ha]; rfl
  · rw [if_neg (by rintro (h | h | h); · omega
                   · exact ha h
                   · exact absurd h.2 (by decide)), if_neg ha]
    rfl
/-! the whole text -/
theorem dec_length : ∀ (k u : Nat), u < 10 ^ (k + 1) → (decDigits u).length ≤ k + 1
  | 0, u, h => by rw [dec_small (by omega)]; simp
  | k + 1, u, h => by
    by_cases h0 : u < 10
    · rw [dec_small h0]; simp
    · rw [dec_big h0]
      rw [Nat.pow_succ] at h
      have := dec_length k (u / 10) (by generalize 10 ^ (k + 1) = T at *; omega)
      simp; omega
theorem itoa_sign (n : Int) : Lib.itoa n = signL (decide (n < 0)) ++ decDigits n.natAbs := by
  unfold Lib.itoa signL
  by_cases h : n < 0
  · simp [h]
  · simp only [h, decide_false, if_false, Bool.false_eq_true, List.nil_append]
    congr 1; omega
theorem itoa_len (n : Int) (h1 : -9223372036854775808 ≤ n) (h2 : n < 9223372036854775808) : (Lib.itoa n).length ≤ 20 := by
  rw [itoa_sign]
  have := dec_length 18 n.natAbs (by have : (10 : Nat) ^ (18 + 1) = 10000000000000000000 := by decide
                                     omega)
  have hs : (signL (decide (n < 0))).length ≤ 1 := by unfold signL; split <;> simp
  simp; omega
theorem itoa_head (n : Int) : ∃ c r, Lib.itoa n = c :: r ∧ (c = 45 ∨ isDigit c = true) := by
  obtain ⟨c, t, e, _⟩ := dec_head n.natAbs
  rw [itoa_sign]
  by_cases h : n < 0
  · exact ⟨45, decDigits n.natAbs, by simp [signL, h], .inl rfl⟩
  · exact ⟨c, t, by simp [signL, h, e], .inr (dec_isDigit _ c (by rw [e]; exact List.mem_cons_self ..))⟩
theorem num_ne {c d : UInt8} (h : c = 45 ∨ isDigit c = true) (h1 : d ≠ 45) (h2 : isDigit d = false) : c ≠ d := by
  rcases h with rfl | h
  · exact fun e => h1 e.symm
  · exact digit_ne h h2
theorem num_blank {c : UInt8} (h : c = 45 ∨ isDigit c = true) : isBlank c = false := by
  have h1 := num_ne h (d := 32) (by decide) (by decide)
  have h2 := num_ne h (d := 9) (by decide) (by decide)
  have h3 := num_ne h (d := 10) (by decide) (by decide)
  have h4 := num_ne h (d := 13) (by decide) (by decide)
  simp [isBlank, h1, h2, h3, h4]
theorem value_num {s : ByteArray} {p : Nat} {c : UInt8} {r : List UInt8} (d : Nat) (h : rest s p = c :: r) (hc : c = 45 ∨ isDigit c = true) : valueB s (d + 1) ⟨p, 0⟩ = numberB s ⟨p, 0⟩ := by
  have hs := see_rest 0 h (num_blank hc)
  simp only [valueB, hs]
  rw [if_neg (by decide), if_neg (num_ne hc (by decide) (by decide)), if_neg (num_ne hc (by decide) (by decide)), if_neg (num_ne hc (by decide) (by decide)), if_neg (num_ne hc (by decide) (by decide)), if_neg (num_ne hc (by decide) (by decide)), if_neg (num_ne hc (by decide) (by decide))]
theorem value_itoa {s : ByteArray} {p : Nat} {n : Int} {r : List UInt8} (d : Nat) (h : rest s p = Lib.itoa n ++ r) (hr : NoDigit r) :
    valueB s (d + 1) ⟨p, 0⟩ = (numV ((if n < 0 then -1 else 1) * min (n.natAbs : Int) 9007199254740992),
      if anyB s [46, 101, 69] (p + (Lib.itoa n).length) = true then ⟨p + (Lib.itoa n).length, 4⟩
      else if 9007199254740991 < min (n.natAbs : Int) 9007199254740992 then ⟨p + (Lib.itoa n).length, 1⟩ else ⟨p + (Lib.itoa n).length, 0⟩) := by
  obtain ⟨c, t, e, hc⟩ := itoa_head n
  have h' := h
  rw [e] at h'
  rw [value_num d h' hc]
  rw [itoa_sign, List.append_assoc] at h
  have hn := number_dec (decide (n < 0)) h hr
  rw [hn, itoa_sign, List.length_append, Nat.add_assoc]
  simp
theorem rest_zero (l : List UInt8) : rest ⟨l.toArray⟩ 0 = l := by simp [rest]
theorem list_size (l : List UInt8) : (⟨l.toArray⟩ : ByteArray).size = l.length := by simp [ByteArray.size]
theorem endB_err {s : ByteArray} {y : St} (h : y.e ≠ 0) : (endB s y).e = y.e := by
  have hb : (y.blanks s).e = y.e := rfl
  unfold endB
  rw [if_neg (by rw [hb]; exact fun h1 => h h1.1)]
  exact hb
end Go.Proofs.YtlihjmfdnkfmfaaGreatDoor
namespace Go.Proofs.YtlihjmfdnkfmfaaGreatDoor
open Go.RowKit Go.Lib

/-- a scalar value -/
def Scal (r : Nat) : Prop := r < 55296 ∨ (57343 < r ∧ r ≤ 1114111)
def encs (rs : List Nat) : List UInt8 := rs.flatMap fun r : Nat => Lib.encodeRune (r : Int)
theorem encs_cons (r : Nat) (rs : List Nat) : encs (r :: rs) = Lib.encodeRune (r : Int) ++ encs rs := by simp [encs]
theorem u8z {z : Int} (_h0 : 0 ≤ z) (h1 : z < 256) : (z.toNat.toUInt8).toNat = z.toNat := by
  simp; omega
theorem dN2 {n r b2 b3 : Nat} (h0 : 128 ≤ r) (h1 : r ≤ 2047) (hn : 1 < n) : decodeN n (192 + r / 64) (128 + r % 64) b2 b3 = (r, 2) := by
  unfold decodeN
  rw [if_neg (by omega), if_pos (by omega), if_pos (by omega)]
  congr 1; omega
theorem dN3 {n r b3 : Nat} (h : (2048 ≤ r ∧ r < 55296) ∨ (57343 < r ∧ r ≤ 65535)) (hn : 2 < n) : decodeN n (224 + r / 4096) (128 + r / 64 % 64) (128 + r % 64) b3 = (r, 3) := by
  have e : (224 + r / 4096) % 16 * 4096 + (128 + r / 64 % 64) % 64 * 64 + (128 + r % 64) % 64 = r := by omega
  unfold decodeN
  rw [if_neg (by omega), if_neg (by omega), if_pos (by omega), e, if_pos (by omega)]
theorem dN4 {n r : Nat} (h0 : 65536 ≤ r) (h1 : r ≤ 1114111) (hn : 3 < n) : decodeN n (240 + r / 262144) (128 + r / 4096 % 64) (128 + r / 64 % 64) (128 + r % 64) = (r, 4) := by
  have e : (240 + r / 262144) % 8 * 262144 + (128 + r / 4096 % 64) % 64 * 4096 + (128 + r / 64 % 64) % 64 * 64 + (128 + r % 64) % 64 = r := by omega
  unfold decodeN
  rw [if_neg (by omega), if_neg (by omega), if_neg (by omega), if_pos (by omega), e, if_pos (by omega)]
theorem enc_len {r : Nat} (h : Scal r) : (Lib.encodeRune (r : Int)).length = if r < 128 then 1 else if r < 2048 then 2 else if r < 65536 then 3 else 4 := by
  unfold Lib.encodeRune
  rw [List.length_map]
  unfold Scal at h
  by_cases h1 : r < 128
  · rw [if_pos h1, encodeRuneZ_one (by omega) (by omega)]; rfl
  · rw [if_neg h1]
    by_cases h2 : r < 2048
    · rw [if_pos h2, encodeRuneZ_two (by omega) (by omega)]; rfl
    · rw [if_neg h2]
      by_cases h3 : r < 65536
      · rw [if_pos h3, encodeRuneZ_three (by omega)]; rfl
      · rw [if_neg h3, encodeRuneZ_four (by omega) (by omega)]; rfl
theorem decode_enc {r : Nat} (h : Scal r) (t : List UInt8) : decodeL (Lib.encodeRune (r : Int) ++ t) = (r, (Lib.encodeRune (r : Int)).length) := by
  rw [enc_len h, decodeL_N]
  unfold Lib.encodeRune
  unfold Scal at h
  by_cases h1 : r < 128
  · rw [if_pos h1, encodeRuneZ_one (by omega) (by omega)]
    simp only [List.map_cons, List.map_nil, List.cons_append, List.nil_append, List.getD_cons_zero]
    rw [u8z (by omega) (by omega)]
    unfold decodeN
    rw [if_pos (by omega)]; congr 1
  · rw [if_neg h1]
    by_cases h2 : r < 2048
    · rw [if_pos h2, encodeRuneZ_two (by omega) (by omega)]
      simp only [List.map_cons, List.map_nil, List.cons_append, List.nil_append, List.getD_cons_zero, List.getD_cons_succ, List.length_cons]
      rw [u8z (by omega) (by omega), u8z (by omega) (by omega)]
      rw [show (192 + (r : Int) / 64).toNat = 192 + r / 64 by omega, show (128 + (r : Int) % 64).toNat = 128 + r % 64 by omega]
      exact dN2 (by omega) (by omega) (by omega)
    · rw [if_neg h2]
      by_cases h3 : r < 65536
      · rw [if_pos h3, encodeRuneZ_three (by omega)]
        simp only [List.map_cons, List.map_nil, List.cons_append, List.nil_append, List.getD_cons_zero, List.getD_cons_succ, List.length_cons]
        rw [u8z (by omega) (by omega), u8z (by omega) (by omega), u8z (by omega) (by omega)]
        rw [show (224 + (r : Int) / 4096).toNat = 224 + r / 4096 by omega, show (128 + (r : Int) / 64 % 64).toNat = 128 + r / 64 % 64 by omega, show (128 + (r : Int) % 64).toNat = 128 + r % 64 by omega]
        exact dN3 (by omega) (by omega)
      · rw [if_neg h3, encodeRuneZ_four (by omega) (by omega)]
        simp only [List.map_cons, List.map_nil, List.cons_append, List.nil_append, List.getD_cons_zero, List.getD_cons_succ, List.length_cons]
        rw [u8z (by omega) (by omega), u8z (by omega) (by omega), u8z (by omega) (by omega), u8z (by omega) (by omega)]
        rw [show (240 + (r : Int) / 262144).toNat = 240 + r / 262144 by omega, show (128 + (r : Int) / 4096 % 64).toNat = 128 + r / 4096 % 64 by omega, show (128 + (r : Int) / 64 % 64).toNat = 128 + r / 64 % 64 by omega, show (128 + (r : Int) % 64).toNat = 128 + r % 64 by omega]
        exact dN4 (by omega) (by omega) (by omega)
theorem enc_pos (r : Int) : 1 ≤ (Lib.encodeRune r).length := by
  unfold Lib.encodeRune
  rw [List.length_map]
  exact (encodeRuneZ_length r).1
/-- a rune that was decoded from valid bytes is a scalar value -/
theorem decode_scal (l : List UInt8) (_hv : ¬ ((decodeL l).1 = 65533 ∧ (decodeL l).2 = 1)) : Scal (decodeL l).1 := by
  rw [decodeL_N]
  have k0 := (l.getD 0 0).toNat_lt
  unfold Scal
  rcases decodeN_shape l.length (l.getD 0 0).toNat (l.getD 1 0).toNat (l.getD 2 0).toNat (l.getD 3 0).toNat with ⟨c, e⟩ | ⟨c1, c2, c3, cv, e⟩ | ⟨c1, c2, c3, c4, cv, cs, e⟩ | ⟨c1, c2, c3, c4, c5, cv, cw, e⟩ | e
  all_goals (rw [e]; dsimp only)
  all_goals omega
theorem valid_runes : ∀ (n : Nat) (l : List UInt8), l.length ≤ n → Lib.validGoD n l = true → ∃ rs : List Nat, (∀ r ∈ rs, Scal r) ∧ l = encs rs
  | 0, l, hn, _ => ⟨[], by simp, by rw [List.eq_nil_of_length_eq_zero (Nat.le_zero.1 hn)]; rfl⟩
  | n + 1, l, hn, h => by
    by_cases hne : l = []
    · exact ⟨[], by simp, by rw [hne]; rfl⟩
    · simp only [Lib.validGoD] at h
      rw [if_neg hne] at h
      by_cases hb : (decodeL l).1 = 65533 ∧ (decodeL l).2 = 1
      · rw [if_pos hb] at h; exact absurd h (by decide)
      · rw [if_neg hb] at h
        have hw := decodeL_width l
        have hl : 0 < l.length := List.length_pos_iff.2 hne
        obtain ⟨rs, h1, h2⟩ := valid_runes n (l.drop (decodeL l).2) (by rw [List.length_drop]; omega) h
        refine ⟨(decodeL l).1 :: rs, fun r hr => ?_, ?_⟩
        · rcases List.mem_cons.1 hr with rfl | hr
          · exact decode_scal l hb
          · exact h1 r hr
        · rw [encs_cons, encode_decode l hne hb, ← h2, List.take_append_drop]
theorem runes_valid : ∀ (rs : List Nat) (n : Nat), (∀ r ∈ rs, Scal r) → (encs rs).length ≤ n → Lib.validGoD n (encs rs) = true
  | _, 0, _, _ => rfl
  | [], n + 1, _, _ => by simp [Lib.validGoD, encs]
  | r :: rs, n + 1, h, hn => by
    have hr := h r (List.mem_cons_self ..)
    have hp := enc_pos r
    have hl := enc_len hr
    rw [encs_cons] at hn ⊢
    rw [List.length_append] at hn
    have hd := decode_enc hr (encs rs)
    simp only [Lib.validGoD]
    rw [if_neg (by intro e; rw [List.append_eq_nil_iff] at e; rw [e.1] at hp; exact absurd hp (by decide)), hd]
    simp only
    rw [if_neg (by rintro ⟨rfl, h2⟩; rw [hl] at h2; exact absurd h2 (by decide)), List.drop_left]
    exact runes_valid rs n (fun q hq => h q (List.mem_cons_of_mem _ hq)) (by omega)
theorem validB_runes {s : ByteArray} (h : validB s = true) : ∃ rs : List Nat, (∀ r ∈ rs, Scal r) ∧ s.data.toList = encs rs := valid_runes _ _ (Nat.le_refl _) h
theorem runes_validB {rs : List Nat} (h : ∀ r ∈ rs, Scal r) : validB ⟨(encs rs).toArray⟩ = true := runes_valid rs _ h (by simp)

theorem dec_L {s : ByteArray} {p : Nat} (h : p < s.size) : dec s p = decodeL (rest s p) := by
  have e : (s.extract p s.size).data.toList = rest s p := by
    rw [extract_data, List.take_of_length_le (by simp)]
    rfl
  unfold dec Lib.decodeGo
  rw [if_neg (by simp; omega), ← decodeL_drop, List.drop_zero, e]
theorem next_rest {s : ByteArray} {p : Nat} {c : UInt8} {r : List UInt8} (h : rest s p = c :: r) : St.next s ⟨p, 0⟩ = (c, ⟨p + 1, 0⟩) := by
  have := rest_lt h
  unfold St.next
  rw [if_neg (by simp)]
  simp only
  rw [if_neg (by omega), rest_byte h]
  rfl
theorem twants_rest {s : ByteArray} {p : Nat} {c : UInt8} {r : List UInt8} (h : rest s p = c :: r) : St.twants s ⟨p, 0⟩ c = ⟨p + 1, 0⟩ := by
  unfold St.twants
  rw [next_rest h]
  simp
theorem sign_enc {s : ByteArray} {p r : Nat} {t : List UInt8} (h : rest s p = Lib.encodeRune (r : Int) ++ t) (hr : Scal r) (h32 : 32 ≤ r) : signB s ⟨p, 0⟩ = (r, ⟨p + (Lib.encodeRune (r : Int)).length, 0⟩) := by
  have hp := enc_pos r
  have hl := enc_len hr
  have hlt : p < s.size := by
    rcases he : Lib.encodeRune (r : Int) ++ t with _ | ⟨c, u⟩
    · rw [List.append_eq_nil_iff] at he; rw [he.1] at hp; exact absurd hp (by decide)
    · rw [he] at h; exact rest_lt h
  unfold signB
  rw [dec_L hlt, h, decode_enc hr]
  simp only
  rw [if_neg (by omega), if_neg (by
    rintro (h1 | ⟨rfl, h2⟩)
    · omega
    · rw [hl] at h2; exact absurd h2 (by decide))]
theorem four_rest {s : ByteArray} {p : Nat} {a b c d : UInt8} {t : List UInt8} (h : rest s p = a :: b :: c :: d :: t) (ha : 0 ≤ hexIdx a) (hb : 0 ≤ hexIdx b) (hc : 0 ≤ hexIdx c) (hd : 0 ≤ hexIdx d) :
    fourB s 4 0 ⟨p, 0⟩ = ((((0 * 16 + hexIdx a) * 16 + hexIdx b) * 16 + hexIdx c) * 16 + hexIdx d, ⟨p + 4, 0⟩) := by
  have h1 := rest_next h
  have h2 := rest_next h1
  have h3 := rest_next h2
  simp only [fourB, next_rest h]
  rw [if_neg (by omega), next_rest h1]
  simp only
  rw [if_neg (by omega), next_rest h2]
  simp only
  rw [if_neg (by omega), next_rest h3]
  simp only
  rw [if_neg (by omega)]
theorem quote_hex : ∀ r : Nat, r < 32 → 0 ≤ hexIdx (hexAt (r / 16)) ∧ 0 ≤ hexIdx (hexAt (r % 16)) ∧ (((0 * 16 + hexIdx 48) * 16 + hexIdx 48) * 16 + hexIdx (hexAt (r / 16))) * 16 + hexIdx (hexAt (r % 16)) = (r : Int) := by decide +kernel
theorem letter_cases {r : Int} (h : letterB r ≠ 0) : (r = 34 ∧ letterB r = 34) ∨ (r = 92 ∧ letterB r = 92) ∨ (r = 8 ∧ letterB r = 98) ∨ (r = 12 ∧ letterB r = 102) ∨ (r = 10 ∧ letterB r = 110) ∨ (r = 13 ∧ letterB r = 114) ∨ (r = 9 ∧ letterB r = 116) := by
  simp only [letterB, letterTab, letterIn] at h ⊢
  repeat' split at h
  all_goals first | omega | skip
/-- one rune, as it is quoted -/
theorem unq_one {s : ByteArray} {p r : Nat} {t : List UInt8} (f : Nat) (acc : List UInt8) (h : rest s p = quoteOne r ++ t) (hr : Scal r) :
    unqLoop s (f + 1) acc ⟨p, 0⟩ = unqLoop s f (acc ++ Lib.encodeRune (r : Int)) ⟨p + (quoteOne r).length, 0⟩ := by
  unfold quoteOne at h ⊢
  by_cases hl : letterB (r : Int) ≠ 0
  · rw [if_pos hl] at h ⊢
    have s1 := sign_rest (c := 92) h (by decide) (by decide)
    have h1 : rest s (p + 1) = _ := rest_next h
    have n1 := next_rest h1
    have he : escapeB s ⟨p + 1, 0⟩ = ((r : Int), ⟨p + 2, 0⟩) := by
      unfold escapeB
      rw [n1]
      rcases letter_cases hl with ⟨e1, e2⟩ | ⟨e1, e2⟩ | ⟨e1, e2⟩ | ⟨e1, e2⟩ | ⟨e1, e2⟩ | ⟨e1, e2⟩ | ⟨e1, e2⟩ <;> (rw [e2, e1]; rfl)
    simp only [unqLoop, s1, he]
    rfl
  · rw [if_neg hl] at h ⊢
    by_cases h32 : r < 32
    · rw [if_pos h32] at h ⊢
      have s1 := sign_rest (c := 92) h (by decide) (by decide)
      have h1 := rest_next h
      have h2 := rest_next h1
      have n1 := next_rest h1
      have q := quote_hex r h32
      have h4 := four_rest h2 (by decide) (by decide) q.1 q.2.1
      rw [q.2.2] at h4
      have he : escapeB s ⟨p + 1, 0⟩ = ((r : Int), ⟨p + 6, 0⟩) := by
        unfold escapeB
        rw [n1]
        simp only
        rw [if_neg (by decide), if_pos trivial]
        unfold unitB
        simp only [h4]
        rw [if_pos (by right; left; omega)]
      simp only [unqLoop, s1, he]
      rfl
    · rw [if_neg h32] at h ⊢
      have s1 := sign_enc h hr (by omega)
      have n34 : r ≠ 34 := by rintro rfl; exact hl (by decide)
      have n92 : r ≠ 92 := by rintro rfl; exact hl (by decide)
      simp only [unqLoop, s1]
      rw [if_neg (by decide), if_neg (by decide), if_neg n34, if_neg n92]
theorem unq_runes (s : ByteArray) (t : List UInt8) : ∀ (rs : List Nat) (f p : Nat) (acc : List UInt8), (∀ r ∈ rs, Scal r) → rest s p = rs.flatMap (fun r => quoteOne r) ++ 34 :: t → rs.length + 1 ≤ f →
    unqLoop s f acc ⟨p, 0⟩ = (acc ++ encs rs, p + (rs.flatMap (fun r => quoteOne r)).length + 1, 0)
  | _, 0, _, _, _, _, hf => by omega
  | [], f + 1, p, acc, _, h, _ => by
    have s1 := sign_rest (c := 34) h (by decide) (by decide)
    simp only [unqLoop, s1]
    simp [encs]
  | r :: rs, f + 1, p, acc, hr, h, hf => by
    have h' : rest s p = quoteOne r ++ (rs.flatMap (fun r => quoteOne r) ++ 34 :: t) := by rw [h]; simp
    rw [unq_one f acc h' (hr r (List.mem_cons_self ..)), unq_runes s t rs f _ _ (fun q hq => hr q (List.mem_cons_of_mem _ hq)) (drop_rest h') (by simp at hf; omega)]
    simp only [encs_cons, List.append_assoc, List.flatMap_cons, List.length_append]
    congr 2; omega
theorem quoteOne_pos (r : Nat) : 1 ≤ (quoteOne r).length := by
  unfold quoteOne
  split
  · simp
  · split
    · simp
    · exact enc_pos r
theorem flat_len : ∀ rs : List Nat, rs.length ≤ (rs.flatMap (fun r => quoteOne r)).length
  | [] => Nat.le_refl _
  | r :: rs => by
    have := flat_len rs
    have := quoteOne_pos r
    rw [List.flatMap_cons, List.length_append, List.length_cons]; omega
theorem quote_runes (s : ByteArray) : ∀ (rs : List Nat) (fuel pos : Nat), (∀ r ∈ rs, Scal r) → rest s pos = encs rs → s.size - pos ≤ fuel → quoteFrom s fuel pos = rs.flatMap (fun r => quoteOne r)
  | [], fuel, pos, _, h, _ => quoteFrom_end s fuel pos (rest_nil h)
  | r :: rs, fuel, pos, hr, h, hf => by
    have h0 := hr r (List.mem_cons_self ..)
    rw [encs_cons] at h
    have hp := enc_pos r
    have hlt : pos < s.size := by
      rcases he : Lib.encodeRune (r : Int) ++ encs rs with _ | ⟨c, u⟩
      · rw [List.append_eq_nil_iff] at he; rw [he.1] at hp; exact absurd hp (by decide)
      · rw [he] at h; exact rest_lt h
    obtain ⟨f, rfl⟩ : ∃ f, fuel = f + 1 := ⟨fuel - 1, by omega⟩
    have hd : Utf8.decode s pos = (r, (Lib.encodeRune (r : Int)).length) := by
      rw [← decodeL_drop]
      show decodeL (rest s pos) = _
      rw [h, decode_enc h0]
    rw [quoteFrom_step hlt, hd, quote_runes s rs f _ (fun q hq => hr q (List.mem_cons_of_mem _ hq)) (drop_rest h) (by omega)]
    rfl
theorem quoteB_runes {s : ByteArray} {rs : List Nat} (hr : ∀ r ∈ rs, Scal r) (h : s.data.toList = encs rs) : quoteB s = 34 :: (rs.flatMap (fun r => quoteOne r) ++ [34]) := by
  unfold quoteB
  rw [quote_runes s rs s.size 0 hr (by simpa [rest] using h) (by omega)]
theorem array_list (l : List UInt8) (s : ByteArray) (h : s.data.toList = l) : (⟨l.toArray⟩ : ByteArray) = s := by
  apply ByteArray.ext
  rw [← h]
/-- a quoted text is read as it -/
theorem text_quote {s u : ByteArray} {p : Nat} {t : List UInt8} (hv : validB u = true) (hl : u.size ≤ 8000) (h : rest s p = quoteB u ++ t) : textB s ⟨p, 0⟩ = (u.data.toList, ⟨p + (quoteB u).length, 0⟩) := by
  obtain ⟨rs, hr, hu⟩ := validB_runes hv
  rw [quoteB_runes hr hu] at h ⊢
  have h' : rest s p = 34 :: (rs.flatMap (fun r => quoteOne r) ++ 34 :: t) := by rw [h]; simp
  have h1 := rest_next h'
  have hlen := congrArg List.length h'
  have hz : s.data.size = s.size := rfl
  have hfl := flat_len rs
  unfold rest at hlen
  simp only [List.length_drop, Array.length_toList, hz, List.length_cons, List.length_append] at hlen
  have hq : unquoteB s p = (encs rs, p + 1 + (rs.flatMap (fun r => quoteOne r)).length + 1, 0) := by
    unfold unquoteB
    rw [twants_rest h', unq_runes s t rs _ _ [] hr h1 (by omega)]
    rfl
  have hul : u.data.toList.length = u.size := Array.length_toList ..
  unfold textB
  rw [if_neg (show ¬ ((0 : Int) ≠ 0) by decide)]
  simp only [hq]
  rw [if_neg (by decide), if_neg (by rw [← hu, hul]; omega), hu]
  simp only [List.length_cons, List.length_append, List.length_nil]
  congr 2; omega

/-! what is read is valid -/
theorem enc_bad {r : Int} (h : r < 0 ∨ (55296 ≤ r ∧ r ≤ 57343) ∨ 1114111 < r) : Lib.encodeRune r = Lib.encodeRune ((65533 : Nat) : Int) := by
  unfold Lib.encodeRune
  rw [encodeRuneZ_bad h]; rfl
theorem enc_scal (r : Int) : ∃ q : Nat, Scal q ∧ Lib.encodeRune r = Lib.encodeRune (q : Int) := by
  by_cases h : r < 0 ∨ (55296 ≤ r ∧ r ≤ 57343) ∨ 1114111 < r
  · exact ⟨65533, by unfold Scal; omega, enc_bad h⟩
  · exact ⟨r.toNat, by unfold Scal; omega, by rw [show ((r.toNat : Nat) : Int) = r by omega]⟩
theorem encs_append (a b : List Nat) : encs (a ++ b) = encs a ++ encs b := by simp [encs]
theorem unq_valid (s : ByteArray) : ∀ (f : Nat) (acc : List UInt8) (x : St), (∃ rs : List Nat, (∀ r ∈ rs, Scal r) ∧ acc = encs rs) → ∃ rs : List Nat, (∀ r ∈ rs, Scal r) ∧ (unqLoop s f acc x).1 = encs rs
  | 0, _, _, _ => ⟨[], by simp, rfl⟩
  | f + 1, acc, x, h => by
    have more : ∀ r : Int, ∃ rs : List Nat, (∀ r ∈ rs, Scal r) ∧ acc ++ Lib.encodeRune r = encs rs := fun r => by
      obtain ⟨rs, h1, h2⟩ := h
      obtain ⟨q, hq, e⟩ := enc_scal r
      refine ⟨rs ++ [q], fun z hz => ?_, ?_⟩
      · rcases List.mem_append.1 hz with hz | hz
        · exact h1 z hz
        · rw [List.mem_singleton.1 hz]; exact hq
      · rw [encs_append, h2, e]; simp [encs]
    simp only [unqLoop]
    split
    · exact ⟨[], by simp, rfl⟩
    · split
      · exact ⟨[], by simp, rfl⟩
      · split
        · exact h
        · split
          · exact unq_valid s f _ _ (more _)
          · exact unq_valid s f _ _ (more _)
theorem text_valid (s : ByteArray) (x : St) (h : (textB s x).2.e = 0) : shortB ⟨(textB s x).1.toArray⟩ = true := by
  unfold textB at h ⊢
  by_cases h0 : x.e ≠ 0
  · rw [if_pos h0] at h; exact absurd h h0
  · rw [if_neg h0] at h ⊢
    simp only at h ⊢
    obtain ⟨rs, h1, h2⟩ := unq_valid s (s.size + 1 - x.p) [] (St.twants s ⟨x.p, 0⟩ 34) ⟨[], by simp, rfl⟩
    have h2' : (unquoteB s x.p).1 = encs rs := h2
    have hl : ¬ 8000 < (unquoteB s x.p).1.length := by
      intro h8
      rw [if_pos h8] at h
      split at h
      · rename_i h9; exact h9 h
      · exact absurd h (by decide)
    unfold shortB
    rw [h2', runes_validB h1]
    rw [h2'] at hl
    simp [ByteArray.size]; omega
end Go.Proofs.YtlihjmfdnkfmfaaGreatDoor
