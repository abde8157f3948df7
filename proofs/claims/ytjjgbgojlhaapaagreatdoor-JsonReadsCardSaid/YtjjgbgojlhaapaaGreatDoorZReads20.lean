/- Parts of the proof: Rc. -/
import Derived.Test.YtjjgbgojlhaapaaGreatDoorZReads18
namespace Go.Proofs.YtjjgbgojlhaapaaGreatDoor
open Go.RowKit Go.Lib

theorem ne2 : (2 : Int) ≠ 0 := by decide
theorem fail2_ne (p : Nat) : ((⟨p, 0⟩ : St).fail 2).e ≠ 0 := ne2
theorem ne4 : (4 : Int) ≠ 0 := by decide
/-! blanks -/
theorem skip_pre {s : ByteArray} : ∀ (pre : List UInt8) (p : Nat) (r : List UInt8), (∀ b ∈ pre, isBlank b = true) → rest s p = pre ++ r → skipB s (s.size - p) p = skipB s (s.size - (p + pre.length)) (p + pre.length)
  | [], _, _, _, _ => rfl
  | b :: pre, p, r, hb, h => by
    have hl := rest_lt h
    rw [skip_step hl (by rw [rest_byte h]; exact hb b (List.mem_cons_self ..)), skip_pre pre (p + 1) r (fun c hc => hb c (List.mem_cons_of_mem _ hc)) (rest_next h)]
    rw [show p + 1 + pre.length = p + (b :: pre).length by simp only [List.length_cons]; omega]
theorem blanks_pre {s : ByteArray} {pre r : List UInt8} {p : Nat} (e : Int) (hb : ∀ b ∈ pre, isBlank b = true) (h : rest s p = pre ++ r) : St.blanks s ⟨p, e⟩ = St.blanks s ⟨p + pre.length, e⟩ := by
  unfold St.blanks
  simp only
  rw [skip_pre pre p r hb h]
theorem see_pre {s : ByteArray} {pre r : List UInt8} {p : Nat} (e : Int) (hb : ∀ b ∈ pre, isBlank b = true) (h : rest s p = pre ++ r) : St.see s ⟨p, e⟩ = St.see s ⟨p + pre.length, e⟩ := by
  unfold St.see
  rw [blanks_pre e hb h]
theorem value_see {s : ByteArray} {x y : St} (h : x.see s = y.see s) : ∀ d, valueB s d x = valueB s d y
  | 0 => by simp only [valueB, h]
  | d + 1 => by simp only [valueB, h]
theorem blank_end {c : UInt8} (h : isBlank c = true) : isDigit c = false ∧ [46, 101, 69].contains c = false := by
  simp only [isBlank, List.contains_iff_mem, List.mem_cons, List.not_mem_nil, or_false] at h
  rcases h with rfl | rfl | rfl | rfl <;> decide
theorem end_of_rest {s : ByteArray} {p : Nat} (hp : p ≤ s.size) (h : rest s p = []) : p = s.size := by
  have := rest_nil h
  omega
theorem rest_le {s : ByteArray} {p : Nat} {l r : List UInt8} (hp : p ≤ s.size) (h : rest s p = l ++ r) : p + l.length ≤ s.size := by
  have hz : s.data.size = s.size := rfl
  have := congrArg List.length h
  unfold rest at this
  simp only [List.length_drop, Array.length_toList, hz, List.length_append] at this
  omega
theorem endB_blank {s : ByteArray} {q : Nat} {post : List UInt8} (_hq : q ≤ s.size) (hb : ∀ b ∈ post, isBlank b = true) (h : rest s q = post) : (endB s ⟨q, 0⟩).e = 0 := by
  have h' : rest s q = post ++ [] := by rw [h, List.append_nil]
  have h1 := blanks_pre 0 hb h'
  have h2 : rest s (q + post.length) = [] := drop_rest h'
  rw [see_end h2] at h1
  have := rest_nil h2
  unfold endB
  rw [h1, if_neg (by simp only; omega)]
/-- a printed value with blanks around it -/
theorem parse_around {x : JV} {pre post : List UInt8} (hpre : ∀ b ∈ pre, isBlank b = true) (hpost : ∀ b ∈ post, isBlank b = true) (hm : mayJ 64 x = true) (hlen : (pre ++ (printB 64 x ++ post)).length ≤ 20000) :
    parseB ⟨(pre ++ (printB 64 x ++ post)).toArray⟩ = (x, 0) := by
  have hz := list_size (pre ++ (printB 64 x ++ post))
  have hr := rest_zero (pre ++ (printB 64 x ++ post))
  generalize (⟨(pre ++ (printB 64 x ++ post)).toArray⟩ : ByteArray) = s at *
  have h1 := drop_rest hr
  have hsee := see_pre 0 hpre hr
  have hv := value_reads s 64 x _ post hm h1 (fun _ c r e => blank_end (hpost c (by rw [e]; exact List.mem_cons_self ..)))
  have h2 := drop_rest h1
  have hq := rest_le (Nat.zero_le _) hr
  have he := endB_blank (rest_le hq h1) hpost h2
  unfold parseB
  rw [if_neg (by omega), value_see hsee, hv]
  simp only
  rw [if_neg (by rw [he]; decide)]
theorem parse_print {x : JV} (hm : mayJ 64 x = true) (hlen : (printB 64 x).length ≤ 20000) : parseB ⟨(printB 64 x).toArray⟩ = (x, 0) := by
  have h := parse_around (x := x) (pre := []) (post := []) (by simp) (by simp) hm (by simpa using hlen)
  simpa using h
/-- one byte more, that is no blank -/
theorem parse_more {x : JV} {c : UInt8} (hm : mayJ 64 x = true) (hk : x.k ≠ 4) (hc : isBlank c = false) (hlen : (printB 64 x).length < 20000) : (parseB ⟨(printB 64 x ++ [c]).toArray⟩).2 = 4 := by
  have hz := list_size (printB 64 x ++ [c])
  have hr := rest_zero (printB 64 x ++ [c])
  rw [List.length_append, List.length_cons, List.length_nil] at hz
  generalize (⟨(printB 64 x ++ [c]).toArray⟩ : ByteArray) = s at *
  have hv := value_reads s 64 x 0 [c] hm hr (fun h => absurd h hk)
  have h1 := drop_rest hr
  have hlt := rest_lt h1
  have hb : St.blanks s ⟨0 + (printB 64 x).length, 0⟩ = ⟨0 + (printB 64 x).length, 0⟩ := by
    unfold St.blanks
    simp only [skip_stop (s := s) (q := 0 + (printB 64 x).length) (.inr (by rw [rest_byte h1]; exact hc))]
  have he : endB s ⟨0 + (printB 64 x).length, 0⟩ = ⟨0 + (printB 64 x).length, 4⟩ := by
    unfold endB
    rw [hb, if_pos ⟨rfl, hlt⟩]
    rfl
  unfold parseB
  rw [if_neg (by omega), hv]
  simp only
  rw [he, if_pos ne4]

/-! cut off -/
theorem see_nil {s : ByteArray} {p : Nat} (e : Int) (h : rest s p = []) : St.see s ⟨p, e⟩ = (0, (⟨p, e⟩ : St).fail 2) := by
  have hk := skip_stop (s := s) (q := p) (.inl (rest_nil h))
  have := rest_nil h
  unfold St.see St.blanks
  simp only [hk]
  rw [if_pos (by omega)]
theorem next_nil {s : ByteArray} {p : Nat} (h : rest s p = []) : St.next s ⟨p, 0⟩ = (0, ⟨p, 2⟩) := by
  have := rest_nil h
  unfold St.next
  rw [if_neg (by simp)]
  simp only
  rw [if_pos (by omega)]
  rfl
theorem value_nil {s : ByteArray} {p : Nat} (h : rest s p = []) (d : Nat) : (valueB s d ⟨p, 0⟩).2 = ⟨p, 2⟩ := by
  have hs := see_nil 0 h
  rcases d with _ | d
  · simp only [valueB, hs]; rfl
  · simp only [valueB, hs]; rfl
theorem sign_nil {s : ByteArray} {p : Nat} (h : rest s p = []) : (signB s ⟨p, 0⟩).2.e = 2 := by
  have := rest_nil h
  unfold signB
  rw [if_pos (by simp only; omega)]
  rfl
theorem unq_err (s : ByteArray) (f : Nat) (acc : List UInt8) {x : St} (h : x.e ≠ 0) : (unqLoop s f acc x).2.2 = x.e := by
  cases f with
  | zero => rfl
  | succ f => simp only [unqLoop]; rw [if_pos h]
theorem four_cut {s : ByteArray} : ∀ (k : Nat) (n : Int) (p : Nat) (l : List UInt8), rest s p = l → l.length < k → (fourB s k n ⟨p, 0⟩).2.e ≠ 0
  | 0, _, _, _, _, h => by omega
  | k + 1, n, p, [], h, _ => by
    simp only [fourB, next_nil h]
    rw [if_pos (by decide)]
    exact ne2
  | k + 1, n, p, c :: l, h, hl => by
    simp only [fourB, next_rest h]
    split
    · simp [St.fail]
    · exact four_cut k _ (p + 1) l (rest_next h) (by simpa using hl)
theorem take_cons_succ (c : UInt8) (l : List UInt8) (j : Nat) : (c :: l).take (j + 1) = c :: l.take j := rfl
theorem decode_part {r j : Nat} (hr : Scal r) (h0 : 0 < j) (hj : j < (Lib.encodeRune (r : Int)).length) : decodeL ((Lib.encodeRune (r : Int)).take j) = (65533, 1) := by
  rw [enc_len hr] at hj
  rw [decodeL_N]
  unfold Lib.encodeRune
  unfold Scal at hr
  by_cases h1 : r < 128
  · rw [if_pos h1] at hj; omega
  · rw [if_neg h1] at hj
    by_cases h2 : r < 2048
    · rw [if_pos h2] at hj
      rw [encodeRuneZ_two (by omega) (by omega)]
      obtain rfl : j = 1 := by omega
      simp only [List.map_cons, List.map_nil, List.take_succ_cons, List.take_zero, List.getD_cons_zero, List.getD_cons_succ, List.getD_nil, List.length_cons, List.length_nil]
      rw [u8z (by omega) (by omega), show (192 + (r : Int) / 64).toNat = 192 + r / 64 by omega]
      unfold decodeN
      rw [if_neg (by omega), if_neg (by omega), if_neg (by omega), if_neg (by omega)]
    · rw [if_neg h2] at hj
      by_cases h3 : r < 65536
      · rw [if_pos h3] at hj
        rw [encodeRuneZ_three (by omega)]
        rcases (show j = 1 ∨ j = 2 by omega) with rfl | rfl
        all_goals
          simp only [List.map_cons, List.map_nil, List.take_succ_cons, List.take_zero, List.getD_cons_zero, List.getD_cons_succ, List.getD_nil, List.length_cons, List.length_nil]
          rw [u8z (by omega) (by omega), show (224 + (r : Int) / 4096).toNat = 224 + r / 4096 by omega]
          unfold decodeN
          rw [if_neg (by omega), if_neg (by omega), if_neg (by omega), if_neg (by omega)]
      · rw [if_neg h3] at hj
        rw [encodeRuneZ_four (by omega) (by omega)]
        rcases (show j = 1 ∨ j = 2 ∨ j = 3 by omega) with rfl | rfl | rfl
        all_goals
          simp only [List.map_cons, List.map_nil, List.take_succ_cons, List.take_zero, List.getD_cons_zero, List.getD_cons_succ, List.getD_nil, List.length_cons, List.length_nil]
          rw [u8z (by omega) (by omega), show (240 + (r : Int) / 262144).toNat = 240 + r / 262144 by omega]
          unfold decodeN
          rw [if_neg (by omega), if_neg (by omega), if_neg (by omega), if_neg (by omega)]
theorem unq_part {s : ByteArray} {p r j : Nat} (f : Nat) (acc : List UInt8) (hr : Scal r) (h : rest s p = (quoteOne r).take j) (hj : j < (quoteOne r).length) : (unqLoop s (f + 1) acc ⟨p, 0⟩).2.2 ≠ 0 := by
  rcases j with _ | j
  · have hs := sign_nil (s := s) (p := p) (by rw [h]; rfl)
    simp only [unqLoop]
    rw [if_neg (by decide), if_pos (by rw [hs]; decide), hs]; decide
  · have esc : ∀ (q : List UInt8), quoteOne r = 92 :: q → (escapeB s ⟨p + 1, 0⟩).2.e ≠ 0 → (unqLoop s (f + 1) acc ⟨p, 0⟩).2.2 ≠ 0 := fun q hq he => by
      rw [hq, take_cons_succ] at h
      have s1 := sign_rest (c := 92) h (by decide) (by decide)
      simp only [unqLoop, s1]
      rw [if_neg (by decide), if_neg (by decide), if_neg (by decide), if_pos (by decide), unq_err s _ _ he]
      exact he
    have esc0 : rest s (p + 1) = [] → (escapeB s ⟨p + 1, 0⟩).2.e ≠ 0 := fun h0 => by
      unfold escapeB
      rw [next_nil h0]
      simp
    unfold quoteOne at h hj esc
    by_cases hl : letterB (r : Int) ≠ 0
    · rw [if_pos hl] at h hj
      obtain rfl : j = 0 := by simp only [List.length_cons, List.length_nil] at hj; omega
      exact esc _ (by rw [if_pos hl]) (esc0 (rest_next h))
    · rw [if_neg hl] at h hj
      by_cases h32 : r < 32
      · rw [if_pos h32] at h hj
        rcases j with _ | j
        · exact esc _ (by rw [if_neg hl, if_pos h32]) (esc0 (rest_next h))
        · refine esc _ (by rw [if_neg hl, if_pos h32]) ?_
          have h1 : rest s (p + 1) = 117 :: [48, 48, hexAt (r / 16), hexAt (r % 16)].take j := rest_next h
          have h2 := rest_next h1
          have h4 := four_cut (s := s) 4 0 (p + 1 + 1) _ h2 (by
            simp only [List.length_cons, List.length_nil] at hj
            rw [List.length_take]; omega)
          unfold escapeB
          rw [next_rest h1]
          simp only
          rw [if_neg (by decide), if_pos (by decide)]
          unfold unitB
          simp only
          rw [if_pos (.inl h4)]
          exact h4
      · rw [if_neg h32] at h hj
        have hp := enc_pos (r : Int)
        have hd := decode_part hr (j := j + 1) (by omega) hj
        have hlt : p < s.size := by
          rcases he : (Lib.encodeRune (r : Int)).take (j + 1) with _ | ⟨c, u⟩
          · have := congrArg List.length he; rw [List.length_take, List.length_nil] at this; omega
          · rw [he] at h; exact rest_lt h
        have hs : (signB s ⟨p, 0⟩).2.e ≠ 0 := by
          unfold signB
          rw [dec_L hlt, h, hd]
          simp only
          rw [if_neg (by omega), if_pos (by decide)]
          simp [St.fail]
        simp only [unqLoop]
        rw [if_neg (by decide), if_pos hs]
        exact hs
theorem take_app_le {l r : List UInt8} {j : Nat} (h : j ≤ l.length) : (l ++ r).take j = l.take j := List.take_append_of_le_length h
theorem take_app_ge {l r : List UInt8} {j : Nat} (h : l.length ≤ j) : (l ++ r).take j = l ++ r.take (j - l.length) := by
  rw [List.take_append, List.take_of_length_le h]
theorem unq_cut {s : ByteArray} : ∀ (rs : List Nat) (f p j : Nat) (acc : List UInt8), (∀ r ∈ rs, Scal r) → p ≤ s.size → s.size + 1 - p ≤ f → rest s p = (rs.flatMap (fun r => quoteOne r) ++ [34]).take j → j < (rs.flatMap (fun r => quoteOne r) ++ [34]).length → (unqLoop s f acc ⟨p, 0⟩).2.2 ≠ 0
  | _, 0, _, _, _, _, hp, hf, _, _ => by omega
  | [], f + 1, p, j, acc, _, _, _, h, hj => by
    simp only [List.flatMap_nil, List.nil_append, List.length_cons, List.length_nil] at hj
    obtain rfl : j = 0 := by omega
    have hs := sign_nil (s := s) (p := p) (by rw [h]; rfl)
    simp only [unqLoop]
    rw [if_neg (by decide), if_pos (by rw [hs]; decide), hs]; decide
  | r :: rs, f + 1, p, j, acc, hr, hp, hf, h, hj => by
    have h0 := hr r (List.mem_cons_self ..)
    rw [List.flatMap_cons, List.append_assoc] at h hj
    by_cases hlt : j < (quoteOne r).length
    · rw [take_app_le (by omega)] at h
      exact unq_part f acc h0 h hlt
    · rw [take_app_ge (by omega)] at h
      have hq := quoteOne_pos r
      rw [List.length_append] at hj
      rw [unq_one f acc h h0]
      exact unq_cut rs f _ (j - (quoteOne r).length) _ (fun q hq => hr q (List.mem_cons_of_mem _ hq)) (rest_le hp h) (by omega) (drop_rest h) (by omega)
theorem text_cut {s u : ByteArray} {p j : Nat} (hv : validB u = true) (_hp : p ≤ s.size) (h : rest s p = (quoteB u).take (j + 1)) (hj : j + 1 < (quoteB u).length) : (textB s ⟨p, 0⟩).2.e ≠ 0 := by
  obtain ⟨rs, hr, hu⟩ := validB_runes hv
  rw [quoteB_runes hr hu] at h hj
  rw [take_cons_succ] at h
  have hlt := rest_lt h
  have hc := unq_cut rs (s.size + 1 - p) (p + 1) j [] hr (by omega) (by omega) (rest_next h) (by simpa using hj)
  have hq : (unquoteB s p).2.2 ≠ 0 := by
    unfold unquoteB
    rw [twants_rest h]
    exact hc
  unfold textB
  rw [if_neg (show ¬ ((0 : Int) ≠ 0) by decide)]
  simp only
  rw [if_pos hq]
  exact hq
theorem word_cut (s : ByteArray) : ∀ (l : List UInt8) (p j : Nat), rest s p = l.take j → j < l.length → (wordIn s l ⟨p, 0⟩).2.e = 2
  | [], _, _, _, h => by simp at h
  | c :: l, p, 0, h, _ => by
    have := rest_nil (s := s) (p := p) (by rw [h]; rfl)
    simp only [wordIn]
    rw [if_pos (by omega)]
    rfl
  | c :: l, p, j + 1, h, hj => by
    rw [take_cons_succ] at h
    have hl := rest_lt h
    have hb := rest_byte h
    have ih := word_cut s l (p + 1) j (rest_next h) (by simpa using hj)
    simp only [wordIn]
    rw [if_neg (by omega), if_neg (by rw [hb]; simp)]
    exact ih
theorem size_of_rest {s : ByteArray} {p : Nat} {l : List UInt8} (hp : p ≤ s.size) (h : rest s p = l) : p + l.length = s.size := by
  have hz : s.data.size = s.size := rfl
  have := congrArg List.length h
  unfold rest at this
  simp only [List.length_drop, Array.length_toList, hz] at this
  omega
theorem numEnd_p (s : ByteArray) (neg : Bool) (x : St) : (numEnd s neg x).2.p = (numLoop s (anyB s [48] x.p) x.p (s.size - x.p) 0 x.p).2 := by
  unfold numEnd
  simp only
  split
  · exact fail_p _ _
  · split
    · exact fail_p _ _
    · rfl
/-- digits up to the text's end -/
theorem number_cut {s : ByteArray} {p : Nat} (neg : Bool) {ds : List UInt8} (hp : p ≤ s.size) (h : rest s p = signL neg ++ ds) (hd : ∀ c ∈ ds, isDigit c = true) (h0 : ∀ c r, ds = c :: r → c = 48 → r = []) (hne : neg = true ∨ ds ≠ []) :
    (numberB s ⟨p, 0⟩).2.e ≠ 0 ∨ (numberB s ⟨p, 0⟩).2.p = s.size := by
  have h1 : rest s (p + (signL neg).length) = ds := drop_rest h
  have hle := rest_le hp h
  have hneg : anyB s [45] p = neg := by
    cases neg
    · rcases ds with _ | ⟨c, t⟩
      · exact absurd rfl (hne.resolve_left (by decide))
      · rw [anyB_rest [45] (show rest s p = c :: t from h)]
        simpa using digit_ne (hd c (List.mem_cons_self ..)) (d := 45) (by decide)
    · rw [anyB_rest [45] h]; rfl
  have hst : (if anyB s [45] p = true then St.step ⟨p, 0⟩ else ⟨p, 0⟩) = (⟨p + (signL neg).length, 0⟩ : St) := by
    rw [hneg]; cases neg <;> rfl
  unfold numberB
  simp only
  rw [hst, hneg]
  have hsz := size_of_rest hle h1
  rcases ds with _ | ⟨c, t⟩
  · left
    have hns : numStart s ⟨p + (signL neg).length, 0⟩ = ⟨p + (signL neg).length, 2⟩ := by
      unfold numStart
      rw [if_pos (by simp only [List.length_nil] at hsz; simp only; omega)]
      rfl
    rw [hns]
    unfold numEnd
    simp only
    split
    · simp [St.fail]
    · split
      · simp [St.fail]
      · simp
  · right
    have hlt := rest_lt h1
    have hns : numStart s ⟨p + (signL neg).length, 0⟩ = ⟨p + (signL neg).length, 0⟩ := by
      unfold numStart
      rw [if_neg (by simp only; omega)]
    rw [hns, numEnd_p]
    simp only
    have ha := anyB_rest [48] h1
    by_cases hc : c = 48
    · obtain rfl := h0 c t rfl hc
      subst hc
      rw [ha, numLoop_step (by rw [digitB_rest h1]; rfl) (by simp), numLoop_stop (.inl (digitB_no (rest_next h1) noDigit_nil))]
      simpa using hsz
    · have hf : anyB s [48] (p + (signL neg).length) = false := by rw [ha]; simpa using hc
      rw [hf, numLoop_digits s _ (c :: t) [] 0 _ (by rw [h1]; simp) hd noDigit_nil]
      exact hsz
theorem dec_take (u i : Nat) : (∀ c ∈ (decDigits u).take i, isDigit c = true) ∧ (∀ c r, (decDigits u).take i = c :: r → c = 48 → r = []) := by
  refine ⟨fun c hc => dec_isDigit u c (List.mem_of_mem_take hc), fun c r e hc => ?_⟩
  obtain ⟨c', r', e', h'⟩ := dec_head u
  rcases i with _ | i
  · simp at e
  · rw [e', take_cons_succ] at e
    injection e with e1 e2
    rw [e1] at h'
    rw [(h' hc).2] at e2
    rw [← e2]; simp
/-- cut off, a value at depth d is none, or a number up to the text's end -/
def Cuts (s : ByteArray) (d : Nat) : Prop := ∀ (x : JV) (p j : Nat), mayJ d x = true → p ≤ s.size → rest s p = (printB d x).take j → j < (printB d x).length →
  ((valueB s d ⟨p, 0⟩).2.e ≠ 0 ∨ (x.k = 4 ∧ (valueB s d ⟨p, 0⟩).2.p = s.size)) ∧ (x.k ≤ 3 → (valueB s d ⟨p, 0⟩).2.e = 2)
theorem see_at_end {s : ByteArray} {y : St} (he : y.e = 0) (hp : y.p = s.size) : y.see s = (0, ⟨s.size, 2⟩) := by
  obtain ⟨p, e⟩ := y
  simp only at he hp
  subst he; subst hp
  exact see_nil 0 (List.drop_of_length_le (Nat.le_of_eq (Array.length_toList ..)))
theorem list_cut {s : ByteArray} {d : Nat} (hc : Cuts s d) : ∀ (l : List JV) (acc : List JV) (f p j : Nat), l ≠ [] → (∀ y ∈ l, mayJ d y = true) → p ≤ s.size → s.size + 1 - p ≤ f → rest s p = (joinFrom (printB d) true l ++ [93]).take j → j < (joinFrom (printB d) true l ++ [93]).length →
    (listLoop s (valueB s d) f acc ⟨p, 0⟩).2.e ≠ 0
  | [], _, _, _, _, h, _, _, _, _, _ => absurd rfl h
  | x :: xs, acc, 0, p, _, _, _, hp, hf, _, _ => by omega
  | x :: xs, acc, f + 1, p, j, _, hm, hp, hf, h, hj => by
    have hx := hm x (List.mem_cons_self ..)
    rw [join_cons] at h hj
    simp only [if_true, List.nil_append, List.append_assoc] at h hj
    by_cases hlt : j < (printB d x).length
    · rw [take_app_le (by omega)] at h
      have hcx := (hc x p j hx hp h hlt).1
      simp only [listLoop]
      rw [if_neg (show ¬ ((0 : Int) ≠ 0) by decide)]
      by_cases he : (valueB s d ⟨p, 0⟩).2.e ≠ 0
      · rw [if_pos he]; exact he
      · rw [if_neg he]
        have he0 : (valueB s d ⟨p, 0⟩).2.e = 0 := Decidable.of_not_not he
        have hs := see_at_end he0 (hcx.resolve_left he).2
        rw [hs]
        simp only
        rw [if_neg (by decide), if_pos ne2]
        exact ne2
    · rw [take_app_ge (by omega)] at h
      rw [List.length_append] at hj
      have h2 := drop_rest h
      rcases xs with _ | ⟨y, ys⟩
      · simp only [joinFrom, List.nil_append, List.length_cons, List.length_nil] at h hj h2
        rw [show j - (printB d x).length = 0 by omega] at h h2
        have hv := value_reads s d x p _ hx h (fun _ c r e => by simp at e)
        have hs := see_nil 0 h2
        simp only [listLoop, hv, hs]
        rw [if_neg (by decide), if_neg (by decide), if_neg (by decide), if_pos (fail2_ne _)]
        exact ne2
      · rw [join_false, List.cons_append] at h hj h2
        generalize hi : j - (printB d x).length = i at h h2
        rcases i with _ | i
        · have hv := value_reads s d x p _ hx h (fun _ c r e => by simp at e)
          have hs := see_nil 0 h2
          simp only [listLoop, hv, hs]
          rw [if_neg (by decide), if_neg (by decide), if_neg (by decide), if_pos (fail2_ne _)]
          exact ne2
        · rw [take_cons_succ] at h h2
          have hv := value_reads s d x p _ hx h (fun _ => numEnd_cons (by decide) (by decide))
          have hs := see_rest 0 h2 (by decide)
          have hw := wants_rest h2 (by decide)
          have hl2 := rest_lt h2
          simp only [listLoop, hv, hs, hw]
          rw [if_neg (by decide), if_neg (by decide), if_neg (by decide), if_neg (by decide)]
          exact list_cut hc (y :: ys) _ f _ i (by simp) (fun q hq => hm q (List.mem_cons_of_mem _ hq)) (by omega) (by omega) (rest_next h2) (by rw [List.length_cons] at hj; omega)
theorem fail_ne {x : St} {e : Int} (h : x.e ≠ 0) : (x.fail e).e ≠ 0 := by unfold St.fail; rw [if_neg h]; exact h
theorem member_text {s : ByteArray} {pv : St → JV × St} {acc : List (ByteArray × JV)} {x : St} (h : (textB s (if (x.see s).1 ≠ 34 then (x.see s).2.fail 4 else (x.see s).2)).2.e ≠ 0) : (memberB s pv acc x).2.e ≠ 0 := by
  have hz : ∀ b : Bool, (if b = true then (textB s (if (x.see s).1 ≠ 34 then (x.see s).2.fail 4 else (x.see s).2)).2.fail 4 else (textB s (if (x.see s).1 ≠ 34 then (x.see s).2.fail 4 else (x.see s).2)).2).e ≠ 0 := fun b => by
    cases b
    · exact h
    · exact fail_ne h
  unfold memberB
  simp only
  rw [if_neg (hz _), if_neg (hz _)]
  exact hz _
theorem text_err (s : ByteArray) {x : St} (h : x.e ≠ 0) : (textB s x).2.e ≠ 0 := by
  unfold textB
  rw [if_pos h]
  exact h
theorem member_cut {s : ByteArray} {d : Nat} (hc : Cuts s d) {acc : List (ByteArray × JV)} {nm : ByteArray} {y : JV} {p j : Nat} (hs : shortB nm = true) (hy : mayJ d y = true) (ha : ∀ q ∈ acc, q.1.toList ≠ nm.toList) (hp : p ≤ s.size) (h : rest s p = (prMem d (nm, y)).take j) (hj : j < (prMem d (nm, y)).length) :
    (memberB s (valueB s d) acc ⟨p, 0⟩).2.e ≠ 0 ∨ (memberB s (valueB s d) acc ⟨p, 0⟩).2.p = s.size := by
  unfold prMem at h hj
  simp only at h hj
  have hv : validB nm = true ∧ nm.size ≤ 8000 := by unfold shortB at hs; simpa using hs
  obtain ⟨r, hq⟩ := quote_head nm
  by_cases hlt : j < (quoteB nm).length
  · left
    rw [take_app_le (by omega)] at h
    apply member_text
    rcases j with _ | j
    · rw [see_nil 0 (by rw [h]; rfl)]
      exact text_err s ne2
    · have htc := text_cut hv.1 hp h hlt
      rw [hq, take_cons_succ] at h
      rw [see_rest 0 h (by decide)]
      simp only [ne_eq, not_true_eq_false, if_false]
      exact htc
  · rw [take_app_ge (by omega)] at h
    rw [List.length_append, List.length_cons] at hj
    have h0 := h
    rw [hq, List.cons_append] at h0
    have hsee := see_rest 0 h0 (by decide)
    have htx := text_quote hv.1 hv.2 h
    have h2 := drop_rest h
    have hle := rest_le hp h
    have hnm : (⟨nm.data.toList.toArray⟩ : ByteArray) = nm := array_list _ nm rfl
    have hany : (acc.any fun q => q.1.toList == nm.toList) = false := by
      rw [List.any_eq_false]
      intro q hq2 e
      exact ha q hq2 (by simpa using e)
    generalize hi : j - (quoteB nm).length = i at h2
    rcases i with _ | i
    · left
      have hw : (St.wants s ⟨p + (quoteB nm).length, 0⟩ 58).e = 2 := by
        unfold St.wants
        rw [see_nil 0 h2]
        rfl
      simp only [memberB, hsee, ne_eq, not_true_eq_false, if_false, htx, hnm, hany, Bool.false_eq_true, if_true]
      rw [if_neg (by rw [hw]; decide), hw]
      decide
    · rw [take_cons_succ] at h2
      have hlt2 := rest_lt h2
      have hw := wants_rest (c := 58) h2 (by decide)
      have hcv := (hc y (p + (quoteB nm).length + 1) i hy (by omega) (rest_next h2) (by omega)).1
      simp only [memberB, hsee, ne_eq, not_true_eq_false, if_false, htx, hnm, hany, Bool.false_eq_true, if_true, hw]
      rcases hcv with hcv | hcv
      · exact .inl hcv
      · exact .inr hcv.2
theorem obj_cut {s : ByteArray} {d : Nat} (hc : Cuts s d) : ∀ (l : List (ByteArray × JV)) (acc : List (ByteArray × JV)) (f p j : Nat), l ≠ [] → (∀ y ∈ l, mayJ d y.2 = true ∧ shortB y.1 = true) → (acc ++ l).Pairwise NmLt → p ≤ s.size → s.size + 1 - p ≤ f → rest s p = (joinFrom (prMem d) true l ++ [125]).take j → j < (joinFrom (prMem d) true l ++ [125]).length →
    (objLoop s (valueB s d) f acc ⟨p, 0⟩).2.e ≠ 0
  | [], _, _, _, _, h, _, _, _, _, _, _ => absurd rfl h
  | x :: xs, acc, 0, p, _, _, _, _, hp, hf, _, _ => by omega
  | (nm, v) :: xs, acc, f + 1, p, j, _, hm, hpw, hp, hf, h, hj => by
    have hx := hm _ (List.mem_cons_self ..)
    have hacc : ∀ q ∈ acc, q.1.toList ≠ nm.toList := fun q hq e => by
      have := (List.pairwise_append.1 hpw).2.2 q hq _ (List.mem_cons_self ..)
      unfold NmLt at this
      rw [e] at this
      exact List.lt_irrefl _ this
    rw [join_cons] at h hj
    simp only [if_true, List.nil_append, List.append_assoc] at h hj
    by_cases hlt : j < (prMem d (nm, v)).length
    · rw [take_app_le (by omega)] at h
      have hcx := member_cut hc hx.2 hx.1 hacc hp h hlt
      simp only [objLoop]
      rw [if_neg (show ¬ ((0 : Int) ≠ 0) by decide)]
      by_cases he : (memberB s (valueB s d) acc ⟨p, 0⟩).2.e ≠ 0
      · rw [if_pos he]; exact he
      · rw [if_neg he]
        have he0 : (memberB s (valueB s d) acc ⟨p, 0⟩).2.e = 0 := Decidable.of_not_not he
        have hs := see_at_end he0 (hcx.resolve_left he)
        rw [hs]
        simp only
        rw [if_neg (by decide), if_pos ne2]
        exact ne2
    · rw [take_app_ge (by omega)] at h
      rw [List.length_append] at hj
      have h2 := drop_rest h
      have hre := value_reads s d
      rcases xs with _ | ⟨y, ys⟩
      · simp only [joinFrom, List.nil_append, List.length_cons, List.length_nil] at h hj h2
        rw [show j - (prMem d (nm, v)).length = 0 by omega] at h h2
        have hv := member_rest hre hx.2 hx.1 hacc h (fun _ c r e => by simp at e)
        have hs := see_nil 0 h2
        simp only [objLoop, hv, hs]
        rw [if_neg (by decide), if_neg (by decide), if_neg (by decide), if_pos (fail2_ne _)]
        exact ne2
      · rw [join_false, List.cons_append] at h hj h2
        generalize hi : j - (prMem d (nm, v)).length = i at h h2
        rcases i with _ | i
        · have hv := member_rest hre hx.2 hx.1 hacc h (fun _ c r e => by simp at e)
          have hs := see_nil 0 h2
          simp only [objLoop, hv, hs]
          rw [if_neg (by decide), if_neg (by decide), if_neg (by decide), if_pos (fail2_ne _)]
          exact ne2
        · rw [take_cons_succ] at h h2
          have hv := member_rest hre hx.2 hx.1 hacc h (fun _ => numEnd_cons (by decide) (by decide))
          have hs := see_rest 0 h2 (by decide)
          have hw := wants_rest h2 (by decide)
          have hl2 := rest_lt h2
          simp only [objLoop, hv, hs, hw]
          rw [if_neg (by decide), if_neg (by decide), if_neg (by decide), if_neg (by decide)]
          exact obj_cut hc (y :: ys) _ f _ i (by simp) (fun q hq => hm q (List.mem_cons_of_mem _ hq)) (by simpa using hpw) (by omega) (by omega) (rest_next h2) (by rw [List.length_cons] at hj; omega)
theorem value_cut (s : ByteArray) : ∀ d, Cuts s d
  | 0 => fun x p j h => absurd h (by simp [mayJ])
  | d + 1 => fun x p j h hp hr hj => by
    have hc := value_cut s d
    rcases j with _ | j
    · have hn := value_nil (s := s) (p := p) (by rw [hr]; rfl) (d + 1)
      exact ⟨.inl (by rw [hn]; exact ne2), fun _ => by rw [hn]⟩
    have hsh := shape_of h
    rw [printB.eq_2] at hr hj
    cases hsh with
    | word k hk =>
      have key : (valueB s (d + 1) ⟨p, 0⟩).2.e = 2 := by
        rcases hk with rfl | rfl | rfl
        · have hr' : rest s p = ([110, 117, 108, 108] : List UInt8).take (j + 1) := hr
          have hw := word_cut s _ p _ hr' hj
          rw [take_cons_succ] at hr'
          have hs := see_rest 0 hr' (by decide)
          simp only [valueB, hs, wordB]
          exact hw
        · have hr' : rest s p = ([102, 97, 108, 115, 101] : List UInt8).take (j + 1) := hr
          have hw := word_cut s _ p _ hr' hj
          rw [take_cons_succ] at hr'
          have hs := see_rest 0 hr' (by decide)
          simp only [valueB, hs, wordB]
          exact hw
        · have hr' : rest s p = ([116, 114, 117, 101] : List UInt8).take (j + 1) := hr
          have hw := word_cut s _ p _ hr' hj
          rw [take_cons_succ] at hr'
          have hs := see_rest 0 hr' (by decide)
          simp only [valueB, hs, wordB]
          exact hw
      exact ⟨.inl (by rw [key]; decide), fun _ => key⟩
    | num n hn =>
      refine ⟨?_, fun h3 => absurd h3 (show ¬ (4 : Int) ≤ 3 by decide)⟩
      have hr' : rest s p = (Lib.itoa n).take (j + 1) := hr
      have hj' : j + 1 < (Lib.itoa n).length := hj
      obtain ⟨c, t, e, hch⟩ := itoa_head n
      have h1 : rest s p = c :: t.take j := by rw [hr', e, take_cons_succ]
      rw [value_num d h1 hch]
      rw [itoa_sign] at hr'
      have key : ∃ ds, rest s p = signL (decide (n < 0)) ++ ds ∧ (∀ c ∈ ds, isDigit c = true) ∧ (∀ c r, ds = c :: r → c = 48 → r = []) ∧ (decide (n < 0) = true ∨ ds ≠ []) := by
        by_cases hneg : n < 0
        · rw [decide_eq_true hneg] at hr' ⊢
          exact ⟨(decDigits n.natAbs).take j, hr', (dec_take _ _).1, (dec_take _ _).2, .inl rfl⟩
        · rw [decide_eq_false hneg] at hr' ⊢
          exact ⟨(decDigits n.natAbs).take (j + 1), hr', (dec_take _ _).1, (dec_take _ _).2, .inr (fun e0 => by
            rw [hr'] at h1
            simp only [signL, Bool.false_eq_true, if_false, List.nil_append] at h1
            rw [e0] at h1; simp at h1)⟩
      obtain ⟨ds, k1, k2, k3, k4⟩ := key
      rcases number_cut _ hp k1 k2 k3 k4 with h | h
      · exact .inl h
      · exact .inr ⟨rfl, h⟩
    | text u hu =>
      refine ⟨.inl ?_, fun h3 => absurd h3 (show ¬ (5 : Int) ≤ 3 by decide)⟩
      have hv : validB u = true ∧ u.size ≤ 8000 := by unfold shortB at hu; simpa using hu
      have hr' : rest s p = (quoteB u).take (j + 1) := hr
      have htc := text_cut hv.1 hp hr' hj
      obtain ⟨r, hq⟩ := quote_head u
      rw [hq, take_cons_succ] at hr'
      have hs := see_rest 0 hr' (by decide)
      simp only [valueB, hs]
      rw [if_neg (by decide), if_neg (by decide), if_neg (by decide), if_pos (by decide)]
      exact htc
    | list l hl =>
      refine ⟨.inl ?_, fun h3 => absurd h3 (show ¬ (6 : Int) ≤ 3 by decide)⟩
      have hr' : rest s p = 91 :: (joinFrom (printB d) true l ++ [93]).take j := hr
      have hj' : j + 1 < (91 :: (joinFrom (printB d) true l ++ [93])).length := hj
      have hs := see_rest 0 hr' (by decide)
      have h1 := rest_next hr'
      have hlt := rest_lt hr'
      have hva : valueB s (d + 1) ⟨p, 0⟩ = listB s (valueB s d) ⟨p, 0⟩ := by
        simp only [valueB, hs]
        rw [if_neg (by decide), if_pos (by decide)]
      rw [hva]
      rw [List.length_cons] at hj'
      rcases j with _ | j
      · -- at the end: the first part fails
        have hs1 := see_nil 0 (show rest s (p + 1) = [] from h1)
        have hz : ∀ (f : Nat) (x : St), x.e ≠ 0 → (listLoop s (valueB s d) f [] x).2.e ≠ 0 := fun f x hx => by
          cases f with
          | zero => exact hx
          | succ f => simp only [listLoop]; rw [if_pos hx]; exact hx
        simp only [listB, St.step, hs1]
        rw [if_neg (by decide)]
        exact hz _ _ (fail2_ne _)
      · rcases l with _ | ⟨y, ys⟩
        · simp only [joinFrom, List.nil_append, List.length_cons, List.length_nil] at hj'; omega
        · rcases d with _ | d
          · exact absurd (hl y (List.mem_cons_self ..)) (by simp [mayJ])
          obtain ⟨c, r, hcc, hch⟩ := print_head (hl y (List.mem_cons_self ..))
          obtain ⟨u, hu⟩ := join_head (printB (d + 1)) y ys hcc [93]
          have hb := heads_blank hch
          have h1c := h1
          rw [hu, take_cons_succ] at h1c
          have hs1 := see_rest 0 h1c hb.1
          have hlo := list_cut hc (y :: ys) [] (s.size + 1 - (p + 1)) (p + 1) (j + 1) (by simp) hl (by omega) (Nat.le_refl _) h1 (by omega)
          simp only [listB, St.step, hs1]
          rw [if_neg hb.2.1]
          exact hlo
    | obj m hm hl =>
      refine ⟨.inl ?_, fun h3 => absurd h3 (show ¬ (7 : Int) ≤ 3 by decide)⟩
      have hmi := (members_iff none m).1 hm
      have hr' : rest s p = 123 :: (joinFrom (prMem d) true m ++ [125]).take j := hr
      have hj' : j + 1 < (123 :: (joinFrom (prMem d) true m ++ [125])).length := hj
      have hs := see_rest 0 hr' (by decide)
      have h1 := rest_next hr'
      have hlt := rest_lt hr'
      have hva : valueB s (d + 1) ⟨p, 0⟩ = objectB s (valueB s d) ⟨p, 0⟩ := by
        simp only [valueB, hs]
        rw [if_neg (by decide), if_neg (by decide), if_pos (by decide)]
      rw [hva]
      rw [List.length_cons] at hj'
      rcases j with _ | j
      · have hs1 := see_nil 0 (show rest s (p + 1) = [] from h1)
        have hz : ∀ (f : Nat) (x : St), x.e ≠ 0 → (objLoop s (valueB s d) f [] x).2.e ≠ 0 := fun f x hx => by
          cases f with
          | zero => exact hx
          | succ f => simp only [objLoop]; rw [if_pos hx]; exact hx
        simp only [objectB, St.step, hs1]
        rw [if_neg (by decide)]
        exact hz _ _ (fail2_ne _)
      · rcases m with _ | ⟨y, ys⟩
        · simp only [joinFrom, List.nil_append, List.length_cons, List.length_nil] at hj'; omega
        · obtain ⟨r, hq⟩ := quote_head y.1
          obtain ⟨u, hu⟩ := join_head (prMem d) y ys (c := 34) (r := r ++ 58 :: printB d y.2) (by unfold prMem; rw [hq]; rfl) [125]
          have h1c := h1
          rw [hu, take_cons_succ] at h1c
          have hs1 := see_rest 0 h1c (by decide)
          have hlo := obj_cut hc (y :: ys) [] (s.size + 1 - (p + 1)) (p + 1) (j + 1) (by simp) (fun q hq => ⟨hl q hq, hmi.1 q hq⟩) (by simpa using hmi.2.2) (by omega) (Nat.le_refl _) h1 (by omega)
          simp only [objectB, St.step, hs1]
          rw [if_neg (by decide)]
          exact hlo
/-- a printed value, cut off -/
theorem parse_cut {x : JV} {j : Nat} (hm : mayJ 64 x = true) (hk : x.k ≠ 4) (hj : j < (printB 64 x).length) (hlen : (printB 64 x).length ≤ 20000) : (parseB ⟨((printB 64 x).take j).toArray⟩).2 ≠ 0 ∧ (x.k ≤ 3 → (parseB ⟨((printB 64 x).take j).toArray⟩).2 = 2) := by
  have hz := list_size ((printB 64 x).take j)
  rw [List.length_take] at hz
  have hr := rest_zero ((printB 64 x).take j)
  generalize (⟨((printB 64 x).take j).toArray⟩ : ByteArray) = s at *
  have h := value_cut s 64 x 0 j hm (Nat.zero_le _) hr hj
  have h1 : (valueB s 64 ⟨0, 0⟩).2.e ≠ 0 := h.1.resolve_right (fun h => hk h.1)
  refine ⟨?_, fun h3 => parse_err (by omega) (h.2 h3) (by decide)⟩
  rw [parse_err (by omega) rfl h1]
  exact h1
end Go.Proofs.YtjjgbgojlhaapaaGreatDoor
