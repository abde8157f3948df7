/- Parts of the proof: Rz, Sh, Tp, Bp, Hg. -/
import Derived.Test.YtlihjmfdnkfmfaaGreatDoorZRback25
import Derived.Test.YtlihjmfdnkfmfaaGreatDoorZRback18
import Derived.Test.YtlihjmfdnkfmfaaGreatDoorZRback13
import Derived.Test.YtlihjmfdnkfmfaaGreatDoorZRback21
import Derived.Test.YtlihjmfdnkfmfaaGreatDoorZRback24
namespace Go.Proofs.YtlihjmfdnkfmfaaGreatDoor
open Go.RowKit Go.Lib

theorem see_ge (s : ByteArray) (x : St) : x.p ≤ (x.see s).2.p := by
  rw [see_p]
  exact (skip_le (s := s) (s.size - x.p) x.p).1
theorem wants_ge (s : ByteArray) (x : St) (c : UInt8) : x.p + 1 ≤ (x.wants s c).p := by
  have h := see_ge s x
  unfold St.wants
  simp only [St.step]
  split
  · rw [fail_p]; omega
  · omega
theorem number_len {s : ByteArray} {x : St} (h : (numberB s x).2.e = 0) (d : Nat) : (printB (d + 1) (numberB s x).1).length + 30 * x.p ≤ 30 * (numberB s x).2.p := by
  unfold numberB at h ⊢
  generalize anyB s [45] x.p = neg at *
  generalize hy : numStart s _ = y at *
  have hyp : x.p ≤ y.p := by
    rw [← hy]
    unfold numStart
    cases neg <;> simp only [St.step, Bool.false_eq_true, if_false, if_true] <;> split <;> (try rw [fail_p]) <;> simp
  have hr := numLoop_range s (anyB s [48] y.p) y.p (s.size - y.p) 0 y.p (by omega) (by omega)
  rw [numEnd_p]
  unfold numEnd at h ⊢
  simp only at h ⊢
  split at h
  · exact absurd h (fail_not ne4)
  · rename_i h1
    have hne : (numLoop s (anyB s [48] y.p) y.p (s.size - y.p) 0 y.p).2 ≠ y.p := fun e => h1 (.inl e)
    rw [print_numV]
    have := itoa_len ((if neg = true then -1 else 1) * (numLoop s (anyB s [48] y.p) y.p (s.size - y.p) 0 y.p).1) (by split <;> omega) (by split <;> omega)
    omega
theorem word_p (s : ByteArray) : ∀ (l : List UInt8) (x : St), (wordIn s l x).2.e = 0 → (wordIn s l x).1 = true ∧ (wordIn s l x).2.p = x.p + l.length
  | [], _, _ => ⟨rfl, rfl⟩
  | c :: l, x, h => by
    simp only [wordIn] at h ⊢
    split at h
    · exact absurd h (fail_not ne2)
    · rename_i h1
      rw [if_neg h1]
      split at h
      · exact absurd h (fail_not ne4)
      · rename_i h2
        rw [if_neg h2]
        have := word_p s l x.step h
        refine ⟨this.1, ?_⟩
        rw [this.2]
        simp only [St.step, List.length_cons]; omega
theorem word_len {s : ByteArray} {l : List UInt8} {k : Int} {x : St} (hk : (k = 1 ∨ k = 2 ∨ k = 3) ∧ 1 ≤ l.length) (h : (wordB s l k x).2.e = 0) (d : Nat) : (printB (d + 1) (wordB s l k x).1).length + 30 * x.p ≤ 30 * (wordB s l k x).2.p := by
  have hw := word_p s l x h
  unfold wordB
  simp only
  rw [if_pos hw.1, hw.2, printB.eq_2]
  rcases hk.1 with rfl | rfl | rfl <;> (simp [JV.k]; omega)
theorem unq_rel (s : ByteArray) : ∀ (f : Nat) (acc : List UInt8) (x : St), x.p ≤ s.size → (x.e = 0 → s.size + 1 - x.p ≤ f) → (unqLoop s f acc x).2.2 = 0 → (unqLoop s f acc x).1.length + 4 * x.p + 4 ≤ acc.length + 4 * (unqLoop s f acc x).2.1
  | 0, acc, x, hx, hf, h => by
    have : x.e = 0 := h
    have := hf this
    omega
  | f + 1, acc, x, hx, hf, h => by
    simp only [unqLoop] at h ⊢
    by_cases h0 : x.e ≠ 0
    · rw [if_pos h0] at h; exact absurd h h0
    · have h0' : x.e = 0 := Decidable.of_not_not h0
      have hf' := hf h0'
      rw [if_neg h0] at h ⊢
      by_cases h1 : (signB s x).2.e ≠ 0
      · rw [if_pos h1] at h; exact absurd h h1
      · have h1' : (signB s x).2.e = 0 := Decidable.of_not_not h1
        have hst := sign_step h0' h1'
        rw [if_neg h1] at h ⊢
        by_cases h2 : (signB s x).1 = 34
        · rw [if_pos h2]; simp only; omega
        · rw [if_neg h2] at h ⊢
          have hl : ∀ r : Int, (Lib.encodeRune r).length ≤ 4 := fun r => by
            unfold Lib.encodeRune; rw [List.length_map]; exact (encodeRuneZ_length r).2
          by_cases h3 : (signB s x).1 = 92
          · rw [if_pos h3] at h ⊢
            have hm := escape_mono s (signB s x).2
            have ih := unq_rel s f _ (escapeB s (signB s x).2).2 (hm.2 hst.2) (fun _ => by have := hm.1; omega) h
            rw [List.length_append] at ih
            have := hl (escapeB s (signB s x).2).1
            have := hm.1
            omega
          · rw [if_neg h3] at h ⊢
            have ih := unq_rel s f _ (signB s x).2 hst.2 (fun _ => by omega) h
            rw [List.length_append] at ih
            have := hl (signB s x).1
            omega
theorem text_len {s : ByteArray} {x : St} (hx : x.p ≤ s.size) (h : (textB s x).2.e = 0) : (quoteB ⟨(textB s x).1.toArray⟩).length + 24 * x.p + 4 ≤ 24 * (textB s x).2.p := by
  have hv := text_valid s x h
  have hq := (short_len hv).1
  have hz := list_size (textB s x).1
  unfold textB at h hq hz ⊢
  by_cases h0 : x.e ≠ 0
  · rw [if_pos h0] at h; exact absurd h h0
  · rw [if_neg h0] at h hq hz ⊢
    simp only at h hq hz ⊢
    have h1 : (unquoteB s x.p).2.2 = 0 := Decidable.of_not_not fun h1 => by rw [if_pos h1] at h; exact h1 h
    have htm := twants_mono s ⟨x.p, 0⟩ 34
    have htp : (St.twants s ⟨x.p, 0⟩ 34).p ≤ s.size := htm.2 hx
    have hr := unq_rel s (s.size + 1 - x.p) [] (St.twants s ⟨x.p, 0⟩ 34) htp (fun _ => by have := htm.1; simp only at this; omega) h1
    have hr' : (unquoteB s x.p).1.length + 4 * (St.twants s ⟨x.p, 0⟩ 34).p + 4 ≤ 0 + 4 * (unquoteB s x.p).2.1 := hr
    have h3 := htm.1
    simp only at h3
    omega
theorem sum_snoc {α : Type} (g : α → Nat) (l : List α) (x : α) : ((l ++ [x]).map g).sum = (l.map g).sum + g x := by simp
theorem list_size_le {s : ByteArray} {pv : St → JV × St} {g : JV → Nat} (hpv : ∀ x, x.e = 0 → x.p ≤ s.size → (pv x).2.e = 0 → g (pv x).1 + 30 * x.p ≤ 30 * (pv x).2.p ∧ (pv x).2.p ≤ s.size) : ∀ (f : Nat) (acc : List JV) (x : St), (x.e = 0 → x.p ≤ s.size) → (listLoop s pv f acc x).2.e = 0 →
    ((listLoop s pv f acc x).1.map fun y => g y + 1).sum + 30 * x.p ≤ (acc.map fun y => g y + 1).sum + 30 * (listLoop s pv f acc x).2.p
  | 0, acc, x, _, _ => Nat.le_refl _
  | f + 1, acc, x, hx, h => by
    have more : ((acc ++ [(pv x).1]).map fun y => g y + 1).sum = (acc.map fun y => g y + 1).sum + (g (pv x).1 + 1) := sum_snoc _ _ _
    simp only [listLoop] at h ⊢
    split at h
    · rename_i h1; exact absurd h h1
    · rename_i h1
      have h1' : x.e = 0 := Decidable.of_not_not h1
      rw [if_neg h1]
      split at h
      · rename_i h2; exact absurd h h2
      · rename_i h2
        have h2' : (pv x).2.e = 0 := Decidable.of_not_not h2
        have hp := hpv x h1' (hx h1') h2'
        have hs := see_ge s (pv x).2
        rw [if_neg h2]
        split at h
        · rename_i h3; rw [if_pos h3]; simp only [more, St.step]; omega
        · rename_i h3
          rw [if_neg h3]
          split at h
          · rename_i h4; exact absurd h h4
          · rename_i h4
            rw [if_neg h4]
            have hw := wants_ge s ((pv x).2.see s).2 44
            have hsb := see_bd (s := s) (x := (pv x).2) hp.2
            have hwg := wants_good (s := s) (x := ((pv x).2.see s).2) (c := 44) (by decide) hsb.2
            have ih := list_size_le hpv f _ _ (fun he => (hwg.1.1 he).2) h
            rw [more] at ih
            omega
theorem obj_size_le {s : ByteArray} {pv : St → JV × St} {g : JV → Nat} (hpv : ∀ x, x.e = 0 → x.p ≤ s.size → (pv x).2.e = 0 → g (pv x).1 + 30 * x.p ≤ 30 * (pv x).2.p ∧ (pv x).2.p ≤ s.size) {l : List (ByteArray × JV)} {x : St} (_hx0 : x.e = 0) (hx : x.p ≤ s.size) (h : (memberB s pv l x).2.e = 0) :
    (quoteB (memberB s pv l x).1.1).length + (g (memberB s pv l x).1.2 + 1) + 30 * x.p ≤ 30 * (memberB s pv l x).2.p ∧ (memberB s pv l x).2.p ≤ s.size := by
  have ht : (textB s (if (x.see s).1 ≠ 34 then (x.see s).2.fail 4 else (x.see s).2)).2.e = 0 := Decidable.of_not_not fun h1 => member_text h1 h
  have hs := see_bd (s := s) hx
  have hyp : (if (x.see s).1 ≠ 34 then (x.see s).2.fail 4 else (x.see s).2).p = (x.see s).2.p := by split <;> simp [fail_p]
  have htl := text_len (s := s) (x := if (x.see s).1 ≠ 34 then (x.see s).2.fail 4 else (x.see s).2) (by rw [hyp]; exact hs.2) ht
  have htg := (text_good (s := s) (x := if (x.see s).1 ≠ 34 then (x.see s).2.fail 4 else (x.see s).2) (by rw [hyp]; exact hs.2)).1 ht
  rw [hyp] at htl htg
  unfold memberB at h ⊢
  simp only at h ⊢
  generalize textB s (if (x.see s).1 ≠ 34 then (x.see s).2.fail 4 else (x.see s).2) = t at *
  cases ha : (l.any fun m => m.1.toList == (⟨t.1.toArray⟩ : ByteArray).toList) with
  | true =>
    rw [ha] at h
    simp only [if_true] at h
    have h4 : (t.2.fail 4).e ≠ 0 := fail_not ne4
    rw [if_neg h4, if_neg h4] at h
    exact absurd h h4
  | false =>
    rw [ha] at h
    simp only [Bool.false_eq_true, if_false] at h ⊢
    rw [if_pos ht] at h ⊢
    split at h
    · rename_i h1
      rw [if_pos h1]
      simp only
      have hw := wants_ge s t.2 58
      have hwg := (wants_good (s := s) (x := t.2) (c := 58) (by decide) htg.2).1.1 h1
      have hp := hpv _ h1 hwg.2 h
      omega
    · rename_i h1
      exact absurd h h1
theorem objs_size_le {s : ByteArray} {pv : St → JV × St} {g : JV → Nat} (hpv : ∀ x, x.e = 0 → x.p ≤ s.size → (pv x).2.e = 0 → g (pv x).1 + 30 * x.p ≤ 30 * (pv x).2.p ∧ (pv x).2.p ≤ s.size) : ∀ (f : Nat) (acc : List (ByteArray × JV)) (x : St), (x.e = 0 → x.p ≤ s.size) → (objLoop s pv f acc x).2.e = 0 →
    ((objLoop s pv f acc x).1.map fun y => (quoteB y.1).length + (g y.2 + 1) + 1).sum + 30 * x.p ≤ (acc.map fun y => (quoteB y.1).length + (g y.2 + 1) + 1).sum + 30 * (objLoop s pv f acc x).2.p
  | 0, acc, x, _, _ => Nat.le_refl _
  | f + 1, acc, x, hx, h => by
    have more : ((acc ++ [(memberB s pv acc x).1]).map fun y => (quoteB y.1).length + (g y.2 + 1) + 1).sum = (acc.map fun y => (quoteB y.1).length + (g y.2 + 1) + 1).sum + ((quoteB (memberB s pv acc x).1.1).length + (g (memberB s pv acc x).1.2 + 1) + 1) := sum_snoc _ _ _
    simp only [objLoop] at h ⊢
    split at h
    · rename_i h1; exact absurd h h1
    · rename_i h1
      have h1' : x.e = 0 := Decidable.of_not_not h1
      rw [if_neg h1]
      split at h
      · rename_i h2; exact absurd h h2
      · rename_i h2
        have h2' : (memberB s pv acc x).2.e = 0 := Decidable.of_not_not h2
        have hp := obj_size_le hpv h1' (hx h1') h2'
        have hs := see_ge s (memberB s pv acc x).2
        rw [if_neg h2]
        split at h
        · rename_i h3; rw [if_pos h3]; simp only [more, St.step]; omega
        · rename_i h3
          rw [if_neg h3]
          split at h
          · rename_i h4; exact absurd h h4
          · rename_i h4
            rw [if_neg h4]
            have hw := wants_ge s ((memberB s pv acc x).2.see s).2 44
            have hsb := see_bd (s := s) (x := (memberB s pv acc x).2) hp.2
            have hwg := wants_good (s := s) (x := ((memberB s pv acc x).2.see s).2) (c := 44) (by decide) hsb.2
            have ih := objs_size_le hpv f _ _ (fun he => (hwg.1.1 he).2) h
            rw [more] at ih
            omega
theorem ins_sum (g : ByteArray × JV → Nat) (m : ByteArray × JV) : ∀ l, ((insName m l).map g).sum = g m + (l.map g).sum
  | [] => by simp [insName]
  | x :: r => by
    simp only [insName]
    split
    · simp
    · simp only [List.map_cons, List.sum_cons, ins_sum g m r]; omega
theorem sort_sum (g : ByteArray × JV → Nat) : ∀ l, ((sortNames l).map g).sum = (l.map g).sum
  | [] => rfl
  | x :: r => by
    have ih := sort_sum g r
    unfold sortNames at ih ⊢
    rw [List.foldr_cons, ins_sum, ih, List.map_cons, List.sum_cons]
theorem value_len (s : ByteArray) : ∀ (d : Nat) (x : St), x.e = 0 → x.p ≤ s.size → (valueB s d x).2.e = 0 → (printB d (valueB s d x).1).length + 30 * x.p ≤ 30 * (valueB s d x).2.p
  | 0, x, _, _, h => absurd (value_may s 0 x h) (by simp [mayJ])
  | d + 1, x, hx0, hx, h => by
    have ih : ∀ x, x.e = 0 → x.p ≤ s.size → (valueB s d x).2.e = 0 → (printB d (valueB s d x).1).length + 30 * x.p ≤ 30 * (valueB s d x).2.p ∧ (valueB s d x).2.p ≤ s.size := fun x h0 hx h =>
      ⟨value_len s d x h0 hx h, ((value_good s d x h0 hx).1 h).2⟩
    have hs := see_bd (s := s) hx
    simp only [valueB] at h ⊢
    split at h
    · rename_i h1; exact absurd h h1
    · rename_i h1
      have h1' : (x.see s).2.e = 0 := Decidable.of_not_not h1
      have hlt := (see_good h1').1
      rw [if_neg h1]
      split at h
      · rename_i h2
        rw [if_pos h2]
        unfold listB at h ⊢
        simp only at h ⊢
        have hst : (x.see s).2.step.p = (x.see s).2.p + 1 := rfl
        generalize (x.see s).2.step = st at *
        have hs2 := see_bd (s := s) (x := st) (by omega)
        split at h
        · rename_i h3
          rw [if_pos h3]
          show (91 :: ([] ++ [93])).length + _ ≤ _
          simp only [St.step, List.length_cons, List.length_append, List.length_nil]; omega
        · rename_i h3
          rw [if_neg h3]
          have hl := list_size_le (g := fun y => (printB d y).length) ih _ [] _ (fun _ => hs2.2) h
          generalize listLoop s (valueB s d) (s.size + 1 - (st.see s).2.p) [] (st.see s).2 = R at *
          have hj := join_sum (printB d) R.1 true
          show (91 :: (joinFrom (printB d) true R.1 ++ [93])).length + _ ≤ _
          simp only [List.map_nil, List.sum_nil, List.length_cons, List.length_append, List.length_nil] at hl hj ⊢
          omega
      · rename_i h2
        rw [if_neg h2]
        split at h
        · rename_i h3
          rw [if_pos h3]
          unfold objectB at h ⊢
          simp only at h ⊢
          have hst : (x.see s).2.step.p = (x.see s).2.p + 1 := rfl
          generalize (x.see s).2.step = st at *
          have hs2 := see_bd (s := s) (x := st) (by omega)
          split at h
          · rename_i h4
            rw [if_pos h4]
            show (123 :: ([] ++ [125])).length + _ ≤ _
            simp only [St.step, List.length_cons, List.length_append, List.length_nil]; omega
          · rename_i h4
            rw [if_neg h4]
            have hl := objs_size_le (g := fun y => (printB d y).length) ih _ [] _ (fun _ => hs2.2) h
            generalize objLoop s (valueB s d) (s.size + 1 - (st.see s).2.p) [] (st.see s).2 = R at *
            have hso := sort_sum (fun y => (quoteB y.1).length + ((printB d y.2).length + 1) + 1) R.1
            have hj := join_sum (prMem d) (sortNames R.1) true
            have hpm : (fun q : ByteArray × JV => (prMem d q).length + 1) = fun y => (quoteB y.1).length + ((printB d y.2).length + 1) + 1 := by
              funext q; simp [prMem]
            rw [hpm, hso] at hj
            show (123 :: (joinFrom (prMem d) true (sortNames R.1) ++ [125])).length + _ ≤ _
            simp only [List.map_nil, List.sum_nil, List.length_cons, List.length_append, List.length_nil] at hl hj ⊢
            omega
        · rename_i h3
          rw [if_neg h3]
          split at h
          · rename_i h4
            rw [if_pos h4]
            have htl := text_len hs.2 h
            show (quoteB ⟨(textB s (x.see s).2).1.toArray⟩).length + _ ≤ _
            simp only
            omega
          · rename_i h4
            rw [if_neg h4]
            split at h
            · rename_i h5; rw [if_pos h5]
              have := word_len (by decide) h d
              omega
            · rename_i h5
              rw [if_neg h5]
              split at h
              · rename_i h6; rw [if_pos h6]
                have := word_len (by decide) h d
                omega
              · rename_i h6
                rw [if_neg h6]
                split at h
                · rename_i h7; rw [if_pos h7]
                  have := word_len (by decide) h d
                  omega
                · rename_i h7; rw [if_neg h7]
                  have := number_len h d
                  omega
/-- what Parse reads, printed -/
theorem parse_len {s : ByteArray} (h : (parseB s).2 = 0) : (printB 64 (parseB s).1).length ≤ 600000 := by
  unfold parseB at h ⊢
  split at h
  · exact absurd h (by decide)
  · rename_i h1
    rw [if_neg h1]
    split at h
    · rename_i h2; exact absurd h h2
    · rename_i h2
      rw [if_neg h2]
      have he := endB_zero (Decidable.of_not_not h2)
      have hl := value_len s 64 ⟨0, 0⟩ rfl (Nat.zero_le _) he
      have hg := ((value_good s 64 ⟨0, 0⟩ rfl (Nat.zero_le _)).1 he).2
      simp only at hl ⊢
      omega
end Go.Proofs.YtlihjmfdnkfmfaaGreatDoor
namespace Go.Proofs.YtlihjmfdnkfmfaaGreatDoor
open Go.RowKit Go.Lib

theorem parse_lnR (s : ByteArray) : LnJ (parseB s).1 := by
  by_cases he : (parseB s).2 = 0
  · exact print_ln 64 _ (parse_may he) (parse_len he)
  · rw [parse_zeroV he]
    exact (LnJ_iff _).2 ⟨⟨by simp [zeroV, JV.l], by simp [zeroV, JV.m]⟩, by simp [zeroV, JV.l], by simp [zeroV, JV.m]⟩
theorem rparse_s (s : ByteArray) {V : JV} {ev : Int} (hV : parseB s = (V, ev)) (w : World) (hT : Tabs w) :
    Calls Tryz.prog 90 #[.string s] w fun z w' => ∃ (A1 : Option Addr) (n1 c1 : Nat) (A2 : Option Addr) (n2 c2 : Nat),
      z = .returned (.agg #[.int .i64 V.k, .int .i64 V.n, .string V.s, .slice A1 n1 c1, .slice A2 n2 c2]) ∧ JR w' (fun _ => True) V [.int .i64 V.k, .int .i64 V.n, .string V.s, .slice A1 n1 c1, .slice A2 n2 c2] ∧ Below w.heap.size w w' := by
  obtain ⟨l, rfl⟩ : ∃ l : List UInt8, s = ⟨l.toArray⟩ := ⟨s.data.toList, by simp⟩
  exact rparse_any l hV w hT
/-- what Put answers, taken apart -/
theorem putB_cases (ok : Bool) (x : JV) : ∃ S E, putB ok x = .tuple #[.string S, .int .i64 E] ∧ ((E = 4 ∧ ∀ s, isRow ok x s = false) ∨ (E = 0 ∧ ∀ s : ByteArray, isRow ok x s = (S.toList == s.toList))) := by
  cases h : (ok && mayJ 64 x) with
  | false =>
    refine ⟨⟨#[]⟩, 4, by unfold putB; rw [h]; rfl, .inl ⟨rfl, fun s => ?_⟩⟩
    unfold isRow; rw [h]; rfl
  | true =>
    refine ⟨⟨(printB 64 x).toArray⟩, 0, by unfold putB; rw [h]; rfl, .inr ⟨rfl, fun s => ?_⟩⟩
    unfold isRow; rw [h, Bool.true_and, ByteArray.toList_eq (⟨(printB 64 x).toArray⟩ : ByteArray)]
set_option maxRecDepth 100000 in
set_option maxHeartbeats 16000000 in
theorem getSub_any (s : ByteArray) (w : World) (hT : Tabs w) :
    Calls Tryz.prog 41 #[.string s] w fun e w' => e = .returned (.tuple #[.string (if isU s then gS s nmFolder else ⟨#[]⟩), .bool (isU s)]) ∧ Below w.heap.size w w' := by
  obtain ⟨V, ev, hV⟩ : ∃ V ev, parseB s = (V, ev) := ⟨_, _, rfl⟩
  have hln : LnJ V := by have := parse_lnR s; rw [hV] at this; exact this
  obtain ⟨T, hTT⟩ : ∃ T, gS s nmFolder = T := ⟨_, rfl⟩
  have hg : (getB ⟨#[102, 111, 108, 100, 101, 114]⟩ (memsOf V)).1.s = T := by rw [← hTT]; unfold gS; rw [hV]; rfl
  have hsz : T.size ≤ 8000 := by rw [← hTT]; exact gS_size _ _
  have hU : isU s = isRow (subOk T) (subO T) s := by unfold isU; rw [hTT]
  rw [hTT, hU]
  obtain ⟨S, E, hp, hc⟩ := putB_cases (subOk T) (subO T)
  have HP := Lib.hid (fun (W : World) (hW : Tabs W) => jputSub T W (by omega) hW (fun hm => by have := sub_len' (f := T) (by omega) hm; omega))
  rw [hp] at HP
  have HT := Lib.hid hT; have HV := Lib.hid hV; have HL := Lib.hid hln; have HG := Lib.hid hg
  clear hT hV hln hg hsz hU hTT hp
  generalize hR : isRow (subOk T) (subO T) s = R at *
  go_enter Tryz.func41, Tryz.ntmps41
  have hcl := rparse_s s HV.out w HT.out
  have HCL := Lib.hid hcl
  clear hcl
  go_wp2_with fail
  refine Calls.mono HCL.out ?_
  rintro e w1 ⟨A1, n1, c1, A2, n2, c2, rfl, hj, hb1⟩
  have HJ := Lib.hid hj; have HB1 := Lib.hid hb1
  clear HCL hj hb1
  have hcl := rs_any V ⟨#[102, 111, 108, 100, 101, 114]⟩ _ _ w1 HL.out HJ.out
  rw [HG.out] at hcl
  have HCL := Lib.hid hcl
  clear hcl
  go_wp2_with fail
  refine Calls.mono HCL.out ?_
  rintro e w2 ⟨rfl, hb2⟩
  have HB2 := Lib.hid (bel_trans HB1.out hb2)
  clear HCL hb2 HB1 HJ
  have hcl := HP.out w2 (HT.out.below HB2.out)
  have HCL := Lib.hid hcl
  clear hcl
  go_wp2_with fail
  refine Calls.mono HCL.out ?_
  rintro e w3 ⟨rfl, hb3⟩
  have HB3 := Lib.hid (bel_trans HB2.out hb3)
  clear HCL hb3 HB2
  rcases hc with ⟨rfl, hc⟩ | ⟨rfl, hc⟩
  · have hr : R = false := by rw [← hR]; exact hc s
    subst hr
    clear hc hR
    go_wp2_with fail
    go_ret2
    exact ⟨rfl, HB3.out⟩
  · have hr : (S.toList == s.toList) = R := by rw [← hR]; exact (hc s).symm
    have hr2 : (S.toList != s.toList) = !R := by rw [bne, hr]
    clear hc hR
    cases R with
    | false =>
      go_wp2_with fail
      go_ret2
      exact ⟨rfl, HB3.out⟩
    | true =>
      go_wp2_with fail
      go_ret2
      exact ⟨rfl, HB3.out⟩
end Go.Proofs.YtlihjmfdnkfmfaaGreatDoor
namespace Go.Proofs.YtlihjmfdnkfmfaaGreatDoor
open Go.RowKit Go.Lib

end Go.Proofs.YtlihjmfdnkfmfaaGreatDoor
namespace Go.Proofs.YtlihjmfdnkfmfaaGreatDoor
open Go.RowKit Go.Lib

theorem putB_back (ok : Bool) (x : JV) : ∃ S E, putB ok x = .tuple #[.string S, .int .i64 E] ∧ ((E = 4 ∧ S = ⟨#[]⟩) ∨ (E = 0 ∧ ok = true ∧ mayJ 64 x = true ∧ S = ⟨(printB 64 x).toArray⟩)) := by
  unfold putB
  cases h : (ok && mayJ 64 x) with
  | false => exact ⟨_, _, rfl, .inl ⟨rfl, rfl⟩⟩
  | true =>
    rw [Bool.and_eq_true] at h
    exact ⟨_, _, rfl, .inr ⟨rfl, h.1, h.2, rfl⟩⟩
/-- what the text of the k-th row says -/
def BackW (t : ByteArray) (n : Int) (g et l : ByteArray) (wn : Int) (fo : ByteArray) (r st : Int) (xs : List Mk) (k : Nat) (T : ByteArray) : Prop :=
  (k = 0 ∧ isF T = true ∧ isE T = false ∧ isU T = false ∧ isT T = false ∧ (getMarksB T).2 = false ∧ gS T nmTitle = t ∧ gN T nmN = n) ∨
  (k = 1 ∧ isF T = false ∧ isE T = true ∧ isU T = false ∧ isT T = false ∧ (getMarksB T).2 = false ∧ gS T nmGuid = g ∧ gS T nmTitle = et ∧ gS T nmLink = l ∧ gN T nmWhen = wn) ∨
  (k = 2 ∧ isF T = false ∧ isE T = false ∧ isU T = true ∧ isT T = false ∧ (getMarksB T).2 = false ∧ gS T nmFolder = fo) ∨
  (k = 3 ∧ isF T = false ∧ isE T = false ∧ isU T = false ∧ isT T = true ∧ (getMarksB T).2 = false ∧ gN T nmRead = r ∧ gN T nmStar = st) ∨
  (k = 4 ∧ isF T = false ∧ isE T = false ∧ isU T = false ∧ isT T = false ∧ (getMarksB T).2 = true ∧ (getMarksB T).1 = xs)
theorem back_all {t g et l fo S0 S1 S2 S3 S4 : ByteArray} {n wn r st E0 E1 E2 E3 E4 : Int} {xs : List Mk}
    (y0 : (E0 = 4 ∧ S0 = ⟨#[]⟩) ∨ (E0 = 0 ∧ feedOk n t = true ∧ mayJ 64 (feedO n t) = true ∧ S0 = ⟨(printB 64 (feedO n t)).toArray⟩))
    (y1 : (E1 = 4 ∧ S1 = ⟨#[]⟩) ∨ (E1 = 0 ∧ entryOk g l et wn = true ∧ mayJ 64 (entryO g l et wn) = true ∧ S1 = ⟨(printB 64 (entryO g l et wn)).toArray⟩))
    (y2 : (E2 = 4 ∧ S2 = ⟨#[]⟩) ∨ (E2 = 0 ∧ subOk fo = true ∧ mayJ 64 (subO fo) = true ∧ S2 = ⟨(printB 64 (subO fo)).toArray⟩))
    (y3 : (E3 = 4 ∧ S3 = ⟨#[]⟩) ∨ (E3 = 0 ∧ stateOk r st = true ∧ mayJ 64 (stateO r st) = true ∧ S3 = ⟨(printB 64 (stateO r st)).toArray⟩))
    (y4 : (E4 = 4 ∧ S4 = ⟨#[]⟩) ∨ (E4 = 0 ∧ mayB xs = true ∧ mayJ 64 (marksO xs) = true ∧ S4 = ⟨(printB 64 (marksO xs)).toArray⟩)) (k : Nat) (hk : k < 5) :
    ∃ T E, [Value.string S0, .string S1, .string S2, .string S3, .string S4][k]? = some (.string T) ∧ [Value.int .i64 E0, .int .i64 E1, .int .i64 E2, .int .i64 E3, .int .i64 E4][k]? = some (.int .i64 E) ∧ ((E = 4 ∧ T = ⟨#[]⟩) ∨ (E = 0 ∧ BackW t n g et l wn fo r st xs k T)) := by
  obtain rfl | rfl | rfl | rfl | rfl : k = 0 ∨ k = 1 ∨ k = 2 ∨ k = 3 ∨ k = 4 := by omega
  · refine ⟨S0, E0, rfl, rfl, y0.imp id fun ⟨h, h1, h2, h3⟩ => ⟨h, .inl ?_⟩⟩
    obtain ⟨q1, q2, q3, q4, q5, q6, q7⟩ := back_feed h1 h2 h3
    exact ⟨rfl, q3, q4, q5, q6, by rw [q7], q2, q1⟩
  · refine ⟨S1, E1, rfl, rfl, y1.imp id fun ⟨h, h1, h2, h3⟩ => ⟨h, .inr (.inl ?_)⟩⟩
    obtain ⟨⟨q1, q2, q3, q4⟩, q5, q6, q7, q8, q9⟩ := back_entry h1 h2 h3
    exact ⟨rfl, q6, q5, q7, q8, by rw [q9], q1, q3, q2, q4⟩
  · refine ⟨S2, E2, rfl, rfl, y2.imp id fun ⟨h, h1, h2, h3⟩ => ⟨h, .inr (.inr (.inl ?_))⟩⟩
    obtain ⟨q1, q2, q3, q4, q5, q6⟩ := back_sub h1 h2 h3
    exact ⟨rfl, q3, q4, q2, q5, by rw [q6], q1⟩
  · refine ⟨S3, E3, rfl, rfl, y3.imp id fun ⟨h, h1, h2, h3⟩ => ⟨h, .inr (.inr (.inr (.inl ?_)))⟩⟩
    obtain ⟨⟨q1, q1'⟩, q2, q3, q4, q5, q6⟩ := back_state h1 h2 h3
    exact ⟨rfl, q3, q4, q5, q2, by rw [q6], q1, q1'⟩
  · refine ⟨S4, E4, rfl, rfl, y4.imp id fun ⟨h, h1, h2, h3⟩ => ⟨h, .inr (.inr (.inr (.inr ?_)))⟩⟩
    obtain ⟨q1, q2, q3, q4, q5⟩ := back_marks h1 h2 h3
    exact ⟨rfl, q2, q3, q4, q5, by rw [q1], by rw [q1]⟩
theorem row5 {w : World} {Q k : Nat} {cs : List Value} {v : Value} {T : TypeId} (h : cs[k]? = some v) (hw : w.heap[Q]? = some (.cells cs.toArray T (0, 0))) : w.cell? ⟨Q, k, none⟩ = some v := by
  unfold World.cell?
  rw [hw]
  simpa using h
theorem sums5w (a b c d e : Nat) (ha : a ≤ 140737488355328) (hb : b ≤ 140737488355328) (hc : c ≤ 140737488355328) (hd : d ≤ 140737488355328) (he : e ≤ 140737488355328) : wrap64 ((a : Int) + (b : Int)) = (a : Int) + (b : Int) ∧ wrap64 ((a : Int) + (b : Int) + (c : Int)) = (a : Int) + (b : Int) + (c : Int) ∧
    wrap64 ((a : Int) + (b : Int) + (c : Int) + (d : Int)) = (a : Int) + (b : Int) + (c : Int) + (d : Int) ∧ wrap64 ((a : Int) + (b : Int) + (c : Int) + (d : Int) + (e : Int)) = (a : Int) + (b : Int) + (c : Int) + (d : Int) + (e : Int) := by
  unfold wrap64
  exact ⟨by omega, by omega, by omega, by omega⟩
theorem two_new (w : World) (o0 o1 : Obj) : Below w.heap.size w ((w.alloc o0).alloc o1) ∧ ((w.alloc o0).alloc o1).heap[w.heap.size]? = some o0 ∧ ((w.alloc o0).alloc o1).heap[w.heap.size + 1]? = some o1 := by
  have e0 : (w.alloc o0).heap.size = w.heap.size + 1 := Array.size_push _
  have h0 := heap_alloc_new w o0
  have h1 := heap_alloc_new (w.alloc o0) o1
  rw [e0] at h1
  have b1 := bel_alloc (Below.refl _ (w.alloc o0)) o1
  exact ⟨bel_alloc (bel_alloc (Below.refl _ _) _) _, Below.at b1 h0, h1⟩
theorem heap3 (w : World) (o0 o1 o2 : Obj) : Below w.heap.size w (((w.alloc o0).alloc o1).alloc o2) ∧ (((w.alloc o0).alloc o1).alloc o2).heap[w.heap.size]? = some o0 ∧ (((w.alloc o0).alloc o1).alloc o2).heap[w.heap.size + 1]? = some o1 ∧
    (((w.alloc o0).alloc o1).alloc o2).heap[w.heap.size + 2]? = some o2 := by
  have e0 : (w.alloc o0).heap.size = w.heap.size + 1 := Array.size_push _
  have e1 : ((w.alloc o0).alloc o1).heap.size = w.heap.size + 2 := (Array.size_push _).trans (congrArg (· + 1) e0)
  have h0 := heap_alloc_new w o0
  have h1 := heap_alloc_new (w.alloc o0) o1
  have h2 := heap_alloc_new ((w.alloc o0).alloc o1) o2
  rw [e0] at h1; rw [e1] at h2
  have b1 := bel_alloc (Below.refl _ (w.alloc o0)) o1
  have b2 := bel_alloc (Below.refl _ ((w.alloc o0).alloc o1)) o2
  exact ⟨bel_alloc (bel_alloc (bel_alloc (Below.refl _ _) _) _) _, Below.at b2 (Below.at b1 h0), Below.at b2 h1, h2⟩
/-! what the readers answer, by letters -/
theorem feed_form (T : ByteArray) : ∃ a1 a2, (isF T = true → a1 = gS T nmTitle ∧ a2 = gN T nmN) ∧ (if isF T then Value.agg #[.string (gS T nmTitle), .int .i64 (gN T nmN)] else .agg #[.string ⟨#[]⟩, .int .i64 0]) = .agg #[.string a1, .int .i64 a2] := by
  cases h : isF T with
  | false => exact ⟨⟨#[]⟩, 0, by simp, rfl⟩
  | true => exact ⟨_, _, fun _ => ⟨rfl, rfl⟩, rfl⟩
theorem state_form (T : ByteArray) : ∃ a1 a2, (isT T = true → a1 = gN T nmRead ∧ a2 = gN T nmStar) ∧ (if isT T then Value.agg #[.int .i64 (gN T nmRead), .int .i64 (gN T nmStar)] else .agg #[.int .i64 0, .int .i64 0]) = .agg #[.int .i64 a1, .int .i64 a2] := by
  cases h : isT T with
  | false => exact ⟨0, 0, by simp, rfl⟩
  | true => exact ⟨_, _, fun _ => ⟨rfl, rfl⟩, rfl⟩
theorem sub_form (T : ByteArray) : ∃ a1, (isU T = true → a1 = gS T nmFolder) ∧ (if isU T then gS T nmFolder else ⟨#[]⟩) = a1 := by
  cases h : isU T with
  | false => exact ⟨⟨#[]⟩, by simp, rfl⟩
  | true => exact ⟨_, fun _ => rfl, rfl⟩
theorem entry_form (T : ByteArray) (m : Int) : ∃ a0 a1 a2 a3 a4, (isE T = true → a0 = m ∧ a1 = gS T nmGuid ∧ a2 = gS T nmTitle ∧ a3 = gS T nmLink ∧ a4 = gN T nmWhen) ∧
    (if isE T then Value.agg #[.int .i64 m, .string (gS T nmGuid), .string (gS T nmTitle), .string (gS T nmLink), .int .i64 (gN T nmWhen)] else .agg #[.int .i64 0, .string ⟨#[]⟩, .string ⟨#[]⟩, .string ⟨#[]⟩, .int .i64 0]) = .agg #[.int .i64 a0, .string a1, .string a2, .string a3, .int .i64 a4] := by
  cases h : isE T with
  | false => exact ⟨0, ⟨#[]⟩, ⟨#[]⟩, ⟨#[]⟩, 0, by simp, rfl⟩
  | true => exact ⟨_, _, _, _, _, fun _ => ⟨rfl, rfl, rfl, rfl, rfl⟩, rfl⟩
end Go.Proofs.YtlihjmfdnkfmfaaGreatDoor
namespace Go.Proofs.YtlihjmfdnkfmfaaGreatDoor
open Go.RowKit Go.Lib

theorem jputFeed_ways : ∀ b6 b10 b15 : Bool, (b6 = false ∧ (b10 && b15 && b6) = false) ∨ (b6 = true ∧ b10 = false ∧ (b10 && b15 && b6) = false) ∨ (b6 = true ∧ b10 = true ∧ b15 = false ∧ (b10 && b15 && b6) = false) ∨ (b6 = true ∧ b10 = true ∧ b15 = true ∧ (b10 && b15 && b6) = true) := by decide
set_option maxRecDepth 100000 in
set_option maxHeartbeats 64000000 in
theorem jputFeed (t : ByteArray) (n : Int) (w : World) (ht : t.size ≤ 1000000) (hT : Tabs w) (hlen : mayJ 64 (feedO n t) = true → (printB 64 (feedO n t)).length ≤ 1000000000) :
    Calls Tryz.prog 36 #[.agg #[.string t, .int .i64 n]] w fun e w' => e = .returned (putB (feedOk n t) (feedO n t)) ∧ Below w.heap.size w w' := by
  rcases jputFeed_ways (short5R t) (decide (0 ≤ n)) (decide (n ≤ 1000000)) with ⟨h6, hk⟩ | ⟨h6, h10, hk⟩ | ⟨h6, h10, h15, hk⟩ | ⟨h6, h10, h15, hk⟩
  all_goals
    first
      | (have hok : (feedOk n t) = false := hk; rw [hok]; obtain ⟨S, E, hput, hp⟩ := printedJ _ false (show mayJ 64 (feedO n t) = true → _ from hlen); replace hput : putB false (feedO n t) = .tuple #[.string S, .int .i64 E] := hput; rw [hput]; have HP := Lib.hid hp; clear hp hput hok hk hlen)
      | (have hok : (feedOk n t) = true := hk; rw [hok]; obtain ⟨S, E, hput, hp⟩ := printedJ _ true (show mayJ 64 (feedO n t) = true → _ from hlen); replace hput : putB true (feedO n t) = .tuple #[.string S, .int .i64 E] := hput; rw [hput]; have HP := Lib.hid hp; clear hp hput hok hk hlen)
    have HT0 := Lib.hid hT
    clear hT
    have n0 := cell_newB w #[.string t, .int .i64 n] 87 0 _ rfl
    have n1 := cell_newB w #[.string t, .int .i64 n] 87 1 _ rfl
    have HB := Lib.hid (bel_alloc (Below.refl w.heap.size w) (.cells #[.string t, .int .i64 n] 87))
    go_enter Tryz.func36, Tryz.ntmps36
    go_wp2_with fail
    generalize w.alloc (.cells #[.string t, .int .i64 n] 87) = W at *
    refine wp_region_E (by kernel_rfl) ?_
    have RC : ∀ w2, Lat W.drew w2 → w2.cell? ⟨w.heap.size, 0, none⟩ = some (.string t) ∧ w2.cell? ⟨w.heap.size, 1, none⟩ = some (.int .i64 n) := fun w2 hE => ⟨cell_later' hE n0, cell_later' hE n1⟩
    clear n0 n1
    have HRC := Lib.hid RC
    clear RC
    have HBV := Lib.hid (bel_drew HB.out)
    clear HB
    generalize W.drew = V at *
    refine wpAnyE_t 0 (v := ?_) rfl ?_ ?_
    rotate_left
    · intro w2 hE
      obtain ⟨q0, q1⟩ := HRC.out w2 hE
      go_simp
      try (with_reducible rfl)
    try simp only [lay]
    refine wpAnyE_t 1 (v := ?_) rfl ?_ ?_
    rotate_left
    · intro w2 hE
      obtain ⟨q0, q1⟩ := HRC.out w2 hE
      go_simp
      try (with_reducible rfl)
    try simp only [lay]
    refine wpAnyE_t 2 (v := ?_) rfl ?_ ?_
    rotate_left
    · intro w2 hE
      obtain ⟨q0, q1⟩ := HRC.out w2 hE
      go_simp
      have hv := jshort t (by omega) w2 (HT0.out.below (bel_trans HBV.out hE))
      first | rw [show short5R t = true by assumption] at hv | rw [show short5R t = false by assumption] at hv
      exact hv
    try simp only [lay]
    refine wpAnyE_t 3 (v := ?_) rfl ?_ ?_
    rotate_left
    · intro w2 hE
      obtain ⟨q0, q1⟩ := HRC.out w2 hE
      go_simp
      try (with_reducible rfl)
    try simp only [lay]
    first
      | (have _hw := (show short5R t = true by assumption)
         refine wpAnyE_t 4 (v := ?_) rfl ?_ ?_
         rotate_left
         · intro w2 hE
           obtain ⟨q0, q1⟩ := HRC.out w2 hE
           go_simp
           try (with_reducible rfl)
         try simp only [lay])
      | (refine wpAnyE_s 4 rfl ?_; try simp only [lay])
    first
      | (have _hw := (show short5R t = true by assumption)
         refine wpAnyE_t 5 (v := ?_) rfl ?_ ?_
         rotate_left
         · intro w2 hE
           obtain ⟨q0, q1⟩ := HRC.out w2 hE
           go_simp
           try (with_reducible rfl)
         try simp only [lay])
      | (refine wpAnyE_s 5 rfl ?_; try simp only [lay])
    first
      | (have _hw := (show short5R t = true by assumption)
         refine wpAnyE_t 6 (v := ?_) rfl ?_ ?_
         rotate_left
         · intro w2 hE
           obtain ⟨q0, q1⟩ := HRC.out w2 hE
           go_simp
           try (with_reducible rfl)
         try simp only [lay])
      | (refine wpAnyE_s 6 rfl ?_; try simp only [lay])
    refine wpAnyE_t 7 (v := ?_) rfl ?_ ?_
    rotate_left
    · intro w2 hE
      obtain ⟨q0, q1⟩ := HRC.out w2 hE
      go_simp
      try (with_reducible rfl)
    try simp only [lay]
    refine wpAnyE_t 8 (v := ?_) rfl ?_ ?_
    rotate_left
    · intro w2 hE
      obtain ⟨q0, q1⟩ := HRC.out w2 hE
      go_simp
      try (with_reducible rfl)
    try simp only [lay]
    first
      | (have _hw := (show decide (0 ≤ n) = true by assumption)
         refine wpAnyE_t 9 (v := ?_) rfl ?_ ?_
         rotate_left
         · intro w2 hE
           obtain ⟨q0, q1⟩ := HRC.out w2 hE
           go_simp
           try (with_reducible rfl)
         try simp only [lay])
      | (refine wpAnyE_s 9 rfl ?_; try simp only [lay])
    first
      | (have _hw := (show decide (0 ≤ n) = true by assumption)
         refine wpAnyE_t 10 (v := ?_) rfl ?_ ?_
         rotate_left
         · intro w2 hE
           obtain ⟨q0, q1⟩ := HRC.out w2 hE
           go_simp
           try (with_reducible rfl)
         try simp only [lay])
      | (refine wpAnyE_s 10 rfl ?_; try simp only [lay])
    first
      | (have _hw := (show decide (0 ≤ n) = true by assumption)
         refine wpAnyE_t 11 (v := ?_) rfl ?_ ?_
         rotate_left
         · intro w2 hE
           obtain ⟨q0, q1⟩ := HRC.out w2 hE
           go_simp
           try (with_reducible rfl)
         try simp only [lay])
      | (refine wpAnyE_s 11 rfl ?_; try simp only [lay])
    refine wpAnyE_t 12 (v := ?_) rfl ?_ ?_
    rotate_left
    · intro w2 hE
      obtain ⟨q0, q1⟩ := HRC.out w2 hE
      go_simp
      try (with_reducible rfl)
    try simp only [lay]
    refine wpAnyE_t 13 (v := ?_) rfl ?_ ?_
    rotate_left
    · intro w2 hE
      obtain ⟨q0, q1⟩ := HRC.out w2 hE
      go_simp
      try (with_reducible rfl)
    try simp only [lay]
    refine wpAnyE_t 14 (v := ?_) rfl ?_ ?_
    rotate_left
    · intro w2 hE
      obtain ⟨q0, q1⟩ := HRC.out w2 hE
      go_simp
      try (with_reducible rfl)
    try simp only [lay]
    refine wpAnyE_t 15 (v := ?_) rfl ?_ ?_
    rotate_left
    · intro w2 hE
      obtain ⟨q0, q1⟩ := HRC.out w2 hE
      go_simp
      exact jnumber _ _
    try simp only [lay]
    refine wpAnyE_t 16 (v := ?_) rfl ?_ ?_
    rotate_left
    · intro w2 hE
      obtain ⟨q0, q1⟩ := HRC.out w2 hE
      go_simp
      exact part_any _ _ _ _ _ _ _ _ _ _ _
    try simp only [lay]
    refine wpAnyE_t 17 (v := ?_) rfl ?_ ?_
    rotate_left
    · intro w2 hE
      obtain ⟨q0, q1⟩ := HRC.out w2 hE
      go_simp
      try (with_reducible rfl)
    try simp only [lay]
    refine wpAnyE_t 18 (v := ?_) rfl ?_ ?_
    rotate_left
    · intro w2 hE
      obtain ⟨q0, q1⟩ := HRC.out w2 hE
      go_simp
      try (with_reducible rfl)
    try simp only [lay]
    refine wpAnyE_t 19 (v := ?_) rfl ?_ ?_
    rotate_left
    · intro w2 hE
      obtain ⟨q0, q1⟩ := HRC.out w2 hE
      go_simp
      exact jwords _ _
    try simp only [lay]
    refine wpAnyE_t 20 (v := ?_) rfl ?_ ?_
    rotate_left
    · intro w2 hE
      obtain ⟨q0, q1⟩ := HRC.out w2 hE
      go_simp
      exact part_any _ _ _ _ _ _ _ _ _ _ _
    try simp only [lay]
    refine wpAnyE_one (i := 21) (by kernel_rfl) rfl (fun w2 hE K hK => ?_)
    rw [if_pos (by kernel_rfl)]
    obtain ⟨q0, q1⟩ := HRC.out w2 hE
    have HB2 := Lib.hid (bel_trans HBV.out hE)
    clear HBV hE HRC
    go_simp
    have hsl : Sl memTy (w2.alloc (Obj.cells #[.string ⟨#[110]⟩, .int .i64 4, .int .i64 n, .string ⟨#[]⟩, .slice none 0 0, .slice none 0 0, .string ⟨#[116, 105, 116, 108, 101]⟩, .int .i64 5, .int .i64 0, .string t, .slice none 0 0, .slice none 0 0] 49)) (fun _ => True) (.slice (some ⟨w2.heap.size, 0, none⟩) 2 2) [(nmN, numV n), (nmTitle, wordV t)] :=
      new_members (T := 49) w2 ([(nmN, numV n)] ++ [(nmTitle, wordV t)]) _ (by simp) (fun W => (Chunks.append (mem_chunk nmN (numV n) _ (by decide) (num_jr W _ n)) (mem_chunk nmTitle (wordV t) _ (by decide) (word_jr W _ (nm := t) (by omega)))))
    refine hK.out _ _ (bel_alloc (Below.refl _ _) _) ?_
    clear hK K
    have hbA := bel_trans HB2.out (bel_alloc (Below.refl _ w2) (Obj.cells #[.string ⟨#[110]⟩, .int .i64 4, .int .i64 n, .string ⟨#[]⟩, .slice none 0 0, .slice none 0 0, .string ⟨#[116, 105, 116, 108, 101]⟩, .int .i64 5, .int .i64 0, .string t, .slice none 0 0, .slice none 0 0] 49))
    have hSC : ∀ w3, Lat (w2.alloc (Obj.cells #[.string ⟨#[110]⟩, .int .i64 4, .int .i64 n, .string ⟨#[]⟩, .slice none 0 0, .slice none 0 0, .string ⟨#[116, 105, 116, 108, 101]⟩, .int .i64 5, .int .i64 0, .string t, .slice none 0 0, .slice none 0 0] 49)) w3 → w3.cell? ⟨w.heap.size, 0, none⟩ = some (.string t) ∧ w3.cell? ⟨w.heap.size, 1, none⟩ = some (.int .i64 n) := fun w3 hE => ⟨cell_later' (bel_trans (bel_alloc (Below.refl _ w2) (Obj.cells #[.string ⟨#[110]⟩, .int .i64 4, .int .i64 n, .string ⟨#[]⟩, .slice none 0 0, .slice none 0 0, .string ⟨#[116, 105, 116, 108, 101]⟩, .int .i64 5, .int .i64 0, .string t, .slice none 0 0, .slice none 0 0] 49)) hE) q0, cell_later' (bel_trans (bel_alloc (Below.refl _ w2) (Obj.cells #[.string ⟨#[110]⟩, .int .i64 4, .int .i64 n, .string ⟨#[]⟩, .slice none 0 0, .slice none 0 0, .string ⟨#[116, 105, 116, 108, 101]⟩, .int .i64 5, .int .i64 0, .string t, .slice none 0 0, .slice none 0 0] 49)) hE) q1⟩
    have HSC := Lib.hid hSC
    clear hSC q0 q1
    have hj := hsl
    have HB3 := Lib.hid hbA
    clear hsl hbA HB2
    generalize w2.alloc (Obj.cells #[.string ⟨#[110]⟩, .int .i64 4, .int .i64 n, .string ⟨#[]⟩, .slice none 0 0, .slice none 0 0, .string ⟨#[116, 105, 116, 108, 101]⟩, .int .i64 5, .int .i64 0, .string t, .slice none 0 0, .slice none 0 0] 49) = W3 at *
    generalize w2.heap.size = gz at *
    have HJ := Lib.hid hj
    clear w2 hj
    refine wpAnyE_one (i := 22) (by kernel_rfl) rfl (fun w4 hE K hK => ?_)
    rw [if_pos (by kernel_rfl)]
    have HP4 := Lib.hid (HP.out _ _ w4 (Sl.below HJ.out hE) (HT0.out.below (bel_trans HB3.out hE)))
    have HB4 := Lib.hid (bel_trans HB3.out hE)
    clear hE HP HB3 HSC
    go_simp
    refine HP4.out.mono ?_
    rintro e w5 ⟨rfl, hb⟩
    refine hK.out _ _ hb ?_
    clear hK K
    have HB5 := Lib.hid (bel_trans HB4.out hb)
    clear hb HP4 HB4
    try simp only [lay]
    refine wpAnyE_t 23 (v := ?_) rfl ?_ ?_
    rotate_left
    · intro w2 hE
      go_simp
      try (with_reducible rfl)
    try simp only [lay]
    refine wpAnyE_t 24 (v := ?_) rfl ?_ ?_
    rotate_left
    · intro w2 hE
      go_simp
      try (with_reducible rfl)
    try simp only [lay]
    refine wpAnyE_t 25 (v := ?_) rfl ?_ ?_
    rotate_left
    · intro w2 hE
      go_simp
      try (with_reducible rfl)
    try simp only [lay]
    refine wpAnyE_t 26 (v := ?_) rfl ?_ ?_
    rotate_left
    · intro w2 hE
      go_simp
      try (with_reducible rfl)
    try simp only [lay]
    refine wpAnyE_done (by kernel_rfl) (fun w6 hE6 => ?_) _
    have HB6 := Lib.hid (bel_trans HB5.out hE6)
    clear hE6
    go_wp2_with fail
    go_ret2
    exact ⟨rfl, HB6.out⟩
end Go.Proofs.YtlihjmfdnkfmfaaGreatDoor
