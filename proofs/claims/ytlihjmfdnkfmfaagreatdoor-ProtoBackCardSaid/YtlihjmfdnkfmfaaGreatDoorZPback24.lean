/- Parts of the proof: Sg, Sr, Sp, Rz, Sh. -/
import Derived.Test.YtlihjmfdnkfmfaaGreatDoorZPback16
import Derived.Test.YtlihjmfdnkfmfaaGreatDoorZPback21
import Derived.Test.YtlihjmfdnkfmfaaGreatDoorZPback23
import Derived.Test.YtlihjmfdnkfmfaaGreatDoorZPback18
import Derived.Lib.ItoaLen
import Derived.Test.YtlihjmfdnkfmfaaGreatDoorZPback17
import Derived.Test.YtlihjmfdnkfmfaaGreatDoorZPback13
namespace Go.Proofs.YtlihjmfdnkfmfaaGreatDoor
open Go.RowKit Go.Lib

theorem jr_lensR {w : World} {F : Nat → Prop} {x : JV} {a b c : Value} {d1 d2 : Option Addr} {n1 c1 n2 c2 : Nat} (h : JR w F x [a, b, c, .slice d1 n1 c1, .slice d2 n2 c2]) : x.l.length = n1 ∧ x.m.length = n2 := by
  obtain ⟨vl, vm, ⟨he, _⟩, hl, hm⟩ := JR_iff.1 h
  obtain ⟨A1, c1', rfl⟩ := hl.form
  obtain ⟨A2, c2', rfl⟩ := hm.form
  injection he with _ he; injection he with _ he; injection he with _ he; injection he with h1 he; injection he with h2 _
  injection h1 with _ h1; injection h2 with _ h2
  exact ⟨h1.symm, h2.symm⟩
theorem get_callR (x : JV) (name : ByteArray) (cs : List Value) (F : Nat → Prop) (w : World) {p : JV} {b : Bool} (hp : getB name (memsOf x) = (p, b)) (hln : LnJ x) (h : JR w F x cs) :
    Calls Tryz.prog 34 #[.agg cs.toArray, .string name] w fun z w' => ∃ (A1 : Option Addr) (n1 c1 : Nat) (A2 : Option Addr) (n2 c2 : Nat),
      z = .returned (.tuple #[.agg #[.int .i64 p.k, .int .i64 p.n, .string p.s, .slice A1 n1 c1, .slice A2 n2 c2], .bool b]) ∧ JR w' (fun _ => True) p [.int .i64 p.k, .int .i64 p.n, .string p.s, .slice A1 n1 c1, .slice A2 n2 c2] ∧ Below w.heap.size w w' := by
  have k := get_any x name cs F w hln h
  unfold GtRes at k
  rw [hp] at k
  exact k.mono fun z w' ⟨⟨A1, n1, c1, A2, n2, c2, h1, h2⟩, hb⟩ => ⟨A1, n1, c1, A2, n2, c2, h1, JR_mono (fun _ _ => trivial) _ _ h2, hb⟩
end Go.Proofs.YtlihjmfdnkfmfaaGreatDoor
namespace Go.Proofs.YtlihjmfdnkfmfaaGreatDoor
open Go.RowKit Go.Lib

end Go.Proofs.YtlihjmfdnkfmfaaGreatDoor
namespace Go.Proofs.YtlihjmfdnkfmfaaGreatDoor
open Go.RowKit Go.Lib

end Go.Proofs.YtlihjmfdnkfmfaaGreatDoor
namespace Go.Proofs.YtlihjmfdnkfmfaaGreatDoor
open Go.RowKit Go.Lib

theorem see_ge (s : ByteArray) (x : St) : x.p ≤ (x.see s).2.p := by
  rw [see_p]
  exact (skip_le (s := s) (s.size - x.p) x.p).1
theorem wants_ge (s : ByteArray) (x : St) (c : UInt8) : x.p + 1 ≤ (x.wants s c).p := by
  have h := see_ge s x
  unfold St.wants
  simp only [St.step]
  split
  · rw [fail_p]; omega
  · omega
theorem number_len {s : ByteArray} {x : St} (h : (numberB s x).2.e = 0) (d : Nat) : (printB (d + 1) (numberB s x).1).length + 30 * x.p ≤ 30 * (numberB s x).2.p := by
  unfold numberB at h ⊢
  generalize anyB s [45] x.p = neg at *
  generalize hy : numStart s _ = y at *
  have hyp : x.p ≤ y.p := by
    rw [← hy]
    unfold numStart
    cases neg <;> simp only [St.step, Bool.false_eq_true, if_false, if_true] <;> split <;> (try rw [fail_p]) <;> simp
  have hr := numLoop_range s (anyB s [48] y.p) y.p (s.size - y.p) 0 y.p (by omega) (by omega)
  rw [numEnd_p]
  unfold numEnd at h ⊢
  simp only at h ⊢
  split at h
  · exact absurd h (fail_not ne4)
  · rename_i h1
    have hne : (numLoop s (anyB s [48] y.p) y.p (s.size - y.p) 0 y.p).2 ≠ y.p := fun e => h1 (.inl e)
    rw [print_numV]
    have := itoa_len ((if neg = true then -1 else 1) * (numLoop s (anyB s [48] y.p) y.p (s.size - y.p) 0 y.p).1) (by split <;> omega) (by split <;> omega)
    omega
theorem word_p (s : ByteArray) : ∀ (l : List UInt8) (x : St), (wordIn s l x).2.e = 0 → (wordIn s l x).1 = true ∧ (wordIn s l x).2.p = x.p + l.length
  | [], _, _ => ⟨rfl, rfl⟩
  | c :: l, x, h => by
    simp only [wordIn] at h ⊢
    split at h
    · exact absurd h (fail_not ne2)
    · rename_i h1
      rw [if_neg h1]
      split at h
      · exact absurd h (fail_not ne4)
      · rename_i h2
        rw [if_neg h2]
        have := word_p s l x.step h
        refine ⟨this.1, ?_⟩
        rw [this.2]
        simp only [St.step, List.length_cons]; omega
theorem word_len {s : ByteArray} {l : List UInt8} {k : Int} {x : St} (hk : (k = 1 ∨ k = 2 ∨ k = 3) ∧ 1 ≤ l.length) (h : (wordB s l k x).2.e = 0) (d : Nat) : (printB (d + 1) (wordB s l k x).1).length + 30 * x.p ≤ 30 * (wordB s l k x).2.p := by
  have hw := word_p s l x h
  unfold wordB
  simp only
  rw [if_pos hw.1, hw.2, printB.eq_2]
  rcases hk.1 with rfl | rfl | rfl <;> (simp [JV.k]; omega)
theorem unq_rel (s : ByteArray) : ∀ (f : Nat) (acc : List UInt8) (x : St), x.p ≤ s.size → (x.e = 0 → s.size + 1 - x.p ≤ f) → (unqLoop s f acc x).2.2 = 0 → (unqLoop s f acc x).1.length + 4 * x.p + 4 ≤ acc.length + 4 * (unqLoop s f acc x).2.1
  | 0, acc, x, hx, hf, h => by
    have : x.e = 0 := h
    have := hf this
    omega
  | f + 1, acc, x, hx, hf, h => by
    simp only [unqLoop] at h ⊢
    by_cases h0 : x.e ≠ 0
    · rw [if_pos h0] at h; exact absurd h h0
    · have h0' : x.e = 0 := Decidable.of_not_not h0
      have hf' := hf h0'
      rw [if_neg h0] at h ⊢
      by_cases h1 : (signB s x).2.e ≠ 0
      · rw [if_pos h1] at h; exact absurd h h1
      · have h1' : (signB s x).2.e = 0 := Decidable.of_not_not h1
        have hst := sign_step h0' h1'
        rw [if_neg h1] at h ⊢
        by_cases h2 : (signB s x).1 = 34
        · rw [if_pos h2]; simp only; omega
        · rw [if_neg h2] at h ⊢
          have hl : ∀ r : Int, (Lib.encodeRune r).length ≤ 4 := fun r => by
            unfold Lib.encodeRune; rw [List.length_map]; exact (encodeRuneZ_length r).2
          by_cases h3 : (signB s x).1 = 92
          · rw [if_pos h3] at h ⊢
            have hm := escape_mono s (signB s x).2
            have ih := unq_rel s f _ (escapeB s (signB s x).2).2 (hm.2 hst.2) (fun _ => by have := hm.1; omega) h
            rw [List.length_append] at ih
            have := hl (escapeB s (signB s x).2).1
            have := hm.1
            omega
          · rw [if_neg h3] at h ⊢
            have ih := unq_rel s f _ (signB s x).2 hst.2 (fun _ => by omega) h
            rw [List.length_append] at ih
            have := hl (signB s x).1
            omega
theorem text_len {s : ByteArray} {x : St} (hx : x.p ≤ s.size) (h : (textB s x).2.e = 0) : (quoteB ⟨(textB s x).1.toArray⟩).length + 24 * x.p + 4 ≤ 24 * (textB s x).2.p := by
  have hv := text_valid s x h
  have hq := (short_len hv).1
  have hz := list_size (textB s x).1
  unfold textB at h hq hz ⊢
  by_cases h0 : x.e ≠ 0
  · rw [if_pos h0] at h; exact absurd h h0
  · rw [if_neg h0] at h hq hz ⊢
    simp only at h hq hz ⊢
    have h1 : (unquoteB s x.p).2.2 = 0 := Decidable.of_not_not fun h1 => by rw [if_pos h1] at h; exact h1 h
    have htm := twants_mono s ⟨x.p, 0⟩ 34
    have htp : (St.twants s ⟨x.p, 0⟩ 34).p ≤ s.size := htm.2 hx
    have hr := unq_rel s (s.size + 1 - x.p) [] (St.twants s ⟨x.p, 0⟩ 34) htp (fun _ => by have := htm.1; simp only at this; omega) h1
    have hr' : (unquoteB s x.p).1.length + 4 * (St.twants s ⟨x.p, 0⟩ 34).p + 4 ≤ 0 + 4 * (unquoteB s x.p).2.1 := hr
    have h3 := htm.1
    simp only at h3
    omega
theorem sum_snoc {α : Type} (g : α → Nat) (l : List α) (x : α) : ((l ++ [x]).map g).sum = (l.map g).sum + g x := by simp
theorem list_size_le {s : ByteArray} {pv : St → JV × St} {g : JV → Nat} (hpv : ∀ x, x.e = 0 → x.p ≤ s.size → (pv x).2.e = 0 → g (pv x).1 + 30 * x.p ≤ 30 * (pv x).2.p ∧ (pv x).2.p ≤ s.size) : ∀ (f : Nat) (acc : List JV) (x : St), (x.e = 0 → x.p ≤ s.size) → (listLoop s pv f acc x).2.e = 0 →
    ((listLoop s pv f acc x).1.map fun y => g y + 1).sum + 30 * x.p ≤ (acc.map fun y => g y + 1).sum + 30 * (listLoop s pv f acc x).2.p
  | 0, acc, x, _, _ => Nat.le_refl _
  | f + 1, acc, x, hx, h => by
    have more : ((acc ++ [(pv x).1]).map fun y => g y + 1).sum = (acc.map fun y => g y + 1).sum + (g (pv x).1 + 1) := sum_snoc _ _ _
    simp only [listLoop] at h ⊢
    split at h
    · rename_i h1; exact absurd h h1
    · rename_i h1
      have h1' : x.e = 0 := Decidable.of_not_not h1
      rw [if_neg h1]
      split at h
      · rename_i h2; exact absurd h h2
      · rename_i h2
        have h2' : (pv x).2.e = 0 := Decidable.of_not_not h2
        have hp := hpv x h1' (hx h1') h2'
        have hs := see_ge s (pv x).2
        rw [if_neg h2]
        split at h
        · rename_i h3; rw [if_pos h3]; simp only [more, St.step]; omega
        · rename_i h3
          rw [if_neg h3]
          split at h
          · rename_i h4; exact absurd h h4
          · rename_i h4
            rw [if_neg h4]
            have hw := wants_ge s ((pv x).2.see s).2 44
            have hsb := see_bd (s := s) (x := (pv x).2) hp.2
            have hwg := wants_good (s := s) (x := ((pv x).2.see s).2) (c := 44) (by decide) hsb.2
            have ih := list_size_le hpv f _ _ (fun he => (hwg.1.1 he).2) h
            rw [more] at ih
            omega
theorem obj_size_le {s : ByteArray} {pv : St → JV × St} {g : JV → Nat} (hpv : ∀ x, x.e = 0 → x.p ≤ s.size → (pv x).2.e = 0 → g (pv x).1 + 30 * x.p ≤ 30 * (pv x).2.p ∧ (pv x).2.p ≤ s.size) {l : List (ByteArray × JV)} {x : St} (_hx0 : x.e = 0) (hx : x.p ≤ s.size) (h : (memberB s pv l x).2.e = 0) :
    (quoteB (memberB s pv l x).1.1).length + (g (memberB s pv l x).1.2 + 1) + 30 * x.p ≤ 30 * (memberB s pv l x).2.p ∧ (memberB s pv l x).2.p ≤ s.size := by
  have ht : (textB s (if (x.see s).1 ≠ 34 then (x.see s).2.fail 4 else (x.see s).2)).2.e = 0 := Decidable.of_not_not fun h1 => member_text h1 h
  have hs := see_bd (s := s) hx
  have hyp : (if (x.see s).1 ≠ 34 then (x.see s).2.fail 4 else (x.see s).2).p = (x.see s).2.p := by split <;> simp [fail_p]
  have htl := text_len (s := s) (x := if (x.see s).1 ≠ 34 then (x.see s).2.fail 4 else (x.see s).2) (by rw [hyp]; exact hs.2) ht
  have htg := (text_good (s := s) (x := if (x.see s).1 ≠ 34 then (x.see s).2.fail 4 else (x.see s).2) (by rw [hyp]; exact hs.2)).1 ht
  rw [hyp] at htl htg
  unfold memberB at h ⊢
  simp only at h ⊢
  generalize textB s (if (x.see s).1 ≠ 34 then (x.see s).2.fail 4 else (x.see s).2) = t at *
  cases ha : (l.any fun m => m.1.toList == (⟨t.1.toArray⟩ : ByteArray).toList) with
  | true =>
    rw [ha] at h
    simp only [if_true] at h
    have h4 : (t.2.fail 4).e ≠ 0 := fail_not ne4
    rw [if_neg h4, if_neg h4] at h
    exact absurd h h4
  | false =>
    rw [ha] at h
    simp only [Bool.false_eq_true, if_false] at h ⊢
    rw [if_pos ht] at h ⊢
    split at h
    · rename_i h1
      rw [if_pos h1]
      simp only
      have hw := wants_ge s t.2 58
      have hwg := (wants_good (s := s) (x := t.2) (c := 58) (by decide) htg.2).1.1 h1
      have hp := hpv _ h1 hwg.2 h
      omega
    · rename_i h1
      exact absurd h h1
theorem objs_size_le {s : ByteArray} {pv : St → JV × St} {g : JV → Nat} (hpv : ∀ x, x.e = 0 → x.p ≤ s.size → (pv x).2.e = 0 → g (pv x).1 + 30 * x.p ≤ 30 * (pv x).2.p ∧ (pv x).2.p ≤ s.size) : ∀ (f : Nat) (acc : List (ByteArray × JV)) (x : St), (x.e = 0 → x.p ≤ s.size) → (objLoop s pv f acc x).2.e = 0 →
    ((objLoop s pv f acc x).1.map fun y => (quoteB y.1).length + (g y.2 + 1) + 1).sum + 30 * x.p ≤ (acc.map fun y => (quoteB y.1).length + (g y.2 + 1) + 1).sum + 30 * (objLoop s pv f acc x).2.p
  | 0, acc, x, _, _ => Nat.le_refl _
  | f + 1, acc, x, hx, h => by
    have more : ((acc ++ [(memberB s pv acc x).1]).map fun y => (quoteB y.1).length + (g y.2 + 1) + 1).sum = (acc.map fun y => (quoteB y.1).length + (g y.2 + 1) + 1).sum + ((quoteB (memberB s pv acc x).1.1).length + (g (memberB s pv acc x).1.2 + 1) + 1) := sum_snoc _ _ _
    simp only [objLoop] at h ⊢
    split at h
    · rename_i h1; exact absurd h h1
    · rename_i h1
      have h1' : x.e = 0 := Decidable.of_not_not h1
      rw [if_neg h1]
      split at h
      · rename_i h2; exact absurd h h2
      · rename_i h2
        have h2' : (memberB s pv acc x).2.e = 0 := Decidable.of_not_not h2
        have hp := obj_size_le hpv h1' (hx h1') h2'
        have hs := see_ge s (memberB s pv acc x).2
        rw [if_neg h2]
        split at h
        · rename_i h3; rw [if_pos h3]; simp only [more, St.step]; omega
        · rename_i h3
          rw [if_neg h3]
          split at h
          · rename_i h4; exact absurd h h4
          · rename_i h4
            rw [if_neg h4]
            have hw := wants_ge s ((memberB s pv acc x).2.see s).2 44
            have hsb := see_bd (s := s) (x := (memberB s pv acc x).2) hp.2
            have hwg := wants_good (s := s) (x := ((memberB s pv acc x).2.see s).2) (c := 44) (by decide) hsb.2
            have ih := objs_size_le hpv f _ _ (fun he => (hwg.1.1 he).2) h
            rw [more] at ih
            omega
theorem ins_sum (g : ByteArray × JV → Nat) (m : ByteArray × JV) : ∀ l, ((insName m l).map g).sum = g m + (l.map g).sum
  | [] => by simp [insName]
  | x :: r => by
    simp only [insName]
    split
    · simp
    · simp only [List.map_cons, List.sum_cons, ins_sum g m r]; omega
theorem sort_sum (g : ByteArray × JV → Nat) : ∀ l, ((sortNames l).map g).sum = (l.map g).sum
  | [] => rfl
  | x :: r => by
    have ih := sort_sum g r
    unfold sortNames at ih ⊢
    rw [List.foldr_cons, ins_sum, ih, List.map_cons, List.sum_cons]
theorem value_len (s : ByteArray) : ∀ (d : Nat) (x : St), x.e = 0 → x.p ≤ s.size → (valueB s d x).2.e = 0 → (printB d (valueB s d x).1).length + 30 * x.p ≤ 30 * (valueB s d x).2.p
  | 0, x, _, _, h => absurd (value_may s 0 x h) (by simp [mayJ])
  | d + 1, x, hx0, hx, h => by
    have ih : ∀ x, x.e = 0 → x.p ≤ s.size → (valueB s d x).2.e = 0 → (printB d (valueB s d x).1).length + 30 * x.p ≤ 30 * (valueB s d x).2.p ∧ (valueB s d x).2.p ≤ s.size := fun x h0 hx h =>
      ⟨value_len s d x h0 hx h, ((value_good s d x h0 hx).1 h).2⟩
    have hs := see_bd (s := s) hx
    simp only [valueB] at h ⊢
    split at h
    · rename_i h1; exact absurd h h1
    · rename_i h1
      have h1' : (x.see s).2.e = 0 := Decidable.of_not_not h1
      have hlt := (see_good h1').1
      rw [if_neg h1]
      split at h
      · rename_i h2
        rw [if_pos h2]
        unfold listB at h ⊢
        simp only at h ⊢
        have hst : (x.see s).2.step.p = (x.see s).2.p + 1 := rfl
        generalize (x.see s).2.step = st at *
        have hs2 := see_bd (s := s) (x := st) (by omega)
        split at h
        · rename_i h3
          rw [if_pos h3]
          show (91 :: ([] ++ [93])).length + _ ≤ _
          simp only [St.step, List.length_cons, List.length_append, List.length_nil]; omega
        · rename_i h3
          rw [if_neg h3]
          have hl := list_size_le (g := fun y => (printB d y).length) ih _ [] _ (fun _ => hs2.2) h
          generalize listLoop s (valueB s d) (s.size + 1 - (st.see s).2.p) [] (st.see s).2 = R at *
          have hj := join_sum (printB d) R.1 true
          show (91 :: (joinFrom (printB d) true R.1 ++ [93])).length + _ ≤ _
          simp only [List.map_nil, List.sum_nil, List.length_cons, List.length_append, List.length_nil] at hl hj ⊢
          omega
      · rename_i h2
        rw [if_neg h2]
        split at h
        · rename_i h3
          rw [if_pos h3]
          unfold objectB at h ⊢
          simp only at h ⊢
          have hst : (x.see s).2.step.p = (x.see s).2.p + 1 := rfl
          generalize (x.see s).2.step = st at *
          have hs2 := see_bd (s := s) (x := st) (by omega)
          split at h
          · rename_i h4
            rw [if_pos h4]
            show (123 :: ([] ++ [125])).length + _ ≤ _
            simp only [St.step, List.length_cons, List.length_append, List.length_nil]; omega
          · rename_i h4
            rw [if_neg h4]
            have hl := objs_size_le (g := fun y => (printB d y).length) ih _ [] _ (fun _ => hs2.2) h
            generalize objLoop s (valueB s d) (s.size + 1 - (st.see s).2.p) [] (st.see s).2 = R at *
            have hso := sort_sum (fun y => (quoteB y.1).length + ((printB d y.2).length + 1) + 1) R.1
            have hj := join_sum (prMem d) (sortNames R.1) true
            have hpm : (fun q : ByteArray × JV => (prMem d q).length + 1) = fun y => (quoteB y.1).length + ((printB d y.2).length + 1) + 1 := by
              funext q; simp [prMem]
            rw [hpm, hso] at hj
            show (123 :: (joinFrom (prMem d) true (sortNames R.1) ++ [125])).length + _ ≤ _
            simp only [List.map_nil, List.sum_nil, List.length_cons, List.length_append, List.length_nil] at hl hj ⊢
            omega
        · rename_i h3
          rw [if_neg h3]
          split at h
          · rename_i h4
            rw [if_pos h4]
            have htl := text_len hs.2 h
            show (quoteB ⟨(textB s (x.see s).2).1.toArray⟩).length + _ ≤ _
            simp only
            omega
          · rename_i h4
            rw [if_neg h4]
            split at h
            · rename_i h5; rw [if_pos h5]
              have := word_len (by decide) h d
              omega
            · rename_i h5
              rw [if_neg h5]
              split at h
              · rename_i h6; rw [if_pos h6]
                have := word_len (by decide) h d
                omega
              · rename_i h6
                rw [if_neg h6]
                split at h
                · rename_i h7; rw [if_pos h7]
                  have := word_len (by decide) h d
                  omega
                · rename_i h7; rw [if_neg h7]
                  have := number_len h d
                  omega
/-- what Parse reads, printed -/
theorem parse_len {s : ByteArray} (h : (parseB s).2 = 0) : (printB 64 (parseB s).1).length ≤ 600000 := by
  unfold parseB at h ⊢
  split at h
  · exact absurd h (by decide)
  · rename_i h1
    rw [if_neg h1]
    split at h
    · rename_i h2; exact absurd h h2
    · rename_i h2
      rw [if_neg h2]
      have he := endB_zero (Decidable.of_not_not h2)
      have hl := value_len s 64 ⟨0, 0⟩ rfl (Nat.zero_le _) he
      have hg := ((value_good s 64 ⟨0, 0⟩ rfl (Nat.zero_le _)).1 he).2
      simp only at hl ⊢
      omega
end Go.Proofs.YtlihjmfdnkfmfaaGreatDoor
namespace Go.Proofs.YtlihjmfdnkfmfaaGreatDoor
open Go.RowKit Go.Lib

theorem parse_lnR (s : ByteArray) : LnJ (parseB s).1 := by
  by_cases he : (parseB s).2 = 0
  · exact print_ln 64 _ (parse_may he) (parse_len he)
  · rw [parse_zeroV he]
    exact (LnJ_iff _).2 ⟨⟨by simp [zeroV, JV.l], by simp [zeroV, JV.m]⟩, by simp [zeroV, JV.l], by simp [zeroV, JV.m]⟩
end Go.Proofs.YtlihjmfdnkfmfaaGreatDoor
