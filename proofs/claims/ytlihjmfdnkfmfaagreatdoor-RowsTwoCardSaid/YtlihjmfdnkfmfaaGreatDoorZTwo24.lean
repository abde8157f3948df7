/- Parts of the proof: Sq, Sr, Sp, Rz, Sh, Tp. -/
import Derived.Test.YtlihjmfdnkfmfaaGreatDoorZTwo23
import Derived.Test.YtlihjmfdnkfmfaaGreatDoorZTwo20
import Derived.Lib.ItoaLen
import Derived.Test.YtlihjmfdnkfmfaaGreatDoorZTwo17
import Derived.Test.YtlihjmfdnkfmfaaGreatDoorZTwo12
namespace Go.Proofs.YtlihjmfdnkfmfaaGreatDoor
open Go.RowKit Go.Lib

/-- what a row's text says of a member: its text, its number -/
def gS (s nm : ByteArray) : ByteArray := (getB nm (memsOf (parseB s).1)).1.s
def gN (s nm : ByteArray) : Int := (getB nm (memsOf (parseB s).1)).1.n
theorem may_text : ∀ {d : Nat} {x : JV}, mayJ d x = true → x.s.size ≤ 8000
  | 0, _, h => absurd h (by simp [mayJ])
  | d + 1, x, h => by
    cases shape_of h with
    | word k hk => exact Nat.zero_le _
    | num m hmr => exact Nat.zero_le _
    | text u hu => exact (short_len hu).2
    | list l hl => exact Nat.zero_le _
    | obj m hmm hl => exact Nat.zero_le _
theorem may_mem {d : Nat} {x : JV} (h : mayJ (d + 1) x = true) : ∀ q ∈ memsOf x, mayJ d q.2 = true := by
  intro q hq
  unfold memsOf at hq
  split at hq
  case isFalse => cases hq
  rename_i hk
  cases shape_of h with
  | word k hk' => exact absurd hq (by simp [JV.m])
  | num m hmr => exact absurd hk (by simp [numV, JV.k])
  | text u hu => exact absurd hk (by simp [wordV, JV.k])
  | list l hl => exact absurd hk (by simp [listV, JV.k])
  | obj m hmm hl => exact hl q hq
theorem getB_or (nm : ByteArray) : ∀ l : List (ByteArray × JV), (getB nm l).1 = zeroV ∨ ∃ q ∈ l, (getB nm l).1 = q.2
  | [] => .inl rfl
  | q :: l => by
    unfold getB
    split
    · exact .inr ⟨q, List.mem_cons_self .., rfl⟩
    · rcases getB_or nm l with h | ⟨r, hr, h⟩
      · exact .inl h
      · exact .inr ⟨r, List.mem_cons_of_mem _ hr, h⟩
/-- what a member of what is read is: nothing, or a value that may be -/
theorem get_may (s nm : ByteArray) : (getB nm (memsOf (parseB s).1)).1 = zeroV ∨ mayJ 63 (getB nm (memsOf (parseB s).1)).1 = true := by
  by_cases he : (parseB s).2 = 0
  · rcases getB_or nm (memsOf (parseB s).1) with h | ⟨q, hq, h⟩
    · exact .inl h
    · exact .inr (by rw [h]; exact may_mem (parse_may he) q hq)
  · rw [parse_zeroV he]
    exact .inl (by unfold memsOf; split <;> rfl)
theorem gS_size (s nm : ByteArray) : (gS s nm).size ≤ 8000 := by
  unfold gS
  rcases get_may s nm with h | h
  · rw [h]; exact Nat.zero_le _
  · exact may_text h
/-- is the row just what is printed? -/
def isRow (ok : Bool) (x : JV) (s : ByteArray) : Bool := (ok && mayJ 64 x) && (printB 64 x == s.toList)
theorem print_inj {x y : JV} (hx : mayJ 64 x = true) (hy : mayJ 64 y = true) (lx : (printB 64 x).length ≤ 20000) (ly : (printB 64 y).length ≤ 20000) (h : printB 64 x = printB 64 y) : x = y := by
  have h1 := parse_print hx lx
  rw [h, parse_print hy ly] at h1
  exact (congrArg Prod.fst h1).symm
theorem len600 {d : Nat} {x : JV} (h : 0 < countB d x 600) (hm : mayJ 64 x = true) : (printB 64 x).length ≤ 20000 := by
  have := count_len d 64 x 600 hm h
  omega
theorem feed_short {n : Int} {t : ByteArray} (hk : feedOk n t = true) (hm : mayJ 64 (feedO n t) = true) : (printB 64 (feedO n t)).length ≤ 20000 := by
  have ht : t.size ≤ 500 := by
    simp only [feedOk, short5R, Bool.and_eq_true, decide_eq_true_eq] at hk
    exact hk.2.1
  refine len600 (d := 2) ?_ hm
  have h1 := cap_le t
  have h2 := cap_le nmN
  have h3 := cap_le nmTitle
  have h4 := cap_le ⟨#[]⟩
  have e2 : nmN.size = 1 := by decide
  have e3 : nmTitle.size = 5 := by decide
  have e4 : (⟨#[]⟩ : ByteArray).size = 0 := rfl
  simp only [feedO, countB, cntL, JV.m, JV.l, JV.s, numV, wordV]
  (repeat' split) <;> omega
theorem state_short {r s : Int} (hm : mayJ 64 (stateO r s) = true) : (printB 64 (stateO r s)).length ≤ 20000 := by
  refine len600 (d := 2) ?_ hm
  have h2 := cap_le nmRead
  have h3 := cap_le nmStar
  have h4 := cap_le ⟨#[]⟩
  have e2 : nmRead.size = 4 := by decide
  have e3 : nmStar.size = 4 := by decide
  have e4 : (⟨#[]⟩ : ByteArray).size = 0 := rfl
  simp only [stateO, countB, cntL, JV.m, JV.l, JV.s, numV]
  (repeat' split) <;> omega
theorem sub_short {f : ByteArray} (hk : subOk f = true) (hm : mayJ 64 (subO f) = true) : (printB 64 (subO f)).length ≤ 20000 := by
  have ht : f.size ≤ 20 := by
    simp only [subOk, nameB, Bool.or_eq_true, Bool.and_eq_true, decide_eq_true_eq, List.isEmpty_iff] at hk
    rcases hk with hk | hk
    · have := nm_len f; rw [hk] at this; simp at this; omega
    · exact hk.2.2
  refine len600 (d := 2) ?_ hm
  have h1 := cap_le f
  have h2 := cap_le nmFolder
  have h4 := cap_le ⟨#[]⟩
  have e2 : nmFolder.size = 6 := by decide
  have e4 : (⟨#[]⟩ : ByteArray).size = 0 := rfl
  simp only [subO, countB, cntL, JV.m, JV.l, JV.s, wordV]
  (repeat' split) <;> omega
theorem sub_len' {f : ByteArray} (hf : f.size ≤ 20000) (hm : mayJ 64 (subO f) = true) : (printB 64 (subO f)).length ≤ 1000000000 := by
  refine obj_len (d := 2) ?_ hm
  have h1 := cap_le f
  have h3 := cap_le nmFolder
  have h4 := cap_le ⟨#[]⟩
  have e3 : nmFolder.size = 6 := by decide
  have e4 : (⟨#[]⟩ : ByteArray).size = 0 := rfl
  simp only [subO, countB, cntL, JV.m, JV.l, JV.s, wordV]
  (repeat' split) <;> omega
theorem feed_eq {n n' : Int} {t t' : ByteArray} (hk : feedOk n t = true) (hm : mayJ 64 (feedO n t) = true) (hk' : feedOk n' t' = true) (hm' : mayJ 64 (feedO n' t') = true) :
    printB 64 (feedO n t) = printB 64 (feedO n' t') ↔ n = n' ∧ t = t' := by
  refine ⟨fun h => ?_, fun ⟨h1, h2⟩ => by rw [h1, h2]⟩
  have h1 := print_inj hm hm' (feed_short hk hm) (feed_short hk' hm') h
  simp only [feedO, numV, wordV, JV.mk.injEq, List.cons.injEq, Prod.mk.injEq] at h1
  obtain ⟨_, _, _, _, h2, h3, _⟩ := h1
  exact ⟨by simpa using h2, by simpa using h3⟩
theorem state_eq {r r' s s' : Int} (hm : mayJ 64 (stateO r s) = true) (hm' : mayJ 64 (stateO r' s') = true) :
    printB 64 (stateO r s) = printB 64 (stateO r' s') ↔ r = r' ∧ s = s' := by
  refine ⟨fun h => ?_, fun ⟨h1, h2⟩ => by rw [h1, h2]⟩
  have h1 := print_inj hm hm' (state_short hm) (state_short hm') h
  simp only [stateO, numV, JV.mk.injEq, List.cons.injEq, Prod.mk.injEq] at h1
  obtain ⟨_, _, _, _, h2, h3, _⟩ := h1
  exact ⟨by simpa using h2, by simpa using h3⟩
theorem sub_eq {f f' : ByteArray} (hk : subOk f = true) (hm : mayJ 64 (subO f) = true) (hk' : subOk f' = true) (hm' : mayJ 64 (subO f') = true) :
    printB 64 (subO f) = printB 64 (subO f') ↔ f = f' := by
  refine ⟨fun h => ?_, fun h => by rw [h]⟩
  have h1 := print_inj hm hm' (sub_short hk hm) (sub_short hk' hm') h
  simp only [subO, wordV, JV.mk.injEq, List.cons.injEq, Prod.mk.injEq] at h1
  obtain ⟨_, _, _, _, h2, _⟩ := h1
  simpa using h2
/-- an object's text begins with a brace and ends with one -/
theorem obj_text {x : JV} (hk : x.k = 7) : ∃ l, printB 64 x = 123 :: (l ++ [125]) := by
  obtain ⟨k, n, s, l, m⟩ := x
  simp only [JV.k] at hk
  subst hk
  exact ⟨_, rfl⟩
theorem not_row_end {ok : Bool} {x : JV} {l : List UInt8} {c : UInt8} (hk : x.k = 7) (hc : c ≠ 125) : isRow ok x ⟨(l ++ [c]).toArray⟩ = false := by
  obtain ⟨u, hu⟩ := obj_text hk
  unfold isRow
  rw [hu]
  have h : ((123 :: (u ++ [125])) == (⟨(l ++ [c]).toArray⟩ : ByteArray).toList) = false := by
    rw [beq_eq_false_iff_ne]
    intro e
    have e2 : (⟨(l ++ [c]).toArray⟩ : ByteArray).toList = l ++ [c] := by rw [ByteArray.toList_eq]
    rw [e2] at e
    have e3 : (123 :: u) ++ [125] = l ++ [c] := e
    exact hc (List.cons.inj (List.append_inj' e3 rfl).2).1.symm
  rw [h, Bool.and_false]
theorem not_row_head {ok : Bool} {x : JV} {l : List UInt8} {c : UInt8} (hk : x.k = 7) (hc : c ≠ 123) : isRow ok x ⟨(c :: l).toArray⟩ = false := by
  obtain ⟨u, hu⟩ := obj_text hk
  unfold isRow
  rw [hu]
  have h : ((123 :: (u ++ [125])) == (⟨(c :: l).toArray⟩ : ByteArray).toList) = false := by
    rw [beq_eq_false_iff_ne]
    intro e
    have e2 : (⟨(c :: l).toArray⟩ : ByteArray).toList = c :: l := by rw [ByteArray.toList_eq]
    rw [e2] at e
    exact hc (List.cons.inj e).1.symm
  rw [h, Bool.and_false]
end Go.Proofs.YtlihjmfdnkfmfaaGreatDoor
namespace Go.Proofs.YtlihjmfdnkfmfaaGreatDoor
open Go.RowKit Go.Lib

end Go.Proofs.YtlihjmfdnkfmfaaGreatDoor
namespace Go.Proofs.YtlihjmfdnkfmfaaGreatDoor
open Go.RowKit Go.Lib

def isF (s : ByteArray) : Bool := isRow (feedOk (gN s nmN) (gS s nmTitle)) (feedO (gN s nmN) (gS s nmTitle)) s
def isU (s : ByteArray) : Bool := isRow (subOk (gS s nmFolder)) (subO (gS s nmFolder)) s
def isT (s : ByteArray) : Bool := isRow (stateOk (gN s nmRead) (gN s nmStar)) (stateO (gN s nmRead) (gN s nmStar)) s
end Go.Proofs.YtlihjmfdnkfmfaaGreatDoor
namespace Go.Proofs.YtlihjmfdnkfmfaaGreatDoor
open Go.RowKit Go.Lib

theorem see_ge (s : ByteArray) (x : St) : x.p ≤ (x.see s).2.p := by
  rw [see_p]
  exact (skip_le (s := s) (s.size - x.p) x.p).1
theorem wants_ge (s : ByteArray) (x : St) (c : UInt8) : x.p + 1 ≤ (x.wants s c).p := by
  have h := see_ge s x
  unfold St.wants
  simp only [St.step]
  split
  · rw [fail_p]; omega
  · omega
theorem number_len {s : ByteArray} {x : St} (h : (numberB s x).2.e = 0) (d : Nat) : (printB (d + 1) (numberB s x).1).length + 30 * x.p ≤ 30 * (numberB s x).2.p := by
  unfold numberB at h ⊢
  generalize anyB s [45] x.p = neg at *
  generalize hy : numStart s _ = y at *
  have hyp : x.p ≤ y.p := by
    rw [← hy]
    unfold numStart
    cases neg <;> simp only [St.step, Bool.false_eq_true, if_false, if_true] <;> split <;> (try rw [fail_p]) <;> simp
  have hr := numLoop_range s (anyB s [48] y.p) y.p (s.size - y.p) 0 y.p (by omega) (by omega)
  rw [numEnd_p]
  unfold numEnd at h ⊢
  simp only at h ⊢
  split at h
  · exact absurd h (fail_not ne4)
  · rename_i h1
    have hne : (numLoop s (anyB s [48] y.p) y.p (s.size - y.p) 0 y.p).2 ≠ y.p := fun e => h1 (.inl e)
    rw [print_numV]
    have := itoa_len ((if neg = true then -1 else 1) * (numLoop s (anyB s [48] y.p) y.p (s.size - y.p) 0 y.p).1) (by split <;> omega) (by split <;> omega)
    omega
theorem word_p (s : ByteArray) : ∀ (l : List UInt8) (x : St), (wordIn s l x).2.e = 0 → (wordIn s l x).1 = true ∧ (wordIn s l x).2.p = x.p + l.length
  | [], _, _ => ⟨rfl, rfl⟩
  | c :: l, x, h => by
    simp only [wordIn] at h ⊢
    split at h
    · exact absurd h (fail_not ne2)
    · rename_i h1
      rw [if_neg h1]
      split at h
      · exact absurd h (fail_not ne4)
      · rename_i h2
        rw [if_neg h2]
        have := word_p s l x.step h
        refine ⟨this.1, ?_⟩
        rw [this.2]
        simp only [St.step, List.length_cons]; omega
theorem word_len {s : ByteArray} {l : List UInt8} {k : Int} {x : St} (hk : (k = 1 ∨ k = 2 ∨ k = 3) ∧ 1 ≤ l.length) (h : (wordB s l k x).2.e = 0) (d : Nat) : (printB (d + 1) (wordB s l k x).1).length + 30 * x.p ≤ 30 * (wordB s l k x).2.p := by
  have hw := word_p s l x h
  unfold wordB
  simp only
  rw [if_pos hw.1, hw.2, printB.eq_2]
  rcases hk.1 with rfl | rfl | rfl <;> (simp [JV.k]; omega)
theorem unq_rel (s : ByteArray) : ∀ (f : Nat) (acc : List UInt8) (x : St), x.p ≤ s.size → (x.e = 0 → s.size + 1 - x.p ≤ f) → (unqLoop s f acc x).2.2 = 0 → (unqLoop s f acc x).1.length + 4 * x.p + 4 ≤ acc.length + 4 * (unqLoop s f acc x).2.1
  | 0, acc, x, hx, hf, h => by
    have : x.e = 0 := h
    have := hf this
    omega
  | f + 1, acc, x, hx, hf, h => by
    simp only [unqLoop] at h ⊢
    by_cases h0 : x.e ≠ 0
    · rw [if_pos h0] at h; exact absurd h h0
    · have h0' : x.e = 0 := Decidable.of_not_not h0
      have hf' := hf h0'
      rw [if_neg h0] at h ⊢
      by_cases h1 : (signB s x).2.e ≠ 0
      · rw [if_pos h1] at h; exact absurd h h1
      · have h1' : (signB s x).2.e = 0 := Decidable.of_not_not h1
        have hst := sign_step h0' h1'
        rw [if_neg h1] at h ⊢
        by_cases h2 : (signB s x).1 = 34
        · rw [if_pos h2]; simp only; omega
        · rw [if_neg h2] at h ⊢
          have hl : ∀ r : Int, (Lib.encodeRune r).length ≤ 4 := fun r => by
            unfold Lib.encodeRune; rw [List.length_map]; exact (encodeRuneZ_length r).2
          by_cases h3 : (signB s x).1 = 92
          · rw [if_pos h3] at h ⊢
            have hm := escape_mono s (signB s x).2
            have ih := unq_rel s f _ (escapeB s (signB s x).2).2 (hm.2 hst.2) (fun _ => by have := hm.1; omega) h
            rw [List.length_append] at ih
            have := hl (escapeB s (signB s x).2).1
            have := hm.1
            omega
          · rw [if_neg h3] at h ⊢
            have ih := unq_rel s f _ (signB s x).2 hst.2 (fun _ => by omega) h
            rw [List.length_append] at ih
            have := hl (signB s x).1
            omega
theorem text_len {s : ByteArray} {x : St} (hx : x.p ≤ s.size) (h : (textB s x).2.e = 0) : (quoteB ⟨(textB s x).1.toArray⟩).length + 24 * x.p + 4 ≤ 24 * (textB s x).2.p := by
  have hv := text_valid s x h
  have hq := (short_len hv).1
  have hz := list_size (textB s x).1
  unfold textB at h hq hz ⊢
  by_cases h0 : x.e ≠ 0
  · rw [if_pos h0] at h; exact absurd h h0
  · rw [if_neg h0] at h hq hz ⊢
    simp only at h hq hz ⊢
    have h1 : (unquoteB s x.p).2.2 = 0 := Decidable.of_not_not fun h1 => by rw [if_pos h1] at h; exact h1 h
    have htm := twants_mono s ⟨x.p, 0⟩ 34
    have htp : (St.twants s ⟨x.p, 0⟩ 34).p ≤ s.size := htm.2 hx
    have hr := unq_rel s (s.size + 1 - x.p) [] (St.twants s ⟨x.p, 0⟩ 34) htp (fun _ => by have := htm.1; simp only at this; omega) h1
    have hr' : (unquoteB s x.p).1.length + 4 * (St.twants s ⟨x.p, 0⟩ 34).p + 4 ≤ 0 + 4 * (unquoteB s x.p).2.1 := hr
    have h3 := htm.1
    simp only at h3
    omega
theorem sum_snoc {α : Type} (g : α → Nat) (l : List α) (x : α) : ((l ++ [x]).map g).sum = (l.map g).sum + g x := by simp
theorem list_size_le {s : ByteArray} {pv : St → JV × St} {g : JV → Nat} (hpv : ∀ x, x.e = 0 → x.p ≤ s.size → (pv x).2.e = 0 → g (pv x).1 + 30 * x.p ≤ 30 * (pv x).2.p ∧ (pv x).2.p ≤ s.size) : ∀ (f : Nat) (acc : List JV) (x : St), (x.e = 0 → x.p ≤ s.size) → (listLoop s pv f acc x).2.e = 0 →
    ((listLoop s pv f acc x).1.map fun y => g y + 1).sum + 30 * x.p ≤ (acc.map fun y => g y + 1).sum + 30 * (listLoop s pv f acc x).2.p
  | 0, acc, x, _, _ => Nat.le_refl _
  | f + 1, acc, x, hx, h => by
    have more : ((acc ++ [(pv x).1]).map fun y => g y + 1).sum = (acc.map fun y => g y + 1).sum + (g (pv x).1 + 1) := sum_snoc _ _ _
    simp only [listLoop] at h ⊢
    split at h
    · rename_i h1; exact absurd h h1
    · rename_i h1
      have h1' : x.e = 0 := Decidable.of_not_not h1
      rw [if_neg h1]
      split at h
      · rename_i h2; exact absurd h h2
      · rename_i h2
        have h2' : (pv x).2.e = 0 := Decidable.of_not_not h2
        have hp := hpv x h1' (hx h1') h2'
        have hs := see_ge s (pv x).2
        rw [if_neg h2]
        split at h
        · rename_i h3; rw [if_pos h3]; simp only [more, St.step]; omega
        · rename_i h3
          rw [if_neg h3]
          split at h
          · rename_i h4; exact absurd h h4
          · rename_i h4
            rw [if_neg h4]
            have hw := wants_ge s ((pv x).2.see s).2 44
            have hsb := see_bd (s := s) (x := (pv x).2) hp.2
            have hwg := wants_good (s := s) (x := ((pv x).2.see s).2) (c := 44) (by decide) hsb.2
            have ih := list_size_le hpv f _ _ (fun he => (hwg.1.1 he).2) h
            rw [more] at ih
            omega
theorem obj_size_le {s : ByteArray} {pv : St → JV × St} {g : JV → Nat} (hpv : ∀ x, x.e = 0 → x.p ≤ s.size → (pv x).2.e = 0 → g (pv x).1 + 30 * x.p ≤ 30 * (pv x).2.p ∧ (pv x).2.p ≤ s.size) {l : List (ByteArray × JV)} {x : St} (_hx0 : x.e = 0) (hx : x.p ≤ s.size) (h : (memberB s pv l x).2.e = 0) :
    (quoteB (memberB s pv l x).1.1).length + (g (memberB s pv l x).1.2 + 1) + 30 * x.p ≤ 30 * (memberB s pv l x).2.p ∧ (memberB s pv l x).2.p ≤ s.size := by
  have ht : (textB s (if (x.see s).1 ≠ 34 then (x.see s).2.fail 4 else (x.see s).2)).2.e = 0 := Decidable.of_not_not fun h1 => member_text h1 h
  have hs := see_bd (s := s) hx
  have hyp : (if (x.see s).1 ≠ 34 then (x.see s).2.fail 4 else (x.see s).2).p = (x.see s).2.p := by split <;> simp [fail_p]
  have htl := text_len (s := s) (x := if (x.see s).1 ≠ 34 then (x.see s).2.fail 4 else (x.see s).2) (by rw [hyp]; exact hs.2) ht
  have htg := (text_good (s := s) (x := if (x.see s).1 ≠ 34 then (x.see s).2.fail 4 else (x.see s).2) (by rw [hyp]; exact hs.2)).1 ht
  rw [hyp] at htl htg
  unfold memberB at h ⊢
  simp only at h ⊢
  generalize textB s (if (x.see s).1 ≠ 34 then (x.see s).2.fail 4 else (x.see s).2) = t at *
  cases ha : (l.any fun m => m.1.toList == (⟨t.1.toArray⟩ : ByteArray).toList) with
  | true =>
    rw [ha] at h
    simp only [if_true] at h
    have h4 : (t.2.fail 4).e ≠ 0 := fail_not ne4
    rw [if_neg h4, if_neg h4] at h
    exact absurd h h4
  | false =>
    rw [ha] at h
    simp only [Bool.false_eq_true, if_false] at h ⊢
    rw [if_pos ht] at h ⊢
    split at h
    · rename_i h1
      rw [if_pos h1]
      simp only
      have hw := wants_ge s t.2 58
      have hwg := (wants_good (s := s) (x := t.2) (c := 58) (by decide) htg.2).1.1 h1
      have hp := hpv _ h1 hwg.2 h
      omega
    · rename_i h1
      exact absurd h h1
theorem objs_size_le {s : ByteArray} {pv : St → JV × St} {g : JV → Nat} (hpv : ∀ x, x.e = 0 → x.p ≤ s.size → (pv x).2.e = 0 → g (pv x).1 + 30 * x.p ≤ 30 * (pv x).2.p ∧ (pv x).2.p ≤ s.size) : ∀ (f : Nat) (acc : List (ByteArray × JV)) (x : St), (x.e = 0 → x.p ≤ s.size) → (objLoop s pv f acc x).2.e = 0 →
    ((objLoop s pv f acc x).1.map fun y => (quoteB y.1).length + (g y.2 + 1) + 1).sum + 30 * x.p ≤ (acc.map fun y => (quoteB y.1).length + (g y.2 + 1) + 1).sum + 30 * (objLoop s pv f acc x).2.p
  | 0, acc, x, _, _ => Nat.le_refl _
  | f + 1, acc, x, hx, h => by
    have more : ((acc ++ [(memberB s pv acc x).1]).map fun y => (quoteB y.1).length + (g y.2 + 1) + 1).sum = (acc.map fun y => (quoteB y.1).length + (g y.2 + 1) + 1).sum + ((quoteB (memberB s pv acc x).1.1).length + (g (memberB s pv acc x).1.2 + 1) + 1) := sum_snoc _ _ _
    simp only [objLoop] at h ⊢
    split at h
    · rename_i h1; exact absurd h h1
    · rename_i h1
      have h1' : x.e = 0 := Decidable.of_not_not h1
      rw [if_neg h1]
      split at h
      · rename_i h2; exact absurd h h2
      · rename_i h2
        have h2' : (memberB s pv acc x).2.e = 0 := Decidable.of_not_not h2
        have hp := obj_size_le hpv h1' (hx h1') h2'
        have hs := see_ge s (memberB s pv acc x).2
        rw [if_neg h2]
        split at h
        · rename_i h3; rw [if_pos h3]; simp only [more, St.step]; omega
        · rename_i h3
          rw [if_neg h3]
          split at h
          · rename_i h4; exact absurd h h4
          · rename_i h4
            rw [if_neg h4]
            have hw := wants_ge s ((memberB s pv acc x).2.see s).2 44
            have hsb := see_bd (s := s) (x := (memberB s pv acc x).2) hp.2
            have hwg := wants_good (s := s) (x := ((memberB s pv acc x).2.see s).2) (c := 44) (by decide) hsb.2
            have ih := objs_size_le hpv f _ _ (fun he => (hwg.1.1 he).2) h
            rw [more] at ih
            omega
theorem ins_sum (g : ByteArray × JV → Nat) (m : ByteArray × JV) : ∀ l, ((insName m l).map g).sum = g m + (l.map g).sum
  | [] => by simp [insName]
  | x :: r => by
    simp only [insName]
    split
    · simp
    · simp only [List.map_cons, List.sum_cons, ins_sum g m r]; omega
theorem sort_sum (g : ByteArray × JV → Nat) : ∀ l, ((sortNames l).map g).sum = (l.map g).sum
  | [] => rfl
  | x :: r => by
    have ih := sort_sum g r
    unfold sortNames at ih ⊢
    rw [List.foldr_cons, ins_sum, ih, List.map_cons, List.sum_cons]
theorem value_len (s : ByteArray) : ∀ (d : Nat) (x : St), x.e = 0 → x.p ≤ s.size → (valueB s d x).2.e = 0 → (printB d (valueB s d x).1).length + 30 * x.p ≤ 30 * (valueB s d x).2.p
  | 0, x, _, _, h => absurd (value_may s 0 x h) (by simp [mayJ])
  | d + 1, x, hx0, hx, h => by
    have ih : ∀ x, x.e = 0 → x.p ≤ s.size → (valueB s d x).2.e = 0 → (printB d (valueB s d x).1).length + 30 * x.p ≤ 30 * (valueB s d x).2.p ∧ (valueB s d x).2.p ≤ s.size := fun x h0 hx h =>
      ⟨value_len s d x h0 hx h, ((value_good s d x h0 hx).1 h).2⟩
    have hs := see_bd (s := s) hx
    simp only [valueB] at h ⊢
    split at h
    · rename_i h1; exact absurd h h1
    · rename_i h1
      have h1' : (x.see s).2.e = 0 := Decidable.of_not_not h1
      have hlt := (see_good h1').1
      rw [if_neg h1]
      split at h
      · rename_i h2
        rw [if_pos h2]
        unfold listB at h ⊢
        simp only at h ⊢
        have hst : (x.see s).2.step.p = (x.see s).2.p + 1 := rfl
        generalize (x.see s).2.step = st at *
        have hs2 := see_bd (s := s) (x := st) (by omega)
        split at h
        · rename_i h3
          rw [if_pos h3]
          show (91 :: ([] ++ [93])).length + _ ≤ _
          simp only [St.step, List.length_cons, List.length_append, List.length_nil]; omega
        · rename_i h3
          rw [if_neg h3]
          have hl := list_size_le (g := fun y => (printB d y).length) ih _ [] _ (fun _ => hs2.2) h
          generalize listLoop s (valueB s d) (s.size + 1 - (st.see s).2.p) [] (st.see s).2 = R at *
          have hj := join_sum (printB d) R.1 true
          show (91 :: (joinFrom (printB d) true R.1 ++ [93])).length + _ ≤ _
          simp only [List.map_nil, List.sum_nil, List.length_cons, List.length_append, List.length_nil] at hl hj ⊢
          omega
      · rename_i h2
        rw [if_neg h2]
        split at h
        · rename_i h3
          rw [if_pos h3]
          unfold objectB at h ⊢
          simp only at h ⊢
          have hst : (x.see s).2.step.p = (x.see s).2.p + 1 := rfl
          generalize (x.see s).2.step = st at *
          have hs2 := see_bd (s := s) (x := st) (by omega)
          split at h
          · rename_i h4
            rw [if_pos h4]
            show (123 :: ([] ++ [125])).length + _ ≤ _
            simp only [St.step, List.length_cons, List.length_append, List.length_nil]; omega
          · rename_i h4
            rw [if_neg h4]
            have hl := objs_size_le (g := fun y => (printB d y).length) ih _ [] _ (fun _ => hs2.2) h
            generalize objLoop s (valueB s d) (s.size + 1 - (st.see s).2.p) [] (st.see s).2 = R at *
            have hso := sort_sum (fun y => (quoteB y.1).length + ((printB d y.2).length + 1) + 1) R.1
            have hj := join_sum (prMem d) (sortNames R.1) true
            have hpm : (fun q : ByteArray × JV => (prMem d q).length + 1) = fun y => (quoteB y.1).length + ((printB d y.2).length + 1) + 1 := by
              funext q; simp [prMem]
            rw [hpm, hso] at hj
            show (123 :: (joinFrom (prMem d) true (sortNames R.1) ++ [125])).length + _ ≤ _
            simp only [List.map_nil, List.sum_nil, List.length_cons, List.length_append, List.length_nil] at hl hj ⊢
            omega
        · rename_i h3
          rw [if_neg h3]
          split at h
          · rename_i h4
            rw [if_pos h4]
            have htl := text_len hs.2 h
            show (quoteB ⟨(textB s (x.see s).2).1.toArray⟩).length + _ ≤ _
            simp only
            omega
          · rename_i h4
            rw [if_neg h4]
            split at h
            · rename_i h5; rw [if_pos h5]
              have := word_len (by decide) h d
              omega
            · rename_i h5
              rw [if_neg h5]
              split at h
              · rename_i h6; rw [if_pos h6]
                have := word_len (by decide) h d
                omega
              · rename_i h6
                rw [if_neg h6]
                split at h
                · rename_i h7; rw [if_pos h7]
                  have := word_len (by decide) h d
                  omega
                · rename_i h7; rw [if_neg h7]
                  have := number_len h d
                  omega
/-- what Parse reads, printed -/
theorem parse_len {s : ByteArray} (h : (parseB s).2 = 0) : (printB 64 (parseB s).1).length ≤ 600000 := by
  unfold parseB at h ⊢
  split at h
  · exact absurd h (by decide)
  · rename_i h1
    rw [if_neg h1]
    split at h
    · rename_i h2; exact absurd h h2
    · rename_i h2
      rw [if_neg h2]
      have he := endB_zero (Decidable.of_not_not h2)
      have hl := value_len s 64 ⟨0, 0⟩ rfl (Nat.zero_le _) he
      have hg := ((value_good s 64 ⟨0, 0⟩ rfl (Nat.zero_le _)).1 he).2
      simp only at hl ⊢
      omega
end Go.Proofs.YtlihjmfdnkfmfaaGreatDoor
namespace Go.Proofs.YtlihjmfdnkfmfaaGreatDoor
open Go.RowKit Go.Lib

theorem parse_lnR (s : ByteArray) : LnJ (parseB s).1 := by
  by_cases he : (parseB s).2 = 0
  · exact print_ln 64 _ (parse_may he) (parse_len he)
  · rw [parse_zeroV he]
    exact (LnJ_iff _).2 ⟨⟨by simp [zeroV, JV.l], by simp [zeroV, JV.m]⟩, by simp [zeroV, JV.l], by simp [zeroV, JV.m]⟩
theorem rparse_s (s : ByteArray) {V : JV} {ev : Int} (hV : parseB s = (V, ev)) (w : World) (hT : Tabs w) :
    Calls Tryz.prog 90 #[.string s] w fun z w' => ∃ (A1 : Option Addr) (n1 c1 : Nat) (A2 : Option Addr) (n2 c2 : Nat),
      z = .returned (.agg #[.int .i64 V.k, .int .i64 V.n, .string V.s, .slice A1 n1 c1, .slice A2 n2 c2]) ∧ JR w' (fun _ => True) V [.int .i64 V.k, .int .i64 V.n, .string V.s, .slice A1 n1 c1, .slice A2 n2 c2] ∧ Below w.heap.size w w' := by
  obtain ⟨l, rfl⟩ : ∃ l : List UInt8, s = ⟨l.toArray⟩ := ⟨s.data.toList, by simp⟩
  exact rparse_any l hV w hT
/-- what Put answers, taken apart -/
theorem putB_cases (ok : Bool) (x : JV) : ∃ S E, putB ok x = .tuple #[.string S, .int .i64 E] ∧ ((E = 4 ∧ ∀ s, isRow ok x s = false) ∨ (E = 0 ∧ ∀ s : ByteArray, isRow ok x s = (S.toList == s.toList))) := by
  cases h : (ok && mayJ 64 x) with
  | false =>
    refine ⟨⟨#[]⟩, 4, by unfold putB; rw [h]; rfl, .inl ⟨rfl, fun s => ?_⟩⟩
    unfold isRow; rw [h]; rfl
  | true =>
    refine ⟨⟨(printB 64 x).toArray⟩, 0, by unfold putB; rw [h]; rfl, .inr ⟨rfl, fun s => ?_⟩⟩
    unfold isRow; rw [h, Bool.true_and, ByteArray.toList_eq (⟨(printB 64 x).toArray⟩ : ByteArray)]
set_option maxRecDepth 100000 in
set_option maxHeartbeats 16000000 in
theorem getSub_any (s : ByteArray) (w : World) (hT : Tabs w) :
    Calls Tryz.prog 41 #[.string s] w fun e w' => e = .returned (.tuple #[.string (if isU s then gS s nmFolder else ⟨#[]⟩), .bool (isU s)]) ∧ Below w.heap.size w w' := by
  obtain ⟨V, ev, hV⟩ : ∃ V ev, parseB s = (V, ev) := ⟨_, _, rfl⟩
  have hln : LnJ V := by have := parse_lnR s; rw [hV] at this; exact this
  obtain ⟨T, hTT⟩ : ∃ T, gS s nmFolder = T := ⟨_, rfl⟩
  have hg : (getB ⟨#[102, 111, 108, 100, 101, 114]⟩ (memsOf V)).1.s = T := by rw [← hTT]; unfold gS; rw [hV]; rfl
  have hsz : T.size ≤ 8000 := by rw [← hTT]; exact gS_size _ _
  have hU : isU s = isRow (subOk T) (subO T) s := by unfold isU; rw [hTT]
  rw [hTT, hU]
  obtain ⟨S, E, hp, hc⟩ := putB_cases (subOk T) (subO T)
  have HP := Lib.hid (fun (W : World) (hW : Tabs W) => jputSub T W (by omega) hW (fun hm => by have := sub_len' (f := T) (by omega) hm; omega))
  rw [hp] at HP
  have HT := Lib.hid hT; have HV := Lib.hid hV; have HL := Lib.hid hln; have HG := Lib.hid hg
  clear hT hV hln hg hsz hU hTT hp
  generalize hR : isRow (subOk T) (subO T) s = R at *
  go_enter Tryz.func41, Tryz.ntmps41
  have hcl := rparse_s s HV.out w HT.out
  have HCL := Lib.hid hcl
  clear hcl
  go_wp2_with fail
  refine Calls.mono HCL.out ?_
  rintro e w1 ⟨A1, n1, c1, A2, n2, c2, rfl, hj, hb1⟩
  have HJ := Lib.hid hj; have HB1 := Lib.hid hb1
  clear HCL hj hb1
  have hcl := rs_any V ⟨#[102, 111, 108, 100, 101, 114]⟩ _ _ w1 HL.out HJ.out
  rw [HG.out] at hcl
  have HCL := Lib.hid hcl
  clear hcl
  go_wp2_with fail
  refine Calls.mono HCL.out ?_
  rintro e w2 ⟨rfl, hb2⟩
  have HB2 := Lib.hid (bel_trans HB1.out hb2)
  clear HCL hb2 HB1 HJ
  have hcl := HP.out w2 (HT.out.below HB2.out)
  have HCL := Lib.hid hcl
  clear hcl
  go_wp2_with fail
  refine Calls.mono HCL.out ?_
  rintro e w3 ⟨rfl, hb3⟩
  have HB3 := Lib.hid (bel_trans HB2.out hb3)
  clear HCL hb3 HB2
  rcases hc with ⟨rfl, hc⟩ | ⟨rfl, hc⟩
  · have hr : R = false := by rw [← hR]; exact hc s
    subst hr
    clear hc hR
    go_wp2_with fail
    go_ret2
    exact ⟨rfl, HB3.out⟩
  · have hr : (S.toList == s.toList) = R := by rw [← hR]; exact (hc s).symm
    have hr2 : (S.toList != s.toList) = !R := by rw [bne, hr]
    clear hc hR
    cases R with
    | false =>
      go_wp2_with fail
      go_ret2
      exact ⟨rfl, HB3.out⟩
    | true =>
      go_wp2_with fail
      go_ret2
      exact ⟨rfl, HB3.out⟩
end Go.Proofs.YtlihjmfdnkfmfaaGreatDoor
namespace Go.Proofs.YtlihjmfdnkfmfaaGreatDoor
open Go.RowKit Go.Lib

/-- two rows' texts, taken apart: their errors, how long, whether alike -/
def PairB (ok ok' : Bool) (x x' : JV) (b : Bool) (S : ByteArray) (E : Int) (S' : ByteArray) (E' : Int) : Prop :=
  putB ok x = .tuple #[.string S, .int .i64 E] ∧ putB ok' x' = .tuple #[.string S', .int .i64 E'] ∧ S.size ≤ 20000 ∧ S'.size ≤ 20000 ∧ (E = 4 ∨ (E = 0 ∧ E' = 4) ∨ (E = 0 ∧ E' = 0 ∧ (S.toList == S'.toList) = b))
theorem pair_any {ok ok' : Bool} {x x' : JV} {b : Bool} (hs : ok = true → mayJ 64 x = true → (printB 64 x).length ≤ 20000) (hs' : ok' = true → mayJ 64 x' = true → (printB 64 x').length ≤ 20000)
    (h : ok = true → mayJ 64 x = true → ok' = true → mayJ 64 x' = true → (printB 64 x == printB 64 x') = b) : ∃ S E S' E', PairB ok ok' x x' b S E S' E' := by
  unfold PairB putB
  refine ⟨_, _, _, _, rfl, rfl, ?_, ?_, ?_⟩
  · split
    · rename_i h1
      rw [Bool.and_eq_true] at h1
      exact hs h1.1 h1.2
    · exact Nat.zero_le _
  · split
    · rename_i h1
      rw [Bool.and_eq_true] at h1
      exact hs' h1.1 h1.2
    · exact Nat.zero_le _
  · cases h1 : (ok && mayJ 64 x) with
    | false => exact .inl rfl
    | true =>
      cases h2 : (ok' && mayJ 64 x') with
      | false => exact .inr (.inl ⟨rfl, rfl⟩)
      | true =>
        refine .inr (.inr ⟨rfl, rfl, ?_⟩)
        rw [Bool.and_eq_true] at h1 h2
        rw [if_pos rfl, if_pos rfl, ByteArray.toList_eq, ByteArray.toList_eq]
        exact h h1.1 h1.2 h2.1 h2.2
theorem bytes_eqB (a b : ByteArray) : (a.toList == b.toList) = true ↔ a = b := by
  rw [ByteArray.toList_eq, ByteArray.toList_eq]
  obtain ⟨⟨x⟩⟩ := a
  obtain ⟨⟨y⟩⟩ := b
  simp
theorem feed_pair (n n' : Int) (t t' : ByteArray) : ∃ S E S' E', PairB (feedOk n t) (feedOk n' t') (feedO n t) (feedO n' t') (t.toList == t'.toList && n == n') S E S' E' := by
  refine pair_any feed_short feed_short (fun h1 h2 h3 h4 => ?_)
  rw [Bool.eq_iff_iff, Bool.and_eq_true, beq_iff_eq, feed_eq h1 h2 h3 h4, bytes_eqB, beq_iff_eq]
  exact And.comm
theorem state_pair (r s r' s' : Int) : ∃ S E S' E', PairB (stateOk r s) (stateOk r' s') (stateO r s) (stateO r' s') (r == r' && s == s') S E S' E' := by
  refine pair_any (fun _ => state_short) (fun _ => state_short) (fun _ h2 _ h4 => ?_)
  rw [Bool.eq_iff_iff, Bool.and_eq_true, beq_iff_eq, state_eq h2 h4, beq_iff_eq, beq_iff_eq]
theorem sub_pair (f f' : ByteArray) : ∃ S E S' E', PairB (subOk f) (subOk f') (subO f) (subO f') (f.toList == f'.toList) S E S' E' := by
  refine pair_any sub_short sub_short (fun h1 h2 h3 h4 => ?_)
  rw [Bool.eq_iff_iff, beq_iff_eq, sub_eq h1 h2 h3 h4, bytes_eqB]
theorem isF_end (S : ByteArray) : isF (S ++ ⟨#[32]⟩) = false := by
  obtain ⟨l, rfl⟩ : ∃ l : List UInt8, S = ⟨l.toArray⟩ := ⟨S.data.toList, by simp⟩
  rw [show ((⟨l.toArray⟩ : ByteArray) ++ ⟨#[32]⟩) = ⟨(l ++ [32]).toArray⟩ from ba_cat l [32]]
  exact not_row_end rfl (by decide)
theorem isU_end (S : ByteArray) : isU (S ++ ⟨#[10]⟩) = false := by
  obtain ⟨l, rfl⟩ : ∃ l : List UInt8, S = ⟨l.toArray⟩ := ⟨S.data.toList, by simp⟩
  rw [show ((⟨l.toArray⟩ : ByteArray) ++ ⟨#[10]⟩) = ⟨(l ++ [10]).toArray⟩ from ba_cat l [10]]
  exact not_row_end rfl (by decide)
theorem isT_head (S : ByteArray) : isT (⟨#[32]⟩ ++ S) = false := by
  obtain ⟨l, rfl⟩ : ∃ l : List UInt8, S = ⟨l.toArray⟩ := ⟨S.data.toList, by simp⟩
  rw [show ((⟨#[32]⟩ : ByteArray) ++ ⟨l.toArray⟩) = ⟨(32 :: l).toArray⟩ from ba_cat [32] l]
  exact not_row_head rfl (by decide)
theorem sums4w (a b c d : Nat) (ha : a ≤ 140737488355328) (hb : b ≤ 140737488355328) (hc : c ≤ 140737488355328) (hd : d ≤ 140737488355328) : wrap64 ((a : Int) + (b : Int)) = (a : Int) + (b : Int) ∧ wrap64 ((a : Int) + (b : Int) + (c : Int)) = (a : Int) + (b : Int) + (c : Int) ∧
    wrap64 ((a : Int) + (b : Int) + (c : Int) + (d : Int)) = (a : Int) + (b : Int) + (c : Int) + (d : Int) := by
  unfold wrap64
  exact ⟨by omega, by omega, by omega⟩
/-- four new rows -/
theorem heap4 (w : World) (o0 o1 o2 o3 : Obj) : Below w.heap.size w ((((w.alloc o0).alloc o1).alloc o2).alloc o3) ∧ ((((w.alloc o0).alloc o1).alloc o2).alloc o3).heap[w.heap.size]? = some o0 ∧ ((((w.alloc o0).alloc o1).alloc o2).alloc o3).heap[w.heap.size + 1]? = some o1 ∧
    ((((w.alloc o0).alloc o1).alloc o2).alloc o3).heap[w.heap.size + 2]? = some o2 ∧ ((((w.alloc o0).alloc o1).alloc o2).alloc o3).heap[w.heap.size + 3]? = some o3 := by
  have e0 : (w.alloc o0).heap.size = w.heap.size + 1 := Array.size_push _
  have e1 : ((w.alloc o0).alloc o1).heap.size = w.heap.size + 2 := (Array.size_push _).trans (congrArg (· + 1) e0)
  have e2 : (((w.alloc o0).alloc o1).alloc o2).heap.size = w.heap.size + 3 := (Array.size_push _).trans (congrArg (· + 1) e1)
  have h0 := heap_alloc_new w o0
  have h1 := heap_alloc_new (w.alloc o0) o1
  have h2 := heap_alloc_new ((w.alloc o0).alloc o1) o2
  have h3 := heap_alloc_new (((w.alloc o0).alloc o1).alloc o2) o3
  rw [e0] at h1; rw [e1] at h2; rw [e2] at h3
  have b1 := bel_alloc (Below.refl _ (w.alloc o0)) o1
  have b2 := bel_alloc (Below.refl _ ((w.alloc o0).alloc o1)) o2
  have b3 := bel_alloc (Below.refl _ (((w.alloc o0).alloc o1).alloc o2)) o3
  exact ⟨bel_alloc (bel_alloc (bel_alloc (bel_alloc (Below.refl _ _) _) _) _) _, Below.at b3 (Below.at b2 (Below.at b1 h0)), Below.at b3 (Below.at b2 h1), Below.at b3 h2, h3⟩
end Go.Proofs.YtlihjmfdnkfmfaaGreatDoor
