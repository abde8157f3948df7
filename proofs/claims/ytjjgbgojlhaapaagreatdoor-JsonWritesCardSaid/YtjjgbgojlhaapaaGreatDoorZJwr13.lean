/- Parts of the proof: Vg. -/
import Derived.Test.YtjjgbgojlhaapaaGreatDoorZJwr12
namespace Go.Proofs.YtjjgbgojlhaapaaGreatDoor
open Go.RowKit Go.Lib

theorem unqLoop_ge (s : ByteArray) : ∀ (f : Nat) (acc : List UInt8) (x : St), (x.e = 0 → s.size + 1 - x.p ≤ f) → x.p ≤ s.size → (unqLoop s f acc x).2.2 = 0 → x.p ≤ (unqLoop s f acc x).2.1
  | 0, _, x, hf, hx, h => by
    have : x.e = 0 := h
    have := hf this
    omega
  | f + 1, acc, x, hf, hx, h => by
    have h1 := sign_mono s x
    have h2 := escape_mono s (signB s x).2
    by_cases he : x.e = 0
    · have hf' := hf he
      have heq : unqLoop s (f + 1) acc x = (if x.e ≠ 0 then ([], 0, x.e)
        else if (signB s x).2.e ≠ 0 then ([], 0, (signB s x).2.e)
        else if (signB s x).1 = 34 then (acc, (signB s x).2.p, 0)
        else if (signB s x).1 = 92 then unqLoop s f (acc ++ Lib.encodeRune (escapeB s (signB s x).2).1) (escapeB s (signB s x).2).2
        else unqLoop s f (acc ++ Lib.encodeRune (signB s x).1) (signB s x).2) := rfl
      rw [heq] at h ⊢
      rw [if_neg (by simpa using he)] at h ⊢
      by_cases hs : (signB s x).2.e = 0
      · have hst := sign_step (s := s) (x := x) he hs
        rw [if_neg (by simpa using hs)] at h ⊢
        by_cases h34 : (signB s x).1 = 34
        · rw [if_pos h34]; exact h1.1
        · rw [if_neg h34] at h ⊢
          by_cases h92 : (signB s x).1 = 92
          · rw [if_pos h92] at h ⊢
            have := unqLoop_ge s f _ _ (fun _ => by have := h2.1; omega) (h2.2 (h1.2 hx)) h
            have := h2.1
            omega
          · rw [if_neg h92] at h ⊢
            have := unqLoop_ge s f _ _ (fun _ => by omega) (h1.2 hx) h
            omega
      · rw [if_pos hs] at h; exact absurd h hs
    · have heq : unqLoop s (f + 1) acc x = ([], 0, x.e) := by simp only [unqLoop]; rw [if_pos he]
      rw [heq] at h; exact absurd h he
theorem Good.of_bd' {s : ByteArray} {x y : St} (h : x.p ≤ y.p ∧ y.p ≤ s.size) : Good s x y := ⟨fun _ => h, by omega⟩
theorem text_good {s : ByteArray} {x : St} (hx : x.p ≤ s.size) : Good s x (textB s x).2 := by
  unfold textB
  split
  · exact Good.of_bd' ⟨Nat.le_refl _, hx⟩
  · have h1 := unquote_le s x.p hx
    refine ⟨fun he => ⟨?_, h1⟩, by simp only; omega⟩
    simp only at he ⊢
    have hz : (unquoteB s x.p).2.2 = 0 := by
      by_cases h : (unquoteB s x.p).2.2 = 0
      · exact h
      · rw [if_pos h] at he; exact he
    have hm := twants_mono s ⟨x.p, 0⟩ 34
    have := unqLoop_ge s (s.size + 1 - x.p) [] (St.twants s ⟨x.p, 0⟩ 34) (fun _ => by have := hm.1; simp only at this; omega) (hm.2 hx) hz
    have h3 := hm.1
    simp only at h3
    unfold unquoteB
    omega
theorem word_good (s : ByteArray) : ∀ (l : List UInt8) (x : St), x.p ≤ s.size → x.p ≤ (wordIn s l x).2.p ∧ (wordIn s l x).2.p ≤ s.size
  | [], x, h => ⟨Nat.le_refl _, h⟩
  | c :: r, x, h => by
    simp only [wordIn]
    split
    · rw [fail_p]; exact ⟨Nat.le_refl _, h⟩
    · split
      · rw [fail_p]; exact ⟨Nat.le_refl _, h⟩
      · have := word_good s r x.step (by simp only [St.step]; omega)
        simp only [St.step] at this ⊢
        omega
theorem number_good {s : ByteArray} {x : St} (hx : x.p ≤ s.size) : x.p ≤ (numberB s x).2.p ∧ (numberB s x).2.p ≤ s.size := by
  unfold numberB
  have h1 : x.p ≤ (if anyB s [45] x.p then x.step else x).p ∧ (if anyB s [45] x.p then x.step else x).p ≤ s.size := by
    split
    · rename_i h
      simp only [anyB, Bool.and_eq_true, decide_eq_true_eq] at h
      simp only [St.step]; omega
    · exact ⟨Nat.le_refl _, hx⟩
  generalize (if anyB s [45] x.p then x.step else x) = y at *
  have h2 : (numStart s y).p = y.p := by unfold numStart; split; exact fail_p _ _; rfl
  unfold numEnd
  simp only
  have h3 := numLoop_range s (anyB s [48] (numStart s y).p) (numStart s y).p (s.size - (numStart s y).p) 0 (numStart s y).p (by omega) (by omega)
  have h4 := h3.2.2.2 (by omega)
  split
  · rw [fail_p]; simp only; omega
  · split
    · rw [fail_p]; simp only; omega
    · simp only; omega
theorem Good.of_bd {s : ByteArray} {x y : St} (h : x.p ≤ y.p ∧ y.p ≤ s.size) : Good s x y := ⟨fun _ => h, by omega⟩
theorem Good.trans {s : ByteArray} {x y z : St} (h : x.p ≤ y.p) (k : Good s y z) : Good s x z := ⟨fun he => ⟨Nat.le_trans h (k.1 he).1, (k.1 he).2⟩, k.2⟩
def GoodV (s : ByteArray) (pv : St → JV × St) : Prop := ∀ x : St, x.e = 0 → x.p ≤ s.size → Good s x (pv x).2
theorem member_good {s : ByteArray} {pv : St → JV × St} (hg : GoodV s pv) (l : List (ByteArray × JV)) {x : St} (hx : x.p ≤ s.size) : Good s x (memberB s pv l x).2 := by
  unfold memberB
  simp only
  have h1 := see_bd hx
  have hy : x.p ≤ (if (x.see s).1 ≠ 34 then (x.see s).2.fail 4 else (x.see s).2).p ∧ (if (x.see s).1 ≠ 34 then (x.see s).2.fail 4 else (x.see s).2).p ≤ s.size := by
    split <;> (try rw [fail_p]) <;> exact h1
  generalize (if (x.see s).1 ≠ 34 then (x.see s).2.fail 4 else (x.see s).2) = y at *
  have ht := text_good hy.2
  generalize hnm : (⟨(textB s y).1.toArray⟩ : ByteArray) = nm at *
  generalize (textB s y).2 = t at *
  have hz : Good s x (if l.any (fun m => m.1.toList == nm.toList) then t.fail 4 else t) := by
    split
    · refine ⟨fun he => ?_, by rw [fail_p]; exact ht.2⟩
      unfold St.fail at he; split at he
      · simp at he
      · rename_i h0; exact absurd he h0
    · exact Good.trans hy.1 ht
  generalize (if l.any (fun m => m.1.toList == nm.toList) then t.fail 4 else t) = z at *
  have hu : Good s x (if z.e = 0 then z.wants s 58 else z) := by
    split
    · rename_i h0
      exact Good.trans (hz.1 h0).1 (wants_good (by decide) (hz.1 h0).2).1
    · exact hz
  generalize (if z.e = 0 then z.wants s 58 else z) = u at *
  split
  · rename_i h0
    exact Good.trans (hu.1 h0).1 (hg u h0 (hu.1 h0).2)
  · exact hu
theorem listLoop_good {s : ByteArray} {pv : St → JV × St} (hg : GoodV s pv) : ∀ (f : Nat) (acc : List JV) (x : St), Good s x x → Good s x (listLoop s pv f acc x).2
  | 0, _, _, h => h
  | f + 1, acc, x, h => by
    simp only [listLoop]
    by_cases he : x.e = 0
    · rw [if_neg (by simpa using he)]
      have hv := hg x he (h.1 he).2
      by_cases hz : (pv x).2.e = 0
      · rw [if_neg (by simpa using hz)]
        have hb := see_bd (hv.1 hz).2
        have hxz := (hv.1 hz).1
        split
        · rename_i h93
          have := see_at (s := s) (x := (pv x).2) (by rw [h93]; decide)
          exact Good.of_bd (by simp only [St.step]; omega)
        · split
          · exact Good.of_bd ⟨Nat.le_trans hxz hb.1, hb.2⟩
          · have hw := wants_good (c := 44) (by decide) hb.2
            have := listLoop_good hg f (acc ++ [(pv x).1]) _ (⟨fun h2 => ⟨Nat.le_refl _, (hw.1.1 h2).2⟩, hw.1.2⟩)
            refine ⟨fun h2 => ?_, this.2⟩
            have h3 := this.1 h2
            refine ⟨?_, h3.2⟩
            by_cases h4 : (((pv x).2.see s).2.wants s 44).e = 0
            · have := (hw.1.1 h4).1; omega
            · rw [listLoop_err h4] at h2; exact absurd h2 h4
      · rw [if_pos hz]; exact hv
    · rw [if_pos he]; exact h
theorem objLoop_err {s : ByteArray} {pv : St → JV × St} {f : Nat} {acc : List (ByteArray × JV)} {x : St} (h : x.e ≠ 0) : objLoop s pv f acc x = (acc, x) := by
  cases f with
  | zero => rfl
  | succ f => simp only [objLoop]; rw [if_pos h]
theorem objLoop_good {s : ByteArray} {pv : St → JV × St} (hg : GoodV s pv) : ∀ (f : Nat) (acc : List (ByteArray × JV)) (x : St), Good s x x → Good s x (objLoop s pv f acc x).2
  | 0, _, _, h => h
  | f + 1, acc, x, h => by
    simp only [objLoop]
    by_cases he : x.e = 0
    · rw [if_neg (by simpa using he)]
      have hv := member_good hg acc (h.1 he).2
      by_cases hz : (memberB s pv acc x).2.e = 0
      · rw [if_neg (by simpa using hz)]
        have hb := see_bd (hv.1 hz).2
        have hxz := (hv.1 hz).1
        split
        · rename_i h93
          have := see_at (s := s) (x := (memberB s pv acc x).2) (by rw [h93]; decide)
          exact Good.of_bd (by simp only [St.step]; omega)
        · split
          · exact Good.of_bd ⟨Nat.le_trans hxz hb.1, hb.2⟩
          · have hw := wants_good (c := 44) (by decide) hb.2
            have := objLoop_good hg f (acc ++ [(memberB s pv acc x).1]) _ (⟨fun h2 => ⟨Nat.le_refl _, (hw.1.1 h2).2⟩, hw.1.2⟩)
            refine ⟨fun h2 => ?_, this.2⟩
            have h3 := this.1 h2
            refine ⟨?_, h3.2⟩
            by_cases h4 : (((memberB s pv acc x).2.see s).2.wants s 44).e = 0
            · have := (hw.1.1 h4).1; omega
            · rw [objLoop_err h4] at h2; exact absurd h2 h4
      · rw [if_pos hz]; exact hv
    · rw [if_pos he]; exact h
theorem list_good {s : ByteArray} {pv : St → JV × St} (hg : GoodV s pv) {x : St} (hx : x.p < s.size) : Good s x (listB s pv x).2 := by
  unfold listB
  simp only
  have hb := see_bd (s := s) (x := x.step) (by simp only [St.step]; omega)
  have hxs : x.p ≤ x.step.p := by simp [St.step]
  split
  · rename_i h93
    have := see_at (s := s) (x := x.step) (by rw [h93]; decide)
    exact Good.of_bd (by simp only [St.step] at *; omega)
  · exact Good.trans (Nat.le_trans hxs hb.1) (listLoop_good hg _ _ _ (Good.of_bd ⟨Nat.le_refl _, hb.2⟩))
theorem object_good {s : ByteArray} {pv : St → JV × St} (hg : GoodV s pv) {x : St} (hx : x.p < s.size) : Good s x (objectB s pv x).2 := by
  unfold objectB
  simp only
  have hb := see_bd (s := s) (x := x.step) (by simp only [St.step]; omega)
  have hxs : x.p ≤ x.step.p := by simp [St.step]
  split
  · rename_i h93
    have := see_at (s := s) (x := x.step) (by rw [h93]; decide)
    exact Good.of_bd (by simp only [St.step] at *; omega)
  · exact Good.trans (Nat.le_trans hxs hb.1) (objLoop_good hg _ _ _ (Good.of_bd ⟨Nat.le_refl _, hb.2⟩))
theorem value_good (s : ByteArray) : ∀ d, GoodV s (valueB s d)
  | 0, x, he, hx => by
    have hb := see_bd hx
    simp only [valueB]
    split
    · exact Good.of_bd hb
    · split
      · exact Good.of_bd (by rw [fail_p]; exact hb)
      · exact Good.trans hb.1 (Good.of_bd (number_good hb.2))
  | d + 1, x, he, hx => by
    have hb := see_bd hx
    have ih := value_good s d
    simp only [valueB]
    split
    · exact Good.of_bd hb
    · split
      · rename_i h; have := see_at (s := s) (x := x) (by rw [h]; decide)
        exact Good.trans hb.1 (list_good ih this.1)
      · split
        · rename_i h; have := see_at (s := s) (x := x) (by rw [h]; decide)
          exact Good.trans hb.1 (object_good ih this.1)
        · split
          · exact Good.trans hb.1 (text_good hb.2)
          · split
            · exact Good.trans hb.1 (Good.of_bd (word_good s _ _ hb.2))
            · split
              · exact Good.trans hb.1 (Good.of_bd (word_good s _ _ hb.2))
              · split
                · exact Good.trans hb.1 (Good.of_bd (word_good s _ _ hb.2))
                · exact Good.trans hb.1 (Good.of_bd (number_good hb.2))
end Go.Proofs.YtjjgbgojlhaapaaGreatDoor
