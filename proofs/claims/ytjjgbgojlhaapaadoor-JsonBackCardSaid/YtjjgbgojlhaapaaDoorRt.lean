/- json's reader: text. -/
import Derived.Test.YtjjgbgojlhaapaaDoorRn
namespace Go.Proofs.YtjjgbgojlhaapaaDoor
open Go.RowKit Go.Lib

def textB (s : ByteArray) (x : St) : List UInt8 × St :=
  if x.e ≠ 0 then ([], x)
  else ((unquoteB s x.p).1, ⟨(unquoteB s x.p).2.1, if (unquoteB s x.p).2.2 ≠ 0 then (unquoteB s x.p).2.2 else if 8000 < (unquoteB s x.p).1.length then 3 else 0⟩)
theorem unqLoop_le (s : ByteArray) : ∀ (f : Nat) (acc : List UInt8) (x : St), x.p ≤ s.size → (unqLoop s f acc x).2.1 ≤ s.size
  | 0, _, _, _ => Nat.zero_le _
  | f + 1, acc, x, h => by
    have h1 := (sign_mono s x).2 h
    have h2 := (escape_mono s (signB s x).2).2 h1
    simp only [unqLoop]
    split
    · exact Nat.zero_le _
    · split
      · exact Nat.zero_le _
      · split
        · exact h1
        · split
          · exact unqLoop_le s f _ _ h2
          · exact unqLoop_le s f _ _ h1
theorem unquote_le (s : ByteArray) (p : Nat) (h : p ≤ s.size) : (unquoteB s p).2.1 ≤ s.size := unqLoop_le s _ _ _ ((twants_mono s ⟨p, 0⟩ 34).2 h)
theorem unqLoop_len (s : ByteArray) : ∀ (f : Nat) (acc : List UInt8) (x : St), x.p ≤ s.size → acc.length ≤ 4 * x.p → (unqLoop s f acc x).1.length ≤ 4 * s.size
  | 0, _, _, _, _ => Nat.zero_le _
  | f + 1, acc, x, h, ha => by
    have h1 := sign_mono s x
    have h2 := escape_mono s (signB s x).2
    simp only [unqLoop]
    split
    · exact Nat.zero_le _
    · rename_i he
      split
      · exact Nat.zero_le _
      · rename_i he2
        have hst := sign_step (s := s) (x := x) (by simpa using he) (by simpa using he2)
        split
        · simp only; omega
        · have l1 := Lib.runeCells_le (escapeB s (signB s x).2).1
          have l2 := Lib.runeCells_le (((signB s x).1 : Nat) : Int)
          rw [Lib.runeCells_length] at l1 l2
          split
          · exact unqLoop_len s f _ _ (h2.2 (h1.2 h)) (by rw [List.length_append]; have := h2.1; omega)
          · exact unqLoop_len s f _ _ (h1.2 h) (by rw [List.length_append]; omega)
theorem unquote_len (s : ByteArray) (p : Nat) (h : p ≤ s.size) : (unquoteB s p).1.length ≤ 4 * s.size := unqLoop_len s _ _ _ ((twants_mono s ⟨p, 0⟩ 34).2 h) (Nat.zero_le _)

set_option maxRecDepth 100000 in
set_option maxHeartbeats 4000000 in
theorem text_json (R : Nat) (s : ByteArray) (x : St) (w : World) (hs : s.size ≤ 1000000) (hx : x.e = 0 → x.p ≤ s.size) (hT : Lib.Utf8Tabs 0 1 w) (h : RdAt 96 R s x.p x.e w) :
    Calls Tryd.prog 73 #[.pointer (some ⟨R, 0, none⟩)] w fun z w' => z = .returned (.string ⟨(textB s x).1.toArray⟩) ∧ RdPost 96 R s (textB s x).2.p (textB s x).2.e w w' := by
  obtain ⟨l0, l1, l2, _, f1, _, hRw⟩ := h.cells
  have HP := Lib.hid h.post; have HT := Lib.hid hT
  unfold textB
  clear hT h
  by_cases he : x.e = 0
  · have hxp := hx he
    have d1 : (x.e != 0) = false := by simpa using he
    have hu := fun W h => unquote_any s x.p W hs hxp h
    have hul := unquote_len s x.p hxp
    rw [if_neg (by simpa using he)]
    have HU := Lib.hid hu
    clear hu hx
    generalize unquoteB s x.p = r at *
    obtain ⟨l, q, e'⟩ := r
    simp only at *
    have hcase : ((e' != 0) = true ∧ (if e' ≠ 0 then e' else if 8000 < l.length then 3 else 0) = (x.fail e').e) ∨ ((e' != 0) = false ∧ decide ((8000 : Int) < (l.length : Int)) = true ∧ (if e' ≠ 0 then e' else if 8000 < l.length then 3 else 0) = (x.fail 3).e) ∨ ((e' != 0) = false ∧ decide ((8000 : Int) < (l.length : Int)) = false ∧ (if e' ≠ 0 then e' else if 8000 < l.length then 3 else 0) = x.e) := by
      have f1 : ∀ k, (x.fail k).e = k := fun k => by unfold St.fail; rw [if_pos he]
      by_cases h1 : e' = 0
      · right
        by_cases h2 : 8000 < l.length
        · left; exact ⟨by simpa using h1, by simp; omega, by rw [if_neg (by simpa using h1), if_pos h2, f1]⟩
        · right; exact ⟨by simpa using h1, by simp; omega, by rw [if_neg (by simpa using h1), if_neg h2, he]⟩
      · left; exact ⟨by simpa using h1, by rw [if_pos (by simpa using h1), f1]⟩
    generalize (if e' ≠ 0 then e' else if 8000 < l.length then 3 else 0) = ee at *
    have HC := Lib.hid hcase
    clear hcase he
    go_enter Tryd.func73, Tryd.ntmps73
    go_wp2_with fail
    refine PrintLast.wp_region_last_drew (S := fun w' => (RdPost 96 R s x.p x.e w w' ∧ Lib.Utf8Tabs 0 1 w') ∧ w'.cell? ⟨R, 0, none⟩ = some (.string s) ∧ w'.cell? ⟨R, 1, none⟩ = some (.int .i64 x.p)) (ds := []) (by kernel_rfl) ?_ (fun hHeld => ?_)
    · exact ⟨⟨HP.out.drew, HT.out⟩, by simpa using l0, by simpa using l1⟩
    refine PrintLast.wpAnyLast_take (i := 0) (v := ?_) rfl (by kernel_rfl) (by kernel_rfl) (by kernel_rfl) (by kernel_rfl) (by kernel_rfl) (fun _ _ _ h => h) (Or.inl ⟨by kernel_rfl, ?_⟩) (by assumption) ?_
    rotate_left
    · (intro w hSw; (try dsimp only at hSw); go_simp; try (with_reducible rfl))
    try simp only [List.getElem_toArray, List.getElem_cons_zero, Act.put, List.setIfInBounds_toArray, List.set_cons_zero, List.set_cons_succ]
    refine PrintLast.wpAnyLast_take (i := 1) (v := ?_) rfl (by kernel_rfl) (by kernel_rfl) (by kernel_rfl) (by kernel_rfl) (by kernel_rfl) (fun _ _ _ h => h) (Or.inl ⟨by kernel_rfl, ?_⟩) (by assumption) ?_
    rotate_left
    · (intro w hSw; (try dsimp only at hSw); go_simp; try (with_reducible rfl))
    try simp only [List.getElem_toArray, List.getElem_cons_zero, List.getElem_cons_succ, Act.put, List.setIfInBounds_toArray, List.set_cons_zero, List.set_cons_succ]
    refine PrintLast.wpAnyLast_take (i := 2) (v := ?_) rfl (by kernel_rfl) (by kernel_rfl) (by kernel_rfl) (by kernel_rfl) (by kernel_rfl) (fun _ _ _ h => h) (Or.inl ⟨by kernel_rfl, ?_⟩) (by assumption) ?_
    rotate_left
    · (intro w hSw; (try dsimp only at hSw); go_simp; try (with_reducible rfl))
    try simp only [List.getElem_toArray, List.getElem_cons_zero, List.getElem_cons_succ, Act.put, List.setIfInBounds_toArray, List.set_cons_zero, List.set_cons_succ]
    refine PrintLast.wpAnyLast_take (i := 3) (v := ?_) rfl (by kernel_rfl) (by kernel_rfl) (by kernel_rfl) (by kernel_rfl) (by kernel_rfl) (fun _ _ _ h => h) (Or.inl ⟨by kernel_rfl, ?_⟩) (by assumption) ?_
    rotate_left
    · (intro w hSw; (try dsimp only at hSw); go_simp; try (with_reducible rfl))
    try simp only [List.getElem_toArray, List.getElem_cons_zero, List.getElem_cons_succ, Act.put, List.setIfInBounds_toArray, List.set_cons_zero, List.set_cons_succ]
    refine PrintLast.wpAnyLast_take (i := 4) (v := ?_) rfl (by kernel_rfl) (by kernel_rfl) (by kernel_rfl) (by kernel_rfl) (by kernel_rfl) (fun _ _ _ h => h) (Or.inl ⟨by kernel_rfl, ?_⟩) (by assumption) ?_
    rotate_left
    · (intro w hSw; (try dsimp only at hSw); go_simp; try (with_reducible rfl))
    try simp only [List.getElem_toArray, List.getElem_cons_zero, List.getElem_cons_succ, Act.put, List.setIfInBounds_toArray, List.set_cons_zero, List.set_cons_succ]
    refine PrintLast.wpAnyLast_take (i := 5) (v := ?_) rfl (by kernel_rfl) (by kernel_rfl) (by kernel_rfl) (by kernel_rfl) (by kernel_rfl) (fun _ _ _ h => h) (Or.inl ⟨by kernel_rfl, ?_⟩) (by assumption) ?_
    rotate_left
    · (intro w hSw; (try dsimp only at hSw); go_simp; try (with_reducible rfl))
    try simp only [List.getElem_toArray, List.getElem_cons_zero, List.getElem_cons_succ, Act.put, List.setIfInBounds_toArray, List.set_cons_zero, List.set_cons_succ]
    refine PrintLast.wpAnyLast_take (i := 6) (v := ?_) rfl (by kernel_rfl) (by kernel_rfl) (by kernel_rfl) (by kernel_rfl) (by kernel_rfl) (fun _ _ _ h => h) (Or.inl ⟨by kernel_rfl, ?_⟩) (by assumption) ?_
    rotate_left
    · (intro w hSw; (try dsimp only at hSw); go_simp; try (with_reducible rfl))
    try simp only [List.getElem_toArray, List.getElem_cons_zero, List.getElem_cons_succ, Act.put, List.setIfInBounds_toArray, List.set_cons_zero, List.set_cons_succ]
    refine PrintLast.wpAnyLast_take (i := 7) (v := ?_) rfl (by kernel_rfl) (by kernel_rfl) (by kernel_rfl) (by kernel_rfl) (by kernel_rfl) (fun _ _ _ h => h) (Or.inl ⟨by kernel_rfl, ?_⟩) (by assumption) ?_
    rotate_left
    · (intro w hSw; (try dsimp only at hSw); go_simp; try (with_reducible rfl))
    try simp only [List.getElem_toArray, List.getElem_cons_zero, List.getElem_cons_succ, Act.put, List.setIfInBounds_toArray, List.set_cons_zero, List.set_cons_succ]
    have HK := Lib.hid hHeld
    clear hHeld
    refine PrintLast.wpAnyLast_ready (rs := [8]) (by kernel_rfl) (by simp) ?_
    refine PrintLast.AllReadyL.cons rfl (by decide) (fun K hK => ?_) PrintLast.AllReadyL.nil
    rw [if_pos (by kernel_rfl)]
    go_simp
    go_at_call 91; refine (HU.out _ HK.out.1.2).mono ?_; rintro e w5 ⟨rfl, hbw5⟩
    go_wp2_with fail
    refine hK.out _ _ ?_ (fun hHeld => ?_)
    · exact ⟨⟨RdPost.below HK.out.1.1 hbw5, Utf8Tabs_below HK.out.1.2 hbw5⟩, cell_later' hbw5 HK.out.2.1, cell_later' hbw5 HK.out.2.2⟩
    clear hK K
    try simp only [List.getElem_toArray, List.getElem_cons_zero, List.getElem_cons_succ, Act.put, List.setIfInBounds_toArray, List.set_cons_zero, List.set_cons_succ]
    clear HK
    refine PrintLast.wpAnyLast_take (i := 9) (v := ?_) rfl (by kernel_rfl) (by kernel_rfl) (by kernel_rfl) (by kernel_rfl) (by kernel_rfl) (fun _ _ _ h => h) (Or.inl ⟨by kernel_rfl, ?_⟩) (by assumption) ?_
    rotate_left
    · (intro w hSw; (try dsimp only at hSw); go_simp; try (with_reducible rfl))
    try simp only [List.getElem_toArray, List.getElem_cons_zero, List.getElem_cons_succ, Act.put, List.setIfInBounds_toArray, List.set_cons_zero, List.set_cons_succ]
    refine PrintLast.wpAnyLast_take (i := 10) (v := ?_) rfl (by kernel_rfl) (by kernel_rfl) (by kernel_rfl) (by kernel_rfl) (by kernel_rfl) (fun _ _ _ h => h) (Or.inl ⟨by kernel_rfl, ?_⟩) (by assumption) ?_
    rotate_left
    · (intro w hSw; (try dsimp only at hSw); go_simp; try (with_reducible rfl))
    try simp only [List.getElem_toArray, List.getElem_cons_zero, List.getElem_cons_succ, Act.put, List.setIfInBounds_toArray, List.set_cons_zero, List.set_cons_succ]
    refine PrintLast.wpAnyLast_take (i := 11) (v := ?_) rfl (by kernel_rfl) (by kernel_rfl) (by kernel_rfl) (by kernel_rfl) (by kernel_rfl) (fun _ _ _ h => h) (Or.inl ⟨by kernel_rfl, ?_⟩) (by assumption) ?_
    rotate_left
    · (intro w hSw; (try dsimp only at hSw); go_simp; try (with_reducible rfl))
    try simp only [List.getElem_toArray, List.getElem_cons_zero, List.getElem_cons_succ, Act.put, List.setIfInBounds_toArray, List.set_cons_zero, List.set_cons_succ]
    refine PrintLast.wpAnyLast_take (i := 12) (v := ?_) rfl (by kernel_rfl) (by kernel_rfl) (by kernel_rfl) (by kernel_rfl) (by kernel_rfl) (fun _ _ _ h => h) (Or.inl ⟨by kernel_rfl, ?_⟩) (by assumption) ?_
    rotate_left
    · (intro w hSw; (try dsimp only at hSw); go_simp; try (with_reducible rfl))
    try simp only [List.getElem_toArray, List.getElem_cons_zero, List.getElem_cons_succ, Act.put, List.setIfInBounds_toArray, List.set_cons_zero, List.set_cons_succ]
    refine PrintLast.wpAnyLast_take (i := 13) (v := ?_) rfl (by kernel_rfl) (by kernel_rfl) (by kernel_rfl) (by kernel_rfl) (by kernel_rfl) (fun _ _ _ h => h) (Or.inl ⟨by kernel_rfl, ?_⟩) (by assumption) ?_
    rotate_left
    · (intro w hSw; (try dsimp only at hSw); go_simp; try (with_reducible rfl))
    try simp only [List.getElem_toArray, List.getElem_cons_zero, List.getElem_cons_succ, Act.put, List.setIfInBounds_toArray, List.set_cons_zero, List.set_cons_succ]
    refine PrintLast.wpAnyLast_take (i := 14) (v := ?_) rfl (by kernel_rfl) (by kernel_rfl) (by kernel_rfl) (by kernel_rfl) (by kernel_rfl) (fun _ _ _ h => h) (Or.inl ⟨by kernel_rfl, ?_⟩) (by assumption) ?_
    rotate_left
    · (intro w hSw; (try dsimp only at hSw); go_simp; try (with_reducible rfl))
    try simp only [List.getElem_toArray, List.getElem_cons_zero, List.getElem_cons_succ, Act.put, List.setIfInBounds_toArray, List.set_cons_zero, List.set_cons_succ]
    refine PrintLast.wpAnyLast_take (i := 15) (v := ?_) rfl (by kernel_rfl) (by kernel_rfl) (by kernel_rfl) (by kernel_rfl) (by kernel_rfl) (fun _ _ _ h => h) (Or.inl ⟨by kernel_rfl, ?_⟩) (by assumption) ?_
    rotate_left
    · (intro w hSw; (try dsimp only at hSw); go_simp; try (with_reducible rfl))
    try simp only [List.getElem_toArray, List.getElem_cons_zero, List.getElem_cons_succ, Act.put, List.setIfInBounds_toArray, List.set_cons_zero, List.set_cons_succ]
    refine PrintLast.wpAnyLast_done (by kernel_rfl) ?_ _
    obtain ⟨⟨hp5, _⟩, l0, l1⟩ := hHeld
    obtain ⟨_, _, _, _, f1, _, hR⟩ := hp5.1.cells
    have HP5 := Lib.hid hp5
    clear hp5
    have hz : (⟨l.toArray⟩ : ByteArray).size = l.length := by simp [ByteArray.size]
    rcases HC.out with ⟨d2, rfl⟩ | ⟨d2, d3, rfl⟩ | ⟨d2, d3, rfl⟩
    · have hfl := fail_any R s x e' _ HP5.out.1
      have HFL := Lib.hid hfl
      clear hfl
      go_wp2_with fail
      refine Calls.mono HFL.out ?_
      rintro e w6 ⟨rfl, hp6⟩
      have hp7 := RdPost.trans HP5.out hp6
      rw [fail_p] at hp7
      have hp8 := RdPost.set1 hp7 q
      obtain ⟨l0, l1, _, _, f1, _, hR6⟩ := hp7.1.cells
      have HP8 := Lib.hid hp8
      clear hp6 hp7 hp8
      go_wp2_with fail
      go_ret
      exact ⟨rfl, HP8.out⟩
    · have hfl := fail_any R s x 3 _ HP5.out.1
      have HFL := Lib.hid hfl
      clear hfl
      go_wp2_with fail
      refine Calls.mono HFL.out ?_
      rintro e w6 ⟨rfl, hp6⟩
      have hp7 := RdPost.trans HP5.out hp6
      rw [fail_p] at hp7
      have hp8 := RdPost.set1 hp7 q
      obtain ⟨l0, l1, _, _, f1, _, hR6⟩ := hp7.1.cells
      have HP8 := Lib.hid hp8
      clear hp6 hp7 hp8
      go_wp2_with fail
      go_ret
      exact ⟨rfl, HP8.out⟩
    · have HP8 := Lib.hid (RdPost.set1 HP5.out q)
      go_wp2_with fail
      go_ret
      exact ⟨rfl, HP8.out⟩
  · have d1 : (x.e != 0) = true := by simpa using he
    rw [if_pos he]
    go_enter Tryd.func73, Tryd.ntmps73
    go_wp2_with fail
    go_ret
    exact ⟨rfl, HP.out⟩
end Go.Proofs.YtjjgbgojlhaapaaDoor
