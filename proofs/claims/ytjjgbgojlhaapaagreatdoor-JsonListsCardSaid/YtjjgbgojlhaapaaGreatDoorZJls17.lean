/- Parts of the proof: Lj, Ot, Kc, Oi, Fw. -/
import Derived.Test.YtjjgbgojlhaapaaGreatDoorZJls16
import Derived.Test.YtjjgbgojlhaapaaGreatDoorZJls10
import Derived.Test.YtjjgbgojlhaapaaGreatDoorZJls12
namespace Go.Proofs.YtjjgbgojlhaapaaGreatDoor
open Go.RowKit Go.Lib

theorem heads_opens {c : UInt8} (h : c ∈ heads) : opens.contains c = true := by
  simp only [heads, List.mem_cons, List.not_mem_nil, or_false] at h
  rcases h with rfl | rfl | rfl | rfl | rfl | rfl | rfl | rfl | rfl | rfl | rfl | rfl | rfl | rfl | rfl | rfl | rfl <;> decide
/-- a printed value is read as it, or it is too deep -/
def ReadsX (s : ByteArray) (d D : Nat) : Prop := ∀ (x : JV) (p : Nat) (t : List UInt8), mayJ D x = true → rest s p = printB D x ++ t → (x.k = 4 → NumEnd t) →
  valueB s d ⟨p, 0⟩ = (x, ⟨p + (printB D x).length, 0⟩) ∨ (valueB s d ⟨p, 0⟩).2.e = 10
theorem list_either {s : ByteArray} {d D : Nat} (ih : ReadsX s d D) (t : List UInt8) : ∀ (l : List JV) (acc : List JV) (f p : Nat), l ≠ [] → (∀ y ∈ l, mayJ D y = true) → p ≤ s.size → s.size + 1 - p ≤ f → rest s p = joinFrom (printB D) true l ++ 93 :: t →
    listLoop s (valueB s d) f acc ⟨p, 0⟩ = (acc ++ l, ⟨p + (joinFrom (printB D) true l).length + 1, 0⟩) ∨ (listLoop s (valueB s d) f acc ⟨p, 0⟩).2.e = 10
  | [], _, _, _, h, _, _, _, _ => absurd rfl h
  | x :: xs, acc, 0, p, _, _, hp, hf, _ => by omega
  | x :: xs, acc, f + 1, p, _, hm, hp, hf, h => by
    have hx := hm x (List.mem_cons_self ..)
    rw [join_cons] at h ⊢
    simp only [if_true, List.nil_append, List.append_assoc] at h ⊢
    rcases xs with _ | ⟨y, ys⟩
    · simp only [joinFrom, List.nil_append] at h
      rcases ih x p _ hx h (fun _ => numEnd_cons (by decide) (by decide)) with hv | hv
      · have hs := see_rest 0 (drop_rest h) (by decide)
        refine .inl ?_
        simp only [listLoop, hv, hs]
        simp [St.step, joinFrom]
      · refine .inr ?_
        simp only [listLoop]
        rw [if_neg (by decide), if_pos (by rw [hv]; decide)]
        exact hv
    · rw [join_false] at h ⊢
      rcases ih x p _ hx h (fun _ => numEnd_cons (by decide) (by decide)) with hv | hv
      · have h2 := drop_rest h
        have hs := see_rest 0 h2 (by decide)
        have hw := wants_rest h2 (by decide)
        have hlt := rest_lt h2
        have h3 := rest_next h2
        simp only [listLoop, hv, hs, hw]
        rw [if_neg (by decide), if_neg (by decide), if_neg (by decide), if_neg (by decide)]
        rcases list_either ih t (y :: ys) (acc ++ [x]) f _ (by simp) (fun q hq => hm q (List.mem_cons_of_mem _ hq)) (by omega) (by omega) h3 with hr | hr
        · refine .inl ?_
          rw [hr]
          simp only [List.append_assoc, List.length_append, List.length_cons, List.cons_append, List.nil_append]
          congr 2; omega
        · exact .inr hr
      · refine .inr ?_
        simp only [listLoop]
        rw [if_neg (by decide), if_pos (by rw [hv]; decide)]
        exact hv
/-- parts with blanks around the commas -/
def joinS {α : Type} (a b : List UInt8) (f : α → List UInt8) : Bool → List α → List UInt8
  | _, [] => []
  | first, x :: xs => (if first then f x else a ++ 44 :: (b ++ f x)) ++ joinS a b f false xs
theorem joinS_nil {α : Type} (f : α → List UInt8) : ∀ (l : List α) (b : Bool), joinS [] [] f b l = joinFrom f b l
  | [], _ => rfl
  | x :: xs, b => by
    simp only [joinS, joinFrom, joinS_nil f xs false, List.nil_append]
theorem joinS_cons {α : Type} (a b : List UInt8) (f : α → List UInt8) (x : α) (xs : List α) : joinS a b f true (x :: xs) = f x ++ joinS a b f false xs := rfl
theorem joinS_false {α : Type} (a b : List UInt8) (f : α → List UInt8) (x : α) (xs : List α) : joinS a b f false (x :: xs) = a ++ 44 :: (b ++ joinS a b f true (x :: xs)) := by
  simp [joinS]
theorem member_see {s : ByteArray} {x y : St} (h : x.see s = y.see s) (pv : St → JV × St) (acc : List (ByteArray × JV)) : memberB s pv acc x = memberB s pv acc y := by
  simp only [memberB, h]
theorem member_either {s : ByteArray} {d D : Nat} (ih : ReadsX s d D) {acc : List (ByteArray × JV)} {nm : ByteArray} {y : JV} {p : Nat} {t : List UInt8} (hs : shortB nm = true) (hy : mayJ D y = true) (h : rest s p = prMem D (nm, y) ++ t) (ht : y.k = 4 → NumEnd t) :
    (memberB s (valueB s d) acc ⟨p, 0⟩ = ((nm, y), ⟨p + (prMem D (nm, y)).length, 0⟩) ∧ ∀ q ∈ acc, NmNe q (nm, y)) ∨ (memberB s (valueB s d) acc ⟨p, 0⟩).2.e = 10 ∨ ((memberB s (valueB s d) acc ⟨p, 0⟩).2.e = 4 ∧ ¬ ∀ q ∈ acc, NmNe q (nm, y)) := by
  unfold prMem at h ⊢
  simp only at h ⊢
  have hv : validB nm = true ∧ nm.size ≤ 8000 := by unfold shortB at hs; simpa using hs
  obtain ⟨r, hq⟩ := quote_head nm
  have h0 := h
  rw [hq, List.cons_append, List.cons_append] at h0
  have hsee := see_rest 0 h0 (by decide)
  rw [List.append_assoc] at h
  have htx := text_quote hv.1 hv.2 h
  have h2 := drop_rest h
  have hw := wants_rest (c := 58) h2 (by decide)
  have h3 := rest_next h2
  have hnm : (⟨nm.data.toList.toArray⟩ : ByteArray) = nm := array_list _ nm rfl
  cases hany : (acc.any fun q => q.1.toList == nm.toList) with
  | true =>
    refine .inr (.inr ⟨?_, ?_⟩)
    · simp only [memberB, hsee, ne_eq, not_true_eq_false, if_false, htx, hnm, hany]
      simp [St.fail]
    · intro hall
      obtain ⟨q, hq2, e⟩ := List.any_eq_true.1 hany
      exact hall q hq2 (by simpa using e)
  | false =>
    have hall : ∀ q ∈ acc, NmNe q (nm, y) := fun q hq2 e => by
      have := List.any_eq_false.1 hany q hq2
      exact this (by simpa using e)
    rcases ih y _ t hy h3 ht with hva | hva
    · refine .inl ⟨?_, hall⟩
      simp only [memberB, hsee, ne_eq, not_true_eq_false, if_false, htx, hnm, hany]
      rw [if_neg (show ¬ ((false : Bool) = true) by decide)]
      simp only [if_true, hw, hva]
      simp only [List.length_append, List.length_cons]
      congr 2; omega
    · refine .inr (.inl ?_)
      simp only [memberB, hsee, ne_eq, not_true_eq_false, if_false, htx, hnm, hany]
      rw [if_neg (show ¬ ((false : Bool) = true) by decide)]
      simp only [if_true, hw]
      exact hva
theorem obj_either {s : ByteArray} {d D : Nat} (ih : ReadsX s d D) {a b : List UInt8} (ha : ∀ c ∈ a, isBlank c = true) (hb : ∀ c ∈ b, isBlank c = true) (t : List UInt8) : ∀ (l : List (ByteArray × JV)) (acc : List (ByteArray × JV)) (f p : Nat) (pre : List UInt8), (∀ c ∈ pre, isBlank c = true) → l ≠ [] → (∀ y ∈ l, mayJ D y.2 = true ∧ shortB y.1 = true) → p ≤ s.size → s.size + 1 - p ≤ f → rest s p = pre ++ (joinS a b (prMem D) true l ++ 125 :: t) →
    (objLoop s (valueB s d) f acc ⟨p, 0⟩ = (acc ++ l, ⟨p + pre.length + (joinS a b (prMem D) true l).length + 1, 0⟩) ∧ (l.Pairwise NmNe ∧ ∀ q ∈ acc, ∀ r ∈ l, NmNe q r)) ∨ (objLoop s (valueB s d) f acc ⟨p, 0⟩).2.e = 10 ∨
      ((objLoop s (valueB s d) f acc ⟨p, 0⟩).2.e = 4 ∧ ¬ (l.Pairwise NmNe ∧ ∀ q ∈ acc, ∀ r ∈ l, NmNe q r))
  | [], _, _, _, _, _, h, _, _, _, _ => absurd rfl h
  | x :: xs, acc, 0, p, pre, _, _, _, hp, hf, _ => by omega
  | (nm, v) :: xs, acc, f + 1, p, pre, hpre, _, hm, hp, hf, h => by
    have hx := hm _ (List.mem_cons_self ..)
    have hms := member_see (see_pre 0 hpre h) (valueB s d) acc
    have h := drop_rest h
    rw [joinS_cons] at h ⊢
    simp only [List.append_assoc] at h
    have hnn : ∀ {t' : List UInt8} {c : UInt8} {r : List UInt8}, t' = c :: r → (isBlank c = true ∨ c = 44 ∨ c = 125) → NumEnd t' := by
      intro t' c r e hc
      rw [e]
      rcases hc with hc | rfl | rfl
      · exact numEnd_cons (blank_end hc).1 (blank_end hc).2
      · exact numEnd_cons (by decide) (by decide)
      · exact numEnd_cons (by decide) (by decide)
    rcases xs with _ | ⟨y, ys⟩
    · simp only [joinS, List.nil_append] at h
      rcases member_either ih (acc := acc) hx.2 hx.1 h (fun _ => hnn rfl (.inr (.inr rfl))) with ⟨hv, hall⟩ | hv | ⟨hv, hall⟩
      · have hs := see_rest 0 (drop_rest h) (by decide)
        refine .inl ⟨?_, by simp, fun q hq r hr => by rw [List.mem_singleton.1 hr]; exact hall q hq⟩
        simp only [objLoop, hms, hv, hs]
        simp [St.step, joinS]
      · refine .inr (.inl ?_)
        simp only [objLoop, hms]
        rw [if_neg (by decide), if_pos (by rw [hv]; decide)]
        exact hv
      · refine .inr (.inr ⟨?_, fun hc => hall fun q hq => hc.2 q hq _ (List.mem_cons_self ..)⟩)
        simp only [objLoop, hms]
        rw [if_neg (by decide), if_pos (by rw [hv]; decide)]
        exact hv
    · rw [joinS_false] at h ⊢
      simp only [List.append_assoc, List.cons_append] at h
      have hnum : NumEnd (a ++ 44 :: (b ++ (joinS a b (prMem D) true (y :: ys) ++ 125 :: t))) := by
        rcases a with _ | ⟨c, r⟩
        · exact hnn rfl (.inr (.inl rfl))
        · exact hnn rfl (.inl (ha c (List.mem_cons_self ..)))
      rcases member_either ih (acc := acc) hx.2 hx.1 h (fun _ => hnum) with ⟨hv, hall⟩ | hv | ⟨hv, hall⟩
      · have h2 := drop_rest h
        have h2' := drop_rest h2
        have hs := (see_pre 0 ha h2).trans (see_rest 0 h2' (by decide))
        have hw := wants_rest h2' (by decide)
        have hlt := rest_lt h2'
        have h3 := rest_next h2'
        simp only [objLoop, hms, hv, hs, hw]
        rw [if_neg (by decide), if_neg (by decide), if_neg (by decide), if_neg (by decide)]
        rcases obj_either ih ha hb t (y :: ys) (acc ++ [(nm, v)]) f _ b hb (by simp) (fun q hq => hm q (List.mem_cons_of_mem _ hq)) (by omega) (by omega) h3 with ⟨hr, hp1, hp2⟩ | hr | ⟨hr, hn⟩
        · refine .inl ⟨?_, List.pairwise_cons.2 ⟨fun r hr => hp2 _ (by simp) r hr, hp1⟩, fun q hq r hr => ?_⟩
          · rw [hr]
            simp only [List.append_assoc, List.length_append, List.length_cons, List.cons_append, List.nil_append]
            congr 2; omega
          · rcases List.mem_cons.1 hr with rfl | hr
            · exact hall q hq
            · exact hp2 q (by simp [hq]) r hr
        · exact .inr (.inl hr)
        · refine .inr (.inr ⟨hr, fun hc => hn ⟨(List.pairwise_cons.1 hc.1).2, fun q hq r hr => ?_⟩⟩)
          rcases List.mem_append.1 hq with hq | hq
          · exact hc.2 q hq r (List.mem_cons_of_mem _ hr)
          · rw [List.mem_singleton.1 hq]; exact (List.pairwise_cons.1 hc.1).1 r hr
      · refine .inr (.inl ?_)
        simp only [objLoop, hms]
        rw [if_neg (by decide), if_pos (by rw [hv]; decide)]
        exact hv
      · refine .inr (.inr ⟨?_, fun hc => hall fun q hq => hc.2 q hq _ (List.mem_cons_self ..)⟩)
        simp only [objLoop, hms]
        rw [if_neg (by decide), if_pos (by rw [hv]; decide)]
        exact hv
/-- a list's text -/
theorem listB_either {s : ByteArray} {d D p : Nat} {l : List JV} {t : List UInt8} (ih : ReadsX s d D) (hl : ∀ y ∈ l, mayJ D y = true) (hr : rest s p = 91 :: (joinFrom (printB D) true l ++ 93 :: t)) :
    valueB s (d + 1) ⟨p, 0⟩ = (listV l, ⟨p + (joinFrom (printB D) true l).length + 2, 0⟩) ∨ (valueB s (d + 1) ⟨p, 0⟩).2.e = 10 := by
  have hs := see_rest 0 hr (by decide)
  have h1 := rest_next hr
  have hva : valueB s (d + 1) ⟨p, 0⟩ = listB s (valueB s d) ⟨p, 0⟩ := by
    simp only [valueB, hs]
    rw [if_neg (by decide), if_pos (by decide)]
  rw [hva]
  rcases l with _ | ⟨y, ys⟩
  · have hs1 := see_rest 0 (show rest s (p + 1) = 93 :: t from h1) (by decide)
    refine .inl ?_
    simp only [listB, St.step, hs1]
    rfl
  · rcases D with _ | D
    · exact absurd (hl y (List.mem_cons_self ..)) (by simp [mayJ])
    obtain ⟨c, r, hc, hch⟩ := print_head (hl y (List.mem_cons_self ..))
    obtain ⟨u, hu⟩ := join_head (printB (D + 1)) y ys hc (93 :: t)
    have hb := heads_blank hch
    have hlt := rest_lt (h1.trans hu)
    have hs1 := see_rest 0 (h1.trans hu) hb.1
    rcases list_either ih t (y :: ys) [] (s.size + 1 - (p + 1)) (p + 1) (by simp) hl (by omega) (Nat.le_refl _) h1 with hlo | hlo
    · refine .inl ?_
      simp only [listB, St.step, hs1]
      rw [if_neg hb.2.1, hlo]
      simp only [List.nil_append]
      congr 2; omega
    · refine .inr ?_
      simp only [listB, St.step, hs1]
      rw [if_neg hb.2.1]
      exact hlo
/-- an object's text -/
theorem objectB_either {s : ByteArray} {d D p : Nat} {l : List (ByteArray × JV)} {a b t : List UInt8} (ih : ReadsX s d D) (ha : ∀ c ∈ a, isBlank c = true) (hb : ∀ c ∈ b, isBlank c = true) (hl : ∀ y ∈ l, mayJ D y.2 = true ∧ shortB y.1 = true) (hr : rest s p = 123 :: (joinS a b (prMem D) true l ++ 125 :: t)) :
    (valueB s (d + 1) ⟨p, 0⟩ = (objV (sortNames l), ⟨p + (joinS a b (prMem D) true l).length + 2, 0⟩) ∧ l.Pairwise NmNe) ∨ (valueB s (d + 1) ⟨p, 0⟩).2.e = 10 ∨ ((valueB s (d + 1) ⟨p, 0⟩).2.e = 4 ∧ ¬ l.Pairwise NmNe) := by
  have hs := see_rest 0 hr (by decide)
  have h1 := rest_next hr
  have hva : valueB s (d + 1) ⟨p, 0⟩ = objectB s (valueB s d) ⟨p, 0⟩ := by
    simp only [valueB, hs]
    rw [if_neg (by decide), if_neg (by decide), if_pos (by decide)]
  rw [hva]
  rcases l with _ | ⟨y, ys⟩
  · have hs1 := see_rest 0 (show rest s (p + 1) = 125 :: t from h1) (by decide)
    refine .inl ⟨?_, List.Pairwise.nil⟩
    simp only [objectB, St.step, hs1]
    rfl
  · obtain ⟨r, hq⟩ := quote_head y.1
    have hu : rest s (p + 1) = 34 :: (r ++ 58 :: printB D y.2 ++ joinS a b (prMem D) false ys ++ 125 :: t) := by
      rw [h1, joinS_cons]
      unfold prMem
      rw [hq]
      simp
    have hlt := rest_lt hu
    have hs1 := see_rest 0 hu (by decide)
    rcases obj_either ih ha hb t (y :: ys) [] (s.size + 1 - (p + 1)) (p + 1) [] (by simp) (by simp) hl (by omega) (Nat.le_refl _) h1 with ⟨hlo, hp, _⟩ | hlo | ⟨hlo, hn⟩
    · refine .inl ⟨?_, hp⟩
      simp only [objectB, St.step, hs1]
      rw [if_neg (by decide), hlo]
      simp only [List.nil_append, List.length_nil]
      congr 2; omega
    · refine .inr (.inl ?_)
      simp only [objectB, St.step, hs1]
      rw [if_neg (by decide)]
      exact hlo
    · refine .inr (.inr ⟨?_, fun h => hn ⟨h, by simp⟩⟩)
      simp only [objectB, St.step, hs1]
      rw [if_neg (by decide)]
      exact hlo
theorem lt_ne {a b : ByteArray × JV} (h : NmLt a b) : NmNe a b := fun e => by
  unfold NmLt at h
  rw [e] at h
  exact List.lt_irrefl _ h
theorem value_either (s : ByteArray) : ∀ d D, ReadsX s d D
  | _, 0 => fun x p t h => absurd h (by simp [mayJ])
  | 0, D + 1 => fun x p t h hr ht => by
    obtain ⟨c, r, hc, hch⟩ := print_head h
    rw [hc] at hr
    have hs := see_rest 0 hr (heads_blank hch).1
    refine .inr ?_
    simp only [valueB, hs]
    rw [if_neg (by decide), if_pos (heads_opens hch)]
    rfl
  | d + 1, D + 1 => fun x p t h hr ht => by
    have ih := value_either s d D
    have hsh := shape_of h
    rw [printB.eq_2] at hr ⊢
    cases hsh with
    | word k hk =>
      refine .inl ?_
      rcases hk with rfl | rfl | rfl
      · have hr' : rest s p = [110, 117, 108, 108] ++ t := hr
        have hs := see_rest 0 hr' (by decide)
        have hw := word_rest s _ p t hr'
        simp only [valueB, hs, wordB, hw]
        rfl
      · have hr' : rest s p = [102, 97, 108, 115, 101] ++ t := hr
        have hs := see_rest 0 hr' (by decide)
        have hw := word_rest s _ p t hr'
        simp only [valueB, hs, wordB, hw]
        rfl
      · have hr' : rest s p = [116, 114, 117, 101] ++ t := hr
        have hs := see_rest 0 hr' (by decide)
        have hw := word_rest s _ p t hr'
        simp only [valueB, hs, wordB, hw]
        rfl
    | num n hn => exact .inl (value_number d hn hr (ht rfl))
    | text u hu =>
      have hv : validB u = true ∧ u.size ≤ 8000 := by unfold shortB at hu; simpa using hu
      have hr' : rest s p = quoteB u ++ t := hr
      obtain ⟨r, hq⟩ := quote_head u
      have h0 := hr'
      rw [hq, List.cons_append] at h0
      have hs := see_rest 0 h0 (by decide)
      have htx := text_quote hv.1 hv.2 hr'
      have hva : valueB s (d + 1) ⟨p, 0⟩ = (wordV u, ⟨p + (quoteB u).length, 0⟩) := by
        simp only [valueB, hs]
        rw [if_neg (by decide), if_neg (by decide), if_neg (by decide), if_pos (by decide), htx, array_list _ u rfl]
      exact .inl hva
    | list l hl =>
      have hr' : rest s p = 91 :: (joinFrom (printB D) true l ++ 93 :: t) := by rw [hr]; show 91 :: (joinFrom (printB D) true l ++ [93]) ++ t = _; simp
      rcases listB_either ih hl hr' with h | h
      · refine .inl ?_
        have hgoal : valueB s (d + 1) ⟨p, 0⟩ = (listV l, ⟨p + (91 :: (joinFrom (printB D) true l ++ [93])).length, 0⟩) := by
          rw [h]
          simp only [List.length_cons, List.length_append, List.length_nil]
          congr 2
        exact hgoal
      · exact .inr h
    | obj m hm hl =>
      have hmi := (members_iff none m).1 hm
      have hr' : rest s p = 123 :: (joinS [] [] (prMem D) true m ++ 125 :: t) := by rw [hr, joinS_nil]; show 123 :: (joinFrom (prMem D) true m ++ [125]) ++ t = _; simp
      rcases objectB_either ih (by simp) (by simp) (fun q hq => ⟨hl q hq, hmi.1 q hq⟩) hr' with ⟨h, _⟩ | h | ⟨_, hn⟩
      · refine .inl ?_
        have hgoal : valueB s (d + 1) ⟨p, 0⟩ = (objV m, ⟨p + (123 :: (joinFrom (prMem D) true m ++ [125])).length, 0⟩) := by
          rw [h, sort_rising _ hmi.2.2, joinS_nil]
          simp only [List.length_cons, List.length_append, List.length_nil]
          congr 2
        exact hgoal
      · exact .inr h
      · exact absurd (hmi.2.2.imp fun hab => lt_ne hab) hn
/-- the whole text of a list -/
theorem parse_list {l : List JV} (hl : ∀ y ∈ l, mayJ 64 y = true) (hlen : (91 :: (joinFrom (printB 64) true l ++ [93])).length ≤ 20000) :
    parseB ⟨(91 :: (joinFrom (printB 64) true l ++ [93])).toArray⟩ = (listV l, 0) ∨ (parseB ⟨(91 :: (joinFrom (printB 64) true l ++ [93])).toArray⟩).2 = 10 := by
  have hz := list_size (91 :: (joinFrom (printB 64) true l ++ [93]))
  have hr := rest_zero (91 :: (joinFrom (printB 64) true l ++ [93]))
  generalize hs : (⟨(91 :: (joinFrom (printB 64) true l ++ [93])).toArray⟩ : ByteArray) = s at *
  rcases listB_either (value_either s 63 64) hl (t := []) hr with h | h
  · refine .inl ?_
    have hq : rest s (0 + (91 :: (joinFrom (printB 64) true l ++ [93])).length) = [] := drop_rest (by rw [hr]; simp)
    have he := endB_blank (post := []) (by omega) (by simp) hq
    unfold parseB
    rw [if_neg (by omega), h]
    simp only
    have e1 : 0 + (joinFrom (printB 64) true l).length + 2 = 0 + (91 :: (joinFrom (printB 64) true l ++ [93])).length := by simp
    rw [if_neg (by rw [e1, he]; decide)]
  · refine .inr ?_
    have he := endB_err (s := s) (y := (valueB s 64 ⟨0, 0⟩).2) (by rw [h]; decide)
    unfold parseB
    rw [if_neg (by omega), if_pos (by rw [he, h]; decide)]
    exact he.trans h
/-- the whole text of an object -/
theorem parse_object {l : List (ByteArray × JV)} {a b : List UInt8} (ha : ∀ c ∈ a, isBlank c = true) (hb : ∀ c ∈ b, isBlank c = true) (hl : ∀ y ∈ l, mayJ 64 y.2 = true ∧ shortB y.1 = true) (hlen : (123 :: (joinS a b (prMem 64) true l ++ [125])).length ≤ 20000) :
    (parseB ⟨(123 :: (joinS a b (prMem 64) true l ++ [125])).toArray⟩ = (objV (sortNames l), 0) ∧ l.Pairwise NmNe) ∨ (parseB ⟨(123 :: (joinS a b (prMem 64) true l ++ [125])).toArray⟩).2 = 10 ∨
      ((parseB ⟨(123 :: (joinS a b (prMem 64) true l ++ [125])).toArray⟩).2 = 4 ∧ ¬ l.Pairwise NmNe) := by
  have hz := list_size (123 :: (joinS a b (prMem 64) true l ++ [125]))
  have hr := rest_zero (123 :: (joinS a b (prMem 64) true l ++ [125]))
  generalize hs : (⟨(123 :: (joinS a b (prMem 64) true l ++ [125])).toArray⟩ : ByteArray) = s at *
  have herr : ∀ e : Int, e ≠ 0 → (valueB s 64 ⟨0, 0⟩).2.e = e → (parseB s).2 = e := fun e hne h => by
    have he := endB_err (s := s) (y := (valueB s 64 ⟨0, 0⟩).2) (by rw [h]; exact hne)
    unfold parseB
    rw [if_neg (by omega), if_pos (by rw [he, h]; exact hne)]
    exact he.trans h
  rcases objectB_either (value_either s 63 64) ha hb hl (t := []) hr with ⟨h, hp⟩ | h | ⟨h, hp⟩
  · refine .inl ⟨?_, hp⟩
    have hq : rest s (0 + (123 :: (joinS a b (prMem 64) true l ++ [125])).length) = [] := drop_rest (by rw [hr]; simp)
    have he := endB_blank (post := []) (by omega) (by simp) hq
    unfold parseB
    rw [if_neg (by omega), h]
    simp only
    have e1 : 0 + (joinS a b (prMem 64) true l).length + 2 = 0 + (123 :: (joinS a b (prMem 64) true l ++ [125])).length := by simp
    rw [if_neg (by rw [e1, he]; decide)]
  · exact .inr (.inl (herr 10 (by decide) h))
  · exact .inr (.inr ⟨herr 4 (by decide) h, hp⟩)
theorem ins_length (m : ByteArray × JV) : ∀ l, (insName m l).length = l.length + 1
  | [] => rfl
  | x :: r => by
    unfold insName
    split
    · rfl
    · simp [ins_length m r]
theorem sort_length : ∀ l, (sortNames l).length = l.length
  | [] => rfl
  | x :: r => by
    show (insName x (sortNames r)).length = _
    rw [ins_length, sort_length r]; rfl
end Go.Proofs.YtjjgbgojlhaapaaGreatDoor
namespace Go.Proofs.YtjjgbgojlhaapaaGreatDoor
open Go.RowKit

/-- v[:k] of a row of the call's own is a row of the call's own -/
theorem own_take {w : World} {base : Nat} {e : TypeId} {size n c k : Nat} {A : Option Addr} {xs : List Value} (h : w.ownsRow base e size (.slice A n c) n xs) (hk : k ≤ n) :
    w.ownsRow base e size (.slice A k c) k (xs.take (k * size)) := by
  obtain ⟨h1, h2⟩ := h
  refine ⟨by rw [List.length_take, h1]; exact Nat.min_eq_left (Nat.mul_le_mul_right _ hk), ?_⟩
  rcases h2 with ⟨hv, h0⟩ | ⟨g, cap, cur, hv, hbg, hg, hnc, hcm, hcs, ht⟩
  · obtain ⟨rfl, hn, rfl⟩ : A = none ∧ n = 0 ∧ c = 0 := by simpa using hv
    have : k = 0 := by omega
    subst this
    exact .inl ⟨rfl, rfl⟩
  · obtain ⟨rfl, rfl⟩ : A = some ⟨g, 0, none⟩ ∧ c = cap := by simpa using hv
    refine .inr ⟨g, c, cur, rfl, hbg, hg, by omega, hcm, hcs, ?_⟩
    rw [← ht, List.take_take, Nat.min_eq_left (Nat.mul_le_mul_right _ hk)]
end Go.Proofs.YtjjgbgojlhaapaaGreatDoor
namespace Go.Proofs.YtjjgbgojlhaapaaGreatDoor
open Go.RowKit Go.Lib

set_option maxHeartbeats 1000000 in
theorem cloneV_any (sv : Value) (F : Nat → Prop) (xs : List JV) (w : World) (hs : Sl jvTy w F sv xs) (hn : xs.length ≤ 1000000) :
    Calls Tryz.prog 36 #[sv] w fun e w' => ∃ v cs, e = .returned v ∧ Below w.heap.size w w' ∧ w'.ownsRow w.heap.size 28 5 v xs.length cs ∧ Chunks jvTy w' F xs cs := by
  have e1 := fun (w : World) (a : Option Addr) (n c : Nat) => Lib.run_eql_slice_nil (P := Tryz.prog) w 25 _ a n c 0 0 Tryz.underlying25
  obtain ⟨i0, hi, hz0, hz1, hz2⟩ := info_parts jvInfo
  rcases hs.open with ⟨rfl, c, rfl⟩ | ⟨ad, c, cs, rfl, hch, hel⟩
  · go_enter Tryz.func36, Tryz.ntmps36
    go_wp2
    go_ret
    exact ⟨_, [], rfl, Below.refl _ _, World.ownsRow_nil _ _ _ _, rfl⟩
  · generalize hnn : xs.length = n at *
    have Hn := Lib.hid hnn; clear hnn
    have hown : (w.alloc (.cells #[] 28)).ownsRow w.heap.size 28 5 (.slice (some ⟨w.heap.size, 0, none⟩) 0 0) 0 [] := World.ownsRow_made w #[] 0 (Nat.le_refl _) (by decide) (by simp)
    have hb0 : Below w.heap.size w (w.alloc (.cells #[] 28)) := bel_alloc (Below.refl _ _) _
    have hel' : ∀ j u, cs[j]? = some u → (w.alloc (.cells #[] 28)).cell? (ad.add j) = some u := fun j u hj => cell_later' hb0 (hel j u hj)
    have hlen : cs.length = n * 5 := by rw [hch.len, Hn.out]; rfl
    have h1 := hch.one
    have Hh := Lib.hid hch.bound
    clear hel hch hs
    have Hl := Lib.hid hlen; clear hlen
    go_enter Tryz.func36, Tryz.ntmps36
    go_wp2_with (at_builtin; refine wpList_append_own _ rfl _ _ 25 rfl w.heap.size 28 i0 (.agg #[.int .i64 0, .int .i64 0, .string ⟨#[]⟩, .slice none 0 0, .slice none 0 0]) 5 80 Tryz.underlying25 hi hz0 hz1 hz2 rfl (by decide) _ _ _ rfl hown ad n c cs rfl Hl.out hel' h1 ?c1 ?c2 ?c3 ?_)
    case c1 => simp only [maxLen]; omega
    case c2 => omega
    case c3 => exact hb0.size
    intro v' w1 hown1 hgrow _
    have hb1 : Below w.heap.size w w1 := bel_grown hb0 hgrow (fun k hk => by simp [Value.ownBlock] at hk; omega)
    have Hc := Lib.hid ((Hh.out.frame (fun k hk => hb1.block k hk.2)).mono (fun _ hk => hk.1))
    go_wp2
    go_ret
    exact ⟨_, _, rfl, hb1, by simpa using hown1, Hc.out⟩
set_option maxHeartbeats 1000000 in
theorem cloneM_any (sv : Value) (F : Nat → Prop) (xs : List (ByteArray × JV)) (w : World) (hs : Sl memTy w F sv xs) (hn : xs.length ≤ 1000000) :
    Calls Tryz.prog 37 #[sv] w fun e w' => ∃ v cs, e = .returned v ∧ Below w.heap.size w w' ∧ w'.ownsRow w.heap.size 53 6 v xs.length cs ∧ Chunks memTy w' F xs cs := by
  have e1 := fun (w : World) (a : Option Addr) (n c : Nat) => Lib.run_eql_slice_nil (P := Tryz.prog) w 26 _ a n c 0 0 Tryz.underlying26
  obtain ⟨i0, hi, hz0, hz1, hz2⟩ := info_parts memInfo
  rcases hs.open with ⟨rfl, c, rfl⟩ | ⟨ad, c, cs, rfl, hch, hel⟩
  · go_enter Tryz.func37, Tryz.ntmps37
    go_wp2
    go_ret
    exact ⟨_, [], rfl, Below.refl _ _, World.ownsRow_nil _ _ _ _, rfl⟩
  · generalize hnn : xs.length = n at *
    have Hn := Lib.hid hnn; clear hnn
    have hown : (w.alloc (.cells #[] 53)).ownsRow w.heap.size 53 6 (.slice (some ⟨w.heap.size, 0, none⟩) 0 0) 0 [] := World.ownsRow_made w #[] 0 (Nat.le_refl _) (by decide) (by simp)
    have hb0 : Below w.heap.size w (w.alloc (.cells #[] 53)) := bel_alloc (Below.refl _ _) _
    have hel' : ∀ j u, cs[j]? = some u → (w.alloc (.cells #[] 53)).cell? (ad.add j) = some u := fun j u hj => cell_later' hb0 (hel j u hj)
    have hlen : cs.length = n * 6 := by rw [hch.len, Hn.out]; rfl
    have h1 := hch.one
    have Hh := Lib.hid hch.bound
    clear hel hch hs
    have Hl := Lib.hid hlen; clear hlen
    go_enter Tryz.func37, Tryz.ntmps37
    go_wp2_with (at_builtin; refine wpList_append_own _ rfl _ _ 26 rfl w.heap.size 53 i0 (.agg #[.string ⟨#[]⟩, .int .i64 0, .int .i64 0, .string ⟨#[]⟩, .slice none 0 0, .slice none 0 0]) 6 96 Tryz.underlying26 hi hz0 hz1 hz2 rfl (by decide) _ _ _ rfl hown ad n c cs rfl Hl.out hel' h1 ?c1 ?c2 ?c3 ?_)
    case c1 => simp only [maxLen]; omega
    case c2 => omega
    case c3 => exact hb0.size
    intro v' w1 hown1 hgrow _
    have hb1 : Below w.heap.size w w1 := bel_grown hb0 hgrow (fun k hk => by simp [Value.ownBlock] at hk; omega)
    have Hc := Lib.hid ((Hh.out.frame (fun k hk => hb1.block k hk.2)).mono (fun _ hk => hk.1))
    go_wp2
    go_ret
    exact ⟨_, _, rfl, hb1, by simpa using hown1, Hc.out⟩
theorem own_set1 {w : World} {base : Nat} {e : TypeId} {size n c g : Nat} {xs : List Value} (h : w.ownsRow base e size (.slice (some ⟨g, 0, none⟩) n c) n xs) (j : Nat) (u : Value) :
    (w.setCell ⟨g, j, none⟩ u).ownsRow base e size (.slice (some ⟨g, 0, none⟩) n c) n (xs.set j u) := by
  obtain ⟨h1, h2⟩ := h
  refine ⟨by rw [List.length_set]; exact h1, ?_⟩
  rcases h2 with ⟨h0, _⟩ | ⟨g', cap, cur, h0, hb, hg, hn, hc, hs, ht⟩
  · cases h0
  · obtain ⟨rfl, rfl⟩ : g = g' ∧ c = cap := by simpa using h0
    refine .inr ⟨g, c, cur.setIfInBounds j u, rfl, hb, heap_setCell_row hg, hn, hc, by simpa using hs, ?_⟩
    rw [Array.toList_setIfInBounds, List.take_set, ht]
/-- five cells of a row written anew -/
theorem own_put5 {w : World} {base : Nat} {e : TypeId} {size n c g p : Nat} {cs1 cs2 : List Value} {a0 a1 a2 a3 a4 : Value} (v0 v1 v2 v3 v4 : Value)
    (h : w.ownsRow base e size (.slice (some ⟨g, 0, none⟩) n c) n (cs1 ++ (a0 :: a1 :: a2 :: a3 :: a4 :: cs2))) (hp : cs1.length = p) :
    (((((w.setCell ⟨g, p, none⟩ v0).setCell ⟨g, p + 1, none⟩ v1).setCell ⟨g, p + 2, none⟩ v2).setCell ⟨g, p + 3, none⟩ v3).setCell ⟨g, p + 4, none⟩ v4).ownsRow base e size (.slice (some ⟨g, 0, none⟩) n c) n (cs1 ++ (v0 :: v1 :: v2 :: v3 :: v4 :: cs2)) := by
  have h5 := own_set1 (own_set1 (own_set1 (own_set1 (own_set1 h p v0) (p + 1) v1) (p + 2) v2) (p + 3) v3) (p + 4) v4
  have e : ((((((cs1 ++ (a0 :: a1 :: a2 :: a3 :: a4 :: cs2)).set p v0).set (p + 1) v1).set (p + 2) v2).set (p + 3) v3).set (p + 4) v4) = cs1 ++ (v0 :: v1 :: v2 :: v3 :: v4 :: cs2) := by
    subst hp
    simp [List.set_append]
  rw [e] at h5
  exact h5
theorem grown5 (w : World) (g p0 p1 p2 p3 p4 : Nat) (v0 v1 v2 v3 v4 : Value) :
    w.grownBy (((((w.setCell ⟨g, p0, none⟩ v0).setCell ⟨g, p1, none⟩ v1).setCell ⟨g, p2, none⟩ v2).setCell ⟨g, p3, none⟩ v3).setCell ⟨g, p4, none⟩ v4) (some g) :=
  grown_trans (grown_trans (grown_trans (grown_trans (grown_set v0) (grown_set v1)) (grown_set v2)) (grown_set v3)) (grown_set v4)
/-- the cells of a row, none of them frozen -/
theorem own_frozen {w : World} {base : Nat} {e : TypeId} {size n c g : Nat} {xs : List Value} (h : w.ownsRow base e size (.slice (some ⟨g, 0, none⟩) n c) n xs) (j : Nat) : w.frozen? ⟨g, j, none⟩ = false := by
  rcases h.2 with ⟨h0, _⟩ | ⟨g', cap, cur, h0, _, hg, _⟩
  · cases h0
  · obtain ⟨rfl, rfl⟩ : g = g' ∧ c = cap := by simpa using h0
    simp [World.frozen?, hg]
/-- a cell of a row, by its place -/
theorem own_at {w : World} {base : Nat} {e : TypeId} {size n c g : Nat} {xs : List Value} (h : w.ownsRow base e size (.slice (some ⟨g, 0, none⟩) n c) n xs) {j : Nat} {u : Value} (hj : xs[j]? = some u) : w.cell? ⟨g, j, none⟩ = some u := by
  have := h.cells (g := g) rfl j u hj
  rw [Addr.add_lit, Nat.zero_add] at this
  exact this
end Go.Proofs.YtjjgbgojlhaapaaGreatDoor
namespace Go.Proofs.YtjjgbgojlhaapaaGreatDoor
open Go.RowKit Go.Lib

/-- append to a row of the call's own, the source perhaps nil -/
theorem step_append_opt {P : Program} {w : World} {ops : Array Oper} {o : Oper} {a : Act} {K : Act → World → Prop} {Q : Exit → Act → World → Prop} {E : Prop} (hgd : o.guard = none) (s x : Operand) (t : TypeId)
    (ho : o.op = .call { callee := .builtin .append, args := #[s, x], argTypes := #[t, t] })
    (base : Nat) (e : TypeId) (i : TypeInfo) (z : Value) (size bytes : Nat) (ht : P.underlying t = some (.slice e)) (hi : P.info? e = some i) (hz : i.zero = some z)
    (hsize : i.size = size) (hby : i.bytes = bytes) (hzs : z.cells.size = size) (hsz : 0 < size)
    (v : Value) (n : Nat) (xs : List Value) (hs : a.eval s = v) (hown : w.ownsRow base e size v n xs)
    (sv : Value) (m : Nat) (news : List Value) (hx : a.eval x = sv)
    (hsv : (∃ ad c, sv = .slice (some ad) m c ∧ ∀ j u, news[j]? = some u → w.cell? (ad.add j) = some u) ∨ ∃ c, sv = .slice none 0 c ∧ m = 0)
    (hl : news.length = m * size) (h1 : ∀ u ∈ news, u.oneCell' = true)
    (h63 : n + m ≤ maxLen) (hbytes : (n + m) * bytes ≤ 140737488355328) (hbase : base ≤ w.heap.size)
    (h : ∀ v' w', w'.ownsRow base e size v' (n + m) (xs ++ news) → w.grownBy w' v.ownBlock → (v'.ownBlock = v.ownBlock ∨ v'.ownBlock = some w.heap.size) → K (a.put o.dst v') w') :
    if Region.wanted o (yielded ops a.tmps) = true then Oper.wp P o a w K Q else E := by
  rcases hsv with ⟨ad, c, rfl, hc⟩ | ⟨c, rfl, rfl⟩
  · exact step_append_own hgd s x t ho base e i z size bytes ht hi hz hsize hby hzs hsz v n xs hs hown ad m c news hx hl hc h1 h63 hbytes hbase h
  · have hn : news = [] := List.eq_nil_of_length_eq_zero (by simpa using hl)
    subst hn
    have hrun := run_append_src_none (P := P) base t o.type e i size ht hi v n c xs hown
    have hw : Region.wanted o (yielded ops a.tmps) = true := by simp [Region.wanted, hgd]
    rw [if_pos hw]
    unfold Oper.wp
    simp [execOp, ho, resolve, invoke, builtin, hs, hx, hrun, Result.andThen]
    exact h v w (by simpa using hown) ⟨rfl, rfl, rfl, Nat.le_refl _, fun _ _ _ => rfl⟩ (.inl rfl)
/-- a new row of one -/
theorem own_new (w : World) (base : Nat) (e : TypeId) (cs : List Value) (size : Nat) (hl : cs.length = size) (hb : base ≤ w.heap.size) :
    (w.alloc (.cells cs.toArray e)).ownsRow base e size (.slice (some ⟨w.heap.size, 0, none⟩) 1 1) 1 cs := by
  refine ⟨by rw [hl, Nat.one_mul], .inr ⟨w.heap.size, 1, cs.toArray, rfl, hb, heap_alloc_new w _, Nat.le_refl _, by decide, by simp [hl], ?_⟩⟩
  rw [Nat.one_mul]
  exact List.take_of_length_le (by rw [hl]; exact Nat.le_refl _)
theorem own_pos {w : World} {base : Nat} {e : TypeId} {size n : Nat} {v : Value} {xs : List Value} (h : w.ownsRow base e size v n xs) (hn : 0 < n) : ∃ g cap, v = .slice (some ⟨g, 0, none⟩) n cap ∧ base ≤ g := by
  rcases h.2 with ⟨_, h0⟩ | ⟨g, cap, cur, rfl, hg, _⟩
  · omega
  · exact ⟨g, cap, rfl, hg⟩
/-- the cells behind place k -/
theorem own_drop {w : World} {base : Nat} {e : TypeId} {size n c g k : Nat} {xs : List Value} (h : w.ownsRow base e size (.slice (some ⟨g, 0, none⟩) n c) n xs) :
    ∀ j u, (xs.drop (k * size))[j]? = some u → w.cell? ((⟨g, k * size, none⟩ : Addr).add j) = some u := fun j u hj => by
  rw [List.getElem?_drop] at hj
  have := h.cells (g := g) rfl _ u hj
  rw [Addr.add_lit] at this ⊢
  rw [Nat.zero_add] at this
  exact this
/-- v[k:] of a row of the call's own, as a source of append -/
theorem own_src {w : World} {base : Nat} {e : TypeId} {size n c k : Nat} {A : Option Addr} {xs : List Value} (h : w.ownsRow base e size (.slice A n c) n xs) (hk : k ≤ n) :
    (∃ ad c', Value.slice (if c = k then A else Option.map (fun x => x.add (k * size)) A) (n - k) (c - k) = .slice (some ad) (n - k) c' ∧ ∀ j u, (xs.drop (k * size))[j]? = some u → w.cell? (ad.add j) = some u) ∨
    ∃ c', Value.slice (if c = k then A else Option.map (fun x => x.add (k * size)) A) (n - k) (c - k) = .slice none 0 c' ∧ n - k = 0 := by
  rcases h.2 with ⟨h0, hn⟩ | ⟨g, cap, cur, h0, hg, hh, hnc, hcm, hcs, ht⟩
  · injection h0 with hA _ hc
    subst hA
    have h1 : n - k = 0 := by omega
    exact .inr ⟨c - k, by rw [h1]; split <;> rfl, h1⟩
  · injection h0 with hA _ hc
    subst hA
    subst hc
    left
    by_cases hck : c = k
    · refine ⟨⟨g, 0, none⟩, c - k, by rw [if_pos hck], fun j u hj => ?_⟩
      have hnk : n = k := by omega
      rw [List.drop_of_length_le (by rw [h.1, hnk]; exact Nat.le_refl _)] at hj
      cases hj
    · refine ⟨⟨g, k * size, none⟩, c - k, by rw [if_neg hck, Option.map_some, Addr.add_lit, Nat.zero_add], own_drop h⟩
end Go.Proofs.YtjjgbgojlhaapaaGreatDoor
namespace Go.Proofs.YtjjgbgojlhaapaaGreatDoor
open Go.RowKit Go.Lib

def cap20 (s : ByteArray) : Int := min (s.size : Int) 1048576
def cntL {α : Type} (f : α → Int → Int) : List α → Int → Int
  | [], n => n
  | x :: xs, n => if 0 < n then cntL f xs (f x n) else n
def countB : Nat → JV → Int → Int
  | 0, _, _ => 0
  | d + 1, x, n => cntL (fun p n => countB d p.2 (n - cap20 p.1)) x.m (cntL (countB d) x.l (n - 1 - cap20 x.s))
theorem cap_range (s : ByteArray) : 0 ≤ cap20 s ∧ cap20 s ≤ 1048576 := by unfold cap20; omega
theorem cap_nil : cap20 ⟨#[]⟩ = 0 := by decide +kernel
theorem cntL_neg {α : Type} (f : α → Int → Int) {n : Int} (h : ¬ 0 < n) : ∀ l, cntL f l n = n
  | [] => rfl
  | x :: xs => by simp only [cntL]; rw [if_neg h]
theorem cntL_drop {α : Type} (f : α → Int → Int) {l : List α} {k : Nat} {x : α} {n : Int} (hx : l[k]? = some x) (h : 0 < n) : cntL f (l.drop k) n = cntL f (l.drop (k + 1)) (f x n) := by
  rw [drop_of_get hx]; simp only [cntL]; rw [if_pos h]
theorem cntL_end {α : Type} (f : α → Int → Int) {l : List α} {k : Nat} {n : Int} (h : l.length ≤ k) : cntL f (l.drop k) n = n := by
  rw [List.drop_of_length_le h]; rfl
theorem cntL_range {α : Type} {f : α → Int → Int} (hf : ∀ x n, 0 < n → n ≤ 12000 → -2097153 ≤ f x n ∧ f x n ≤ 12000) : ∀ (l : List α) (n : Int), -2097153 ≤ n → n ≤ 12000 → -2097153 ≤ cntL f l n ∧ cntL f l n ≤ 12000
  | [], n, h0, h1 => ⟨h0, h1⟩
  | x :: xs, n, h0, h1 => by
    simp only [cntL]
    split
    · rename_i h
      have := hf x n h h1
      exact cntL_range hf xs _ this.1 this.2
    · exact ⟨h0, h1⟩
theorem count_range : ∀ (d : Nat) (x : JV) (n : Int), -1048576 ≤ n → n ≤ 12000 → -2097153 ≤ countB d x n ∧ countB d x n ≤ 12000
  | 0, _, _, _, _ => by simp [countB]
  | d + 1, x, n, h0, h1 => by
    have hc := cap_range x.s
    simp only [countB]
    have h2 := cntL_range (f := countB d) (fun y m hm hm2 => count_range d y m (by omega) hm2) x.l (n - 1 - cap20 x.s) (by omega) (by omega)
    exact cntL_range (fun p m hm hm2 => by
      have hp := cap_range p.1
      exact count_range d p.2 _ (by omega) (by omega)) x.m _ h2.1 h2.2
/-! a printed value is not long -/
theorem cntL_spend {α : Type} {f : α → Int → Int} {g : α → Nat} : ∀ (l : List α), (∀ x ∈ l, ∀ n, 0 < f x n → (g x : Int) + 30 * f x n ≤ 30 * n) → ∀ (n : Int), 0 < cntL f l n → ((l.map g).sum : Int) + 30 * cntL f l n ≤ 30 * n ∧ 0 < n
  | [], _, n, h => by simp [cntL] at h ⊢; exact h
  | x :: xs, hf, n, h => by
    simp only [cntL] at h ⊢
    by_cases hn : 0 < n
    · rw [if_pos hn] at h ⊢
      have ih := cntL_spend xs (fun y hy => hf y (List.mem_cons_of_mem _ hy)) (f x n) h
      have h1 := hf x (List.mem_cons_self ..) n ih.2
      simp only [List.map_cons, List.sum_cons]
      refine ⟨?_, hn⟩
      omega
    · rw [if_neg hn] at h
      exact absurd h hn
theorem join_sum {α : Type} (f : α → List UInt8) : ∀ (l : List α) (b : Bool), (joinFrom f b l).length ≤ (l.map fun x => (f x).length + 1).sum
  | [], _ => by simp [joinFrom]
  | x :: xs, b => by
    have ih := join_sum f xs false
    rw [join_cons]
    simp only [List.length_append, List.map_cons, List.sum_cons]
    have : (if b = true then ([] : List UInt8) else [44]).length ≤ 1 := by cases b <;> simp
    omega
theorem quoteOne_len {r : Nat} (_hr : Scal r) : (quoteOne r).length ≤ 6 * (Lib.encodeRune (r : Int)).length := by
  have hp := enc_pos (r : Int)
  unfold quoteOne
  split
  · simp only [List.length_cons, List.length_nil]; omega
  · split
    · simp only [List.length_cons, List.length_nil]; omega
    · omega
theorem quoteB_len {s : ByteArray} (hv : validB s = true) : (quoteB s).length ≤ 2 + 6 * s.size := by
  obtain ⟨rs, hr, hu⟩ := validB_runes hv
  have key : ∀ rs : List Nat, (∀ r ∈ rs, Scal r) → (rs.flatMap (fun r => quoteOne r)).length ≤ 6 * (encs rs).length := fun rs => by
    induction rs with
    | nil => intro _; simp
    | cons r rs ih =>
      intro h
      have h1 := ih (fun q hq => h q (List.mem_cons_of_mem _ hq))
      have h2 := quoteOne_len (h r (List.mem_cons_self ..))
      rw [encs_cons, List.flatMap_cons, List.length_append, List.length_append]
      omega
  have h1 := key rs hr
  have hz : s.data.toList.length = s.size := Array.length_toList ..
  rw [hu] at hz
  rw [quoteB_runes hr hu]
  simp only [List.length_cons, List.length_append, List.length_nil]
  omega
theorem short_len {s : ByteArray} (h : shortB s = true) : (quoteB s).length ≤ 2 + 6 * s.size ∧ s.size ≤ 8000 := by
  have hv : validB s = true ∧ s.size ≤ 8000 := by unfold shortB at h; simpa using h
  exact ⟨quoteB_len hv.1, hv.2⟩
theorem sum_le {α : Type} {f g : α → Nat} : ∀ (l : List α), (∀ x ∈ l, f x ≤ g x) → (l.map f).sum ≤ (l.map g).sum
  | [], _ => Nat.le_refl _
  | x :: xs, h => by
    have := sum_le xs (fun y hy => h y (List.mem_cons_of_mem _ hy))
    have := h x (List.mem_cons_self ..)
    simp only [List.map_cons, List.sum_cons]; omega
theorem count_len : ∀ (d e : Nat) (x : JV) (n : Int), mayJ e x = true → 0 < countB d x n → (((printB e x).length + 8 : Nat) : Int) + 30 * countB d x n ≤ 30 * n
  | 0, _, _, _, _, h => by simp [countB] at h
  | _, 0, x, _, h, _ => absurd h (by simp [mayJ])
  | d + 1, e + 1, x, n, hm, h => by
    have hcap := cap_range x.s
    simp only [countB] at h ⊢
    rw [printB.eq_2]
    cases shape_of hm with
    | word k hk =>
      simp only [JV.m, JV.l, JV.s, cntL] at h ⊢
      simp only [cap20] at h ⊢
      rcases hk with rfl | rfl | rfl <;> (simp [JV.k, ByteArray.size]; omega)
    | num m hmr =>
      simp only [numV, JV.m, JV.l, JV.s, cntL] at h ⊢
      have hl := itoa_len m (by omega) (by omega)
      have hc0 := (cap_range ⟨#[]⟩).1
      show (((Lib.itoa m).length + 8 : Nat) : Int) + 30 * (n - 1 - cap20 ⟨#[]⟩) ≤ 30 * n
      clear hm hmr hcap h
      generalize cap20 ⟨#[]⟩ = z at *
      generalize (Lib.itoa m).length = q at *
      omega
    | text u hu =>
      have hs := short_len hu
      simp only [wordV, JV.m, JV.l, JV.s, cntL] at h ⊢
      have hc : cap20 u = (u.size : Int) := by unfold cap20; omega
      rw [hc]
      show (((quoteB u).length + 8 : Nat) : Int) + 30 * (n - 1 - (u.size : Int)) ≤ 30 * n
      omega
    | list l hl =>
      have hcl : (printB e) = (printB e) := rfl
      simp only [listV, JV.m, JV.l, JV.s, cntL] at h ⊢
      have hsp := cntL_spend (f := countB d) (g := fun y => (printB e y).length + 8) l (fun y hy m hm2 => count_len d e y m (hl y hy) hm2) _ h
      have hj := join_sum (printB e) l true
      have hle := sum_le (f := fun y => (printB e y).length + 1) (g := fun y => (printB e y).length + 8) l (fun y _ => by omega)
      rw [cap_nil] at hsp ⊢
      show (((91 :: (joinFrom (printB e) true l ++ [93])).length + 8 : Nat) : Int) + 30 * cntL (countB d) l (n - 1 - 0) ≤ 30 * n
      simp only [List.length_cons, List.length_append, List.length_nil]
      omega
    | obj m hmm hl =>
      have hmi := (members_iff none m).1 hmm
      simp only [objV, JV.m, JV.l, JV.s, cntL] at h ⊢
      have hsp := cntL_spend (f := fun p n => countB d p.2 (n - cap20 p.1)) (g := fun q => (prMem e q).length + 1) m (fun q hq z hz => by
        have h1 := count_len d e q.2 _ (hl q hq) hz
        have h2 := short_len (hmi.1 q hq)
        have hc : cap20 q.1 = (q.1.size : Int) := by unfold cap20; omega
        have hp : (prMem e q).length = (quoteB q.1).length + ((printB e q.2).length + 1) := by unfold prMem; simp
        rw [hc] at h1
        rw [hp]
        simp only [hc]
        omega) _ h
      have hj := join_sum (prMem e) m true
      rw [cap_nil] at hsp ⊢
      show (((123 :: (joinFrom (prMem e) true m ++ [125])).length + 8 : Nat) : Int) + 30 * cntL _ m (n - 1 - 0) ≤ 30 * n
      simp only [List.length_cons, List.length_append, List.length_nil]
      omega
/-- Few: the text is short -/
theorem few_len {x : JV} (hf : 0 < countB 100 x 12000) (hm : mayJ 64 x = true) : (printB 64 x).length ≤ 360000 := by
  have := count_len 100 64 x 12000 hm hf
  omega
end Go.Proofs.YtjjgbgojlhaapaaGreatDoor
