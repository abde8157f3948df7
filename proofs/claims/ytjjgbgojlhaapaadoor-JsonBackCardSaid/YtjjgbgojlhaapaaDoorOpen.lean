/- How arguments that read as data are kinds in memory; no program. -/
import Derived.Test.YtjjgbgojlhaapaaDoorLib
import Derived.Deep.Slices
import Derived.ChangeSame
import Derived.SizedLaws
namespace Go.Proofs.YtjjgbgojlhaapaaDoor
open Go.RowKit Go.Deep Go.ChangeShapes Go.WideShapes

section
variable {H : Type} {enc : TypeId × Value → H} {P : Program} {w : World} {base : Nat} {spare : Nat → Bool} {held : Bool}

theorem opens_slice {α : Type} {T : Ty α} {t e : TypeId} (ht : P.underlying t = some (.slice e)) (hsz : P.cellsOf e = T.sz)
    (hel : ∀ n cs y, DataW.trod enc P w base spare held n e cs = some y → ∃ x, T.R w (fun _ => True) x cs) {n : Nat} {v : Value} {y : DataW H × List MemPlace}
    (h : DataW.trod enc P w base spare held n t [v] = some y) :
    ∃ xs : List α, Sl T w (fun _ => True) v xs ∧ ((y.1 = .nil ∧ xs = []) ∨ ∃ elems rest, y.1 = .slice elems rest ∧ elems.length = xs.length) := by
  rcases open_slice ht h with ⟨h0, rfl⟩ | ⟨a, len, cap, m, k, D, Pl, h0, hb, hl, hm, hmm, rfl, hi⟩
  · obtain rfl : v = .slice none 0 0 := by simpa using h0
    exact ⟨[], Sl.nil none 0, .inl ⟨rfl, rfl⟩⟩
  · obtain rfl : v = .slice (some a) len cap := by simpa using h0
    have hlm : len ≤ m := by rw [hmm]; split <;> omega
    have hcell : ∀ i, i < len → ∃ x cs, T.R w (fun _ => True) x cs ∧ cs.length = T.sz ∧ ∀ j u, cs[j]? = some u → w.cell? ((a.add (i * T.sz)).add j) = some u := by
      intro i hil
      obtain ⟨cs, hc, ht'⟩ := hi i (by omega)
      obtain ⟨x, hx⟩ := hel _ _ _ ht'
      obtain ⟨_, hlen, hcc⟩ := World.cells?_some hc
      refine ⟨x, cs, hx, T.len hx, fun j u hj => ?_⟩
      have := lt_of_get hj
      rw [hsz] at hcc
      rw [hcc j (by rw [← T.len hx]; exact this)]
      exact hj
    rcases Nat.eq_zero_or_pos len with h00 | hp
    · subst h00
      exact ⟨[], Sl.nil (some a) cap, .inr ⟨_, _, rfl, by simp⟩⟩
    · obtain ⟨b, o, rfl⟩ : ∃ b o, a = ⟨b, o, none⟩ := by
        obtain ⟨x, cs, hx, hlc, hc⟩ := hcell 0 hp
        have := hc 0 (cs[0]'(by rw [hlc]; exact T.pos)) (List.getElem?_eq_getElem _)
        rw [Nat.zero_mul] at this
        have e1 : (a.add 0).add 0 = a := by simp [Addr.add]
        rw [e1] at this
        obtain ⟨b, o, sp⟩ := a
        refine ⟨b, o, ?_⟩
        cases sp with
        | none => rfl
        | some q =>
          exfalso
          unfold World.cell? at this
          split at this <;> simp at this
      have hbuild : ∀ l, l ≤ len → ∃ (xs : List α) (cs : List Value), xs.length = l ∧ Chunks T w (fun _ => True) xs cs ∧ ∀ j u, cs[j]? = some u → w.cell? ⟨b, o + j, none⟩ = some u := by
        intro l
        induction l with
        | zero => intro _; exact ⟨[], [], rfl, rfl, fun j u hj => by simp at hj⟩
        | succ l ih =>
          intro hll
          obtain ⟨xs, cs, h1, h2, h3⟩ := ih (by omega)
          obtain ⟨x, c, h4, h5, h6⟩ := hcell l (by omega)
          refine ⟨xs ++ [x], cs ++ c, by simp [h1], h2.append (Chunks.single h4), fun j u hj => ?_⟩
          have hcl : cs.length = l * T.sz := by rw [h2.len, h1]
          rcases Nat.lt_or_ge j cs.length with hj2 | hj2
          · rw [List.getElem?_append_left hj2] at hj
            exact h3 j u hj
          · rw [List.getElem?_append_right hj2] at hj
            have := h6 _ _ hj
            rw [Addr.add_lit, Addr.add_lit] at this
            rw [show o + j = o + l * T.sz + (j - cs.length) by omega]
            exact this
      obtain ⟨xs, cs, h1, h2, h3⟩ := hbuild len (Nat.le_refl _)
      refine ⟨xs, .inr ⟨b, o, cap, by rw [h1], trivial, by omega, by simpa [maxLen] using hm, cs, h2, h3⟩, .inr ⟨_, _, rfl, by simp [h1]⟩⟩

theorem sl_sized {α : Type} {ts : List TypeId} {ds : List (DataW H)} {j : Nat} {t e : TypeId} {xs : List α} {d : DataW H}
    (hsz : (DataW.weightsEach P ts ds).all (· ≤ reachBytes) = true) (ht : ts[j]? = some t) (hd : ds[j]? = some d) (hu : P.underlying t = some (.slice e)) {B : Nat} (hB : P.bytesOf e = B)
    (h : (d = .nil ∧ xs = []) ∨ ∃ elems rest, d = .slice elems rest ∧ elems.length = xs.length) : xs.length * B ≤ 140737488351232 := by
  rcases h with ⟨_, rfl⟩ | ⟨elems, rest, rfl, hl⟩
  · simp
  · have z := sized_slice hsz ht hd hu
    rw [hB] at z
    rw [← hl]
    refine Nat.le_trans (Nat.mul_le_mul_right _ (by omega)) z
end
end Go.Proofs.YtjjgbgojlhaapaaDoor
