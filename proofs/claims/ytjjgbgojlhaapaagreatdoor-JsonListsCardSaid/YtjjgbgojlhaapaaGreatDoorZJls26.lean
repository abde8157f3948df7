/- Parts of the proof: Jo, Lo. -/
import Derived.Test.YtjjgbgojlhaapaaGreatDoorZJls3
import Derived.Test.YtjjgbgojlhaapaaGreatDoorZJls6
import Derived.Test.YtjjgbgojlhaapaaGreatDoorZJls21
namespace Go.Proofs.YtjjgbgojlhaapaaGreatDoor
open Go.RowKit Go.Deep Go.ChangeShapes Go.WideShapes Go.ChangeAt

section
variable {H : Type} {enc : TypeId × Value → H} {P : Program} {w : World} {base : Nat} {spare : Nat → Bool} {held : Bool}
/-- a slice argument, its elements opened at less fuel -/
theorem opens_slice_lt {α : Type} {T : Ty α} {t e : TypeId} (ht : P.underlying t = some (.slice e)) (hsz : P.cellsOf e = T.sz) {N : Nat}
    (hel : ∀ n, n < N → ∀ cs y, DataW.trod enc P w base spare held n e cs = some y → ∃ x, T.R w (fun _ => True) x cs) {v : Value} {y : DataW H × List MemPlace}
    (h : DataW.trod enc P w base spare held N t [v] = some y) : ∃ xs : List α, Sl T w (fun _ => True) v xs := by
  rcases DataW.trod_slice ht h with ⟨h0, rfl⟩ | ⟨a, len, cap, elems, rest, n, rfl, h0, rfl, hb, hl, hm, hlen, hi, _, _⟩
  · obtain rfl : v = .slice none 0 0 := by simpa using h0
    exact ⟨[], Sl.nil none 0⟩
  · obtain rfl : v = .slice (some a) len cap := by simpa using h0
    have hcell : ∀ i, i < len → ∃ x cs, T.R w (fun _ => True) x cs ∧ cs.length = T.sz ∧ ∀ j u, cs[j]? = some u → w.cell? ((a.add (i * T.sz)).add j) = some u := by
      intro i hil
      have h1 := hi i hil
      rw [List.getElem?_eq_getElem (show i < elems.length by omega)] at h1
      obtain ⟨cs, hc, ht'⟩ := Option.bind_eq_some_iff.1 h1
      obtain ⟨x, hx⟩ := hel n (by omega) _ _ ht'
      obtain ⟨_, hlen, hcc⟩ := World.cells?_some hc
      refine ⟨x, cs, hx, T.len hx, fun j u hj => ?_⟩
      have := lt_of_get hj
      rw [hsz] at hcc
      rw [hcc j (by rw [← T.len hx]; exact this)]
      exact hj
    rcases Nat.eq_zero_or_pos len with h00 | hp
    · subst h00
      exact ⟨[], Sl.nil (some a) cap⟩
    · obtain ⟨b, o, rfl⟩ : ∃ b o, a = ⟨b, o, none⟩ := by
        obtain ⟨x, cs, hx, hlc, hc⟩ := hcell 0 hp
        have := hc 0 (cs[0]'(by rw [hlc]; exact T.pos)) (List.getElem?_eq_getElem _)
        rw [Nat.zero_mul] at this
        have e1 : (a.add 0).add 0 = a := by simp [Addr.add]
        rw [e1] at this
        obtain ⟨b, o, sp⟩ := a
        refine ⟨b, o, ?_⟩
        cases sp with
        | none => rfl
        | some q =>
          exfalso
          unfold World.cell? at this
          split at this <;> simp at this
      have hbuild : ∀ l, l ≤ len → ∃ (xs : List α) (cs : List Value), xs.length = l ∧ Chunks T w (fun _ => True) xs cs ∧ ∀ j u, cs[j]? = some u → w.cell? ⟨b, o + j, none⟩ = some u := by
        intro l
        induction l with
        | zero => intro _; exact ⟨[], [], rfl, rfl, fun j u hj => by simp at hj⟩
        | succ l ih =>
          intro hll
          obtain ⟨xs, cs, h1, h2, h3⟩ := ih (by omega)
          obtain ⟨x, c, h4, h5, h6⟩ := hcell l (by omega)
          refine ⟨xs ++ [x], cs ++ c, by simp [h1], h2.append (Chunks.single h4), fun j u hj => ?_⟩
          have hcl : cs.length = l * T.sz := by rw [h2.len, h1]
          rcases Nat.lt_or_ge j cs.length with hj2 | hj2
          · rw [List.getElem?_append_left hj2] at hj
            exact h3 j u hj
          · rw [List.getElem?_append_right hj2] at hj
            have := h6 _ _ hj
            rw [Addr.add_lit, Addr.add_lit] at this
            rw [show o + j = o + l * T.sz + (j - cs.length) by omega]
            exact this
      obtain ⟨xs, cs, h1, h2, h3⟩ := hbuild len (Nat.le_refl _)
      exact ⟨xs, .inr ⟨b, o, cap, by rw [h1], trivial, by omega, by simpa [maxLen] using hm, cs, h2, h3⟩⟩
end

set_option maxRecDepth 100000 in
theorem val_fields : ∃ f0 f1 f2 f3 f4, Tryz.prog.underlying 28 = some (.struct #[f0, f1, f2, f3, f4]) ∧ (f0.offset = 0 ∧ f1.offset = 1 ∧ f2.offset = 2 ∧ f3.offset = 3 ∧ f4.offset = 4) ∧
    Tryz.prog.underlying f0.type = some (.int .i64) ∧ Tryz.prog.underlying f1.type = some (.int .i64) ∧ Tryz.prog.underlying f2.type = some .string ∧ Tryz.prog.underlying f3.type = some (.slice 28) ∧ Tryz.prog.underlying f4.type = some (.slice 53) ∧
    Tryz.prog.cellsOf f0.type = 1 ∧ Tryz.prog.cellsOf f1.type = 1 ∧ Tryz.prog.cellsOf f2.type = 1 ∧ Tryz.prog.cellsOf f3.type = 1 ∧ Tryz.prog.cellsOf f4.type = 1 :=
  ⟨_, _, _, _, _, Tryz.underlying28, ⟨rfl, rfl, rfl, rfl, rfl⟩, by kernel_rfl, by kernel_rfl, by kernel_rfl, by kernel_rfl, by kernel_rfl, by kernel_rfl, by kernel_rfl, by kernel_rfl, by kernel_rfl, by kernel_rfl⟩
set_option maxRecDepth 100000 in
theorem mem_fields : ∃ f0 f1, Tryz.prog.underlying 53 = some (.struct #[f0, f1]) ∧ f0.offset = 0 ∧ f1.offset = 1 ∧ Tryz.prog.underlying f0.type = some .string ∧ f1.type = 28 ∧ Tryz.prog.cellsOf f0.type = 1 ∧ Tryz.prog.cellsOf 28 = 5 :=
  ⟨_, _, Tryz.underlying53, rfl, rfl, by kernel_rfl, rfl, by kernel_rfl, by kernel_rfl⟩
theorem cells_val : Tryz.prog.cellsOf 28 = 5 := by kernel_rfl
theorem cells_mem : Tryz.prog.cellsOf 53 = 6 := by kernel_rfl

section
variable {H : Type} {enc : TypeId × Value → H} {w : World} {base : Nat} {spare : Nat → Bool} {held : Bool}
set_option maxRecDepth 100000 in
theorem jv_opens : ∀ (n : Nat) (cs : List Value) (y : DataW H × List MemPlace), DataW.trod enc Tryz.prog w base spare held n 28 cs = some y → ∃ x, jvTy.R w (fun _ => True) x cs := fun n => by
  induction n using Nat.strongRecOn with
  | _ n ih =>
    intro cs y h
    obtain ⟨f0, f1, f2, f3, f4, hu, ⟨o0, o1, o2, o3, o4⟩, u0, u1, u2, u3, u4, c0, c1, c2, c3, c4⟩ := val_fields
    obtain ⟨xs, m, rfl, rfl, hl, hlen, hf⟩ := DataW.trod_struct hu h
    rw [cells_val] at hl
    match cs, hl with
    | [a0, a1, a2, a3, a4], _ =>
      have g0 := hf 0 f0 rfl
      have g1 := hf 1 f1 rfl
      have g2 := hf 2 f2 rfl
      have g3 := hf 3 f3 rfl
      have g4 := hf 4 f4 rfl
      rw [o0, c0] at g0; rw [o1, c1] at g1; rw [o2, c2] at g2; rw [o3, c3] at g3; rw [o4, c4] at g4
      have hx5 : xs.length = 5 := hlen
      match xs, hx5 with
      | [y0, y1, y2, y3, y4], _ =>
        replace g0 : DataW.trod enc Tryz.prog w base spare held m f0.type [a0] = some y0 := g0
        replace g1 : DataW.trod enc Tryz.prog w base spare held m f1.type [a1] = some y1 := g1
        replace g2 : DataW.trod enc Tryz.prog w base spare held m f2.type [a2] = some y2 := g2
        replace g3 : DataW.trod enc Tryz.prog w base spare held m f3.type [a3] = some y3 := g3
        replace g4 : DataW.trod enc Tryz.prog w base spare held m f4.type [a4] = some y4 := g4
        obtain ⟨k, e0, _, _⟩ := DataW.trod_int u0 g0
        obtain ⟨i, e1, _, _⟩ := DataW.trod_int u1 g1
        obtain ⟨s, e2, _, hs⟩ := DataW.trod_string u2 g2
        obtain ⟨l, hL⟩ := opens_slice_lt (T := jvTy) u3 cells_val (fun n' hn' cs' y' h' => ih n' (by omega) cs' y' h') g3
        obtain ⟨mm, hM⟩ := opens_slice_lt (T := memTy) u4 cells_mem (fun n' hn' cs' y' h' => by
          obtain ⟨p0, p1, hu', q0, q1, v0, v1, d0, d1⟩ := mem_fields
          obtain ⟨zs, m', rfl, rfl, hl', hlen', hf'⟩ := DataW.trod_struct hu' h'
          rw [cells_mem] at hl'
          match cs', hl' with
          | [b0, b1, b2, b3, b4, b5], _ =>
            have k0 := hf' 0 p0 rfl
            have k1 := hf' 1 p1 rfl
            rw [q0, d0] at k0; rw [q1, v1, d1] at k1
            have hz2 : zs.length = 2 := hlen'
            match zs, hz2 with
            | [z0, z1], _ =>
              replace k0 : DataW.trod enc Tryz.prog w base spare held m' p0.type [b0] = some z0 := k0
              replace k1 : DataW.trod enc Tryz.prog w base spare held m' 28 [b1, b2, b3, b4, b5] = some z1 := k1
              obtain ⟨nm, e0', _, hnm⟩ := DataW.trod_string v0 k0
              obtain ⟨x, hx⟩ := ih m' (by omega) _ _ k1
              obtain rfl : b0 = .string nm := by simpa using e0'
              exact ⟨(nm, x), _, ⟨rfl, by simpa [maxLen] using hnm⟩, hx⟩) g4
        obtain rfl : a0 = .int .i64 k := by simpa using e0
        obtain rfl : a1 = .int .i64 i := by simpa using e1
        obtain rfl : a2 = .string s := by simpa using e2
        exact ⟨.mk k i s l mm, JR_iff.2 ⟨_, _, ⟨rfl, (show s.size ≤ 9223372036854775807 by simpa [maxLen] using hs)⟩, hL, hM⟩⟩
end
end Go.Proofs.YtjjgbgojlhaapaaGreatDoor
namespace Go.Proofs.YtjjgbgojlhaapaaGreatDoor
open Go.RowKit Go.Deep Go.ChangeShapes Go.WideShapes Go.ChangeAt

theorem str_cell1 : Tryz.prog.cellsOf 9 = 1 := by kernel_rfl
section
variable {H : Type} {enc : TypeId × Value → H} {w : World} {base : Nat} {spare : Nat → Bool} {held : Bool}
set_option maxRecDepth 100000 in
theorem jvs_arg {v : Value} {d : DataW H} {p : List MemPlace} (hok : Value.okWide Tryz.prog w .any base 25 v) (h : DataW.Trod enc Tryz.prog w 0 spare held 25 v d p) : ∃ xs : List JV, Sl jvTy w (fun _ => True) v xs := by
  obtain ⟨a0, len0, cap0, rfl⟩ := okWide_slice Tryz.underlying25 hok
  obtain ⟨n, hn⟩ := h
  exact opens_slice_lt (T := jvTy) Tryz.underlying25 cells_val (fun n' _ cs y h' => jv_opens n' cs y h') hn
set_option maxRecDepth 100000 in
theorem strs_arg {v : Value} {d : DataW H} {p : List MemPlace} (hok : Value.okWide Tryz.prog w .any base 54 v) (h : DataW.Trod enc Tryz.prog w 0 spare held 54 v d p) : ∃ xs : List ByteArray, Sl strTy w (fun _ => True) v xs := by
  obtain ⟨a0, len0, cap0, rfl⟩ := okWide_slice Tryz.underlying54 hok
  obtain ⟨n, hn⟩ := h
  exact opens_slice_lt (T := strTy) Tryz.underlying54 str_cell1 (fun n' _ cs y h' => by
    obtain ⟨s, h1, _, _⟩ := DataW.trod_string Tryz.underlying9 h'
    exact ⟨s, h1⟩) hn
end
end Go.Proofs.YtjjgbgojlhaapaaGreatDoor
