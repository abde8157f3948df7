/- Parts of the proof: Ro, Jo, Bo. -/
import Derived.Test.YtlihjmfdnkfmfaaGreatDoorZPback2
import Derived.Test.YtlihjmfdnkfmfaaGreatDoorZPback22
import Derived.Test.YtlihjmfdnkfmfaaGreatDoorZPback6
import Derived.Test.YtlihjmfdnkfmfaaGreatDoorZPback27
namespace Go.Proofs.YtlihjmfdnkfmfaaGreatDoor
open Go.RowKit Go.Deep Go.ChangeShapes Go.WideShapes Go.ChangeAt

theorem array11 {α : Type} {cs : Array α} (h : cs.size = 11) : ∃ c0 c1 c2 c3 c4 c5 c6 c7 c8 c9 c10, cs = #[c0, c1, c2, c3, c4, c5, c6, c7, c8, c9, c10] := by
  obtain ⟨l⟩ := cs
  match l, h with
  | [c0, c1, c2, c3, c4, c5, c6, c7, c8, c9, c10], _ => exact ⟨c0, c1, c2, c3, c4, c5, c6, c7, c8, c9, c10, rfl⟩
section
variable {H : Type} {enc : TypeId × Value → H} {w : World} {base : Nat} {spare : Nat → Bool} {held : Bool} {v : Value} {d : DataW H} {p : List MemPlace}
set_option maxRecDepth 100000 in
set_option maxHeartbeats 4000000 in
theorem req_agg (hok : Value.okWide Tryz.prog w .any base 24 v) (h : DataW.Trod enc Tryz.prog w 0 spare held 24 v d p) : ∃ r : Rq, v = .agg #[.string r.op, .string r.user, .string r.feed, .string r.name, .string r.token, .int .i64 r.tx, .int .i64 r.entry, .int .i64 r.after, .int .i64 r.limit, .int .i64 r.before, .bool r.on] := by
  obtain ⟨cs, rfl, hsz⟩ := okWide_struct Tryz.underlying24 hok
  obtain ⟨c0, c1, c2, c3, c4, c5, c6, c7, c8, c9, c10, rfl⟩ := array11 (hsz.trans (by kernel_rfl))
  obtain ⟨fuel, hf⟩ := h
  obtain ⟨xs, n, _, hx, hl, hlen, hff⟩ := DataW.trod_struct Tryz.underlying24 hf
  obtain ⟨y0, y1, y2, y3, y4, y5, y6, y7, y8, y9, y10, rfl⟩ : ∃ y0 y1 y2 y3 y4 y5 y6 y7 y8 y9 y10, xs = [y0, y1, y2, y3, y4, y5, y6, y7, y8, y9, y10] := by
    match xs, hlen with
    | [y0, y1, y2, y3, y4, y5, y6, y7, y8, y9, y10], _ => exact ⟨y0, y1, y2, y3, y4, y5, y6, y7, y8, y9, y10, rfl⟩
  have e1 : Tryz.prog.cellsOf 3 = 1 := by kernel_rfl
  have e2 : Tryz.prog.cellsOf 9 = 1 := by kernel_rfl
  have e3 : Tryz.prog.cellsOf 4 = 1 := by kernel_rfl
  have g0 := hff 0 _ rfl
  have g1 := hff 1 _ rfl
  have g2 := hff 2 _ rfl
  have g3 := hff 3 _ rfl
  have g4 := hff 4 _ rfl
  have g5 := hff 5 _ rfl
  have g6 := hff 6 _ rfl
  have g7 := hff 7 _ rfl
  have g8 := hff 8 _ rfl
  have g9 := hff 9 _ rfl
  have g10 := hff 10 _ rfl
  simp [Value.cells, e1, e2, e3] at g0 g1 g2 g3 g4 g5 g6 g7 g8 g9 g10
  obtain ⟨x0, q0, _⟩ := DataW.trod_string Tryz.underlying9 g0
  obtain ⟨x1, q1, _⟩ := DataW.trod_string Tryz.underlying9 g1
  obtain ⟨x2, q2, _⟩ := DataW.trod_string Tryz.underlying9 g2
  obtain ⟨x3, q3, _⟩ := DataW.trod_string Tryz.underlying9 g3
  obtain ⟨x4, q4, _⟩ := DataW.trod_string Tryz.underlying9 g4
  obtain ⟨x5, q5, _⟩ := DataW.trod_int Tryz.underlying3 g5
  obtain ⟨x6, q6, _⟩ := DataW.trod_int Tryz.underlying3 g6
  obtain ⟨x7, q7, _⟩ := DataW.trod_int Tryz.underlying3 g7
  obtain ⟨x8, q8, _⟩ := DataW.trod_int Tryz.underlying3 g8
  obtain ⟨x9, q9, _⟩ := DataW.trod_int Tryz.underlying3 g9
  obtain ⟨x10, q10, _⟩ := DataW.trod_bool Tryz.underlying4 g10
  simp at q0 q1 q2 q3 q4 q5 q6 q7 q8 q9 q10
  subst q0
  subst q1
  subst q2
  subst q3
  subst q4
  subst q5
  subst q6
  subst q7
  subst q8
  subst q9
  subst q10
  exact ⟨⟨x0, x1, x2, x3, x4, x5, x6, x7, x8, x9, x10⟩, rfl⟩
end
end Go.Proofs.YtlihjmfdnkfmfaaGreatDoor
namespace Go.Proofs.YtlihjmfdnkfmfaaGreatDoor
open Go.RowKit Go.Deep Go.ChangeShapes Go.WideShapes Go.ChangeAt

section
variable {H : Type} {enc : TypeId × Value → H} {P : Program} {w : World} {base : Nat} {spare : Nat → Bool} {held : Bool}
/-- a slice argument, its elements opened at less fuel -/
theorem opens_slice_lt {α : Type} {T : Ty α} {t e : TypeId} (ht : P.underlying t = some (.slice e)) (hsz : P.cellsOf e = T.sz) {N : Nat}
    (hel : ∀ n, n < N → ∀ cs y, DataW.trod enc P w base spare held n e cs = some y → ∃ x, T.R w (fun _ => True) x cs) {v : Value} {y : DataW H × List MemPlace}
    (h : DataW.trod enc P w base spare held N t [v] = some y) : ∃ xs : List α, Sl T w (fun _ => True) v xs := by
  rcases DataW.trod_slice ht h with ⟨h0, rfl⟩ | ⟨a, len, cap, elems, rest, n, rfl, h0, rfl, hb, hl, hm, hlen, hi, _, _⟩
  · obtain rfl : v = .slice none 0 0 := by simpa using h0
    exact ⟨[], Sl.nil none 0⟩
  · obtain rfl : v = .slice (some a) len cap := by simpa using h0
    have hcell : ∀ i, i < len → ∃ x cs, T.R w (fun _ => True) x cs ∧ cs.length = T.sz ∧ ∀ j u, cs[j]? = some u → w.cell? ((a.add (i * T.sz)).add j) = some u := by
      intro i hil
      have h1 := hi i hil
      rw [List.getElem?_eq_getElem (show i < elems.length by omega)] at h1
      obtain ⟨cs, hc, ht'⟩ := Option.bind_eq_some_iff.1 h1
      obtain ⟨x, hx⟩ := hel n (by omega) _ _ ht'
      obtain ⟨_, hlen, hcc⟩ := World.cells?_some hc
      refine ⟨x, cs, hx, T.len hx, fun j u hj => ?_⟩
      have := lt_of_get hj
      rw [hsz] at hcc
      rw [hcc j (by rw [← T.len hx]; exact this)]
      exact hj
    rcases Nat.eq_zero_or_pos len with h00 | hp
    · subst h00
      exact ⟨[], Sl.nil (some a) cap⟩
    · obtain ⟨b, o, rfl⟩ : ∃ b o, a = ⟨b, o, none⟩ := by
        obtain ⟨x, cs, hx, hlc, hc⟩ := hcell 0 hp
        have := hc 0 (cs[0]'(by rw [hlc]; exact T.pos)) (List.getElem?_eq_getElem _)
        rw [Nat.zero_mul] at this
        have e1 : (a.add 0).add 0 = a := by simp [Addr.add]
        rw [e1] at this
        obtain ⟨b, o, sp⟩ := a
        refine ⟨b, o, ?_⟩
        cases sp with
        | none => rfl
        | some q =>
          exfalso
          unfold World.cell? at this
          split at this <;> simp at this
      have hbuild : ∀ l, l ≤ len → ∃ (xs : List α) (cs : List Value), xs.length = l ∧ Chunks T w (fun _ => True) xs cs ∧ ∀ j u, cs[j]? = some u → w.cell? ⟨b, o + j, none⟩ = some u := by
        intro l
        induction l with
        | zero => intro _; exact ⟨[], [], rfl, rfl, fun j u hj => by simp at hj⟩
        | succ l ih =>
          intro hll
          obtain ⟨xs, cs, h1, h2, h3⟩ := ih (by omega)
          obtain ⟨x, c, h4, h5, h6⟩ := hcell l (by omega)
          refine ⟨xs ++ [x], cs ++ c, by simp [h1], h2.append (Chunks.single h4), fun j u hj => ?_⟩
          have hcl : cs.length = l * T.sz := by rw [h2.len, h1]
          rcases Nat.lt_or_ge j cs.length with hj2 | hj2
          · rw [List.getElem?_append_left hj2] at hj
            exact h3 j u hj
          · rw [List.getElem?_append_right hj2] at hj
            have := h6 _ _ hj
            rw [Addr.add_lit, Addr.add_lit] at this
            rw [show o + j = o + l * T.sz + (j - cs.length) by omega]
            exact this
      obtain ⟨xs, cs, h1, h2, h3⟩ := hbuild len (Nat.le_refl _)
      exact ⟨xs, .inr ⟨b, o, cap, by rw [h1], trivial, by omega, by simpa [maxLen] using hm, cs, h2, h3⟩⟩
end

section
variable {H : Type} {enc : TypeId × Value → H} {w : World} {base : Nat} {spare : Nat → Bool} {held : Bool}
end
end Go.Proofs.YtlihjmfdnkfmfaaGreatDoor
namespace Go.Proofs.YtlihjmfdnkfmfaaGreatDoor
open Go.RowKit Go.Deep Go.ChangeShapes Go.WideShapes Go.ChangeAt

def byTy : Ty UInt8 where
  sz := 1
  pos := by decide
  R := fun _ _ x cs => cs = [.int .u8 (x.toNat : Int)]
  len := by rintro w F x cs rfl; rfl
  one := by rintro w F x cs rfl u hu; rw [List.mem_singleton.1 hu]; rfl
  mono := fun _ h => h
  frame := fun _ h => h
  bound := fun h => h
theorem by_chunks {w : World} {F : Nat → Prop} : ∀ {xs : List UInt8} {cs : List Value}, Chunks byTy w F xs cs → cs = Lib.byteCells xs
  | [], _, h => h
  | x :: xs, _, ⟨c, r, e, h1, h2⟩ => by
    have h1' : c = [.int .u8 (x.toNat : Int)] := h1
    rw [e, by_chunks h2, h1']
    rfl
theorem by_bsl {w : World} {F : Nat → Prop} {v : Value} {xs : List UInt8} (h : Sl byTy w F v xs) : BSl w F v ⟨xs.toArray⟩ := by
  have hz : (⟨xs.toArray⟩ : ByteArray).size = xs.length := by simp [ByteArray.size]
  rcases h with ⟨rfl, A, c, rfl⟩ | ⟨b, o, c, rfl, hF, hlc, hcm, cs, hch, hcell⟩
  · exact .inr ⟨rfl, A, c, rfl⟩
  · refine .inl ⟨b, o, c, by rw [hz], hF, fun i hi => ?_⟩
    rw [hz] at hi
    exact hcell i _ (by rw [by_chunks hch]; simp [Lib.byteCells, hi]; rfl)
section
variable {H : Type} {enc : TypeId × Value → H} {w : World} {base : Nat} {spare : Nat → Bool} {held : Bool}
theorem u8_cells : Tryz.prog.cellsOf 5 = 1 := by kernel_rfl
set_option maxRecDepth 100000 in
/-- an argument []byte: a list of bytes in memory -/
theorem bytes_arg {v : Value} {d : DataW H} {p : List MemPlace} (hok : Value.okWide Tryz.prog w .any base 22 v) (h : DataW.Trod enc Tryz.prog w 0 spare held 22 v d p) : ∃ l : List UInt8, BSl w (fun _ => True) v ⟨l.toArray⟩ := by
  obtain ⟨a0, len0, cap0, rfl⟩ := okWide_slice Tryz.underlying22 hok
  obtain ⟨fuel, hf⟩ := h
  obtain ⟨xs, hx⟩ := opens_slice_lt (T := byTy) Tryz.underlying22 u8_cells (fun n _ cs y h => by
    obtain ⟨k, e0, _, hwf⟩ := DataW.trod_int Tryz.underlying5 h
    simp [Lit.wf] at hwf
    have h0 : (0 : Int) ≤ k := hwf.1
    have h1 : k ≤ 255 := hwf.2
    refine ⟨UInt8.ofNat k.toNat, ?_⟩
    have : (UInt8.ofNat k.toNat).toNat = k.toNat := by rw [UInt8.toNat_ofNat']; omega
    show cs = [.int .u8 ((UInt8.ofNat k.toNat).toNat : Int)]
    rw [e0, this, show ((k.toNat : Nat) : Int) = k by omega]) hf
  exact ⟨xs, by_bsl hx⟩
end
end Go.Proofs.YtlihjmfdnkfmfaaGreatDoor
