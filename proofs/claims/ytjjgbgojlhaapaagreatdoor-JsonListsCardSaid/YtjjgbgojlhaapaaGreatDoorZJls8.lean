/- Parts of the proof: Uq, Jw, Re. -/
import Derived.Test.YtjjgbgojlhaapaaGreatDoorZJls5
import Derived.Test.YtjjgbgojlhaapaaGreatDoorZJls7
import Derived.Lib.TrimU
import Derived.Lib.ItoaLen
namespace Go.Proofs.YtjjgbgojlhaapaaGreatDoor
open Go.RowKit Go.Lib

/-! what the reader's methods keep -/
def Mono (s : ByteArray) (x y : St) : Prop := x.p ≤ y.p ∧ (x.p ≤ s.size → y.p ≤ s.size)
theorem Mono.refl (s : ByteArray) (x : St) : Mono s x x := ⟨Nat.le_refl _, id⟩
theorem Mono.trans {s : ByteArray} {x y z : St} (h : Mono s x y) (k : Mono s y z) : Mono s x z := ⟨Nat.le_trans h.1 k.1, fun hx => k.2 (h.2 hx)⟩
theorem fail_p (x : St) (e : Int) : (x.fail e).p = x.p := by unfold St.fail; split <;> rfl
theorem Mono.fail {s : ByteArray} {x y : St} (h : Mono s x y) (e : Int) : Mono s x (y.fail e) := by
  have := fail_p y e
  unfold Mono at *; rw [this]; exact h
theorem next_mono (s : ByteArray) (x : St) : Mono s x (x.next s).2 := by
  unfold St.next
  split
  · exact Mono.refl _ _
  · split
    · exact (Mono.refl _ _).fail _
    · exact ⟨by simp [St.step], by simp [St.step]; omega⟩
theorem twants_mono (s : ByteArray) (x : St) (c : UInt8) : Mono s x (x.twants s c) := by
  unfold St.twants
  split
  · exact (next_mono s x).fail _
  · exact next_mono s x
theorem four_mono (s : ByteArray) : ∀ (k : Nat) (n : Int) (x : St), Mono s x (fourB s k n x).2
  | 0, _, x => Mono.refl s x
  | k + 1, n, x => by
    simp only [fourB]
    split
    · exact (next_mono s x).fail _
    · exact (next_mono s x).trans (four_mono s k _ _)
theorem unit_mono (s : ByteArray) (x : St) : Mono s x (unitB s x).2 := by
  unfold unitB
  simp only
  have h1 := four_mono s 4 0 x
  generalize fourB s 4 0 x = r at *
  split
  · exact h1
  · split
    · exact h1.fail _
    · have h2 := (h1.trans (twants_mono s r.2 92)).trans (twants_mono s _ 117)
      have h3 := h2.trans (four_mono s 4 0 _)
      split
      · exact h3.fail _
      · exact h3
theorem escape_mono (s : ByteArray) (x : St) : Mono s x (escapeB s x).2 := by
  unfold escapeB
  simp only
  have h1 := next_mono s x
  generalize x.next s = r at *
  split
  · exact h1
  · split
    · exact h1.trans (unit_mono s _)
    · split
      · exact h1
      · split
        · exact h1.fail _
        · exact h1
theorem sign_mono (s : ByteArray) (x : St) : Mono s x (signB s x).2 := by
  unfold signB
  split
  · exact (Mono.refl _ _).fail _
  · rename_i h
    have := dec_w s x.p (by omega)
    split
    · exact (Mono.refl _ _).fail _
    · exact ⟨by simp, fun _ => by simp; omega⟩
theorem sign_step {s : ByteArray} {x : St} (h0 : x.e = 0) (h : (signB s x).2.e = 0) : x.p + 1 ≤ (signB s x).2.p ∧ (signB s x).2.p ≤ s.size := by
  unfold signB at *
  split at h
  · simp [St.fail, h0] at h
  · rename_i h1
    have := dec_w s x.p (by omega)
    split at h
    · simp [St.fail, h0] at h
    · rename_i h2
      rw [if_neg h1, if_neg h2]
      simp only; omega

def unqLoop (s : ByteArray) : Nat → List UInt8 → St → List UInt8 × Nat × Int
  | 0, _, x => ([], 0, x.e)
  | f + 1, acc, x =>
    if x.e ≠ 0 then ([], 0, x.e)
    else if (signB s x).2.e ≠ 0 then ([], 0, (signB s x).2.e)
    else if (signB s x).1 = 34 then (acc, (signB s x).2.p, 0)
    else if (signB s x).1 = 92 then unqLoop s f (acc ++ Lib.encodeRune (escapeB s (signB s x).2).1) (escapeB s (signB s x).2).2
    else unqLoop s f (acc ++ Lib.encodeRune (signB s x).1) (signB s x).2
/-- Unquote, at a place of the text -/
def unquoteB (s : ByteArray) (at' : Nat) : List UInt8 × Nat × Int := unqLoop s (s.size + 1 - at') [] (St.twants s ⟨at', 0⟩ 34)

theorem rd_base {T : TypeId} {R p b : Nat} {s : ByteArray} {e : Int} {w w' : World} (h : RdAt T R s p e w) (hb : Below b w w') (hR : R < b) : RdAt T R s p e w' := (hb.block R hR).trans h
theorem sb_grown {B b R : Nat} {bs : List Value} {w w' : World} (h : Sb B b bs w) (hg : w.grownBy w' (some R)) (hR : R < B) : Sb B b bs w' := by
  have key : ∀ p, Lib.BuilderAt 80 5 B b p bs w → Lib.BuilderAt 80 5 B b p bs w' := by
    rintro p ⟨hB, v, hb, ho, hne⟩
    refine ⟨hB, v, (hg.block b (Array.getElem?_eq_some_iff.1 hb).1 (by intro e; have := Option.some.inj e; omega)).trans hb, World.ownsRow.kept ho hg ?_, hne⟩
    rcases hv : v.ownBlock with _ | j
    · exact .inl rfl
    · right; intro e; have := (ho.lt j hv).1; have := Option.some.inj e; omega
  exact h.imp (key _) (key _)
theorem dec_rune (s : ByteArray) (p : Nat) : (dec s p).1 ≤ 1114111 := by
  unfold dec Lib.decodeGo
  split
  · decide
  · exact Lib.rune_le _ _
theorem rune_bounds (s : ByteArray) (x : St) : ((signB s x).1 : Int) ≤ 1114111 := by
  have := dec_rune s x.p
  unfold signB
  split
  · show ((0 : Nat) : Int) ≤ 1114111; decide
  · split
    · show ((0 : Nat) : Int) ≤ 1114111; decide
    · simp only; omega
theorem escIn_bounds (c : Int) : ∀ l : List (Int × Int), (∀ q ∈ l, 0 ≤ q.1 ∧ q.1 ≤ 127) → 0 ≤ escIn l c ∧ escIn l c ≤ 127
  | [], _ => by simp [escIn]
  | (a, b) :: l, h => by
    have h1 := h (a, b) (List.mem_cons_self)
    have h2 := escIn_bounds c l (fun q hq => h q (List.mem_cons_of_mem _ hq))
    simp only [escIn]
    split
    · exact h1
    · exact h2
theorem unit_bounds (s : ByteArray) (x : St) : 0 ≤ (unitB s x).1 ∧ (unitB s x).1 ≤ 2147483647 := by
  unfold unitB
  simp only
  have h1 := fourB_range s 4 0 x (by omega) (by omega) (by decide)
  generalize fourB s 4 0 x = r at *
  split
  · omega
  · split
    · exact ⟨Int.le_refl 0, by show (0 : Int) ≤ _; decide⟩
    · have h2 := fourB_range s 4 0 ((r.2.twants s 92).twants s 117) (by omega) (by omega) (by decide)
      simp only
      omega
theorem esc_bounds (s : ByteArray) (x : St) : 0 ≤ (escapeB s x).1 ∧ (escapeB s x).1 ≤ 2147483647 := by
  unfold escapeB
  simp only
  generalize x.next s = r at *
  split
  · exact ⟨Int.le_refl 0, by show (0 : Int) ≤ _; decide⟩
  · split
    · exact unit_bounds _ _
    · split
      · exact ⟨by show (0 : Int) ≤ 47; decide, by show (47 : Int) ≤ _; decide⟩
      · split
        · exact ⟨Int.le_refl 0, by show (0 : Int) ≤ _; decide⟩
        · have := escIn_bounds (r.1.toNat : Int) letterTab (by decide)
          unfold escV
          simp only
          omega
theorem bel_drewN' {B : Nat} {w W : World} (h : Below B w W) (n : Nat) : Below B w (W.drewN n) := ⟨h.os, h.tape, h.output, h.size, h.block⟩
/-- what stands at a round's head -/
def URel (Q b : Nat) (s : ByteArray) (w : World) (fin : List UInt8 × Nat × Int) (gg : Nat) (wr : World) : Prop := ∃ (f : Nat) (acc : List UInt8) (x : St),
  f ≤ gg ∧ (x.e = 0 → s.size + 1 - x.p ≤ f) ∧ x.p ≤ s.size ∧ acc.length ≤ 4 * x.p ∧ RdAt 124 Q s x.p x.e wr ∧ Sb b b (Lib.byteCells acc) wr ∧ Below Q w wr ∧ b ≤ wr.heap.size ∧ unqLoop s f acc x = fin
theorem URel.write {Q b : Nat} {s : ByteArray} {w w1 w2 : World} {fin : List UInt8 × Nat × Int} {gg f : Nat} {acc : List UInt8} {x : St} {r : Int} (hQb : Q < b)
    (hf : f ≤ gg) (h1 : s.size + 1 - x.p ≤ f) (h2 : x.p ≤ s.size) (h3 : acc.length + 4 ≤ 4 * x.p) (h4 : RdAt 124 Q s x.p x.e w1) (h5 : Below Q w w1) (h6 : b ≤ w1.heap.size) (h7 : unqLoop s f (acc ++ Lib.encodeRune r) x = fin)
    (hp : SbPost b b (Lib.byteCells acc ++ Lib.runeCells r) w1 w2) : URel Q b s w fin gg w2 := by
  have hl := Lib.runeCells_le r
  rw [Lib.runeCells_length] at hl
  refine ⟨f, _, x, hf, fun _ => h1, h2, by rw [List.length_append]; omega, rd_base h4 hp.2.1 hQb, ?_, h5.trans (hp.2.1.mono (Nat.le_of_lt hQb)), Nat.le_trans h6 hp.2.1.size, h7⟩
  have e : Lib.byteCells (acc ++ Lib.encodeRune r) = Lib.byteCells acc ++ Lib.runeCells r := by rw [← Lib.byteCells_encodeRune]; simp [Lib.byteCells]
  rw [e]; exact hp.1
set_option maxRecDepth 100000 in
set_option maxHeartbeats 4000000 in
theorem unquote_any (s : ByteArray) (at' : Nat) (w : World) (hs : s.size ≤ 1000000) (hat : at' ≤ s.size) (hT : Lib.Utf8Tabs 2 3 w) :
    Calls Tryz.prog 70 #[.string s, .int .i64 at'] w fun z w' => z = .returned (.tuple #[.string ⟨(unquoteB s at').1.toArray⟩, .int .i64 (unquoteB s at').2.1, .int .i64 (unquoteB s at').2.2]) ∧ Below w.heap.size w w' := by
  generalize hfin : unquoteB s at' = fin at *
  have HFIN := Lib.hid hfin
  clear hfin
  have d1 : decide ((at' : Int) < 0) = false := by simp
  have d2 : decide ((s.size : Int) < (at' : Int)) = false := by simp; omega
  have hA : Below w.heap.size w (w.alloc (.cells #[.string s, .int .i64 at', .int .i64 0] 124)) := bel_alloc (Below.refl _ _) _
  have hrd : RdAt 124 w.heap.size s at' 0 (w.alloc (.cells #[.string s, .int .i64 at', .int .i64 0] 124)) := heap_alloc_new w _
  have htw := twants_any w.heap.size s ⟨at', 0⟩ 34 _ hs hrd
  rw [show ((34 : UInt8).toNat : Int) = 34 from rfl] at htw
  have HA := Lib.hid hA; have HTW := Lib.hid htw; have HT := Lib.hid hT
  clear hA hrd htw hT
  go_enter Tryz.func70, Tryz.ntmps70
  go_wp2_with fail
  refine Calls.mono HTW.out ?_
  rintro e w1 ⟨rfl, hp1⟩
  generalize hQ : w.heap.size = Q at *
  have HQ := Lib.hid hQ
  clear hQ
  have hmono := twants_mono s ⟨at', 0⟩ 34
  have hQ1 : Q < w1.heap.size := hp1.1.cells.2.2.2.2.2.2
  have hB1 : Below Q w w1 := by
    have h1 : Below Q w (w.alloc (.cells #[.string s, .int .i64 at', .int .i64 0] 124)) := HA.out
    exact h1.grown hp1.2 (by rw [← HQ.out]; exact h1.size) (fun j hj => by have := Option.some.inj hj; omega)
  unfold unquoteB at HFIN
  generalize St.twants s ⟨at', 0⟩ 34 = x1 at *
  have hbW : Below w1.heap.size w1 (w1.alloc (.cells #[.pointer none, .slice none 0 0] 80)) := bel_alloc (Below.refl _ _) _
  have hfr : Sb w1.heap.size w1.heap.size [] (w1.alloc (.cells #[.pointer none, .slice none 0 0] 80)) := Lib.fresh_isBuilder _ _ w1
  have hU : URel Q w1.heap.size s w fin (s.size + 1 - at') (w1.alloc (.cells #[.pointer none, .slice none 0 0] 80)) :=
    ⟨s.size + 1 - at', [], x1, Nat.le_refl _, fun _ => by have := hmono.1; simp only at this; omega, hmono.2 hat, by simp, hp1.1.below hbW, hfr, hB1.trans (hbW.mono (Nat.le_of_lt hQ1)), hbW.size, HFIN.out⟩
  have HU := Lib.hid hU; have HQB := Lib.hid hQ1
  have hT0 : Lib.Utf8Tabs 2 3 w := HT.out
  have htabs : ∀ W, Below Q w W → Lib.Utf8Tabs 2 3 W := fun W hW => Utf8Tabs_below hT0 (by rw [HQ.out]; exact hW)
  have HTB := Lib.hid htabs
  clear hU hfr hbW hB1 hp1 hmono hT0 htabs
  clear hQ1
  go_wp2_with fail
  generalize hb : w1.heap.size = b at *
  clear hb
  go_loopg [] (s.size + 1 - at') (fun gg wr => Aside (URel Q b s w fin gg wr))
  case atStart => exact HU.out
  case round =>
    have HQW : ∀ W : World, Below Q w W → Q ≤ W.heap.size := fun W h => by have := h.size; rw [HQ.out] at this; exact this
    obtain ⟨f, acc, x, hfg, hfs, hxs, hacc, hR, hSb, hB, hbw, hfin⟩ := hrel
    obtain ⟨l0, l1, l2, _, _, _, hRw⟩ := hR.cells
    have HR := Lib.hid hR; have HSB := Lib.hid hSb; have HB := Lib.hid hB; have HBW := Lib.hid hbw; have HF := Lib.hid hfin
    clear hR hSb hB hbw hfin
    by_cases he : x.e = 0
    · have d3 : (x.e == 0) = true := by simpa using he
      have hfs := hfs he
      obtain ⟨g, rfl⟩ : ∃ g, f = g + 1 := ⟨f - 1, by omega⟩
      have hsg := sign_any Q s x wr hs (HTB.out _ HB.out) HR.out
      have hstep := fun h => sign_step (s := s) (x := x) he h
      have hr0 := rune_bounds s x
      have hsm := sign_mono s x
      have heq : unqLoop s (g + 1) acc x = (if x.e ≠ 0 then ([], 0, x.e)
        else if (signB s x).2.e ≠ 0 then ([], 0, (signB s x).2.e)
        else if (signB s x).1 = 34 then (acc, (signB s x).2.p, 0)
        else if (signB s x).1 = 92 then unqLoop s g (acc ++ Lib.encodeRune (escapeB s (signB s x).2).1) (escapeB s (signB s x).2).2
        else unqLoop s g (acc ++ Lib.encodeRune (signB s x).1) (signB s x).2) := rfl
      rw [if_neg (by simpa using he)] at heq
      have HSG := Lib.hid hsg; have HEQ := Lib.hid heq
      clear hsg heq he
      generalize signB s x = r at *
      obtain ⟨c, z⟩ := r
      simp only at HSG HEQ hstep hr0 hsm
      go_wp2_with fail
      refine Calls.mono HSG.out ?_
      rintro e w2 ⟨rfl, hp2⟩
      have hB2 : Below Q w w2 := HB.out.grown hp2.2 (HQW _ HB.out) (fun j hj => by have := Option.some.inj hj; omega)
      have hS2 := sb_grown HSB.out hp2.2 HQB.out
      have hW2 : b ≤ w2.heap.size := Nat.le_trans HBW.out hp2.2.size
      obtain ⟨l0, l1, l2, _, _, _, hRw2⟩ := hp2.1.cells
      have HR2 := Lib.hid hp2.1; have HB2 := Lib.hid hB2; have HSB2 := Lib.hid hS2; have HW2 := Lib.hid hW2
      clear hp2 hB2 hS2 hW2
      by_cases he2 : z.e = 0
      · have d4 : (z.e != 0) = false := by simpa using he2
        have hst := hstep he2
        have heq := HEQ.out
        rw [if_neg (by simpa using he2)] at heq
        by_cases h34 : c = 34
        · subst h34
          rw [if_pos rfl] at heq
          have hq : fin = (acc, z.p, 0) := by rw [← HF.out]; exact heq
          have HEQ2 := Lib.hid hq
          clear heq he2 HEQ hq
          go_wp2_with fail
          refine PrintLast.wp_region_last_drew (S := fun w' => (RdAt 124 Q s z.p z.e w' ∧ Below Q w w') ∧ w'.cell? ⟨Q, 1, none⟩ = some (.int .i64 z.p)) (ds := []) (by kernel_rfl) ?_ (fun hHeld => ?_)
          · exact ⟨⟨HR2.out, HB2.out.drew⟩, by simpa using l1⟩
          refine PrintLast.wpAnyLast_take (i := 1) (v := ?_) rfl (by kernel_rfl) (by kernel_rfl) (by kernel_rfl) (by kernel_rfl) (by kernel_rfl) (fun _ _ _ h => h) (Or.inl ⟨by kernel_rfl, ?_⟩) (by assumption) ?_
          rotate_left
          · (intro w hSw; (try dsimp only at hSw); go_simp; try (with_reducible rfl))
          try simp only [List.getElem_toArray, List.getElem_cons_zero, List.getElem_cons_succ, Act.put, List.setIfInBounds_toArray, List.set_cons_zero, List.set_cons_succ]
          refine PrintLast.wpAnyLast_take (i := 2) (v := ?_) rfl (by kernel_rfl) (by kernel_rfl) (by kernel_rfl) (by kernel_rfl) (by kernel_rfl) (fun _ _ _ h => h) (Or.inl ⟨by kernel_rfl, ?_⟩) (by assumption) ?_
          rotate_left
          · (intro w hSw; (try dsimp only at hSw); go_simp; try (with_reducible rfl))
          try simp only [List.getElem_toArray, List.getElem_cons_zero, List.getElem_cons_succ, Act.put, List.setIfInBounds_toArray, List.set_cons_zero, List.set_cons_succ]
          refine PrintLast.wpAnyLast_take (i := 3) (v := ?_) rfl (by kernel_rfl) (by kernel_rfl) (by kernel_rfl) (by kernel_rfl) (by kernel_rfl) (fun _ _ _ h => h) (Or.inl ⟨by kernel_rfl, ?_⟩) (by assumption) ?_
          rotate_left
          · (intro w hSw; (try dsimp only at hSw); go_simp; try (with_reducible rfl))
          try simp only [List.getElem_toArray, List.getElem_cons_zero, List.getElem_cons_succ, Act.put, List.setIfInBounds_toArray, List.set_cons_zero, List.set_cons_succ]
          refine PrintLast.wpAnyLast_take (i := 4) (v := ?_) rfl (by kernel_rfl) (by kernel_rfl) (by kernel_rfl) (by kernel_rfl) (by kernel_rfl) (fun _ _ _ h => h) (Or.inl ⟨by kernel_rfl, ?_⟩) (by assumption) ?_
          rotate_left
          · (intro w hSw; (try dsimp only at hSw); go_simp; try (with_reducible rfl))
          try simp only [List.getElem_toArray, List.getElem_cons_zero, List.getElem_cons_succ, Act.put, List.setIfInBounds_toArray, List.set_cons_zero, List.set_cons_succ]
          have HK := Lib.hid hHeld
          clear hHeld
          refine PrintLast.wpAnyLast_ready (rs := [0]) (by kernel_rfl) (by simp) ?_
          refine PrintLast.AllReadyL.cons rfl (by decide) (fun K hK => ?_) PrintLast.AllReadyL.nil
          rw [if_pos (by kernel_rfl)]
          go_simp
          go_at_call 34; refine (Tryz.Builder_String_any b b acc w2.drew (show Sb b b (Lib.byteCells acc) w2.drew from HSB2.out) (show b ≤ w2.drew.heap.size from HW2.out)).mono ?_; rintro e w5 ⟨rfl, hbw5⟩
          go_wp2_with fail
          refine hK.out _ _ ?_ (fun hHeld => ?_)
          · exact ⟨⟨rd_base HK.out.1.1 hbw5 HQB.out, HK.out.1.2.trans (hbw5.mono (Nat.le_of_lt HQB.out))⟩, (rd_base HK.out.1.1 hbw5 HQB.out).cells.2.1⟩
          clear hK K
          try simp only [List.getElem_toArray, List.getElem_cons_zero, List.getElem_cons_succ, Act.put, List.setIfInBounds_toArray, List.set_cons_zero, List.set_cons_succ]
          clear HK
          refine PrintLast.wpAnyLast_take (i := 5) (v := ?_) rfl (by kernel_rfl) (by kernel_rfl) (by kernel_rfl) (by kernel_rfl) (by kernel_rfl) (fun _ _ _ h => h) (Or.inl ⟨by kernel_rfl, ?_⟩) (by assumption) ?_
          rotate_left
          · (intro w hSw; (try dsimp only at hSw); go_simp; try (with_reducible rfl))
          try simp only [List.getElem_toArray, List.getElem_cons_zero, List.getElem_cons_succ, Act.put, List.setIfInBounds_toArray, List.set_cons_zero, List.set_cons_succ]
          refine PrintLast.wpAnyLast_take (i := 6) (v := ?_) rfl (by kernel_rfl) (by kernel_rfl) (by kernel_rfl) (by kernel_rfl) (by kernel_rfl) (fun _ _ _ h => h) (Or.inl ⟨by kernel_rfl, ?_⟩) (by assumption) ?_
          rotate_left
          · (intro w hSw; (try dsimp only at hSw); go_simp; try (with_reducible rfl))
          try simp only [List.getElem_toArray, List.getElem_cons_zero, List.getElem_cons_succ, Act.put, List.setIfInBounds_toArray, List.set_cons_zero, List.set_cons_succ]
          refine PrintLast.wpAnyLast_take (i := 7) (v := ?_) rfl (by kernel_rfl) (by kernel_rfl) (by kernel_rfl) (by kernel_rfl) (by kernel_rfl) (fun _ _ _ h => h) (Or.inl ⟨by kernel_rfl, ?_⟩) (by assumption) ?_
          rotate_left
          · (intro w hSw; (try dsimp only at hSw); go_simp; try (with_reducible rfl))
          try simp only [List.getElem_toArray, List.getElem_cons_zero, List.getElem_cons_succ, Act.put, List.setIfInBounds_toArray, List.set_cons_zero, List.set_cons_succ]
          refine PrintLast.wpAnyLast_done (by kernel_rfl) ?_ _
          obtain ⟨⟨hR5, hB5⟩, _⟩ := hHeld
          go_wp2_with fail
          go_ret3
          rw [HEQ2.out, HQ.out]
          exact ⟨rfl, hB5⟩
        · have d5 : ((c : Int) == 34) = false := by simp; omega
          rw [if_neg h34] at heq
          by_cases h92 : c = 92
          · subst h92
            rw [if_pos rfl] at heq
            have hes := escape_any Q s z w2 hs HR2.out
            have hem := escape_mono s z
            have heb := esc_bounds s z
            have hq : unqLoop s g (acc ++ Lib.encodeRune (escapeB s z).1) (escapeB s z).2 = fin := by rw [← HF.out]; exact heq.symm
            have HEQ2 := Lib.hid hq; have HES := Lib.hid hes
            clear heq hes he2 h34 hq HEQ
            generalize escapeB s z = q at *
            obtain ⟨r, y⟩ := q
            simp only at *
            go_wp2_with fail
            refine Calls.mono HES.out ?_
            rintro e w3 ⟨rfl, hp3⟩
            have hB3 : Below Q w w3 := HB2.out.grown hp3.2 (HQW _ HB2.out) (fun j hj => by have := Option.some.inj hj; omega)
            have hS3 := sb_grown HSB2.out hp3.2 HQB.out
            have hW3 : b ≤ w3.heap.size := Nat.le_trans HW2.out hp3.2.size
            have hwr := writeRune_any b b _ r (by omega) heb.2 w3 hS3 (by rw [Lib.byteCells_length]; omega) hW3
            have HR3 := Lib.hid hp3.1; have HB3 := Lib.hid hB3; have HW3 := Lib.hid hW3; have HWR := Lib.hid hwr
            clear hp3 hB3 hS3 hW3 hwr
            go_wp2_with fail
            refine Calls.mono HWR.out ?_
            rintro e w4 ⟨⟨n4, rfl⟩, hp4⟩
            have hUU := URel.write (gg := g) HQB.out (Nat.le_refl g) (by have := hem.1; omega) (hem.2 hst.2) (by have := hem.1; omega) HR3.out HB3.out HW3.out HEQ2.out hp4
            have HUU := Lib.hid hUU
            clear hUU hp4
            go_wp2_with fail
            go_roundg g
            case measure => omega
            case rel => exact HUU.out
          · have d6 : ((c : Int) == 92) = false := by simp; omega
            rw [if_neg h92] at heq
            have hwr := writeRune_any b b _ (c : Int) (by omega) (by omega) w2 HSB2.out (by rw [Lib.byteCells_length]; omega) HW2.out
            have hq : unqLoop s g (acc ++ Lib.encodeRune (c : Int)) z = fin := by rw [← HF.out]; exact heq.symm
            have HEQ2 := Lib.hid hq; have HWR := Lib.hid hwr
            clear heq he2 h34 h92 hwr hq HEQ
            go_wp2_with fail
            refine Calls.mono HWR.out ?_
            rintro e w4 ⟨⟨n4, rfl⟩, hp4⟩
            have hUU := URel.write (gg := g) HQB.out (Nat.le_refl g) (by omega) hst.2 (by omega) HR2.out HB2.out HW2.out HEQ2.out hp4
            have HUU := Lib.hid hUU
            clear hUU hp4
            go_wp2_with fail
            go_roundg g
            case measure => omega
            case rel => exact HUU.out
      · have d4 : (z.e != 0) = true := by simpa using he2
        have heq := HEQ.out
        rw [if_pos (by simpa using he2)] at heq
        have HEQ := Lib.hid heq
        clear heq
        have hfin2 : ∀ g', unqLoop s g' acc z = fin := by
          intro g'
          rw [← HF.out, HEQ.out]
          cases g' with
          | zero => rfl
          | succ g' => simp only [unqLoop]; rw [if_pos (by simpa using he2)]
        have HF2 := Lib.hid hfin2; have HNE := Lib.hid he2
        clear hfin2 he2
        go_wp2_with fail
        go_roundg g
        case measure => omega
        case rel => exact ⟨g, acc, z, Nat.le_refl _, fun h => absurd h HNE.out, hsm.2 hxs, by have := hsm.1; omega, HR2.out, HSB2.out, HB2.out, HW2.out, HF2.out _⟩
    · have d3 : (x.e == 0) = false := by simpa using he
      have hfx : fin = ([], 0, x.e) := by
        rw [← HF.out]
        cases f with
        | zero => rfl
        | succ f => simp only [unqLoop]; rw [if_pos (by simpa using he)]
      subst hfx
      clear he
      go_wp2_with fail
      go_quiet (fail)
      go_wp2_with fail
      go_ret3
      rw [HQ.out]
      exact ⟨rfl, bel_drewN' HB.out _⟩
end Go.Proofs.YtjjgbgojlhaapaaGreatDoor
namespace Go.Proofs.YtjjgbgojlhaapaaGreatDoor
open Go.RowKit Go.Lib

def numV (n : Int) : JV := .mk 4 n ⟨#[]⟩ [] []
def wordV (s : ByteArray) : JV := .mk 5 0 s [] []
def numC (n : Int) : List Value := [.int .i64 4, .int .i64 n, .string ⟨#[]⟩, .slice none 0 0, .slice none 0 0]
theorem one_wordV {s : ByteArray} (h : shortB s = true) : oneB (wordV s) = true := by
  have : badK (.mk 5 0 s [] []) = false := by simp [badK, JV.k, JV.n, JV.s, JV.l, JV.m]
  simp [oneB, this, membersB, rangeB, wordV, JV.n, JV.s, JV.m, h]
theorem may_succ (d : Nat) (x : JV) : mayJ (d + 1) x = (oneB x && x.l.all (mayJ d) && x.m.all fun p => mayJ d p.2) := rfl
theorem may_wordV {d : Nat} {s : ByteArray} (h : shortB s = true) : mayJ (d + 1) (wordV s) = true := by
  rw [may_succ, one_wordV h]; rfl
theorem may_wordV_iff {d : Nat} {s : ByteArray} : mayJ (d + 1) (wordV s) = shortB s := by
  rw [may_succ]
  have : badK (.mk 5 0 s [] []) = false := by simp [badK, JV.k, JV.n, JV.s, JV.l, JV.m]
  simp [oneB, this, membersB, rangeB, wordV, JV.n, JV.s, JV.m, JV.l]
end Go.Proofs.YtjjgbgojlhaapaaGreatDoor
namespace Go.Proofs.YtjjgbgojlhaapaaGreatDoor
open Go.RowKit Go.Lib

def zeroV : JV := .mk 0 0 ⟨#[]⟩ [] []
def wordIn (s : ByteArray) : List UInt8 → St → Bool × St
  | [], x => (true, x)
  | c :: r, x => if s.size ≤ x.p then (false, x.fail 2) else if byteAt s x.p ≠ c then (false, x.fail 4) else wordIn s r x.step
def wordB (s : ByteArray) (l : List UInt8) (k : Int) (x : St) : JV × St := (if (wordIn s l x).1 then .mk k 0 ⟨#[]⟩ [] [] else zeroV, (wordIn s l x).2)
def kC (k : Int) : List Value := [.int .i64 k, .int .i64 0, .string ⟨#[]⟩, .slice none 0 0, .slice none 0 0]

/-- a method that hands back a value without parts -/
def VPost (R : Nat) (s : ByteArray) (r : JV × St) (cs : List Value) (w : World) (z : Ending) (w' : World) : Prop := z = .returned (.agg cs.toArray) ∧ RdPost 69 R s r.2.p r.2.e w w'

theorem set5 {w : World} {B : Nat} {T : TypeId} {fz : Nat × Nat} {a0 a1 a2 a3 a4 : Value} (v0 v1 v2 v3 v4 : Value) (h : w.heap[B]? = some (.cells #[a0, a1, a2, a3, a4] T fz)) :
    (((((w.setCell ⟨B, 0, none⟩ v0).setCell ⟨B, 1, none⟩ v1).setCell ⟨B, 2, none⟩ v2).setCell ⟨B, 3, none⟩ v3).setCell ⟨B, 4, none⟩ v4).heap[B]? = some (.cells #[v0, v1, v2, v3, v4] T fz) :=
  heap_setCell_row (heap_setCell_row (heap_setCell_row (heap_setCell_row (heap_setCell_row h))))
theorem RdPost.setB {T : TypeId} {R p B i : Nat} {s : ByteArray} {e : Int} {w w1 : World} (h : RdPost T R s p e w w1) (hB : w.heap.size ≤ B) (hR : R < w.heap.size) (v : Value) : RdPost T R s p e w (w1.setCell ⟨B, i, none⟩ v) := by
  refine ⟨(Below.heap_setCell _ _ _ _ (by show R ≠ B; omega)).trans h.1, ⟨h.2.os, h.2.tape, h.2.output, by simp [World.setCell]; exact h.2.size, fun k hk hne => (Below.heap_setCell _ _ _ _ (by show k ≠ B; omega)).trans (h.2.block k hk hne)⟩⟩
theorem RdPost.set5 {T : TypeId} {R p B : Nat} {s : ByteArray} {e : Int} {w w1 : World} (h : RdPost T R s p e w w1) (hB : w.heap.size ≤ B) (hR : R < w.heap.size) (v0 v1 v2 v3 v4 : Value) :
    RdPost T R s p e w (((((w1.setCell ⟨B, 0, none⟩ v0).setCell ⟨B, 1, none⟩ v1).setCell ⟨B, 2, none⟩ v2).setCell ⟨B, 3, none⟩ v3).setCell ⟨B, 4, none⟩ v4) :=
  ((((h.setB hB hR v0).setB hB hR v1).setB hB hR v2).setB hB hR v3).setB hB hR v4
theorem cells5 {w : World} {B : Nat} {T : TypeId} {a0 a1 a2 a3 a4 : Value} (h : w.heap[B]? = some (.cells #[a0, a1, a2, a3, a4] T (0, 0))) :
    (w.cell? ⟨B, 0, none⟩ = some a0 ∧ w.cell? ⟨B, 1, none⟩ = some a1 ∧ w.cell? ⟨B, 2, none⟩ = some a2 ∧ w.cell? ⟨B, 3, none⟩ = some a3 ∧ w.cell? ⟨B, 4, none⟩ = some a4) ∧
    (w.frozen? ⟨B, 0, none⟩ = false ∧ w.frozen? ⟨B, 1, none⟩ = false ∧ w.frozen? ⟨B, 2, none⟩ = false ∧ w.frozen? ⟨B, 3, none⟩ = false ∧ w.frozen? ⟨B, 4, none⟩ = false) ∧ B < w.heap.size := by
  refine ⟨⟨by rw [Lib.cell_of_heap h]; rfl, by rw [Lib.cell_of_heap h]; rfl, by rw [Lib.cell_of_heap h]; rfl, by rw [Lib.cell_of_heap h]; rfl, by rw [Lib.cell_of_heap h]; rfl⟩, ⟨by simp [World.frozen?, h], by simp [World.frozen?, h], by simp [World.frozen?, h], by simp [World.frozen?, h], by simp [World.frozen?, h]⟩, (Array.getElem?_eq_some_iff.1 h).1⟩
theorem RdPost.keep {T : TypeId} {R p B : Nat} {s : ByteArray} {e : Int} {w w1 : World} {o : Obj} (h : RdPost T R s p e w w1) (hb : w.heap[B]? = some o) (hne : B ≠ R) : w1.heap[B]? = some o :=
  (h.2.block B (Array.getElem?_eq_some_iff.1 hb).1 (by intro e; exact hne (Option.some.inj e))).trans hb
theorem drop_byte {l : ByteArray} {j : Nat} (h : j < l.size) : l.data.toList.drop j = byteAt l j :: l.data.toList.drop (j + 1) := by
  have hj : j < l.data.toList.length := by simpa using h
  rw [List.drop_eq_getElem_cons hj]
  congr 1
  unfold byteAt
  rw [List.getD_eq_getElem?_getD, List.getElem?_eq_getElem hj]; rfl
theorem wordIn_fail {s : ByteArray} {c : UInt8} {r : List UInt8} {y : St} (h : s.size ≤ y.p) : wordIn s (c :: r) y = (false, y.fail 2) := by simp only [wordIn]; rw [if_pos h]
theorem wordIn_bad {s : ByteArray} {c : UInt8} {r : List UInt8} {y : St} (h : ¬ s.size ≤ y.p) (hc : byteAt s y.p ≠ c) : wordIn s (c :: r) y = (false, y.fail 4) := by simp only [wordIn]; rw [if_neg h, if_pos hc]
theorem wordIn_step {s : ByteArray} {c : UInt8} {r : List UInt8} {y : St} (h : ¬ s.size ≤ y.p) (hc : byteAt s y.p = c) : wordIn s (c :: r) y = wordIn s r y.step := by simp only [wordIn]; rw [if_neg h, if_neg (by simpa using hc)]

set_option maxRecDepth 100000 in
set_option maxHeartbeats 4000000 in
theorem word_any (R : Nat) (s l : ByteArray) (k : Int) (x : St) (w : World) (hs : s.size ≤ 1000000) (hl : l.size ≤ 1000) (hx : x.p ≤ 1000001) (h : RdAt 69 R s x.p x.e w) :
    Calls Tryz.prog 49 #[.pointer (some ⟨R, 0, none⟩), .string l, .int .i64 k] w (VPost R s (wordB s l.data.toList k x) (kC (if (wordIn s l.data.toList x).1 then k else 0)) w) := by
  have hR := h.cells.2.2.2.2.2.2
  have hA : Below w.heap.size w (w.alloc (.cells #[.int .i64 0, .int .i64 0, .string ⟨#[]⟩, .slice none 0 0, .slice none 0 0] 28)) := bel_alloc (Below.refl _ _) _
  have hb0 := heap_alloc_new w (.cells #[.int .i64 0, .int .i64 0, .string ⟨#[]⟩, .slice none 0 0, .slice none 0 0] 28)
  have hp0 := RdPost.below h.post hA
  have HB0 := Lib.hid hb0; have HP0 := Lib.hid hp0
  unfold VPost wordB
  generalize hkk : (if (wordIn s l.data.toList x).1 then k else 0) = kk at *
  simp only
  generalize hfin : wordIn s l.data.toList x = fin at *
  have HFIN := Lib.hid hfin; have HKK := Lib.hid hkk
  clear hA hb0 hp0 h hfin hkk
  go_enter Tryz.func49, Tryz.ntmps49
  go_wp2_with fail
  generalize hB : w.heap.size = B at *
  have HBQ := Lib.hid hB
  clear hB
  generalize hn : l.size = n at *
  have HN := Lib.hid hn
  clear hn
  go_loopg [10] n (fun gg s10 wr => ∃ (j : Nat) (y : St), j ≤ n ∧ n - j ≤ gg ∧ s10 = .int .i64 j ∧ y.p + (n - j) ≤ 1001001 ∧ Aside (wordIn s (l.data.toList.drop j) y = fin) ∧ Aside (wr.heap[B]? = some (.cells #[.int .i64 0, .int .i64 0, .string ⟨#[]⟩, .slice none 0 0, .slice none 0 0] 28 (0, 0))) ∧ Aside (RdPost 69 R s y.p y.e w wr))
  case atStart => exact ⟨0, x, Nat.zero_le _, by omega, rfl, by omega, HFIN.out, HB0.out, HP0.out⟩
  case round =>
    obtain ⟨j, y, hj, hgg, rfl, hy, HF, HBB, HR⟩ := hrel
    obtain ⟨l0, l1, l2, _, f1, _, hRw⟩ := HR.out.1.cells
    obtain ⟨⟨b0, b1, b2, b3, b4⟩, ⟨g0, g1, g2, g3, g4⟩, hBw⟩ := cells5 HBB.out
    have hRB : R < B := hR
    by_cases hlt : j < n
    · have hltz : (j : Int) < (n : Int) := by omega
      have hjl : j < l.size := by have := HN.out; omega
      have hdr := drop_byte hjl
      have hgl := get_byte hjl
      have hj0 : (0 : Int) ≤ (j : Int) := by omega
      have HDR := Lib.hid hdr
      clear hdr
      by_cases hp : y.p < s.size
      · have hpz : (y.p : Int) < (s.size : Int) := by omega
        have hd : decide ((s.size : Int) ≤ (y.p : Int)) = false := by simpa using hpz
        have hq0 : (0 : Int) ≤ (y.p : Int) := by omega
        have hgb := get_byte hp
        have hjn2 : (j : Int) < (l.size : Int) := by omega
        by_cases hc : byteAt s y.p = byteAt l j
        · have hstep := wordIn_step (r := l.data.toList.drop (j + 1)) (by omega) hc
          rw [← HDR.out] at hstep
          have hne : (((byteAt s y.p).toNat : Int) != ((byteAt l j).toNat : Int)) = false := by rw [hc]; simp
          have hst := i64_step (p := y.p) (by omega)
          have HS := Lib.hid hstep
          clear hstep hc
          go_wp2_with fail
          go_quiet (fail)
          go_wp2_with fail
          go_quiet (fail)
          go_wp2_with fail
          go_roundg (n - (j + 1))
          case measure => omega
          case rel => exact ⟨j + 1, y.step, by omega, by omega, by go_num, by simp only [St.step]; omega, by rw [← HS.out]; exact HF.out, (Below.heap_setCell _ _ _ _ (by show B ≠ R; omega)).trans HBB.out, RdPost.set1 (RdPost.drewN HR.out _) _⟩
        · have hbad := wordIn_bad (r := l.data.toList.drop (j + 1)) (by omega) hc
          rw [← HDR.out] at hbad
          have hff : fin = (false, y.fail 4) := by rw [← HF.out]; exact hbad
          subst hff
          have hkk := HKK.out
          simp only [Bool.false_eq_true, if_false] at hkk
          subst hkk
          have hne : (((byteAt s y.p).toNat : Int) != ((byteAt l j).toNat : Int)) = true := by
            have : (byteAt s y.p).toNat ≠ (byteAt l j).toNat := fun h => hc (UInt8.toNat_inj.1 h)
            simp; omega
          have hfl := fun n => fail_any R s y 4 (wr.drewN n) (HR.out.1.drewN n)
          have HFL := Lib.hid hfl
          clear hc hbad hfl
          go_wp2_with fail
          go_quiet (fail)
          go_wp2_with fail
          go_quiet (fail)
          go_wp2_with fail
          refine Calls.mono (HFL.out _) ?_
          rintro e w2 ⟨rfl, hp2⟩
          have hbb := hp2.keep (B := B) HBB.out (by omega)
          have hr2 := RdPost.trans (RdPost.drewN HR.out _) hp2
          obtain ⟨⟨b0, b1, b2, b3, b4⟩, ⟨g0, g1, g2, g3, g4⟩, hBw2⟩ := cells5 hbb
          have hf := set5 (.int .i64 0) (.int .i64 0) (.string ⟨#[]⟩) (.slice none 0 0) (.slice none 0 0) hbb
          have hr5 := RdPost.set5 hr2 (B := B) (by rw [HBQ.out]; exact Nat.le_refl _) (by rw [HBQ.out]; exact hRB) (.int .i64 0) (.int .i64 0) (.string ⟨#[]⟩) (.slice none 0 0) (.slice none 0 0)
          have HF5 := Lib.hid hf; have HR5 := Lib.hid hr5
          clear hf hr5 hbb hr2 hp2
          go_wp2_with fail
          exact bodyPost_ret (results_cell_row rfl _ _ B 28 (kC 0).toArray (0, 0) _ rfl HF5.out Tryz.underlying28 rfl (by kernel_rfl)) rfl ⟨rfl, HR5.out⟩
      · have hd : decide ((s.size : Int) ≤ (y.p : Int)) = true := by simp; omega
        have hbad := wordIn_fail (c := byteAt l j) (r := l.data.toList.drop (j + 1)) (s := s) (y := y) (by omega)
        rw [← HDR.out] at hbad
        have hff : fin = (false, y.fail 2) := by rw [← HF.out]; exact hbad
        subst hff
        have hkk := HKK.out
        simp only [Bool.false_eq_true, if_false] at hkk
        subst hkk
        have hfl := fun n => fail_any R s y 2 (wr.drewN n) (HR.out.1.drewN n)
        have HFL := Lib.hid hfl
        clear hbad hfl
        go_wp2_with fail
        go_quiet (fail)
        go_wp2_with fail
        refine Calls.mono (HFL.out _) ?_
        rintro e w2 ⟨rfl, hp2⟩
        have hbb := hp2.keep (B := B) HBB.out (by omega)
        have hr2 := RdPost.trans (RdPost.drewN HR.out _) hp2
        obtain ⟨⟨b0, b1, b2, b3, b4⟩, ⟨g0, g1, g2, g3, g4⟩, hBw2⟩ := cells5 hbb
        have hf := set5 (.int .i64 0) (.int .i64 0) (.string ⟨#[]⟩) (.slice none 0 0) (.slice none 0 0) hbb
        have hr5 := RdPost.set5 hr2 (B := B) (by rw [HBQ.out]; exact Nat.le_refl _) (by rw [HBQ.out]; exact hRB) (.int .i64 0) (.int .i64 0) (.string ⟨#[]⟩) (.slice none 0 0) (.slice none 0 0)
        have HF5 := Lib.hid hf; have HR5 := Lib.hid hr5
        clear hf hr5 hbb hr2 hp2
        go_wp2_with fail
        exact bodyPost_ret (results_cell_row rfl _ _ B 28 (kC 0).toArray (0, 0) _ rfl HF5.out Tryz.underlying28 rfl (by kernel_rfl)) rfl ⟨rfl, HR5.out⟩
    · have hltz : ¬ (j : Int) < (n : Int) := by omega
      have hff := HF.out
      rw [List.drop_of_length_le (by simp; have := HN.out; omega)] at hff
      simp only [wordIn] at hff
      subst hff
      have hkk := HKK.out
      simp only [if_true] at hkk
      subst hkk
      have hf := set5 (.int .i64 k) (.int .i64 0) (.string ⟨#[]⟩) (.slice none 0 0) (.slice none 0 0) HBB.out
      have hr5 := RdPost.set5 HR.out (B := B) (by rw [HBQ.out]; exact Nat.le_refl _) (by rw [HBQ.out]; exact hRB) (.int .i64 k) (.int .i64 0) (.string ⟨#[]⟩) (.slice none 0 0) (.slice none 0 0)
      have HF5 := Lib.hid hf; have HR5 := Lib.hid hr5
      clear hf hr5
      go_wp2_with fail
      exact bodyPost_ret (results_cell_row rfl _ _ B 28 (kC k).toArray (0, 0) _ rfl HF5.out Tryz.underlying28 rfl (by kernel_rfl)) rfl ⟨rfl, HR5.out⟩
end Go.Proofs.YtjjgbgojlhaapaaGreatDoor
