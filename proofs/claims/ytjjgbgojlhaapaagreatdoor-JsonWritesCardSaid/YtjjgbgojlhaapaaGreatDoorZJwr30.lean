/- Parts of the proof: Es. -/
import Derived.Test.YtjjgbgojlhaapaaGreatDoorZJwr17
import Derived.Test.YtjjgbgojlhaapaaGreatDoorZJwr8
import Derived.Test.YtjjgbgojlhaapaaGreatDoorZJwr29
namespace Go.Proofs.YtjjgbgojlhaapaaGreatDoor
open Go.RowKit Go.Lib

def RSameAt (x : JV) : Prop := ∀ (y : JV) (cs cs' : List Value) (F F' : Nat → Prop) (w : World), JR w F x cs → JR w F' y cs' →
  Calls Tryz.prog 10 #[.agg cs.toArray, .agg cs'.toArray] w fun e w' => e = .returned (.bool (sameB x y)) ∧ Below w.heap.size w w'
theorem rsame_ways : ∀ a b c d e : Bool, a = true ∨ (a = false ∧ b = true) ∨ (a = false ∧ b = false ∧ c = true) ∨ (a = false ∧ b = false ∧ c = false ∧ d = true) ∨ (a = false ∧ b = false ∧ c = false ∧ d = false ∧ e = true) ∨ (a = false ∧ b = false ∧ c = false ∧ d = false ∧ e = false) := by decide
theorem rsame_false {x y : JV} (h : (x.k != y.k) = true ∨ (x.n != y.n) = true ∨ (x.s.toList != y.s.toList) = true ∨ ((x.l.length : Int) != (y.l.length : Int)) = true ∨ ((x.m.length : Int) != (y.m.length : Int)) = true) : sameB x y = false := by
  rw [sameB_eq]
  rcases h with h | h | h | h | h
  · rw [show (x.k == y.k) = false by simpa using h]; rfl
  · rw [show (x.n == y.n) = false by simpa using h]; simp
  · rw [show (x.s.toList == y.s.toList) = false by simpa using h]; simp
  · rw [sameL_len x.l y.l (fun e => by rw [e] at h; simp at h)]; simp
  · rw [sameM_len x.m y.m (fun e => by rw [e] at h; simp at h)]; simp
set_option maxRecDepth 100000 in
set_option maxHeartbeats 8000000 in
theorem rsame_step (x : JV) (ihl : ∀ q ∈ x.l, RSameAt q) (ihm : ∀ q ∈ x.m, RSameAt q.2) : RSameAt x := by
  intro y cs cs' F F' w h h'
  obtain ⟨vl, vm, ⟨rfl, hsz⟩, hl, hm⟩ := JR_iff.1 h
  obtain ⟨vl', vm', ⟨rfl, hsz'⟩, hl', hm'⟩ := JR_iff.1 h'
  obtain ⟨A1, c1, rfl, hl63, hel⟩ := val_cells hl
  obtain ⟨A2, c2, rfl, hm63, hem⟩ := mem_cells hm
  obtain ⟨B1, d1, rfl, hl63', hel'⟩ := val_cells hl'
  obtain ⟨B2, d2, rfl, hm63', hem'⟩ := mem_cells hm'
  have HL := Lib.hid hel; have HM := Lib.hid hem; have HL' := Lib.hid hel'; have HM' := Lib.hid hem'; have IHL := Lib.hid ihl; have IHM := Lib.hid ihm
  have hbA : Below w.heap.size w ((w.alloc (.cells #[.int .i64 x.k, .int .i64 x.n, .string x.s, .slice A1 x.l.length c1, .slice A2 x.m.length c2] 35)).alloc (.cells #[.int .i64 y.k, .int .i64 y.n, .string y.s, .slice B1 y.l.length d1, .slice B2 y.m.length d2] 35)) := bel_alloc (bel_alloc (Below.refl _ _) _) _
  obtain ⟨⟨a0, a1, a2, a3, a4⟩, _, hVa⟩ := cells5 (heap_alloc2_old w (.cells #[.int .i64 x.k, .int .i64 x.n, .string x.s, .slice A1 x.l.length c1, .slice A2 x.m.length c2] 35) (.cells #[.int .i64 y.k, .int .i64 y.n, .string y.s, .slice B1 y.l.length d1, .slice B2 y.m.length d2] 35))
  obtain ⟨⟨b0, b1, b2, b3, b4⟩, _, hVb⟩ := cells5 (heap_alloc2_new w (.cells #[.int .i64 x.k, .int .i64 x.n, .string x.s, .slice A1 x.l.length c1, .slice A2 x.m.length c2] 35) (.cells #[.int .i64 y.k, .int .i64 y.n, .string y.s, .slice B1 y.l.length d1, .slice B2 y.m.length d2] 35))
  generalize hW : (w.alloc (.cells #[.int .i64 x.k, .int .i64 x.n, .string x.s, .slice A1 x.l.length c1, .slice A2 x.m.length c2] 35)).alloc (.cells #[.int .i64 y.k, .int .i64 y.n, .string y.s, .slice B1 y.l.length d1, .slice B2 y.m.length d2] 35) = W at *
  have HW := Lib.hid hW; have HBA := Lib.hid hbA
  have hRf := rsame_false (x := x) (y := y)
  have hRt := fun h1 h2 h3 => (sameB_eq x y).trans (show _ = (sameL x.l y.l && sameM x.m y.m) by rw [show (x.k == y.k) = true from h1, show (x.n == y.n) = true from h2, show (x.s.toList == y.s.toList) = true from h3]; simp)
  clear hl hm hl' hm' h h' hsz hsz' hel hem hel' hem' ihl ihm hW hbA
  generalize sameB x y = R at *
  have hway := rsame_ways (x.k != y.k) (x.n != y.n) (x.s.toList != y.s.toList) ((x.l.length : Int) != (y.l.length : Int)) ((x.m.length : Int) != (y.m.length : Int))
  have HRF := Lib.hid hRf; have HRT := Lib.hid hRt
  clear hRf hRt
  rcases hway with g1 | ⟨g1, g2⟩ | ⟨g1, g2, g3⟩ | ⟨g1, g2, g3, g4⟩ | ⟨g1, g2, g3, g4, g5⟩ | ⟨g1, g2, g3, g4, g5⟩
  rotate_left 5
  · have hR : R = (sameL x.l y.l && sameM x.m y.m) := HRT.out (by simpa using g1) (by simpa using g2) (by simpa using g3)
    have HR := Lib.hid hR
    have q3 : x.s.toList = y.s.toList := by simpa using g3
    have hlen : y.l.length = x.l.length := by have : (x.l.length : Int) = (y.l.length : Int) := by simpa using g4
                                              omega
    have hlem : y.m.length = x.m.length := by have : (x.m.length : Int) = (y.m.length : Int) := by simpa using g5
                                              omega
    clear HRF HRT hR
    rw [hlen] at g4 b3 HW ⊢
    rw [hlem] at g5 b4 HW ⊢
    generalize hn : x.l.length = ln at *
    generalize hnm : x.m.length = lm at *
    have Hn := Lib.hid hn; have Hm := Lib.hid hnm; have Hn' := Lib.hid hlen; have Hm' := Lib.hid hlem
    clear hn hnm hlen hlem
    go_enter Tryz.func10, Tryz.ntmps10
    go_upto_region 1 with (fail)
    rw [HW.out]
    go_wp2_with fail
    go_loopg [5] ln (fun gg s1 wr => ∃ k : Nat, k ≤ ln ∧ ln - k ≤ gg ∧ s1 = .int .i64 k ∧ Aside (Below W.heap.size W wr) ∧ Aside (sameL x.l y.l = sameL (x.l.drop k) (y.l.drop k)))
    case atStart => exact ⟨0, Nat.zero_le _, by omega, rfl, Below.refl _ _, rfl⟩
    case round =>
      obtain ⟨k, hk, hgg, rfl, HB, HA⟩ := hrel
      obtain ⟨wa, rfl⟩ : ∃ wa, wa = wr := ⟨wr, rfl⟩
      have hbw := bel_trans HBA.out HB.out
      have p3 := cell_later' HB.out a3
      have p4 := cell_later' HB.out a4
      have q3 := cell_later' HB.out b3
      have q4 := cell_later' HB.out b4
      clear a0 a1 a2 a3 a4 b0 b1 b2 b3 b4 hVa hVb
      have hzp : w.heap.size < wa.heap.size := World.block_lt_of_cell? _ _ p3
      have hzq : w.heap.size + 1 < wa.heap.size := World.block_lt_of_cell? _ _ q3
      by_cases hlt : k < ln
      · have hltz : (k : Int) < (ln : Int) := by omega
        obtain ⟨q, hx⟩ : ∃ p, x.l[k]? = some p := get_ex (by have := Hn.out; omega)
        obtain ⟨r, hx'⟩ : ∃ p, y.l[k]? = some p := get_ex (by have := Hn.out; have := Hn'.out; omega)
        obtain ⟨b, o, C1, k1, f1, C2, k2, f2, rfl, e0, e1, e2, e3, e4, hjr⟩ := HL.out k q hx
        have r0 := cell_later' hbw e0
        have r1 := cell_later' hbw e1
        have r2 := cell_later' hbw e2
        have r3 := cell_later' hbw e3
        have r4 := cell_later' hbw e4
        have hbr : b < wa.heap.size := World.block_lt_of_cell? _ _ r0
        obtain ⟨b', o', C1', k1', f1', C2', k2', f2', rfl, e0', e1', e2', e3', e4', hjr'⟩ := HL'.out k r hx'
        have r0' := cell_later' hbw e0'
        have r1' := cell_later' hbw e1'
        have r2' := cell_later' hbw e2'
        have r3' := cell_later' hbw e3'
        have r4' := cell_later' hbw e4'
        have hbr' : b' < wa.heap.size := World.block_lt_of_cell? _ _ r0'
        have hcall := fun V (hV : Below wa.heap.size wa V) => IHL.out q (get_mem hx) r _ _ F F' V (JR_later hjr (bel_trans hbw hV)) (JR_later hjr' (bel_trans hbw hV))
        have hstep := sameL_step HA.out hx hx'
        have HC := Lib.hid hcall; have HST := Lib.hid hstep
        clear hx hx' hjr hjr' e0 e1 e2 e3 e4 e0' e1' e2' e3' e4' hcall hstep
        have hdw : Below W.heap.size W wa.drew := bel_drew HB.out
        have RC : ∀ w2, Lat wa.drew w2 → (w2.cell? ⟨w.heap.size, 3, none⟩ = some (.slice (some ⟨b, o, none⟩) ln c1) ∧ w2.cell? ⟨w.heap.size + 1, 3, none⟩ = some (.slice (some ⟨b', o', none⟩) ln d1)) ∧ (w2.cell? ⟨b, o + k * 5, none⟩ = some (.int .i64 q.k) ∧ w2.cell? ⟨b, o + k * 5 + 1, none⟩ = some (.int .i64 q.n) ∧ w2.cell? ⟨b, o + k * 5 + 2, none⟩ = some (.string q.s) ∧ w2.cell? ⟨b, o + k * 5 + 3, none⟩ = some (.slice C1 k1 f1) ∧ w2.cell? ⟨b, o + k * 5 + 4, none⟩ = some (.slice C2 k2 f2)) ∧ (w2.cell? ⟨b', o' + k * 5, none⟩ = some (.int .i64 r.k) ∧ w2.cell? ⟨b', o' + k * 5 + 1, none⟩ = some (.int .i64 r.n) ∧ w2.cell? ⟨b', o' + k * 5 + 2, none⟩ = some (.string r.s) ∧ w2.cell? ⟨b', o' + k * 5 + 3, none⟩ = some (.slice C1' k1' f1') ∧ w2.cell? ⟨b', o' + k * 5 + 4, none⟩ = some (.slice C2' k2' f2')) := fun w2 hE =>
          have l : ∀ {a : Addr} {u : Value}, wa.cell? a = some u → w2.cell? a = some u := fun h => cell_later' (bel_trans (bel_drew (Below.refl _ _)) hE) h
          ⟨⟨l p3, l q3⟩, ⟨l r0, l r1, l r2, l r3, l r4⟩, l r0', l r1', l r2', l r3', l r4'⟩
        have HRC := Lib.hid RC; have HDW := Lib.hid hdw
        clear RC hdw
        generalize hsb : sameB q r = bb at *
        go_wp2_with fail
        refine wp_region_E (by kernel_rfl) ?_
        clear r0 r1 r2 r3 r4 r0' r1' r2' r3' r4' hbr hbr' p3 p4 q3 q4 hzp hzq
        refine wpAnyE_tk 0 (v := ?_) rfl (by kernel_rfl) (by kernel_rfl) (by kernel_rfl) (by kernel_rfl) ?_ ?_
        rotate_left
        · intro w2 hE
          obtain ⟨⟨p3, q3⟩, ⟨r0, r1, r2, r3, r4⟩, r0', r1', r2', r3', r4'⟩ := HRC.out w2 hE
          have hbr : b < w2.heap.size := World.block_lt_of_cell? _ _ r0
          have hbr' : b' < w2.heap.size := World.block_lt_of_cell? _ _ r0'
          go_simp
          try (with_reducible rfl)
        try simp only [List.getElem_toArray, List.getElem_cons_zero, Act.put, List.setIfInBounds_toArray, List.set_cons_zero, List.set_cons_succ]
        refine wpAnyE_tk 1 (v := ?_) rfl (by kernel_rfl) (by kernel_rfl) (by kernel_rfl) (by kernel_rfl) ?_ ?_
        rotate_left
        · intro w2 hE
          obtain ⟨⟨p3, q3⟩, ⟨r0, r1, r2, r3, r4⟩, r0', r1', r2', r3', r4'⟩ := HRC.out w2 hE
          have hbr : b < w2.heap.size := World.block_lt_of_cell? _ _ r0
          have hbr' : b' < w2.heap.size := World.block_lt_of_cell? _ _ r0'
          go_simp
          try (with_reducible rfl)
        try simp only [List.getElem_toArray, List.getElem_cons_zero, List.getElem_cons_succ, Act.put, List.setIfInBounds_toArray, List.set_cons_zero, List.set_cons_succ]
        refine wpAnyE_tk 2 (v := ?_) rfl (by kernel_rfl) (by kernel_rfl) (by kernel_rfl) (by kernel_rfl) ?_ ?_
        rotate_left
        · intro w2 hE
          obtain ⟨⟨p3, q3⟩, ⟨r0, r1, r2, r3, r4⟩, r0', r1', r2', r3', r4'⟩ := HRC.out w2 hE
          have hbr : b < w2.heap.size := World.block_lt_of_cell? _ _ r0
          have hbr' : b' < w2.heap.size := World.block_lt_of_cell? _ _ r0'
          go_simp
          try (with_reducible rfl)
        try simp only [List.getElem_toArray, List.getElem_cons_zero, List.getElem_cons_succ, Act.put, List.setIfInBounds_toArray, List.set_cons_zero, List.set_cons_succ]
        refine wpAnyE_tk 3 (v := ?_) rfl (by kernel_rfl) (by kernel_rfl) (by kernel_rfl) (by kernel_rfl) ?_ ?_
        rotate_left
        · intro w2 hE
          obtain ⟨⟨p3, q3⟩, ⟨r0, r1, r2, r3, r4⟩, r0', r1', r2', r3', r4'⟩ := HRC.out w2 hE
          have hbr : b < w2.heap.size := World.block_lt_of_cell? _ _ r0
          have hbr' : b' < w2.heap.size := World.block_lt_of_cell? _ _ r0'
          go_simp
          try (with_reducible rfl)
        try simp only [List.getElem_toArray, List.getElem_cons_zero, List.getElem_cons_succ, Act.put, List.setIfInBounds_toArray, List.set_cons_zero, List.set_cons_succ]
        refine wpAnyE_tk 4 (v := ?_) rfl (by kernel_rfl) (by kernel_rfl) (by kernel_rfl) (by kernel_rfl) ?_ ?_
        rotate_left
        · intro w2 hE
          obtain ⟨⟨p3, q3⟩, ⟨r0, r1, r2, r3, r4⟩, r0', r1', r2', r3', r4'⟩ := HRC.out w2 hE
          have hbr : b < w2.heap.size := World.block_lt_of_cell? _ _ r0
          have hbr' : b' < w2.heap.size := World.block_lt_of_cell? _ _ r0'
          go_simp
          try (with_reducible rfl)
        try simp only [List.getElem_toArray, List.getElem_cons_zero, List.getElem_cons_succ, Act.put, List.setIfInBounds_toArray, List.set_cons_zero, List.set_cons_succ]
        refine wpAnyE_tk 5 (v := ?_) rfl (by kernel_rfl) (by kernel_rfl) (by kernel_rfl) (by kernel_rfl) ?_ ?_
        rotate_left
        · intro w2 hE
          obtain ⟨⟨p3, q3⟩, ⟨r0, r1, r2, r3, r4⟩, r0', r1', r2', r3', r4'⟩ := HRC.out w2 hE
          have hbr : b < w2.heap.size := World.block_lt_of_cell? _ _ r0
          have hbr' : b' < w2.heap.size := World.block_lt_of_cell? _ _ r0'
          go_simp
          try (with_reducible rfl)
        try simp only [List.getElem_toArray, List.getElem_cons_zero, List.getElem_cons_succ, Act.put, List.setIfInBounds_toArray, List.set_cons_zero, List.set_cons_succ]
        refine wpAnyE_tk 6 (v := ?_) rfl (by kernel_rfl) (by kernel_rfl) (by kernel_rfl) (by kernel_rfl) ?_ ?_
        rotate_left
        · intro w2 hE
          obtain ⟨⟨p3, q3⟩, ⟨r0, r1, r2, r3, r4⟩, r0', r1', r2', r3', r4'⟩ := HRC.out w2 hE
          have hbr : b < w2.heap.size := World.block_lt_of_cell? _ _ r0
          have hbr' : b' < w2.heap.size := World.block_lt_of_cell? _ _ r0'
          go_simp
          try (with_reducible rfl)
        try simp only [List.getElem_toArray, List.getElem_cons_zero, List.getElem_cons_succ, Act.put, List.setIfInBounds_toArray, List.set_cons_zero, List.set_cons_succ]
        refine wpAnyE_tk 7 (v := ?_) rfl (by kernel_rfl) (by kernel_rfl) (by kernel_rfl) (by kernel_rfl) ?_ ?_
        rotate_left
        · intro w2 hE
          obtain ⟨⟨p3, q3⟩, ⟨r0, r1, r2, r3, r4⟩, r0', r1', r2', r3', r4'⟩ := HRC.out w2 hE
          have hbr : b < w2.heap.size := World.block_lt_of_cell? _ _ r0
          have hbr' : b' < w2.heap.size := World.block_lt_of_cell? _ _ r0'
          go_simp
          try (with_reducible rfl)
        try simp only [List.getElem_toArray, List.getElem_cons_zero, List.getElem_cons_succ, Act.put, List.setIfInBounds_toArray, List.set_cons_zero, List.set_cons_succ]
        refine wpAnyE_tk 8 (v := ?_) rfl (by kernel_rfl) (by kernel_rfl) (by kernel_rfl) (by kernel_rfl) ?_ ?_
        rotate_left
        · intro w2 hE
          obtain ⟨⟨p3, q3⟩, ⟨r0, r1, r2, r3, r4⟩, r0', r1', r2', r3', r4'⟩ := HRC.out w2 hE
          have hbr : b < w2.heap.size := World.block_lt_of_cell? _ _ r0
          have hbr' : b' < w2.heap.size := World.block_lt_of_cell? _ _ r0'
          go_simp
          try (with_reducible rfl)
        try simp only [List.getElem_toArray, List.getElem_cons_zero, List.getElem_cons_succ, Act.put, List.setIfInBounds_toArray, List.set_cons_zero, List.set_cons_succ]
        refine wpAnyE_tk 9 (v := ?_) rfl (by kernel_rfl) (by kernel_rfl) (by kernel_rfl) (by kernel_rfl) ?_ ?_
        rotate_left
        · intro w2 hE
          obtain ⟨⟨p3, q3⟩, ⟨r0, r1, r2, r3, r4⟩, r0', r1', r2', r3', r4'⟩ := HRC.out w2 hE
          have hbr : b < w2.heap.size := World.block_lt_of_cell? _ _ r0
          have hbr' : b' < w2.heap.size := World.block_lt_of_cell? _ _ r0'
          go_simp
          try (with_reducible rfl)
        try simp only [List.getElem_toArray, List.getElem_cons_zero, List.getElem_cons_succ, Act.put, List.setIfInBounds_toArray, List.set_cons_zero, List.set_cons_succ]
        refine wpAnyE_tk 10 (v := .bool bb) rfl (by kernel_rfl) (by kernel_rfl) (by kernel_rfl) (by kernel_rfl) ?_ ?_
        · intro w2 hE
          obtain ⟨⟨p3, q3⟩, ⟨r0, r1, r2, r3, r4⟩, r0', r1', r2', r3', r4'⟩ := HRC.out w2 hE
          have hbr : b < w2.heap.size := World.block_lt_of_cell? _ _ r0
          have hbr' : b' < w2.heap.size := World.block_lt_of_cell? _ _ r0'
          go_simp
          exact (HC.out w2 (bel_trans (bel_drew (Below.refl _ _)) hE)).mono fun e w3 ⟨h1, h2⟩ => ⟨h1, h2⟩
        try simp only [List.getElem_toArray, List.getElem_cons_zero, List.getElem_cons_succ, Act.put, List.setIfInBounds_toArray, List.set_cons_zero, List.set_cons_succ]
        refine wpAnyE_tk 11 (v := ?_) rfl (by kernel_rfl) (by kernel_rfl) (by kernel_rfl) (by kernel_rfl) ?_ ?_
        rotate_left
        · intro w2 hE
          obtain ⟨⟨p3, q3⟩, ⟨r0, r1, r2, r3, r4⟩, r0', r1', r2', r3', r4'⟩ := HRC.out w2 hE
          have hbr : b < w2.heap.size := World.block_lt_of_cell? _ _ r0
          have hbr' : b' < w2.heap.size := World.block_lt_of_cell? _ _ r0'
          go_simp
          try (with_reducible rfl)
        try simp only [List.getElem_toArray, List.getElem_cons_zero, List.getElem_cons_succ, Act.put, List.setIfInBounds_toArray, List.set_cons_zero, List.set_cons_succ]
        refine wpAnyE_done (by kernel_rfl) (fun w5 hE5 => ?_) _
        have HB5 := Lib.hid (bel_trans HDW.out hE5)
        have p3 := (HRC.out w5 hE5).1.1
        have q3 := (HRC.out w5 hE5).1.2
        clear hE5 HRC HC
        cases bb with
        | false =>
          have hR : R = false := by rw [HR.out, HST.out]; rfl
          subst hR
          clear hsb
          go_wp2_with fail
          go_ret
          exact ⟨rfl, bel_trans HBA.out HB5.out⟩
        | true =>
          have hR : sameL x.l y.l = sameL (x.l.drop (k + 1)) (y.l.drop (k + 1)) := by rw [HST.out]; rfl
          have HR2 := Lib.hid hR
          clear hR hsb
          go_wp2_with fail
          go_roundg (ln - (k + 1))
          case measure => omega
          case rel => exact ⟨k + 1, by omega, by omega, by simp, HB5.out, HR2.out⟩
      · have hltz : ¬ (k : Int) < (ln : Int) := by omega
        have hR : R = sameM x.m y.m := by rw [HR.out, sameL_end HA.out (by have := Hn.out; omega) (by have := Hn.out; have := Hn'.out; omega)]; rfl
        have HR2 := Lib.hid hR
        clear hR
        go_wp2_with fail
        go_loopg [6] lm (fun gg s2 wq => ∃ k : Nat, k ≤ lm ∧ lm - k ≤ gg ∧ s2 = .int .i64 k ∧ Aside (Below wa.heap.size wa wq) ∧ Aside (sameM x.m y.m = sameM (x.m.drop k) (y.m.drop k)))
        case atStart => exact ⟨0, Nat.zero_le _, by omega, rfl, Below.refl _ _, rfl⟩
        case round =>
          obtain ⟨k', hk', hgg', rfl, HB', HA'⟩ := hrel
          have hbq := bel_trans hbw HB'.out
          have p3 := cell_later' HB'.out p3
          have p4 := cell_later' HB'.out p4
          have q3 := cell_later' HB'.out q3
          have q4 := cell_later' HB'.out q4
          have hzp' : w.heap.size < wr.heap.size := World.block_lt_of_cell? _ _ p3
          have hzq' : w.heap.size + 1 < wr.heap.size := World.block_lt_of_cell? _ _ q3
          by_cases hlt' : k' < lm
          · have hltz' : (k' : Int) < (lm : Int) := by omega
            obtain ⟨⟨nm, q⟩, hx⟩ : ∃ p, x.m[k']? = some p := get_ex (by have := Hm.out; omega)
            obtain ⟨⟨nm', r⟩, hx'⟩ : ∃ p, y.m[k']? = some p := get_ex (by have := Hm.out; have := Hm'.out; omega)
            obtain ⟨b, o, C1, k1, f1, C2, k2, f2, rfl, hnz, e0, e1, e2, e3, e4, e5, hjr⟩ := HM.out k' nm q hx
            have r0 := cell_later' hbq e0
            have r1 := cell_later' hbq e1
            have r2 := cell_later' hbq e2
            have r3 := cell_later' hbq e3
            have r4 := cell_later' hbq e4
            have r5 := cell_later' hbq e5
            have hbr : b < wr.heap.size := World.block_lt_of_cell? _ _ r0
            obtain ⟨b', o', C1', k1', f1', C2', k2', f2', rfl, hnz', e0', e1', e2', e3', e4', e5', hjr'⟩ := HM'.out k' nm' r hx'
            have r0' := cell_later' hbq e0'
            have r1' := cell_later' hbq e1'
            have r2' := cell_later' hbq e2'
            have r3' := cell_later' hbq e3'
            have r4' := cell_later' hbq e4'
            have r5' := cell_later' hbq e5'
            have hbr' : b' < wr.heap.size := World.block_lt_of_cell? _ _ r0'
            have hcall := fun V (hV : Below wr.heap.size wr V) => IHM.out _ (get_mem hx) r _ _ F F' V (JR_later hjr (bel_trans hbq hV)) (JR_later hjr' (bel_trans hbq hV))
            have hstep := sameM_step HA'.out hx hx'
            have HC := Lib.hid hcall; have HST := Lib.hid hstep
            clear hx hx' hjr hjr' e0 e1 e2 e3 e4 e5 e0' e1' e2' e3' e4' e5' hcall hstep hnz hnz'
            have hdw : Below W.heap.size W wr.drew := bel_drew (bel_trans HB.out HB'.out)
            have hda : Below wa.heap.size wa wr.drew := bel_drew HB'.out
            have RC : ∀ w2, Lat wr.drew w2 → (w2.cell? ⟨w.heap.size, 4, none⟩ = some (.slice (some ⟨b, o, none⟩) lm c2) ∧ w2.cell? ⟨w.heap.size + 1, 4, none⟩ = some (.slice (some ⟨b', o', none⟩) lm d2)) ∧ (w2.cell? ⟨b, o + k' * 6, none⟩ = some (.string nm) ∧ w2.cell? ⟨b, o + k' * 6 + 1, none⟩ = some (.int .i64 q.k) ∧ w2.cell? ⟨b, o + k' * 6 + 2, none⟩ = some (.int .i64 q.n) ∧ w2.cell? ⟨b, o + k' * 6 + 3, none⟩ = some (.string q.s) ∧ w2.cell? ⟨b, o + k' * 6 + 4, none⟩ = some (.slice C1 k1 f1) ∧ w2.cell? ⟨b, o + k' * 6 + 5, none⟩ = some (.slice C2 k2 f2)) ∧ (w2.cell? ⟨b', o' + k' * 6, none⟩ = some (.string nm') ∧ w2.cell? ⟨b', o' + k' * 6 + 1, none⟩ = some (.int .i64 r.k) ∧ w2.cell? ⟨b', o' + k' * 6 + 2, none⟩ = some (.int .i64 r.n) ∧ w2.cell? ⟨b', o' + k' * 6 + 3, none⟩ = some (.string r.s) ∧ w2.cell? ⟨b', o' + k' * 6 + 4, none⟩ = some (.slice C1' k1' f1') ∧ w2.cell? ⟨b', o' + k' * 6 + 5, none⟩ = some (.slice C2' k2' f2')) := fun w2 hE =>
              have l : ∀ {a : Addr} {u : Value}, wr.cell? a = some u → w2.cell? a = some u := fun h => cell_later' (bel_trans (bel_drew (Below.refl _ _)) hE) h
              ⟨⟨l p4, l q4⟩, ⟨l r0, l r1, l r2, l r3, l r4, l r5⟩, l r0', l r1', l r2', l r3', l r4', l r5'⟩
            have HRC := Lib.hid RC; have HDW := Lib.hid hdw; have HDA := Lib.hid hda
            clear RC hdw hda
            generalize hsb : sameB q r = bb at *
            cases hnn : (nm.toList == nm'.toList) with
            | false =>
              have hR : R = false := by rw [HR2.out, HST.out, hnn]; rfl
              subst hR
              have hnq : ¬ nm.toList = nm'.toList := by simpa using hnn
              have hnb : (nm.toList != nm'.toList) = true := by simpa using hnn
              go_wp2_with fail
              refine wp_region_E (by kernel_rfl) ?_
              clear r0 r1 r2 r3 r4 r5 r0' r1' r2' r3' r4' r5' hbr hbr' p3 p4 q3 q4 hzp' hzq'
              refine wpAnyE_tk 0 (v := ?_) rfl (by kernel_rfl) (by kernel_rfl) (by kernel_rfl) (by kernel_rfl) ?_ ?_
              rotate_left
              · intro w2 hE
                obtain ⟨⟨p4, q4⟩, ⟨r0, r1, r2, r3, r4, r5⟩, r0', r1', r2', r3', r4', r5'⟩ := HRC.out w2 hE
                have hbr : b < w2.heap.size := World.block_lt_of_cell? _ _ r0
                have hbr' : b' < w2.heap.size := World.block_lt_of_cell? _ _ r0'
                go_simp
                try (with_reducible rfl)
              try simp only [List.getElem_toArray, List.getElem_cons_zero, Act.put, List.setIfInBounds_toArray, List.set_cons_zero, List.set_cons_succ]
              refine wpAnyE_tk 1 (v := ?_) rfl (by kernel_rfl) (by kernel_rfl) (by kernel_rfl) (by kernel_rfl) ?_ ?_
              rotate_left
              · intro w2 hE
                obtain ⟨⟨p4, q4⟩, ⟨r0, r1, r2, r3, r4, r5⟩, r0', r1', r2', r3', r4', r5'⟩ := HRC.out w2 hE
                have hbr : b < w2.heap.size := World.block_lt_of_cell? _ _ r0
                have hbr' : b' < w2.heap.size := World.block_lt_of_cell? _ _ r0'
                go_simp
                try (with_reducible rfl)
              try simp only [List.getElem_toArray, List.getElem_cons_zero, List.getElem_cons_succ, Act.put, List.setIfInBounds_toArray, List.set_cons_zero, List.set_cons_succ]
              refine wpAnyE_tk 2 (v := ?_) rfl (by kernel_rfl) (by kernel_rfl) (by kernel_rfl) (by kernel_rfl) ?_ ?_
              rotate_left
              · intro w2 hE
                obtain ⟨⟨p4, q4⟩, ⟨r0, r1, r2, r3, r4, r5⟩, r0', r1', r2', r3', r4', r5'⟩ := HRC.out w2 hE
                have hbr : b < w2.heap.size := World.block_lt_of_cell? _ _ r0
                have hbr' : b' < w2.heap.size := World.block_lt_of_cell? _ _ r0'
                go_simp
                try (with_reducible rfl)
              try simp only [List.getElem_toArray, List.getElem_cons_zero, List.getElem_cons_succ, Act.put, List.setIfInBounds_toArray, List.set_cons_zero, List.set_cons_succ]
              refine wpAnyE_tk 3 (v := ?_) rfl (by kernel_rfl) (by kernel_rfl) (by kernel_rfl) (by kernel_rfl) ?_ ?_
              rotate_left
              · intro w2 hE
                obtain ⟨⟨p4, q4⟩, ⟨r0, r1, r2, r3, r4, r5⟩, r0', r1', r2', r3', r4', r5'⟩ := HRC.out w2 hE
                have hbr : b < w2.heap.size := World.block_lt_of_cell? _ _ r0
                have hbr' : b' < w2.heap.size := World.block_lt_of_cell? _ _ r0'
                go_simp
                try (with_reducible rfl)
              try simp only [List.getElem_toArray, List.getElem_cons_zero, List.getElem_cons_succ, Act.put, List.setIfInBounds_toArray, List.set_cons_zero, List.set_cons_succ]
              refine wpAnyE_tk 4 (v := ?_) rfl (by kernel_rfl) (by kernel_rfl) (by kernel_rfl) (by kernel_rfl) ?_ ?_
              rotate_left
              · intro w2 hE
                obtain ⟨⟨p4, q4⟩, ⟨r0, r1, r2, r3, r4, r5⟩, r0', r1', r2', r3', r4', r5'⟩ := HRC.out w2 hE
                have hbr : b < w2.heap.size := World.block_lt_of_cell? _ _ r0
                have hbr' : b' < w2.heap.size := World.block_lt_of_cell? _ _ r0'
                go_simp
                try (with_reducible rfl)
              try simp only [List.getElem_toArray, List.getElem_cons_zero, List.getElem_cons_succ, Act.put, List.setIfInBounds_toArray, List.set_cons_zero, List.set_cons_succ]
              refine wpAnyE_tk 5 (v := ?_) rfl (by kernel_rfl) (by kernel_rfl) (by kernel_rfl) (by kernel_rfl) ?_ ?_
              rotate_left
              · intro w2 hE
                obtain ⟨⟨p4, q4⟩, ⟨r0, r1, r2, r3, r4, r5⟩, r0', r1', r2', r3', r4', r5'⟩ := HRC.out w2 hE
                have hbr : b < w2.heap.size := World.block_lt_of_cell? _ _ r0
                have hbr' : b' < w2.heap.size := World.block_lt_of_cell? _ _ r0'
                go_simp
                try (with_reducible rfl)
              try simp only [List.getElem_toArray, List.getElem_cons_zero, List.getElem_cons_succ, Act.put, List.setIfInBounds_toArray, List.set_cons_zero, List.set_cons_succ]
              refine wpAnyE_tk 6 (v := ?_) rfl (by kernel_rfl) (by kernel_rfl) (by kernel_rfl) (by kernel_rfl) ?_ ?_
              rotate_left
              · intro w2 hE
                obtain ⟨⟨p4, q4⟩, ⟨r0, r1, r2, r3, r4, r5⟩, r0', r1', r2', r3', r4', r5'⟩ := HRC.out w2 hE
                have hbr : b < w2.heap.size := World.block_lt_of_cell? _ _ r0
                have hbr' : b' < w2.heap.size := World.block_lt_of_cell? _ _ r0'
                go_simp
                try (with_reducible rfl)
              try simp only [List.getElem_toArray, List.getElem_cons_zero, List.getElem_cons_succ, Act.put, List.setIfInBounds_toArray, List.set_cons_zero, List.set_cons_succ]
              refine wpAnyE_tk 7 (v := ?_) rfl (by kernel_rfl) (by kernel_rfl) (by kernel_rfl) (by kernel_rfl) ?_ ?_
              rotate_left
              · intro w2 hE
                obtain ⟨⟨p4, q4⟩, ⟨r0, r1, r2, r3, r4, r5⟩, r0', r1', r2', r3', r4', r5'⟩ := HRC.out w2 hE
                have hbr : b < w2.heap.size := World.block_lt_of_cell? _ _ r0
                have hbr' : b' < w2.heap.size := World.block_lt_of_cell? _ _ r0'
                go_simp
                try (with_reducible rfl)
              try simp only [List.getElem_toArray, List.getElem_cons_zero, List.getElem_cons_succ, Act.put, List.setIfInBounds_toArray, List.set_cons_zero, List.set_cons_succ]
              refine wpAnyE_tk 8 (v := ?_) rfl (by kernel_rfl) (by kernel_rfl) (by kernel_rfl) (by kernel_rfl) ?_ ?_
              rotate_left
              · intro w2 hE
                obtain ⟨⟨p4, q4⟩, ⟨r0, r1, r2, r3, r4, r5⟩, r0', r1', r2', r3', r4', r5'⟩ := HRC.out w2 hE
                have hbr : b < w2.heap.size := World.block_lt_of_cell? _ _ r0
                have hbr' : b' < w2.heap.size := World.block_lt_of_cell? _ _ r0'
                go_simp
                try (with_reducible rfl)
              try simp only [List.getElem_toArray, List.getElem_cons_zero, List.getElem_cons_succ, Act.put, List.setIfInBounds_toArray, List.set_cons_zero, List.set_cons_succ]
              refine wpAnyE_tk 9 (v := ?_) rfl (by kernel_rfl) (by kernel_rfl) (by kernel_rfl) (by kernel_rfl) ?_ ?_
              rotate_left
              · intro w2 hE
                obtain ⟨⟨p4, q4⟩, ⟨r0, r1, r2, r3, r4, r5⟩, r0', r1', r2', r3', r4', r5'⟩ := HRC.out w2 hE
                have hbr : b < w2.heap.size := World.block_lt_of_cell? _ _ r0
                have hbr' : b' < w2.heap.size := World.block_lt_of_cell? _ _ r0'
                go_simp
                try (with_reducible rfl)
              try simp only [List.getElem_toArray, List.getElem_cons_zero, List.getElem_cons_succ, Act.put, List.setIfInBounds_toArray, List.set_cons_zero, List.set_cons_succ]
              refine wpAnyE_tk 10 (v := ?_) rfl (by kernel_rfl) (by kernel_rfl) (by kernel_rfl) (by kernel_rfl) ?_ ?_
              rotate_left
              · intro w2 hE
                obtain ⟨⟨p4, q4⟩, ⟨r0, r1, r2, r3, r4, r5⟩, r0', r1', r2', r3', r4', r5'⟩ := HRC.out w2 hE
                have hbr : b < w2.heap.size := World.block_lt_of_cell? _ _ r0
                have hbr' : b' < w2.heap.size := World.block_lt_of_cell? _ _ r0'
                go_simp
                try (with_reducible rfl)
              try simp only [List.getElem_toArray, List.getElem_cons_zero, List.getElem_cons_succ, Act.put, List.setIfInBounds_toArray, List.set_cons_zero, List.set_cons_succ]
              refine wpAnyE_tk 11 (v := ?_) rfl (by kernel_rfl) (by kernel_rfl) (by kernel_rfl) (by kernel_rfl) ?_ ?_
              rotate_left
              · intro w2 hE
                obtain ⟨⟨p4, q4⟩, ⟨r0, r1, r2, r3, r4, r5⟩, r0', r1', r2', r3', r4', r5'⟩ := HRC.out w2 hE
                have hbr : b < w2.heap.size := World.block_lt_of_cell? _ _ r0
                have hbr' : b' < w2.heap.size := World.block_lt_of_cell? _ _ r0'
                go_simp
                try (with_reducible rfl)
              try simp only [List.getElem_toArray, List.getElem_cons_zero, List.getElem_cons_succ, Act.put, List.setIfInBounds_toArray, List.set_cons_zero, List.set_cons_succ]
              refine wpAnyE_tk 12 (v := ?_) rfl (by kernel_rfl) (by kernel_rfl) (by kernel_rfl) (by kernel_rfl) ?_ ?_
              rotate_left
              · intro w2 hE
                obtain ⟨⟨p4, q4⟩, ⟨r0, r1, r2, r3, r4, r5⟩, r0', r1', r2', r3', r4', r5'⟩ := HRC.out w2 hE
                have hbr : b < w2.heap.size := World.block_lt_of_cell? _ _ r0
                have hbr' : b' < w2.heap.size := World.block_lt_of_cell? _ _ r0'
                go_simp
                try (with_reducible rfl)
              try simp only [List.getElem_toArray, List.getElem_cons_zero, List.getElem_cons_succ, Act.put, List.setIfInBounds_toArray, List.set_cons_zero, List.set_cons_succ]
              refine wpAnyE_tk 13 (v := ?_) rfl (by kernel_rfl) (by kernel_rfl) (by kernel_rfl) (by kernel_rfl) ?_ ?_
              rotate_left
              · intro w2 hE
                obtain ⟨⟨p4, q4⟩, ⟨r0, r1, r2, r3, r4, r5⟩, r0', r1', r2', r3', r4', r5'⟩ := HRC.out w2 hE
                have hbr : b < w2.heap.size := World.block_lt_of_cell? _ _ r0
                have hbr' : b' < w2.heap.size := World.block_lt_of_cell? _ _ r0'
                go_simp
                try (with_reducible rfl)
              try simp only [List.getElem_toArray, List.getElem_cons_zero, List.getElem_cons_succ, Act.put, List.setIfInBounds_toArray, List.set_cons_zero, List.set_cons_succ]
              refine wpAnyE_sk 14 rfl (by kernel_rfl) (by kernel_rfl) (by kernel_rfl) (by kernel_rfl) ?_
              try simp only [List.getElem_toArray, List.getElem_cons_zero, List.getElem_cons_succ, Act.put, List.setIfInBounds_toArray, List.set_cons_zero, List.set_cons_succ]
              refine wpAnyE_sk 15 rfl (by kernel_rfl) (by kernel_rfl) (by kernel_rfl) (by kernel_rfl) ?_
              try simp only [List.getElem_toArray, List.getElem_cons_zero, List.getElem_cons_succ, Act.put, List.setIfInBounds_toArray, List.set_cons_zero, List.set_cons_succ]
              refine wpAnyE_sk 16 rfl (by kernel_rfl) (by kernel_rfl) (by kernel_rfl) (by kernel_rfl) ?_
              try simp only [List.getElem_toArray, List.getElem_cons_zero, List.getElem_cons_succ, Act.put, List.setIfInBounds_toArray, List.set_cons_zero, List.set_cons_succ]
              refine wpAnyE_sk 17 rfl (by kernel_rfl) (by kernel_rfl) (by kernel_rfl) (by kernel_rfl) ?_
              try simp only [List.getElem_toArray, List.getElem_cons_zero, List.getElem_cons_succ, Act.put, List.setIfInBounds_toArray, List.set_cons_zero, List.set_cons_succ]
              refine wpAnyE_sk 18 rfl (by kernel_rfl) (by kernel_rfl) (by kernel_rfl) (by kernel_rfl) ?_
              try simp only [List.getElem_toArray, List.getElem_cons_zero, List.getElem_cons_succ, Act.put, List.setIfInBounds_toArray, List.set_cons_zero, List.set_cons_succ]
              refine wpAnyE_sk 19 rfl (by kernel_rfl) (by kernel_rfl) (by kernel_rfl) (by kernel_rfl) ?_
              try simp only [List.getElem_toArray, List.getElem_cons_zero, List.getElem_cons_succ, Act.put, List.setIfInBounds_toArray, List.set_cons_zero, List.set_cons_succ]
              refine wpAnyE_sk 20 rfl (by kernel_rfl) (by kernel_rfl) (by kernel_rfl) (by kernel_rfl) ?_
              try simp only [List.getElem_toArray, List.getElem_cons_zero, List.getElem_cons_succ, Act.put, List.setIfInBounds_toArray, List.set_cons_zero, List.set_cons_succ]
              refine wpAnyE_sk 21 rfl (by kernel_rfl) (by kernel_rfl) (by kernel_rfl) (by kernel_rfl) ?_
              try simp only [List.getElem_toArray, List.getElem_cons_zero, List.getElem_cons_succ, Act.put, List.setIfInBounds_toArray, List.set_cons_zero, List.set_cons_succ]
              refine wpAnyE_sk 22 rfl (by kernel_rfl) (by kernel_rfl) (by kernel_rfl) (by kernel_rfl) ?_
              try simp only [List.getElem_toArray, List.getElem_cons_zero, List.getElem_cons_succ, Act.put, List.setIfInBounds_toArray, List.set_cons_zero, List.set_cons_succ]
              refine wpAnyE_sk 23 rfl (by kernel_rfl) (by kernel_rfl) (by kernel_rfl) (by kernel_rfl) ?_
              try simp only [List.getElem_toArray, List.getElem_cons_zero, List.getElem_cons_succ, Act.put, List.setIfInBounds_toArray, List.set_cons_zero, List.set_cons_succ]
              refine wpAnyE_sk 24 rfl (by kernel_rfl) (by kernel_rfl) (by kernel_rfl) (by kernel_rfl) ?_
              try simp only [List.getElem_toArray, List.getElem_cons_zero, List.getElem_cons_succ, Act.put, List.setIfInBounds_toArray, List.set_cons_zero, List.set_cons_succ]
              refine wpAnyE_sk 25 rfl (by kernel_rfl) (by kernel_rfl) (by kernel_rfl) (by kernel_rfl) ?_
              try simp only [List.getElem_toArray, List.getElem_cons_zero, List.getElem_cons_succ, Act.put, List.setIfInBounds_toArray, List.set_cons_zero, List.set_cons_succ]
              refine wpAnyE_sk 26 rfl (by kernel_rfl) (by kernel_rfl) (by kernel_rfl) (by kernel_rfl) ?_
              try simp only [List.getElem_toArray, List.getElem_cons_zero, List.getElem_cons_succ, Act.put, List.setIfInBounds_toArray, List.set_cons_zero, List.set_cons_succ]
              refine wpAnyE_sk 27 rfl (by kernel_rfl) (by kernel_rfl) (by kernel_rfl) (by kernel_rfl) ?_
              try simp only [List.getElem_toArray, List.getElem_cons_zero, List.getElem_cons_succ, Act.put, List.setIfInBounds_toArray, List.set_cons_zero, List.set_cons_succ]
              refine wpAnyE_tk 28 (v := ?_) rfl (by kernel_rfl) (by kernel_rfl) (by kernel_rfl) (by kernel_rfl) ?_ ?_
              rotate_left
              · intro w2 hE
                obtain ⟨⟨p4, q4⟩, ⟨r0, r1, r2, r3, r4, r5⟩, r0', r1', r2', r3', r4', r5'⟩ := HRC.out w2 hE
                have hbr : b < w2.heap.size := World.block_lt_of_cell? _ _ r0
                have hbr' : b' < w2.heap.size := World.block_lt_of_cell? _ _ r0'
                go_simp
                try (with_reducible rfl)
              try simp only [List.getElem_toArray, List.getElem_cons_zero, List.getElem_cons_succ, Act.put, List.setIfInBounds_toArray, List.set_cons_zero, List.set_cons_succ]
              refine wpAnyE_done (by kernel_rfl) (fun w5 hE5 => ?_) _
              have HB5 := Lib.hid (bel_trans HDW.out hE5)
              clear hE5 HRC HC
              go_wp2_with fail
              go_ret
              exact ⟨rfl, bel_trans HBA.out HB5.out⟩
            | true =>
              have hnq : nm.toList = nm'.toList := by simpa using hnn
              have hnb : (nm.toList != nm'.toList) = false := by simpa using hnn
              go_wp2_with fail
              refine wp_region_E (by kernel_rfl) ?_
              clear r0 r1 r2 r3 r4 r5 r0' r1' r2' r3' r4' r5' hbr hbr' p3 p4 q3 q4 hzp' hzq'
              refine wpAnyE_tk 0 (v := ?_) rfl (by kernel_rfl) (by kernel_rfl) (by kernel_rfl) (by kernel_rfl) ?_ ?_
              rotate_left
              · intro w2 hE
                obtain ⟨⟨p4, q4⟩, ⟨r0, r1, r2, r3, r4, r5⟩, r0', r1', r2', r3', r4', r5'⟩ := HRC.out w2 hE
                have hbr : b < w2.heap.size := World.block_lt_of_cell? _ _ r0
                have hbr' : b' < w2.heap.size := World.block_lt_of_cell? _ _ r0'
                go_simp
                try (with_reducible rfl)
              try simp only [List.getElem_toArray, List.getElem_cons_zero, Act.put, List.setIfInBounds_toArray, List.set_cons_zero, List.set_cons_succ]
              refine wpAnyE_tk 1 (v := ?_) rfl (by kernel_rfl) (by kernel_rfl) (by kernel_rfl) (by kernel_rfl) ?_ ?_
              rotate_left
              · intro w2 hE
                obtain ⟨⟨p4, q4⟩, ⟨r0, r1, r2, r3, r4, r5⟩, r0', r1', r2', r3', r4', r5'⟩ := HRC.out w2 hE
                have hbr : b < w2.heap.size := World.block_lt_of_cell? _ _ r0
                have hbr' : b' < w2.heap.size := World.block_lt_of_cell? _ _ r0'
                go_simp
                try (with_reducible rfl)
              try simp only [List.getElem_toArray, List.getElem_cons_zero, List.getElem_cons_succ, Act.put, List.setIfInBounds_toArray, List.set_cons_zero, List.set_cons_succ]
              refine wpAnyE_tk 2 (v := ?_) rfl (by kernel_rfl) (by kernel_rfl) (by kernel_rfl) (by kernel_rfl) ?_ ?_
              rotate_left
              · intro w2 hE
                obtain ⟨⟨p4, q4⟩, ⟨r0, r1, r2, r3, r4, r5⟩, r0', r1', r2', r3', r4', r5'⟩ := HRC.out w2 hE
                have hbr : b < w2.heap.size := World.block_lt_of_cell? _ _ r0
                have hbr' : b' < w2.heap.size := World.block_lt_of_cell? _ _ r0'
                go_simp
                try (with_reducible rfl)
              try simp only [List.getElem_toArray, List.getElem_cons_zero, List.getElem_cons_succ, Act.put, List.setIfInBounds_toArray, List.set_cons_zero, List.set_cons_succ]
              refine wpAnyE_tk 3 (v := ?_) rfl (by kernel_rfl) (by kernel_rfl) (by kernel_rfl) (by kernel_rfl) ?_ ?_
              rotate_left
              · intro w2 hE
                obtain ⟨⟨p4, q4⟩, ⟨r0, r1, r2, r3, r4, r5⟩, r0', r1', r2', r3', r4', r5'⟩ := HRC.out w2 hE
                have hbr : b < w2.heap.size := World.block_lt_of_cell? _ _ r0
                have hbr' : b' < w2.heap.size := World.block_lt_of_cell? _ _ r0'
                go_simp
                try (with_reducible rfl)
              try simp only [List.getElem_toArray, List.getElem_cons_zero, List.getElem_cons_succ, Act.put, List.setIfInBounds_toArray, List.set_cons_zero, List.set_cons_succ]
              refine wpAnyE_tk 4 (v := ?_) rfl (by kernel_rfl) (by kernel_rfl) (by kernel_rfl) (by kernel_rfl) ?_ ?_
              rotate_left
              · intro w2 hE
                obtain ⟨⟨p4, q4⟩, ⟨r0, r1, r2, r3, r4, r5⟩, r0', r1', r2', r3', r4', r5'⟩ := HRC.out w2 hE
                have hbr : b < w2.heap.size := World.block_lt_of_cell? _ _ r0
                have hbr' : b' < w2.heap.size := World.block_lt_of_cell? _ _ r0'
                go_simp
                try (with_reducible rfl)
              try simp only [List.getElem_toArray, List.getElem_cons_zero, List.getElem_cons_succ, Act.put, List.setIfInBounds_toArray, List.set_cons_zero, List.set_cons_succ]
              refine wpAnyE_tk 5 (v := ?_) rfl (by kernel_rfl) (by kernel_rfl) (by kernel_rfl) (by kernel_rfl) ?_ ?_
              rotate_left
              · intro w2 hE
                obtain ⟨⟨p4, q4⟩, ⟨r0, r1, r2, r3, r4, r5⟩, r0', r1', r2', r3', r4', r5'⟩ := HRC.out w2 hE
                have hbr : b < w2.heap.size := World.block_lt_of_cell? _ _ r0
                have hbr' : b' < w2.heap.size := World.block_lt_of_cell? _ _ r0'
                go_simp
                try (with_reducible rfl)
              try simp only [List.getElem_toArray, List.getElem_cons_zero, List.getElem_cons_succ, Act.put, List.setIfInBounds_toArray, List.set_cons_zero, List.set_cons_succ]
              refine wpAnyE_tk 6 (v := ?_) rfl (by kernel_rfl) (by kernel_rfl) (by kernel_rfl) (by kernel_rfl) ?_ ?_
              rotate_left
              · intro w2 hE
                obtain ⟨⟨p4, q4⟩, ⟨r0, r1, r2, r3, r4, r5⟩, r0', r1', r2', r3', r4', r5'⟩ := HRC.out w2 hE
                have hbr : b < w2.heap.size := World.block_lt_of_cell? _ _ r0
                have hbr' : b' < w2.heap.size := World.block_lt_of_cell? _ _ r0'
                go_simp
                try (with_reducible rfl)
              try simp only [List.getElem_toArray, List.getElem_cons_zero, List.getElem_cons_succ, Act.put, List.setIfInBounds_toArray, List.set_cons_zero, List.set_cons_succ]
              refine wpAnyE_tk 7 (v := ?_) rfl (by kernel_rfl) (by kernel_rfl) (by kernel_rfl) (by kernel_rfl) ?_ ?_
              rotate_left
              · intro w2 hE
                obtain ⟨⟨p4, q4⟩, ⟨r0, r1, r2, r3, r4, r5⟩, r0', r1', r2', r3', r4', r5'⟩ := HRC.out w2 hE
                have hbr : b < w2.heap.size := World.block_lt_of_cell? _ _ r0
                have hbr' : b' < w2.heap.size := World.block_lt_of_cell? _ _ r0'
                go_simp
                try (with_reducible rfl)
              try simp only [List.getElem_toArray, List.getElem_cons_zero, List.getElem_cons_succ, Act.put, List.setIfInBounds_toArray, List.set_cons_zero, List.set_cons_succ]
              refine wpAnyE_tk 8 (v := ?_) rfl (by kernel_rfl) (by kernel_rfl) (by kernel_rfl) (by kernel_rfl) ?_ ?_
              rotate_left
              · intro w2 hE
                obtain ⟨⟨p4, q4⟩, ⟨r0, r1, r2, r3, r4, r5⟩, r0', r1', r2', r3', r4', r5'⟩ := HRC.out w2 hE
                have hbr : b < w2.heap.size := World.block_lt_of_cell? _ _ r0
                have hbr' : b' < w2.heap.size := World.block_lt_of_cell? _ _ r0'
                go_simp
                try (with_reducible rfl)
              try simp only [List.getElem_toArray, List.getElem_cons_zero, List.getElem_cons_succ, Act.put, List.setIfInBounds_toArray, List.set_cons_zero, List.set_cons_succ]
              refine wpAnyE_tk 9 (v := ?_) rfl (by kernel_rfl) (by kernel_rfl) (by kernel_rfl) (by kernel_rfl) ?_ ?_
              rotate_left
              · intro w2 hE
                obtain ⟨⟨p4, q4⟩, ⟨r0, r1, r2, r3, r4, r5⟩, r0', r1', r2', r3', r4', r5'⟩ := HRC.out w2 hE
                have hbr : b < w2.heap.size := World.block_lt_of_cell? _ _ r0
                have hbr' : b' < w2.heap.size := World.block_lt_of_cell? _ _ r0'
                go_simp
                try (with_reducible rfl)
              try simp only [List.getElem_toArray, List.getElem_cons_zero, List.getElem_cons_succ, Act.put, List.setIfInBounds_toArray, List.set_cons_zero, List.set_cons_succ]
              refine wpAnyE_tk 10 (v := ?_) rfl (by kernel_rfl) (by kernel_rfl) (by kernel_rfl) (by kernel_rfl) ?_ ?_
              rotate_left
              · intro w2 hE
                obtain ⟨⟨p4, q4⟩, ⟨r0, r1, r2, r3, r4, r5⟩, r0', r1', r2', r3', r4', r5'⟩ := HRC.out w2 hE
                have hbr : b < w2.heap.size := World.block_lt_of_cell? _ _ r0
                have hbr' : b' < w2.heap.size := World.block_lt_of_cell? _ _ r0'
                go_simp
                try (with_reducible rfl)
              try simp only [List.getElem_toArray, List.getElem_cons_zero, List.getElem_cons_succ, Act.put, List.setIfInBounds_toArray, List.set_cons_zero, List.set_cons_succ]
              refine wpAnyE_tk 11 (v := ?_) rfl (by kernel_rfl) (by kernel_rfl) (by kernel_rfl) (by kernel_rfl) ?_ ?_
              rotate_left
              · intro w2 hE
                obtain ⟨⟨p4, q4⟩, ⟨r0, r1, r2, r3, r4, r5⟩, r0', r1', r2', r3', r4', r5'⟩ := HRC.out w2 hE
                have hbr : b < w2.heap.size := World.block_lt_of_cell? _ _ r0
                have hbr' : b' < w2.heap.size := World.block_lt_of_cell? _ _ r0'
                go_simp
                try (with_reducible rfl)
              try simp only [List.getElem_toArray, List.getElem_cons_zero, List.getElem_cons_succ, Act.put, List.setIfInBounds_toArray, List.set_cons_zero, List.set_cons_succ]
              refine wpAnyE_tk 12 (v := ?_) rfl (by kernel_rfl) (by kernel_rfl) (by kernel_rfl) (by kernel_rfl) ?_ ?_
              rotate_left
              · intro w2 hE
                obtain ⟨⟨p4, q4⟩, ⟨r0, r1, r2, r3, r4, r5⟩, r0', r1', r2', r3', r4', r5'⟩ := HRC.out w2 hE
                have hbr : b < w2.heap.size := World.block_lt_of_cell? _ _ r0
                have hbr' : b' < w2.heap.size := World.block_lt_of_cell? _ _ r0'
                go_simp
                try (with_reducible rfl)
              try simp only [List.getElem_toArray, List.getElem_cons_zero, List.getElem_cons_succ, Act.put, List.setIfInBounds_toArray, List.set_cons_zero, List.set_cons_succ]
              refine wpAnyE_tk 13 (v := ?_) rfl (by kernel_rfl) (by kernel_rfl) (by kernel_rfl) (by kernel_rfl) ?_ ?_
              rotate_left
              · intro w2 hE
                obtain ⟨⟨p4, q4⟩, ⟨r0, r1, r2, r3, r4, r5⟩, r0', r1', r2', r3', r4', r5'⟩ := HRC.out w2 hE
                have hbr : b < w2.heap.size := World.block_lt_of_cell? _ _ r0
                have hbr' : b' < w2.heap.size := World.block_lt_of_cell? _ _ r0'
                go_simp
                try (with_reducible rfl)
              try simp only [List.getElem_toArray, List.getElem_cons_zero, List.getElem_cons_succ, Act.put, List.setIfInBounds_toArray, List.set_cons_zero, List.set_cons_succ]
              refine wpAnyE_tk 14 (v := ?_) rfl (by kernel_rfl) (by kernel_rfl) (by kernel_rfl) (by kernel_rfl) ?_ ?_
              rotate_left
              · intro w2 hE
                obtain ⟨⟨p4, q4⟩, ⟨r0, r1, r2, r3, r4, r5⟩, r0', r1', r2', r3', r4', r5'⟩ := HRC.out w2 hE
                have hbr : b < w2.heap.size := World.block_lt_of_cell? _ _ r0
                have hbr' : b' < w2.heap.size := World.block_lt_of_cell? _ _ r0'
                go_simp
                try (with_reducible rfl)
              try simp only [List.getElem_toArray, List.getElem_cons_zero, List.getElem_cons_succ, Act.put, List.setIfInBounds_toArray, List.set_cons_zero, List.set_cons_succ]
              refine wpAnyE_tk 15 (v := ?_) rfl (by kernel_rfl) (by kernel_rfl) (by kernel_rfl) (by kernel_rfl) ?_ ?_
              rotate_left
              · intro w2 hE
                obtain ⟨⟨p4, q4⟩, ⟨r0, r1, r2, r3, r4, r5⟩, r0', r1', r2', r3', r4', r5'⟩ := HRC.out w2 hE
                have hbr : b < w2.heap.size := World.block_lt_of_cell? _ _ r0
                have hbr' : b' < w2.heap.size := World.block_lt_of_cell? _ _ r0'
                go_simp
                try (with_reducible rfl)
              try simp only [List.getElem_toArray, List.getElem_cons_zero, List.getElem_cons_succ, Act.put, List.setIfInBounds_toArray, List.set_cons_zero, List.set_cons_succ]
              refine wpAnyE_tk 16 (v := ?_) rfl (by kernel_rfl) (by kernel_rfl) (by kernel_rfl) (by kernel_rfl) ?_ ?_
              rotate_left
              · intro w2 hE
                obtain ⟨⟨p4, q4⟩, ⟨r0, r1, r2, r3, r4, r5⟩, r0', r1', r2', r3', r4', r5'⟩ := HRC.out w2 hE
                have hbr : b < w2.heap.size := World.block_lt_of_cell? _ _ r0
                have hbr' : b' < w2.heap.size := World.block_lt_of_cell? _ _ r0'
                go_simp
                try (with_reducible rfl)
              try simp only [List.getElem_toArray, List.getElem_cons_zero, List.getElem_cons_succ, Act.put, List.setIfInBounds_toArray, List.set_cons_zero, List.set_cons_succ]
              refine wpAnyE_tk 17 (v := ?_) rfl (by kernel_rfl) (by kernel_rfl) (by kernel_rfl) (by kernel_rfl) ?_ ?_
              rotate_left
              · intro w2 hE
                obtain ⟨⟨p4, q4⟩, ⟨r0, r1, r2, r3, r4, r5⟩, r0', r1', r2', r3', r4', r5'⟩ := HRC.out w2 hE
                have hbr : b < w2.heap.size := World.block_lt_of_cell? _ _ r0
                have hbr' : b' < w2.heap.size := World.block_lt_of_cell? _ _ r0'
                go_simp
                try (with_reducible rfl)
              try simp only [List.getElem_toArray, List.getElem_cons_zero, List.getElem_cons_succ, Act.put, List.setIfInBounds_toArray, List.set_cons_zero, List.set_cons_succ]
              refine wpAnyE_tk 18 (v := ?_) rfl (by kernel_rfl) (by kernel_rfl) (by kernel_rfl) (by kernel_rfl) ?_ ?_
              rotate_left
              · intro w2 hE
                obtain ⟨⟨p4, q4⟩, ⟨r0, r1, r2, r3, r4, r5⟩, r0', r1', r2', r3', r4', r5'⟩ := HRC.out w2 hE
                have hbr : b < w2.heap.size := World.block_lt_of_cell? _ _ r0
                have hbr' : b' < w2.heap.size := World.block_lt_of_cell? _ _ r0'
                go_simp
                try (with_reducible rfl)
              try simp only [List.getElem_toArray, List.getElem_cons_zero, List.getElem_cons_succ, Act.put, List.setIfInBounds_toArray, List.set_cons_zero, List.set_cons_succ]
              refine wpAnyE_tk 19 (v := ?_) rfl (by kernel_rfl) (by kernel_rfl) (by kernel_rfl) (by kernel_rfl) ?_ ?_
              rotate_left
              · intro w2 hE
                obtain ⟨⟨p4, q4⟩, ⟨r0, r1, r2, r3, r4, r5⟩, r0', r1', r2', r3', r4', r5'⟩ := HRC.out w2 hE
                have hbr : b < w2.heap.size := World.block_lt_of_cell? _ _ r0
                have hbr' : b' < w2.heap.size := World.block_lt_of_cell? _ _ r0'
                go_simp
                try (with_reducible rfl)
              try simp only [List.getElem_toArray, List.getElem_cons_zero, List.getElem_cons_succ, Act.put, List.setIfInBounds_toArray, List.set_cons_zero, List.set_cons_succ]
              refine wpAnyE_tk 20 (v := ?_) rfl (by kernel_rfl) (by kernel_rfl) (by kernel_rfl) (by kernel_rfl) ?_ ?_
              rotate_left
              · intro w2 hE
                obtain ⟨⟨p4, q4⟩, ⟨r0, r1, r2, r3, r4, r5⟩, r0', r1', r2', r3', r4', r5'⟩ := HRC.out w2 hE
                have hbr : b < w2.heap.size := World.block_lt_of_cell? _ _ r0
                have hbr' : b' < w2.heap.size := World.block_lt_of_cell? _ _ r0'
                go_simp
                try (with_reducible rfl)
              try simp only [List.getElem_toArray, List.getElem_cons_zero, List.getElem_cons_succ, Act.put, List.setIfInBounds_toArray, List.set_cons_zero, List.set_cons_succ]
              refine wpAnyE_tk 21 (v := ?_) rfl (by kernel_rfl) (by kernel_rfl) (by kernel_rfl) (by kernel_rfl) ?_ ?_
              rotate_left
              · intro w2 hE
                obtain ⟨⟨p4, q4⟩, ⟨r0, r1, r2, r3, r4, r5⟩, r0', r1', r2', r3', r4', r5'⟩ := HRC.out w2 hE
                have hbr : b < w2.heap.size := World.block_lt_of_cell? _ _ r0
                have hbr' : b' < w2.heap.size := World.block_lt_of_cell? _ _ r0'
                go_simp
                try (with_reducible rfl)
              try simp only [List.getElem_toArray, List.getElem_cons_zero, List.getElem_cons_succ, Act.put, List.setIfInBounds_toArray, List.set_cons_zero, List.set_cons_succ]
              refine wpAnyE_tk 22 (v := ?_) rfl (by kernel_rfl) (by kernel_rfl) (by kernel_rfl) (by kernel_rfl) ?_ ?_
              rotate_left
              · intro w2 hE
                obtain ⟨⟨p4, q4⟩, ⟨r0, r1, r2, r3, r4, r5⟩, r0', r1', r2', r3', r4', r5'⟩ := HRC.out w2 hE
                have hbr : b < w2.heap.size := World.block_lt_of_cell? _ _ r0
                have hbr' : b' < w2.heap.size := World.block_lt_of_cell? _ _ r0'
                go_simp
                try (with_reducible rfl)
              try simp only [List.getElem_toArray, List.getElem_cons_zero, List.getElem_cons_succ, Act.put, List.setIfInBounds_toArray, List.set_cons_zero, List.set_cons_succ]
              refine wpAnyE_tk 23 (v := ?_) rfl (by kernel_rfl) (by kernel_rfl) (by kernel_rfl) (by kernel_rfl) ?_ ?_
              rotate_left
              · intro w2 hE
                obtain ⟨⟨p4, q4⟩, ⟨r0, r1, r2, r3, r4, r5⟩, r0', r1', r2', r3', r4', r5'⟩ := HRC.out w2 hE
                have hbr : b < w2.heap.size := World.block_lt_of_cell? _ _ r0
                have hbr' : b' < w2.heap.size := World.block_lt_of_cell? _ _ r0'
                go_simp
                try (with_reducible rfl)
              try simp only [List.getElem_toArray, List.getElem_cons_zero, List.getElem_cons_succ, Act.put, List.setIfInBounds_toArray, List.set_cons_zero, List.set_cons_succ]
              refine wpAnyE_tk 24 (v := ?_) rfl (by kernel_rfl) (by kernel_rfl) (by kernel_rfl) (by kernel_rfl) ?_ ?_
              rotate_left
              · intro w2 hE
                obtain ⟨⟨p4, q4⟩, ⟨r0, r1, r2, r3, r4, r5⟩, r0', r1', r2', r3', r4', r5'⟩ := HRC.out w2 hE
                have hbr : b < w2.heap.size := World.block_lt_of_cell? _ _ r0
                have hbr' : b' < w2.heap.size := World.block_lt_of_cell? _ _ r0'
                go_simp
                try (with_reducible rfl)
              try simp only [List.getElem_toArray, List.getElem_cons_zero, List.getElem_cons_succ, Act.put, List.setIfInBounds_toArray, List.set_cons_zero, List.set_cons_succ]
              refine wpAnyE_tk 25 (v := ?_) rfl (by kernel_rfl) (by kernel_rfl) (by kernel_rfl) (by kernel_rfl) ?_ ?_
              rotate_left
              · intro w2 hE
                obtain ⟨⟨p4, q4⟩, ⟨r0, r1, r2, r3, r4, r5⟩, r0', r1', r2', r3', r4', r5'⟩ := HRC.out w2 hE
                have hbr : b < w2.heap.size := World.block_lt_of_cell? _ _ r0
                have hbr' : b' < w2.heap.size := World.block_lt_of_cell? _ _ r0'
                go_simp
                try (with_reducible rfl)
              try simp only [List.getElem_toArray, List.getElem_cons_zero, List.getElem_cons_succ, Act.put, List.setIfInBounds_toArray, List.set_cons_zero, List.set_cons_succ]
              refine wpAnyE_tk 26 (v := .bool bb) rfl (by kernel_rfl) (by kernel_rfl) (by kernel_rfl) (by kernel_rfl) ?_ ?_
              · intro w2 hE
                obtain ⟨⟨p4, q4⟩, ⟨r0, r1, r2, r3, r4, r5⟩, r0', r1', r2', r3', r4', r5'⟩ := HRC.out w2 hE
                have hbr : b < w2.heap.size := World.block_lt_of_cell? _ _ r0
                have hbr' : b' < w2.heap.size := World.block_lt_of_cell? _ _ r0'
                go_simp
                exact (HC.out w2 (bel_trans (bel_drew (Below.refl _ _)) hE)).mono fun e w3 ⟨h1, h2⟩ => ⟨h1, h2⟩
              try simp only [List.getElem_toArray, List.getElem_cons_zero, List.getElem_cons_succ, Act.put, List.setIfInBounds_toArray, List.set_cons_zero, List.set_cons_succ]
              refine wpAnyE_tk 27 (v := ?_) rfl (by kernel_rfl) (by kernel_rfl) (by kernel_rfl) (by kernel_rfl) ?_ ?_
              rotate_left
              · intro w2 hE
                obtain ⟨⟨p4, q4⟩, ⟨r0, r1, r2, r3, r4, r5⟩, r0', r1', r2', r3', r4', r5'⟩ := HRC.out w2 hE
                have hbr : b < w2.heap.size := World.block_lt_of_cell? _ _ r0
                have hbr' : b' < w2.heap.size := World.block_lt_of_cell? _ _ r0'
                go_simp
                try (with_reducible rfl)
              try simp only [List.getElem_toArray, List.getElem_cons_zero, List.getElem_cons_succ, Act.put, List.setIfInBounds_toArray, List.set_cons_zero, List.set_cons_succ]
              refine wpAnyE_tk 28 (v := ?_) rfl (by kernel_rfl) (by kernel_rfl) (by kernel_rfl) (by kernel_rfl) ?_ ?_
              rotate_left
              · intro w2 hE
                obtain ⟨⟨p4, q4⟩, ⟨r0, r1, r2, r3, r4, r5⟩, r0', r1', r2', r3', r4', r5'⟩ := HRC.out w2 hE
                have hbr : b < w2.heap.size := World.block_lt_of_cell? _ _ r0
                have hbr' : b' < w2.heap.size := World.block_lt_of_cell? _ _ r0'
                go_simp
                try (with_reducible rfl)
              try simp only [List.getElem_toArray, List.getElem_cons_zero, List.getElem_cons_succ, Act.put, List.setIfInBounds_toArray, List.set_cons_zero, List.set_cons_succ]
              refine wpAnyE_done (by kernel_rfl) (fun w5 hE5 => ?_) _
              have HB5 := Lib.hid (bel_trans HDW.out hE5)
              have HB6 := Lib.hid (bel_trans HDA.out hE5)
              have p4 := (HRC.out w5 hE5).1.1
              have q4 := (HRC.out w5 hE5).1.2
              clear hE5 HRC HC
              cases bb with
              | false =>
                have hR : R = false := by rw [HR2.out, HST.out, hnn]; rfl
                subst hR
                clear hsb
                go_wp2_with fail
                go_ret
                exact ⟨rfl, bel_trans HBA.out HB5.out⟩
              | true =>
                have hR : sameM x.m y.m = sameM (x.m.drop (k' + 1)) (y.m.drop (k' + 1)) := by rw [HST.out, hnn]; rfl
                have HR3 := Lib.hid hR
                clear hR hsb
                go_wp2_with fail
                go_roundg (lm - (k' + 1))
                case measure => omega
                case rel => exact ⟨k' + 1, by omega, by omega, by simp, HB6.out, HR3.out⟩
          · have hltz' : ¬ (k' : Int) < (lm : Int) := by omega
            have hR : R = true := by rw [HR2.out, sameM_end HA'.out (by have := Hm.out; omega) (by have := Hm.out; have := Hm'.out; omega)]
            subst hR
            go_wp2_with fail
            go_ret
            exact ⟨rfl, hbq⟩
  all_goals
    have hR : R = false := HRF.out (by first | exact .inl (by assumption) | exact .inr (.inl (by assumption)) | exact .inr (.inr (.inl (by assumption))) | exact .inr (.inr (.inr (.inl (by assumption)))) | exact .inr (.inr (.inr (.inr (by assumption)))))
    subst hR
    try (have q3 : x.s.toList = y.s.toList := by simpa using g3)
    try (have q3 : ¬ x.s.toList = y.s.toList := by simpa using g3)
    try (have q4 : (x.l.length : Int) = (y.l.length : Int) := by simpa using g4)
    try (have q4 : ¬ (x.l.length : Int) = (y.l.length : Int) := by simpa using g4)
    clear HRF HRT HL HM HL' HM' IHL IHM
    go_enter Tryz.func10, Tryz.ntmps10
    go_upto_region 1 with (fail)
    rw [HW.out]
    go_wp2_with fail
    go_ret
    exact ⟨rfl, HBA.out⟩
theorem rsame_any (x : JV) : RSameAt x := by
  have key : ∀ (n : Nat) (x : JV), SizeOf.sizeOf x < n → RSameAt x := fun n => by
    induction n with
    | zero => intro x h; omega
    | succ n ih =>
      intro x h
      exact rsame_step x (fun q hq => ih q (by have := val_size' hq; omega)) (fun q hq => ih q.2 (by have := mem_size hq; omega))
  exact key _ x (Nat.lt_succ_self _)
end Go.Proofs.YtjjgbgojlhaapaaGreatDoor
