/- Parts of the proof: S, Jm, Sk, MkP, MkQ. -/
import Derived.Test.YtlihjmfdnkfmfaaGreatDoorZRback24
import Derived.Test.YtlihjmfdnkfmfaaGreatDoorZRback5
import Derived.Test.YtlihjmfdnkfmfaaGreatDoorZRback29
import Derived.Test.YtlihjmfdnkfmfaaGreatDoorZRback26
namespace Go.Proofs.YtlihjmfdnkfmfaaGreatDoor
open Go.RowKit Go.Lib

theorem valInfo : (Tryz.prog.info? 43).map (fun i => (i.zero, i.size, i.bytes)) = some (some (.agg #[.int .i64 0, .int .i64 0, .string ⟨#[]⟩, .slice none 0 0, .slice none 0 0]), 5, 80) := by kernel_rfl
theorem slM_cells {w : World} {F : Nat → Prop} {v : Value} {xs : List Mk} (hs : Sl mkTy w F v xs) : ∃ A c, v = .slice A xs.length c ∧ xs.length ≤ 9223372036854775807 ∧ ∀ k x, xs[k]? = some x → ∃ b o, A = some ⟨b, o, none⟩ ∧ w.cell? ⟨b, o + k * 2, none⟩ = some (.int .i64 x.t) ∧ w.cell? ⟨b, o + k * 2 + 1, none⟩ = some (.int .i64 x.u) := by
  rcases hs with ⟨rfl, A, c, rfl⟩ | ⟨b, o, c, rfl, _, h3, h4, hel⟩
  · exact ⟨A, c, rfl, by simp, fun k x hk => by simp at hk⟩
  · refine ⟨_, _, rfl, by omega, fun k x hk => ?_⟩
    obtain ⟨h1, h2⟩ := mk_cells hel k x hk
    exact ⟨b, o, rfl, h1, h2⟩

theorem number_lit (n : Int) (w : World) : Calls Tryz.prog 87 #[.int .i64 n] w fun e w' => e = .returned (.agg #[.int .i64 4, .int .i64 n, .string ⟨#[]⟩, .slice none 0 0, .slice none 0 0]) ∧ Below w.heap.size w w' := number_any n w
def PRel (xs : List Mk) (w : World) (B T k : Nat) (wr : World) : Prop := ∃ v cs, wr.heap[T]? = some (.cells #[.int .i64 6, .int .i64 0, .string ⟨#[]⟩, v, .slice none 0 0] 43 (0, 0)) ∧ wr.ownsRow (T + 1) 43 5 v k cs ∧
  Chunks jvTy wr (fun b => T < b ∧ b < wr.heap.size ∧ some b ≠ v.ownBlock) ((xs.take k).map markV) cs ∧ Below B w wr
theorem numV_jr (w : World) (F : Nat → Prop) (n : Int) : JR w F (numV n) [.int .i64 4, .int .i64 n, .string ⟨#[]⟩, .slice none 0 0, .slice none 0 0] :=
  JR_iff.2 ⟨.slice none 0 0, .slice none 0 0, ⟨rfl, by simp [numV, JV.s, ByteArray.size]⟩, .inl ⟨rfl, none, 0, rfl⟩, .inl ⟨rfl, none, 0, rfl⟩⟩
theorem markV_jr (w : World) (F : Nat → Prop) (m : Mk) (g : Nat) (hF : F g)
    (hg : w.heap[g]? = some (.cells #[.int .i64 4, .int .i64 m.t, .string ⟨#[]⟩, .slice none 0 0, .slice none 0 0, .int .i64 4, .int .i64 m.u, .string ⟨#[]⟩, .slice none 0 0, .slice none 0 0] 43 (0, 0))) :
    JR w F (markV m) [.int .i64 6, .int .i64 0, .string ⟨#[]⟩, .slice (some ⟨g, 0, none⟩) 2 2, .slice none 0 0] := by
  refine JR_iff.2 ⟨.slice (some ⟨g, 0, none⟩) 2 2, .slice none 0 0, ⟨rfl, by simp [markV, JV.s, ByteArray.size]⟩, .inr ⟨g, 0, 2, rfl, hF, Nat.le_refl _, by decide, _, ⟨_, _, rfl, numV_jr w F m.t, ⟨_, [], rfl, numV_jr w F m.u, rfl⟩⟩, fun j u hj => ?_⟩, .inl ⟨rfl, none, 0, rfl⟩⟩
  rw [Nat.zero_add, Lib.cell_of_heap hg]
  simpa using hj
theorem mem_single (w5 : World) (nm : ByteArray) (x : JV) (c : List Value) (hn : nm.size ≤ 9223372036854775807) (h : JR w5 (fun _ => True) x c) :
    Sl memTy (w5.alloc (.cells (Value.string nm :: c).toArray 49)) (fun _ => True) (.slice (some ⟨w5.heap.size, 0, none⟩) 1 1) [(nm, x)] :=
  .inr ⟨_, 0, 1, rfl, trivial, Nat.le_refl _, by decide, _, Chunks.single (T := memTy) ⟨c, ⟨rfl, hn⟩, JR_later h (bel_alloc (Below.refl _ _) _)⟩, fun j u hj => by
    rw [Nat.zero_add]; exact cell_newB _ _ _ _ _ (by simpa using hj)⟩
theorem PRel_step {xs : List Mk} {w wr U W : World} {B T k g : Nat} {A' A2 : Option Addr} {c' c2 : Nat} {cs : List Value} {m : Mk}
    (hown : wr.ownsRow (T + 1) 43 5 (.slice A' k c') k cs) (hch : Chunks jvTy wr (fun b => T < b ∧ b < wr.heap.size ∧ some b ≠ (Value.slice A' k c').ownBlock) ((xs.take k).map markV) cs) (hbw : Below B w wr)
    (hTr : T < wr.heap.size) (hBT : B ≤ T) (hU : Below wr.heap.size wr U) (hz : wr.heap.size ≤ g)
    (hg8 : U.heap[g]? = some (.cells #[.int .i64 4, .int .i64 m.t, .string ⟨#[]⟩, .slice none 0 0, .slice none 0 0, .int .i64 4, .int .i64 m.u, .string ⟨#[]⟩, .slice none 0 0, .slice none 0 0] 43 (0, 0)))
    (hg : U.grownBy W (Value.slice A' k c').ownBlock)
    (hx : (Value.slice A2 (k + 1) c2).ownBlock = (Value.slice A' k c').ownBlock ∨ (Value.slice A2 (k + 1) c2).ownBlock = some U.heap.size)
    (hoo : W.ownsRow (T + 1) 43 5 (.slice A2 (k + 1) c2) (k + 1) (cs ++ [.int .i64 6, .int .i64 0, .string ⟨#[]⟩, .slice (some ⟨g, 0, none⟩) 2 2, .slice none 0 0]))
    (hTW : W.heap[T]? = some (.cells #[.int .i64 6, .int .i64 0, .string ⟨#[]⟩, .slice A' k c', .slice none 0 0] 43 (0, 0))) (hxk : xs[k]? = some m) :
    PRel xs w B T (k + 1) (W.setCell ⟨T, 3, none⟩ (.slice A2 (k + 1) c2)) := by
  have hg1 : W.grownBy (W.setCell ⟨T, 3, none⟩ (.slice A2 (k + 1) c2)) (some T) := grown_set _
  have hob : ∀ j, (Value.slice A' k c').ownBlock = some j → T + 1 ≤ j ∧ j < wr.heap.size := fun j hj => hown.lt j hj
  have hob2 : ∀ j, (Value.slice A2 (k + 1) c2).ownBlock = some j → T + 1 ≤ j ∧ j < W.heap.size := fun j hj => hoo.lt j hj
  have hgU : g < U.heap.size := (Array.getElem?_eq_some_iff.1 hg8).1
  have hsz := hg.size
  have hsz2 := hU.size
  have hsz3 : (W.setCell ⟨T, 3, none⟩ (.slice A2 (k + 1) c2)).heap.size = W.heap.size := by simp [World.setCell]
  have hblk : ∀ b, T < b → b < U.heap.size → some b ≠ (Value.slice A' k c').ownBlock → (W.setCell ⟨T, 3, none⟩ (.slice A2 (k + 1) c2)).heap[b]? = U.heap[b]? := fun b h1 h2 h3 =>
    (hg1.block b (by omega) (by intro e; have := Option.some.inj e; omega)).trans (hg.block b h2 h3)
  refine ⟨.slice A2 (k + 1) c2, _, ?_, World.ownsRow.kept hoo hg1 ?_, ?_, ?_⟩
  · simp [World.setCell, Array.getElem?_modify, hTW]
  · rcases hv : (Value.slice A2 (k + 1) c2).ownBlock with _ | j
    · exact .inl rfl
    · right; intro e; have := hob2 j hv; have := Option.some.inj e; omega
  · have e1 : (xs.take (k + 1)).map markV = (xs.take k).map markV ++ [markV m] := by rw [List.take_add_one, hxk]; simp
    rw [e1]
    have hnb : ∀ b, b < U.heap.size → some b ≠ (Value.slice A' k c').ownBlock → some b ≠ (Value.slice A2 (k + 1) c2).ownBlock := fun b hb h3 => by
      rcases hx with h | h
      · rw [h]; exact h3
      · rw [h]; intro e; have := Option.some.inj e; omega
    have hgo : some g ≠ (Value.slice A' k c').ownBlock := by intro e; have := hob g e.symm; omega
    have p1 := (hch.frame (w' := W.setCell ⟨T, 3, none⟩ (.slice A2 (k + 1) c2)) (fun b hb => (hblk b hb.1 (by omega) hb.2.2).trans (hU.block b hb.2.1))).mono (F' := fun b => T < b ∧ b < (W.setCell ⟨T, 3, none⟩ (.slice A2 (k + 1) c2)).heap.size ∧ some b ≠ (Value.slice A2 (k + 1) c2).ownBlock) (fun b hb => ⟨hb.1, by have := hb.2.1; omega, hnb b (by have := hb.2.1; omega) hb.2.2⟩)
    exact p1.append (Chunks.single (T := jvTy) (markV_jr _ _ m g ⟨by omega, by omega, hnb g hgU hgo⟩ ((hblk g (by omega) hgU hgo).trans hg8)))
  · have h1 : Below B w U := hbw.trans (hU.mono (by omega))
    have h2 : Below B w W := h1.grown hg (by omega) (fun j hj => by have := hob j hj; omega)
    exact h2.setCell (by show B ≤ T; omega) _

set_option maxRecDepth 100000 in
set_option maxHeartbeats 4000000 in
theorem putMarks_good (sv : Value) (F : Nat → Prop) (xs : List Mk) (w : World) (hs : Sl mkTy w F sv xs) (hT : Tabs w) (hm : mayB xs = true) :
    Calls Tryz.prog 52 #[sv] w fun e w' => e = .returned (.tuple #[.string ⟨(printB 64 (marksO xs)).toArray⟩, .int .i64 0]) ∧ Below w.heap.size w w' := by
  have hmay := may_any sv F xs w hs
  rw [hm] at hmay
  have hx8 := mayB_len hm
  obtain ⟨A, c, rfl, hn63, hel⟩ := slM_cells hs
  have HMM := Lib.hid (may_marksO hm); have HLL := Lib.hid (print_marks_len hm)
  have Hel := Lib.hid hel; have HMay := Lib.hid hmay; have HT := Lib.hid hT; have HX8 := Lib.hid hx8
  generalize hn : xs.length = n at *
  have Hn := Lib.hid hn
  clear hel hmay hT hx8 hs hm hn
  go_enter Tryz.func52, Tryz.ntmps52
  go_wp2_with fail
  refine Calls.mono HMay.out ?_
  rintro e w1 ⟨rfl, hb1⟩
  go_wp2_with fail
  have h0 : PRel xs w w.heap.size w1.heap.size 0 (w1.alloc (.cells #[.int .i64 6, .int .i64 0, .string ⟨#[]⟩, .slice none 0 0, .slice none 0 0] 43)) := ⟨.slice none 0 0, [], heap_alloc_new w1 _, World.ownsRow_nil _ _ _ _, rfl, hb1.alloc hb1.size _⟩
  have H0 := Lib.hid h0; have HB1 := Lib.hid hb1.size
  clear h0 hb1
  generalize hTe : w1.heap.size = T at *
  have HTe := Lib.hid hTe
  clear hTe
  go_loopg [6, 13] n (fun gg _ s13 wr => ∃ k : Nat, k ≤ n ∧ n - k ≤ gg ∧ s13 = .int .i64 k ∧ Aside (PRel xs w w.heap.size T k wr))
  case atStart => exact ⟨0, Nat.zero_le _, by omega, rfl, H0.out⟩
  case round =>
    obtain ⟨k, hk, hgg, rfl, HP⟩ := hrel
    obtain ⟨v, cs, hbk, hown, hch, hbw⟩ := HP.out
    obtain ⟨A', c', rfl⟩ := own_sliceB hown
    have v0 : wr.cell? ⟨T, 0, none⟩ = some (.int .i64 6) := by rw [Lib.cell_of_heap hbk]; rfl
    have v1 : wr.cell? ⟨T, 1, none⟩ = some (.int .i64 0) := by rw [Lib.cell_of_heap hbk]; rfl
    have v2 : wr.cell? ⟨T, 2, none⟩ = some (.string ⟨#[]⟩) := by rw [Lib.cell_of_heap hbk]; rfl
    have v3 : wr.cell? ⟨T, 3, none⟩ = some (.slice A' k c') := by rw [Lib.cell_of_heap hbk]; rfl
    have v4 : wr.cell? ⟨T, 4, none⟩ = some (.slice none 0 0) := by rw [Lib.cell_of_heap hbk]; rfl
    have hTr : T < wr.heap.size := World.block_lt_of_cell? _ _ v0
    have HBK := Lib.hid hbk; have HO := Lib.hid hown; have HC := Lib.hid hch; have HB := Lib.hid hbw
    clear hbk hown hch hbw
    by_cases hlt : k < n
    · have hltz : (k : Int) < (n : Int) := by omega
      obtain ⟨m, hx⟩ : ∃ p, xs[k]? = some p := get_ex (by have := Hn.out; omega)
      obtain ⟨o, q, rfl, e0, e1⟩ := Hel.out k m hx
      have r0 := cell_later' HB.out e0
      have r1 := cell_later' HB.out e1
      have hor : o < wr.heap.size := World.block_lt_of_cell? _ _ r0
      have HX := Lib.hid hx
      clear hx e0 e1
      go_wp2_with fail
      have c0 := cell_newB wr #[.int .i64 m.t, .int .i64 m.u] 170 0 _ rfl
      have c1 := cell_newB wr #[.int .i64 m.t, .int .i64 m.u] 170 1 _ rfl
      have hbV : Below wr.heap.size wr (wr.alloc (.cells #[.int .i64 m.t, .int .i64 m.u] 170)) := bel_alloc (Below.refl _ _) _
      have d3 := cell_later' hbV v3
      generalize wr.alloc (.cells #[.int .i64 m.t, .int .i64 m.u] 170) = V at *
      have HV := Lib.hid hbV
      clear hbV v0 v1 v2 v3 v4 r0 r1
      refine PrintLast.wp_region_last_drew (S := fun w' => Below V.heap.size V w' ∧ w'.cell? ⟨T, 3, none⟩ = some (.slice A' k c') ∧ w'.cell? ⟨wr.heap.size, 0, none⟩ = some (.int .i64 m.t) ∧ w'.cell? ⟨wr.heap.size, 1, none⟩ = some (.int .i64 m.u)) (ds := [11, 13]) (by kernel_rfl) ?_ (fun hHeld => ?_)
      · exact ⟨bel_drew (Below.refl _ _), by simpa using d3, by simpa using c0, by simpa using c1⟩
      refine PrintLast.tk 0 (v := ?_) rfl (by assumption) ?_ ?_
      rotate_left
      · (intro w hSw; (try dsimp only at hSw); go_simp; try (with_reducible rfl))
      try simp only [lay]
      refine PrintLast.tk 1 (v := ?_) rfl (by assumption) ?_ ?_
      rotate_left
      · (intro w hSw; (try dsimp only at hSw); go_simp; try (with_reducible rfl))
      try simp only [lay]
      refine PrintLast.tk 2 (v := ?_) rfl (by assumption) ?_ ?_
      rotate_left
      · (intro w hSw; (try dsimp only at hSw); go_simp; try (with_reducible rfl))
      try simp only [lay]
      refine PrintLast.tk 3 (v := ?_) rfl (by assumption) ?_ ?_
      rotate_left
      · (intro w hSw; (try dsimp only at hSw); go_simp; try (with_reducible rfl))
      try simp only [lay]
      refine PrintLast.tk 5 (v := ?_) rfl (by assumption) ?_ ?_
      rotate_left
      · (intro w hSw; (try dsimp only at hSw); go_simp; try (with_reducible rfl))
      try simp only [lay]
      refine PrintLast.tk 6 (v := ?_) rfl (by assumption) ?_ ?_
      rotate_left
      · (intro w hSw; (try dsimp only at hSw); go_simp; try (with_reducible rfl))
      try simp only [lay]
      have HK := Lib.hid hHeld
      clear hHeld
      refine PrintLast.wpAnyLast_ready (rs := [4]) (by kernel_rfl) (by simp) ?_
      refine PrintLast.AllReadyL.cons rfl (by decide) (fun K hK => ?_) PrintLast.AllReadyL.nil
      rw [if_pos (by kernel_rfl)]
      go_simp
      go_at_call 87; refine (number_lit m.t _).mono ?_; rintro e w5 ⟨rfl, hbw5⟩
      go_wp2_with fail
      refine hK.out _ _ ?_ (fun hHeld => ?_)
      · exact ⟨bel_trans HK.out.1 (by assumption), cell_later' (by assumption) HK.out.2.1, cell_later' (by assumption) HK.out.2.2.1, cell_later' (by assumption) HK.out.2.2.2⟩
      clear hK K
      try simp only [lay]
      clear HK
      have HK := Lib.hid hHeld
      clear hHeld
      refine PrintLast.wpAnyLast_ready (rs := [7]) (by kernel_rfl) (by simp) ?_
      refine PrintLast.AllReadyL.cons rfl (by decide) (fun K hK => ?_) PrintLast.AllReadyL.nil
      rw [if_pos (by kernel_rfl)]
      go_simp
      go_at_call 87; refine (number_lit m.u _).mono ?_; rintro e w6 ⟨rfl, hbw6⟩
      go_wp2_with fail
      refine hK.out _ _ ?_ (fun hHeld => ?_)
      · exact ⟨bel_trans HK.out.1 (by assumption), cell_later' (by assumption) HK.out.2.1, cell_later' (by assumption) HK.out.2.2.1, cell_later' (by assumption) HK.out.2.2.2⟩
      clear hK K
      try simp only [lay]
      clear HK
      have HK := Lib.hid hHeld
      clear hHeld
      refine PrintLast.wpAnyLast_ready (rs := [8]) (by kernel_rfl) (by simp) ?_
      refine PrintLast.AllReadyL.cons rfl (by decide) (fun K hK => ?_) PrintLast.AllReadyL.nil
      rw [if_pos (by kernel_rfl)]
      go_simp
      try simp only [List.foldl_cons, List.foldl_nil, List.setIfInBounds_toArray, List.set_cons_zero, List.set_cons_succ, Nat.reduceAdd]
      refine hK.out _ _ ?_ (fun hHeld => ?_)
      · exact ⟨bel_alloc HK.out.1 _, cell_later' (bel_alloc (Below.refl _ _) _) HK.out.2.1, cell_later' (bel_alloc (Below.refl _ _) _) HK.out.2.2.1, cell_later' (bel_alloc (Below.refl _ _) _) HK.out.2.2.2⟩
      clear hK K
      try simp only [lay]
      clear HK
      refine PrintLast.tk 9 (v := ?_) rfl (by assumption) ?_ ?_
      rotate_left
      · (intro w hSw; (try dsimp only at hSw); go_simp; try (with_reducible rfl))
      try simp only [lay]
      have HK := Lib.hid hHeld
      clear hHeld
      refine PrintLast.wpAnyLast_ready (rs := [10]) (by kernel_rfl) (by simp) ?_
      refine PrintLast.AllReadyL.cons rfl (by decide) (fun K hK => ?_) PrintLast.AllReadyL.nil
      rw [if_pos (by kernel_rfl)]
      go_simp
      try simp only [List.foldl_cons, List.foldl_nil, List.setIfInBounds_toArray, List.set_cons_zero, List.set_cons_succ, Nat.reduceAdd]
      refine hK.out _ _ ?_ (fun hHeld => ?_)
      · exact ⟨bel_alloc HK.out.1 _, cell_later' (bel_alloc (Below.refl _ _) _) HK.out.2.1, cell_later' (bel_alloc (Below.refl _ _) _) HK.out.2.2.1, cell_later' (bel_alloc (Below.refl _ _) _) HK.out.2.2.2⟩
      clear hK K
      try simp only [lay]
      clear HK
      replace hHeld := hHeld.1
      have hg8 := heap_alloc2_old w6 (.cells #[.int .i64 4, .int .i64 m.t, .string ⟨#[]⟩, .slice none 0 0, .slice none 0 0, .int .i64 4, .int .i64 m.u, .string ⟨#[]⟩, .slice none 0 0, .slice none 0 0] 43) (.cells #[.int .i64 6, .int .i64 0, .string ⟨#[]⟩, .slice (some ⟨w6.heap.size, 0, none⟩) 2 2, .slice none 0 0] 43)
      have hg10 := heap_alloc2_new w6 (.cells #[.int .i64 4, .int .i64 m.t, .string ⟨#[]⟩, .slice none 0 0, .slice none 0 0, .int .i64 4, .int .i64 m.u, .string ⟨#[]⟩, .slice none 0 0, .slice none 0 0] 43) (.cells #[.int .i64 6, .int .i64 0, .string ⟨#[]⟩, .slice (some ⟨w6.heap.size, 0, none⟩) 2 2, .slice none 0 0] 43)
      have hz6 : wr.heap.size ≤ w6.heap.size := Nat.le_trans (Nat.le_trans HV.out.size hbw5.size) hbw6.size
      generalize (w6.alloc (.cells #[.int .i64 4, .int .i64 m.t, .string ⟨#[]⟩, .slice none 0 0, .slice none 0 0, .int .i64 4, .int .i64 m.u, .string ⟨#[]⟩, .slice none 0 0, .slice none 0 0] 43)).alloc (.cells #[.int .i64 6, .int .i64 0, .string ⟨#[]⟩, .slice (some ⟨w6.heap.size, 0, none⟩) 2 2, .slice none 0 0] 43) = U at *
      have hown := own_laterB (own_laterB HO.out HV.out) hHeld
      obtain ⟨i0, hi, hz0, hz1, hz2⟩ := info_parts valInfo
      have hnews : ∀ j u, [Value.int .i64 6, .int .i64 0, .string ⟨#[]⟩, .slice (some ⟨w6.heap.size, 0, none⟩) 2 2, .slice none 0 0][j]? = some u → U.cell? ((⟨w6.heap.size + 1, 0, none⟩ : Addr).add j) = some u := fun j u hj => by rw [Addr.add_lit, Lib.cell_of_heap hg10]; simpa using hj
      have HOU := Lib.hid hown; have HNW := Lib.hid hnews; have HG8 := Lib.hid hg8; have HU := Lib.hid hHeld
      clear hown hnews hg8 hg10 hHeld
      have hM : k + 1 ≤ maxLen := by have := HX8.out; simp only [maxLen]; omega
      have hby : (k + 1) * 80 ≤ 140737488355328 := by have := HX8.out; omega
      have hbs : T + 1 ≤ U.heap.size := by have := HU.out.size; have := HV.out.size; omega
      refine PrintLast.wpAnyLast_ready (rs := [11]) (by kernel_rfl) (by simp) ?_
      refine PrintLast.AllReadyL.cons_last rfl (by decide) (fun K hK => ?_) PrintLast.AllReadyL.nil
      refine step_append_own rfl _ _ 40 rfl (T + 1) 43 i0 _ 5 80 Tryz.underlying40 hi hz0 hz1 hz2 rfl (by decide) _ k cs rfl HOU.out ⟨w6.heap.size + 1, 0, none⟩ 1 1 _ rfl rfl HNW.out (by intro u hu; simp at hu; rcases hu with rfl | rfl | rfl | rfl | rfl <;> rfl) hM hby hbs ?_
      intro v' W ho hg hx
      refine hK.out _ _ ?_
      clear hK K
      try simp only [lay]
      obtain ⟨A2, c2, rfl⟩ := own_sliceB ho
      have hTU : U.heap[T]? = some (.cells #[.int .i64 6, .int .i64 0, .string ⟨#[]⟩, .slice A' k c', .slice none 0 0] 43 (0, 0)) := (HU.out.block T (by have := HV.out.size; omega)).trans ((HV.out.block T hTr).trans HBK.out)
      have hTn : some T ≠ (Value.slice A' k c').ownBlock := by intro e; have := (HOU.out.lt T e.symm).1; omega
      have hTW := (hg.block T (Array.getElem?_eq_some_iff.1 hTU).1 hTn).trans hTU
      have w3 : W.cell? ⟨T, 3, none⟩ = some (.slice A' k c') := by rw [Lib.cell_of_heap hTW]; rfl
      have f3 : W.frozen? ⟨T, 3, none⟩ = false := by simp [World.frozen?, hTW]
      have HG := Lib.hid hg; have HXX := Lib.hid hx; have HOO := Lib.hid ho; have HTW := Lib.hid hTW
      clear hg hx ho hTW hTU hTn
      refine PrintLast.wpAnyLast_any (i := 12) (v := ?_) rfl (Region.noSelect_spec (by kernel_rfl)) (fun _ _ _ h => h) _ _ _ _ (Region.free_spec rfl (by kernel_rfl)) (List.contains_iff_mem.1 (by kernel_rfl)) (Or.inl ⟨by kernel_rfl, ?_⟩) ?_
      rotate_left
      · (intro w; go_simp; try (with_reducible rfl))
      try simp only [lay]
      refine PrintLast.wpAnyLast_ready (rs := [13]) (by kernel_rfl) (by simp) ?_
      refine PrintLast.AllReadyL.cons_last rfl (by decide) (fun K hK => ?_) PrintLast.AllReadyL.nil
      rw [if_pos (by kernel_rfl)]
      go_simp
      refine hK.out _ _ ?_
      clear hK K
      try simp only [lay]
      refine PrintLast.wpAnyLast_done (by kernel_rfl) ?_ _
      have hBT : w.heap.size ≤ T := HB1.out
      have hst := PRel_step HO.out HC.out HB.out hTr hBT (bel_trans HV.out HU.out) hz6 HG8.out HG.out HXX.out HOO.out HTW.out HX.out
      have HST := Lib.hid hst
      clear hst
      go_wp2_with fail
      go_roundg (n - (k + 1))
      case measure => omega
      case rel => exact ⟨k + 1, by omega, by omega, by go_num, HST.out⟩
    · have hltz : ¬ ((k : Int) < (n : Int)) := by omega
      obtain rfl : k = n := by omega
      have hjr : JR wr (fun _ => True) (marksV xs) [.int .i64 6, .int .i64 0, .string ⟨#[]⟩, .slice A' k c', .slice none 0 0] := by
        have hl := own_to_sl (T := jvTy) (xs := xs.map markV) (v := .slice A' k c') (cs := cs) (by rw [List.length_map, Hn.out]; exact HO.out) (by have := HC.out; rwa [List.take_of_length_le (by rw [Hn.out]; exact Nat.le_refl _)] at this)
        exact JR_iff.2 ⟨_, _, ⟨rfl, by simp [marksV, JV.s, ByteArray.size]⟩, hl.mono (fun _ _ => trivial), .inl ⟨rfl, none, 0, rfl⟩⟩
      have hall := fun w5 (h5 : Below wr.heap.size wr w5) => mem_single w5 nmMarks (marksV xs) _ (by decide +kernel) (JR_later hjr h5)
      have HALL := Lib.hid hall; have HTW := Lib.hid (HT.out.below HB.out)
      clear hjr hall
      go_wp2_with fail
      refine Calls.mono (part_any _ _ _ _ _ _ _ _ _ _ _) ?_
      rintro e w5 ⟨rfl, hb5⟩
      have hsl := HALL.out w5 hb5
      have hT5 := HTW.out.below (bel_alloc hb5 (.cells #[.string nmMarks, .int .i64 6, .int .i64 0, .string ⟨#[]⟩, .slice A' k c', .slice none 0 0] 49))
      have hpr := rprint_any _ _ _ _ hsl hT5 (fun _ => HLL.out)
      have hmm : mayJ 64 (.mk 7 0 ⟨#[]⟩ [] [(nmMarks, marksV xs)]) = true := HMM.out
      rw [hmm] at hpr
      simp only [if_true] at hpr
      have HPR := Lib.hid hpr; have HB5 := Lib.hid hb5
      clear hsl hT5 hpr hmm hb5
      go_wp2_with fail
      refine Calls.mono HPR.out ?_
      rintro e w6 ⟨rfl, hb6⟩
      go_wp2_with fail
      go_ret2
      exact ⟨rfl, bel_trans (bel_alloc (bel_trans HB.out HB5.out) _) hb6⟩
end Go.Proofs.YtlihjmfdnkfmfaaGreatDoor
namespace Go.Proofs.YtlihjmfdnkfmfaaGreatDoor
open Go.RowKit Go.Lib

theorem jputMarks (v : Value) (G : Nat → Prop) (xs : List Mk) (W : World) (hs : Sl mkTy W G v xs) (hT : Tabs W) :
    Calls Tryz.prog 52 #[v] W fun e w' => e = .returned (putB (mayB xs) (marksO xs)) ∧ Below W.heap.size W w' := by
  cases hm : mayB xs with
  | false => exact putMarks_bad v G xs W hs hm
  | true =>
    have hmm := may_marksO hm
    have e : putB true (marksO xs) = .tuple #[.string ⟨(printB 64 (marksO xs)).toArray⟩, .int .i64 0] := by unfold putB; rw [hmm]; rfl
    rw [e]
    exact putMarks_good v G xs W hs hT hm
end Go.Proofs.YtlihjmfdnkfmfaaGreatDoor
namespace Go.Proofs.YtlihjmfdnkfmfaaGreatDoor
open Go.RowKit Go.Lib

theorem get_lnJ {nm : ByteArray} {x : JV} (h : LnJ x) : LnJ (getB nm (memsOf x)).1 := by
  rcases getB_or nm (memsOf x) with e | ⟨q, hq, e⟩
  · rw [e]
    exact (LnJ_iff _).2 ⟨⟨by simp [zeroV, JV.l], by simp [zeroV, JV.m]⟩, by simp [zeroV, JV.l], by simp [zeroV, JV.m]⟩
  · rw [e]
    unfold memsOf at hq
    split at hq
    · exact ((LnJ_iff x).1 h).2.2 q hq
    · cases hq
theorem two_of {l : List JV} (h : l.length = 2) : ∃ a b, l = [a, b] := by
  match l, h with
  | [a, b], _ => exact ⟨a, b, rfl⟩
theorem jr_list {w : World} {F : Nat → Prop} {x : JV} {a b c v1 v2 : Value} (h : JR w F x [a, b, c, v1, v2]) : Sl jvTy w F v1 x.l := by
  obtain ⟨vl, vm, ⟨hve, _⟩, hvl, _⟩ := JR_iff.1 h
  injection hve with _ hve; injection hve with _ hve; injection hve with _ hve; injection hve with hve _
  rw [hve]; exact hvl
theorem marks_off {s : ByteArray} {x : JV} (hx : x ∈ (gV s nmMarks).l) (h : x.l.length ≠ 2) : getMarksB s = ([], false) := by
  have : (gV s nmMarks).l.all pairB = false := by
    rw [← Bool.not_eq_true, List.all_eq_true]
    intro hc
    have := hc x hx
    unfold pairB at this
    exact h (by simpa using this)
  unfold getMarksB
  rw [this, Bool.false_and]
  rfl
theorem marks_on {s : ByteArray} (h : ∀ x ∈ (gV s nmMarks).l, x.l.length = 2) : getMarksB s = if isRow (mayB ((gV s nmMarks).l.map mkOf)) (marksO ((gV s nmMarks).l.map mkOf)) s then ((gV s nmMarks).l.map mkOf, true) else ([], false) := by
  have : (gV s nmMarks).l.all pairB = true := by
    rw [List.all_eq_true]
    intro x hx
    unfold pairB
    rw [h x hx]
    rfl
  unfold getMarksB
  rw [this, Bool.true_and]
set_option maxRecDepth 100000 in
set_option maxHeartbeats 16000000 in
theorem getMarks_any (s : ByteArray) (w : World) (hT : Tabs w) :
    Calls Tryz.prog 47 #[.string s] w fun e w' => ∃ v, e = .returned (.tuple #[v, .bool (getMarksB s).2]) ∧ Sl mkTy w' (fun _ => True) v (getMarksB s).1 ∧ Below w.heap.size w w' := by
  obtain ⟨V, ev, hV⟩ : ∃ V ev, parseB s = (V, ev) := ⟨_, _, rfl⟩
  have hln : LnJ V := by have := parse_lnR s; rw [hV] at this; exact this
  obtain ⟨p, bp, hp⟩ : ∃ p b, getB nmMarks (memsOf V) = (p, b) := ⟨_, _, rfl⟩
  have hgv : gV s nmMarks = p := by unfold gV; rw [hV, hp]
  have hpl : p.l.length ≤ 1000000 := by have := ((LnJ_iff _).1 (get_lnJ (nm := nmMarks) hln)).1.1; rw [hp] at this; exact this
  have hoff : ∀ x ∈ p.l, x.l.length ≠ 2 → getMarksB s = ([], false) := fun x hx h => marks_off (by rw [hgv]; exact hx) h
  have hon : (∀ x ∈ p.l, x.l.length = 2) → getMarksB s = if isRow (mayB (p.l.map mkOf)) (marksO (p.l.map mkOf)) s then (p.l.map mkOf, true) else ([], false) := fun h => by
    rw [marks_on (by rw [hgv]; exact h), hgv]
  obtain ⟨i0, hi, hz0, hz1, hz2⟩ := info_parts mkInfo
  obtain ⟨S, E, hput, hc⟩ := putB_cases (mayB (p.l.map mkOf)) (marksO (p.l.map mkOf))
  have hjm := fun v G W (hs : Sl mkTy W G v (p.l.map mkOf)) (hW : Tabs W) => jputMarks v G (p.l.map mkOf) W hs hW
  simp only [hput] at hjm
  have HT := Lib.hid hT; have HV := Lib.hid hV; have HL := Lib.hid hln; have HP := Lib.hid hp; have HPL := Lib.hid hpl; have HOFF := Lib.hid hoff; have HON := Lib.hid hon; have HJM := Lib.hid hjm; have HC := Lib.hid hc
  clear hT hV hln hp hgv hpl hoff hon hput hjm hc
  generalize getMarksB s = R at *
  generalize hR : isRow (mayB (p.l.map mkOf)) (marksO (p.l.map mkOf)) s = rw0 at *
  have HRW := Lib.hid hR
  clear hR
  go_enter Tryz.func47, Tryz.ntmps47
  have hcl := rparse_s s HV.out w HT.out
  have HCL := Lib.hid hcl
  clear hcl
  go_wp2_with fail
  refine Calls.mono HCL.out ?_
  rintro e u ⟨A1, m1, c1, A2, m2, c2, rfl, hj, hb⟩
  have HJ := Lib.hid hj; have HB1 := Lib.hid hb
  clear HCL hj hb
  have hcl := get_callR V nmMarks _ _ u HP.out HL.out HJ.out
  have HCL := Lib.hid hcl
  clear hcl
  go_wp2_with fail
  refine Calls.mono HCL.out ?_
  rintro e y ⟨D1, i1, e1, D2, i2, e2, rfl, hj, hb⟩
  obtain ⟨rfl, rfl⟩ := jr_lensR hj
  have hA2 := bel_alloc (Below.refl y.heap.size y) (.cells #[.int .i64 p.k, .int .i64 p.n, .string p.s, .slice D1 p.l.length e1, .slice D2 p.m.length e2] 43)
  have hc2 := heap_alloc_new y (.cells #[.int .i64 p.k, .int .i64 p.n, .string p.s, .slice D1 p.l.length e1, .slice D2 p.m.length e2] 43)
  have hj2 := JR_later hj hA2
  have hvl : Sl jvTy (y.alloc (.cells #[.int .i64 p.k, .int .i64 p.n, .string p.s, .slice D1 p.l.length e1, .slice D2 p.m.length e2] 43)) (fun _ => True) (.slice D1 p.l.length e1) p.l := by
    obtain ⟨vl, vm, ⟨hve, _⟩, hvl, _⟩ := JR_iff.1 hj2
    injection hve with _ hve; injection hve with _ hve; injection hve with _ hve; injection hve with hve _
    rw [← hve] at hvl; exact hvl
  obtain ⟨D1', e1', hve, hl63, hel⟩ := val_cells hvl
  injection hve with hd _ he
  subst hd; subst he
  have HB4 := Lib.hid (bel_trans (bel_trans HB1.out hb) hA2)
  have HEL := Lib.hid hel
  clear HCL HJ HB1 hb hA2 hj hj2 hvl hel hl63
  go_upto_region 2 with (fail)
  generalize y.heap.size = X4 at *
  generalize y.alloc (.cells #[.int .i64 p.k, .int .i64 p.n, .string p.s, .slice D1 p.l.length e1, .slice D2 p.m.length e2] 43) = W4 at *
  obtain ⟨⟨v0, v1, v2, v3, v4⟩, _, hV3⟩ := cells5 hc2
  clear hc2 v0 v1 v2 v4
  generalize hn : p.l.length = n at *
  have Hn := Lib.hid hn
  clear hn
  go_wp2_with fail
  clear v3 hV3
  go_loopg [6, 8, 20] n (fun gg s6 _ s20 wr => ∃ k : Nat, k ≤ n ∧ n - k ≤ gg ∧ s20 = .int .i64 k ∧ Aside (Below W4.heap.size W4 wr) ∧ Aside (∀ x ∈ p.l.take k, x.l.length = 2) ∧ Aside (wr.ownsRow W4.heap.size 170 2 s6 k (mkCells ((p.l.take k).map mkOf))))
  case atStart => exact ⟨0, Nat.zero_le _, by omega, rfl, Below.refl _ _, by intro x hx; simp at hx, World.ownsRow_nil _ _ _ _⟩
  case round =>
    obtain ⟨k, hk, hgg, rfl, HB, HA, HO⟩ := hrel
    by_cases hlt : k < n
    · have hltz : (k : Int) < (n : Int) := by omega
      obtain ⟨x, hx⟩ : ∃ x, p.l[k]? = some x := get_ex (by have := Hn.out; omega)
      obtain ⟨b, o, B1, k1, d1, B2, k2, d2, rfl, e0, e1, e2, e3, e4, hjr⟩ := HEL.out k x hx
      obtain ⟨rfl, rfl⟩ := jr_lensR hjr
      have r0 := cell_later' HB.out e0
      have r1 := cell_later' HB.out e1
      have r2 := cell_later' HB.out e2
      have r3 := cell_later' HB.out e3
      have r4 := cell_later' HB.out e4
      have HX := Lib.hid hx; have HJX := Lib.hid (JR_later hjr HB.out)
      clear hx hjr e0 e1 e2 e3 e4
      by_cases h2 : x.l.length = 2
      · obtain ⟨y0, y1, hy⟩ := two_of h2
        obtain ⟨B1', d1', hve, _, hel2⟩ := val_cells (jr_list HJX.out)
        injection hve with hd _ he
        subst hd; subst he
        obtain ⟨b2, o2, _, _, _, _, _, _, hB, _, f0, _, _, _, _⟩ := hel2 0 y0 (by rw [hy]; rfl)
        obtain ⟨b3, o3, _, _, _, _, _, _, hB', _, f1, _, _, _, _⟩ := hel2 1 y1 (by rw [hy]; rfl)
        obtain ⟨rfl, rfl⟩ : b2 = b3 ∧ o2 = o3 := by rw [hB] at hB'; injection hB' with hB'; injection hB' with h1 h2; exact ⟨h1, h2⟩
        subst hB
        rw [h2] at r3
        clear hel2 hB'
        have hal := bel_alloc (Below.refl wr.heap.size wr) (.cells #[.int .i64 x.k, .int .i64 x.n, .string x.s, .slice (some ⟨b2, o2, none⟩) 2 d1, .slice B2 x.m.length d2] 43)
        obtain ⟨⟨g0, g1, g2, g3, g4⟩, _, hX⟩ := cells5 (heap_alloc_new wr (.cells #[.int .i64 x.k, .int .i64 x.n, .string x.s, .slice (some ⟨b2, o2, none⟩) 2 d1, .slice B2 x.m.length d2] 43))
        have f0 := cell_later' hal f0
        have f1 := cell_later' hal f1
        have hb2 := World.block_lt_of_cell? _ _ f0
        have hmo : mkOf x = ⟨y0.n, y1.n⟩ := by unfold mkOf; rw [hy]; rfl
        have htk : mkCells ((p.l.take (k + 1)).map mkOf) = mkCells ((p.l.take k).map mkOf) ++ mkCells [⟨y0.n, y1.n⟩] := by
          rw [← mkCells_append, List.take_add_one, HX.out, ← hmo]; simp
        have hal2 : ∀ z ∈ p.l.take (k + 1), z.l.length = 2 := by
          intro z hz
          rw [List.take_add_one, HX.out] at hz
          rcases List.mem_append.1 hz with hz | hz
          · exact HA z hz
          · simp at hz; rw [hz]; exact h2
        have HQ := Lib.hid (bel_trans HB.out hal); have HO1 := Lib.hid (own_later HO.out hal); have TK := Lib.hid htk; have AL := Lib.hid hal2
        clear hmo htk hal2 h2 hy HJX HB HO HA hal HX
        go_upto_region 6 with (fail)
        generalize wr.alloc (.cells #[.int .i64 x.k, .int .i64 x.n, .string x.s, .slice (some ⟨b2, o2, none⟩) 2 d1, .slice B2 x.m.length d2] 43) = wq at *
        generalize wr.heap.size = X8 at *
        have hblk : Below wq.heap.size wq (wq.drew.alloc (.cells #[.int .i64 y0.n, .int .i64 y1.n] 170)) := bel_alloc (bel_drew (Below.refl _ _)) _
        have hnw := mk1_news (w := wq.drew.alloc (.cells #[.int .i64 y0.n, .int .i64 y1.n] 170)) (gv := wq.heap.size) (m := ⟨y0.n, y1.n⟩) ⟨cell_new wq.drew _ _ 0 _ rfl, cell_new wq.drew _ _ 1 _ rfl⟩
        have one2 : ∀ u ∈ mkCells [(⟨y0.n, y1.n⟩ : Mk)], u.oneCell' = true := (mkCells_chunks wq (fun _ => True) [(⟨y0.n, y1.n⟩ : Mk)]).one
        have hkb : k ≤ 1000000 := by have := HPL.out; have := Hn.out; omega
        have s1 : k + 1 ≤ maxLen := by have := HPL.out; have := Hn.out; simp only [maxLen]; omega
        have s2 : (k + 1) * 16 ≤ 140737488355328 := by have := HPL.out; have := Hn.out; omega
        have s3 : W4.heap.size ≤ (wq.drew.alloc (.cells #[.int .i64 y0.n, .int .i64 y1.n] 170)).heap.size := Nat.le_trans HQ.out.size hblk.size
        have O1 := Lib.hid (own_later HO1.out hblk)
        have OB := Lib.hid (own_base HO1.out); have BK := Lib.hid (bel_trans HQ.out hblk)
        have S1 := Lib.hid s1; have S2 := Lib.hid s2; have S3 := Lib.hid s3; have N1 := Lib.hid hnw; have L1 := Lib.hid (mkCells_len [(⟨y0.n, y1.n⟩ : Mk)])
        clear s1 s2 s3 hnw hblk HQ HO1
        generalize mkCells [(⟨y0.n, y1.n⟩ : Mk)] = M at *
        go_wp2_with fail
        go_region_law (refine step_append_own rfl _ _ 109 rfl W4.heap.size 170 i0 (.agg #[.int .i64 0, .int .i64 0]) 2 16 Tryz.underlying109 hi hz0 hz1 hz2 rfl (by decide) _ _ _ rfl O1.out ⟨wq.heap.size, 0, none⟩ 1 1 M rfl L1.out N1.out one2 S1.out S2.out S3.out ?_; intro v4 w2 ho4 hg4 _; have Ho4 := Lib.hid ho4; clear ho4)
        all_goals
          go_wp2_with fail
          go_roundg (n - (k + 1))
          case measure => omega
          case rel =>
            refine ⟨k + 1, by omega, by omega, by go_num, bel_grown BK.out hg4 OB.out, AL.out, ?_⟩
            show World.ownsRow _ _ _ _ _ _ _
            rw [TK.out]; exact Ho4.out
      · have hne : ((x.l.length : Int) != 2) = true := by rw [bne_iff_ne]; omega
        have HOF := Lib.hid (HOFF.out x (List.mem_of_getElem? HX.out) h2)
        obtain rfl : R = ([], false) := HOF.out
        clear h2 HOF HON HOFF
        go_wp2_with fail
        go_ret2
        exact ⟨_, rfl, .inl ⟨rfl, none, 0, rfl⟩, bel_trans HB4.out (bel_trans HB.out (bel_alloc (Below.refl _ _) _))⟩
    · have hltz : ¬ (k : Int) < (n : Int) := by omega
      obtain rfl : k = n := by omega
      have ho := HO.out
      have ha := HA.out
      rw [List.take_of_length_le (by rw [Hn.out]; exact Nat.le_refl _)] at ho ha
      have hR2 := HON.out ha
      have ho' : wr.ownsRow W4.heap.size 170 2 u6 (p.l.map mkOf).length (mkCells (p.l.map mkOf)) := by rw [List.length_map, Hn.out]; exact ho
      have hsl := own_sl ho'
      have HS := Lib.hid hsl; have HR2 := Lib.hid hR2
      have HCL := Lib.hid (HJM.out _ _ _ hsl (HT.out.below (bel_trans HB4.out HB.out)))
      have HBW := Lib.hid (bel_trans HB4.out HB.out)
      clear ho ho' ha hR2 hsl HO HA HB HJM
      go_wp2_with fail
      refine Calls.mono HCL.out ?_
      rintro e w5 ⟨rfl, hb⟩
      have HB5 := Lib.hid (bel_trans HBW.out hb); have HS5 := Lib.hid (HS.out.below hb)
      clear hb HBW HCL HS
      rcases HC.out with ⟨rfl, hc⟩ | ⟨rfl, hc⟩
      · have hr : rw0 = false := by rw [← HRW.out]; exact hc s
        subst hr
        obtain rfl : R = ([], false) := HR2.out
        clear HR2 hc HRW HON HOFF
        go_wp2_with fail
        go_ret2
        exact ⟨_, rfl, .inl ⟨rfl, none, 0, rfl⟩, HB5.out⟩
      · have hr : (S.toList == s.toList) = rw0 := by rw [← HRW.out]; exact (hc s).symm
        have hr2 : (S.toList != s.toList) = !rw0 := by rw [bne, hr]
        clear hc HRW
        cases rw0 with
        | false =>
          obtain rfl : R = ([], false) := HR2.out
          clear HR2 HON HOFF
          go_wp2_with fail
          go_ret2
          exact ⟨_, rfl, .inl ⟨rfl, none, 0, rfl⟩, HB5.out⟩
        | true =>
          obtain rfl : R = (p.l.map mkOf, true) := HR2.out
          clear HR2 HON HOFF
          go_wp2_with fail
          go_ret2
          exact ⟨_, rfl, HS5.out, HB5.out⟩
end Go.Proofs.YtlihjmfdnkfmfaaGreatDoor
namespace Go.Proofs.YtlihjmfdnkfmfaaGreatDoor
open Go.RowKit

theorem refInfo : (Tryz.prog.info? 178).map (fun i => (i.zero, i.size, i.bytes)) = some (some (.agg #[.int .i64 0, .int .i64 0]), 2, 16) := by kernel_rfl

theorem run_eq_mk (d : Nat) (w : World) (a b : Int) : (Op.equalIn (d + 2) 178 (.agg #[.int .i64 a, .int .i64 b]) (.agg #[.int .i64 a, .int .i64 b])).run Tryz.prog w = .ok true w := by
  have hu := Tryz.underlying178
  rw [run_equalIn_struct (P := Tryz.prog) w (d + 1) 178 _ _ (by kernel_rfl) (by kernel_rfl)]
  simp [Program.fieldsOf, hu, Op.eqFields, part, isAgg, sizeOf]
  go_simp
theorem run_neq_mk (w : World) (a b : Int) : (binOp .neq 178 (.agg #[.int .i64 a, .int .i64 b]) (.agg #[.int .i64 a, .int .i64 b])).run Tryz.prog w = .ok (.bool false) w := by
  simp [binOp, Op.equal, Op.maxDepth, run_eq_mk 9998]

/-- a slice form with its cells -/
theorem sl_cells {w : World} {F : Nat → Prop} {v : Value} {xs : List Mk} (hs : Sl mkTy w F v xs) : ∃ A c, v = .slice A xs.length c ∧ xs.length ≤ 9223372036854775807 ∧ ∀ k x, xs[k]? = some x → ∃ b o, A = some ⟨b, o, none⟩ ∧ w.cell? ⟨b, o + k * 2, none⟩ = some (.int .i64 x.t) ∧ w.cell? ⟨b, o + k * 2 + 1, none⟩ = some (.int .i64 x.u) := by
  rcases hs with ⟨rfl, A, c, rfl⟩ | ⟨b, o, c', rfl, _, h3, h4, h2⟩
  · exact ⟨A, c, rfl, by simp, fun k x hk => by simp at hk⟩
  · exact ⟨_, _, rfl, by omega, fun k x hk => ⟨b, o, rfl, mk_cells h2 k x hk⟩⟩

def MarksPost (w : World) (xs : List Mk) (e : Ending) (w' : World) : Prop :=
  ∃ v, e = .returned v ∧ Below w.heap.size w w' ∧ w'.ownsRow w.heap.size 178 2 v xs.length (mkCells xs)

set_option maxRecDepth 100000 in
set_option maxHeartbeats 1000000 in
theorem marks_any (sv : Value) (F : Nat → Prop) (xs : List Mk) (w : World) (hs : Sl mkTy w F sv xs) (hsz : xs.length * 16 ≤ 140737488355328) :
    Calls Tryz.prog 53 #[sv] w (MarksPost w xs) := by
  obtain ⟨i0, hi, hz0, hz1, hz2⟩ := info_parts refInfo
  obtain ⟨A, c, rfl, hn63, hel⟩ := sl_cells hs
  clear hs
  generalize hn : xs.length = n at *
  have Hn := Lib.hid hn; clear hn
  go_enter Tryz.func53, Tryz.ntmps53
  go_wp2_with fail
  go_loopg [3, 4] n (fun gg s3 s4 wr => ∃ k : Nat, k ≤ n ∧ n - k ≤ gg ∧ s4 = .int .i64 k ∧ Aside (Below w.heap.size w wr) ∧ Aside (wr.ownsRow w.heap.size 178 2 s3 k (mkCells (xs.take k))))
  case atStart => exact ⟨0, Nat.zero_le _, by omega, rfl, Below.refl _ _, World.ownsRow_nil _ _ _ _⟩
  case round =>
    obtain ⟨k, hk, hgg, rfl, HB, HO⟩ := hrel
    by_cases hlt : k < n
    · have hltz : (k : Int) < (n : Int) := by omega
      obtain ⟨x, hx⟩ : ∃ x, xs[k]? = some x := get_ex (by have := Hn.out; omega)
      obtain ⟨b, o, rfl, l0, l1⟩ := hel k x hx
      have r0 := cell_later' HB.out l0
      have r1 := cell_later' HB.out l1
      have hb : b < w.heap.size := World.block_lt_of_cell? _ _ l0
      have hblk : Below wr.heap.size wr (wr.drew.alloc (.cells #[.int .i64 x.t, .int .i64 x.u] 178)) := bel_alloc (bel_drew (Below.refl _ _)) _
      have htk : mkCells (xs.take (k + 1)) = mkCells (xs.take k) ++ mkCells [x] := by
        rw [← mkCells_append, List.take_add_one, hx]; rfl
      have hnw := mk1_news (w := wr.drew.alloc (.cells #[.int .i64 x.t, .int .i64 x.u] 178)) (gv := wr.heap.size) (m := x) ⟨cell_new wr.drew _ _ 0 _ rfl, cell_new wr.drew _ _ 1 _ rfl⟩
      have one2 : ∀ u ∈ mkCells [x], u.oneCell' = true := (mkCells_chunks w (fun _ => True) [x]).one
      have s1 : k + 1 ≤ maxLen := by simp only [maxLen]; omega
      have s2 : (k + 1) * 16 ≤ 140737488355328 := by omega
      have s3 : w.heap.size ≤ (wr.drew.alloc (.cells #[.int .i64 x.t, .int .i64 x.u] 178)).heap.size := Nat.le_trans HB.out.size hblk.size
      have O1 := Lib.hid (own_later HO.out hblk)
      have S1 := Lib.hid s1; have S2 := Lib.hid s2; have S3 := Lib.hid s3; have N1 := Lib.hid hnw; have L1 := Lib.hid (mkCells_len [x]); have HT := Lib.hid htk
      clear s1 s2 s3 hnw hx htk hel
      generalize mkCells [x] = M at *
      go_wp2_with fail
      go_region_law (refine step_append_own rfl _ _ 112 rfl w.heap.size 178 i0 (.agg #[.int .i64 0, .int .i64 0]) 2 16 Tryz.underlying112 hi hz0 hz1 hz2 rfl (by decide) _ _ _ rfl O1.out ⟨wr.heap.size, 0, none⟩ 1 1 M rfl L1.out N1.out one2 S1.out S2.out S3.out ?_; intro v4 w2 ho4 hg4 _; have Ho4 := Lib.hid ho4; clear ho4)
      all_goals
        go_wp2_with fail
        go_roundg (n - (k + 1))
        case measure => omega
        case rel =>
          refine ⟨k + 1, by omega, by omega, by go_num, bel_grown (bel_trans HB.out hblk) hg4 (own_base HO.out), ?_⟩
          show World.ownsRow _ _ _ _ _ _ _
          rw [HT.out]; exact Ho4.out
    · have hltz : ¬ (k : Int) < (n : Int) := by omega
      obtain rfl : k = n := by omega
      have ho := HO.out
      rw [List.take_of_length_le (by rw [Hn.out]; exact Nat.le_refl _)] at ho
      have Ho := Lib.hid ho
      clear ho
      go_wp2_with fail
      go_ret
      exact ⟨_, rfl, HB.out, by rw [Hn.out]; exact Ho.out⟩
end Go.Proofs.YtlihjmfdnkfmfaaGreatDoor
namespace Go.Proofs.YtlihjmfdnkfmfaaGreatDoor
open Go.RowKit

set_option maxHeartbeats 1000000 in
theorem same_true (sv tv : Value) (F G : Nat → Prop) (xs : List Mk) (w : World) (hs : Sl mkTy w F sv xs) (ht : Sl mkTy w G tv xs) (hsz : xs.length * 16 ≤ 140737488355328) :
    Calls Tryz.prog 50 #[sv, tv] w fun e w' => e = .returned (.bool true) ∧ Below w.heap.size w w' := by
  have hneq := run_neq_mk
  have hmk := marks_any sv F xs w hs hsz
  obtain ⟨A, c, rfl, hn63, hel⟩ := sl_cells ht
  clear hs ht
  go_enter Tryz.func50, Tryz.ntmps50
  go_wp2_with fail
  refine Calls.mono hmk ?_
  rintro e w1 ⟨v, rfl, hb1, ho1⟩
  obtain ⟨A1, c1, rfl, _, hel1⟩ := own_form ho1
  clear hmk ho1
  generalize hn : xs.length = n at *
  have Hn := Lib.hid hn; clear hn
  have hnn : ((n : Int) != (n : Int)) = false := by simp
  go_wp2_with fail
  go_loopg [6] n (fun gg s6 wr => ∃ k : Nat, k ≤ n ∧ n - k ≤ gg ∧ s6 = .int .i64 k ∧ Aside (Below w1.heap.size w1 wr))
  case atStart => exact ⟨0, Nat.zero_le _, by omega, rfl, Below.refl _ _⟩
  case round =>
    obtain ⟨k, hk, hgg, rfl, HB⟩ := hrel
    by_cases hlt : k < n
    · have hltz : (k : Int) < (n : Int) := by omega
      obtain ⟨x, hx⟩ : ∃ x, xs[k]? = some x := get_ex (by have := Hn.out; omega)
      obtain ⟨b, o, rfl, l0, l1⟩ := hel k x hx
      obtain ⟨g, rfl, hg1, hat⟩ := hel1 k x hx
      have hbb := bel_trans hb1 HB.out
      have r0 := cell_later' hbb l0
      have r1 := cell_later' hbb l1
      have q0 := cell_later' HB.out hat.1
      have q1 := cell_later' HB.out hat.2
      clear hel hel1 hat hx
      go_wp2_with fail
      go_quiet (fail)
      go_wp2_with fail
      go_roundg (n - (k + 1))
      case measure => omega
      case rel => exact ⟨k + 1, by omega, by omega, by go_num, bel_drewN HB.out _⟩
    · have hltz : ¬ (k : Int) < (n : Int) := by omega
      go_wp2_with fail
      go_ret
      exact ⟨rfl, bel_trans hb1 HB.out⟩
end Go.Proofs.YtlihjmfdnkfmfaaGreatDoor
