/- Marks: the walk of slices.Insert at one mark, where there is room. -/
import Derived.Test.YtjjgbgojlhaapaaDoorMkG
namespace Go.Proofs.YtjjgbgojlhaapaaDoor
open Go.RowKit

theorem RowAt.shape {w : World} {g e n : Nat} (h : RowAt w g e n) : w.shape? g = Option.some (e, n) := by
  obtain ⟨cur, h1, rfl⟩ := h
  simp [World.shape?, h1]

set_option maxRecDepth 100000 in
set_option maxHeartbeats 1000000 in
theorem insertMk_room (base g cap gv i : Nat) (xs : List Mk) (m : Mk) (w : World) (h : w.ownsRow base 24 2 (.slice (some ⟨g, 0, none⟩) xs.length cap) xs.length (mkCells xs)) (hv : MkAt w gv 0 m) (hgr : RowAt w gv 24 2) (hne : gv ≠ g)
    (hin : i < xs.length) (hcap : xs.length + 1 ≤ cap) :
    Calls Tryd.prog 38 #[.slice (some ⟨g, 0, none⟩) xs.length cap, .int .i64 i, .slice (some ⟨gv, 0, none⟩) 1 1] w fun e w' => ∃ v', e = .returned v' ∧ w.grownBy w' (some g) ∧
      w'.ownsRow base 24 2 v' (xs.length + 1) (mkCells (insMk xs i m)) := by
  have hnews := mk1_news hv
  obtain ⟨hrow, hbg, hlc, hcm, _, _⟩ := mkAt_of_own h
  have hg : g < w.heap.size := hrow.lt
  have hov : ∀ lb cb, (callFunc 64 #[.slice (some ⟨gv, 0, none⟩) 1 1, .slice (some ⟨g, (i + 1) * 2, none⟩) lb cb]).run Tryd.prog w = .ok (.value (.bool false)) w := fun lb cb => by
    rw [run_callFunc_extern Tryd.func64 (by kernel_rfl) (by kernel_rfl) (by kernel_rfl) (e := Extern.SlicesOverlaps.overlaps #[22, 22] #[4]) (by kernel_rfl),
      Lib.run_overlaps_apart w 22 4 24 Tryd.underlying22 2 (fun _ => by kernel_rfl) ⟨gv, 0, none⟩ ⟨g, (i + 1) * 2, none⟩ 1 1 lb cb hne _ _ _ _ hgr.shape hrow.shape (by omega) (hgr.frozen _) (hgr.frozen _)]
    rfl
  have hC : ∀ j u, (mkCells xs)[j]? = some u → w.cell? ⟨g, j, none⟩ = some u := fun j u hj => by
    have := h.cells (g := g) rfl j u hj
    rwa [Addr.add_lit, Nat.zero_add] at this
  obtain ⟨cells, c1, k1, k2⟩ : ∃ cells : List Value, w.heap[g]? = some (.cells cells.toArray 24 (0, 0)) ∧ cells.length = cap * 2 ∧ cells.take (xs.length * 2) = mkCells xs := by
    rcases h.2 with ⟨h0, _⟩ | ⟨g', cap', cur, h0, hg', hh, h1, h2, h3, h4⟩
    · simp at h0
    · simp only [Value.slice.injEq, Option.some.injEq, Addr.mk.injEq, and_true, true_and] at h0
      obtain ⟨rfl, rfl⟩ := h0
      exact ⟨cur.toList, by simpa using hh, by simpa using h3, h4⟩
  have hfin : mkCells (insMk xs i m) = (mkCells xs).take (i * 2) ++ (mkCells [m] ++ (mkCells xs).drop (i * 2)) := by
    rw [insMk, mkCells_append, mkCells_take, show m :: xs.drop i = [m] ++ xs.drop i from rfl, mkCells_append, mkCells_drop]
  have hCl := mkCells_len xs
  have one1 : ∀ u ∈ mkCells xs, u.oneCell' = true := (mkCells_chunks w (fun _ => True) xs).one
  have one2 : ∀ u ∈ mkCells [m], u.oneCell' = true := (mkCells_chunks w (fun _ => True) [m]).one
  have hMl := mkCells_len [m]
  clear h hv hrow hgr
  generalize mkCells (insMk xs i m) = R at *
  generalize mkCells [m] = M at *
  generalize mkCells xs = C at *
  generalize xs.length = n at *
  have hMl2 : M.length = 2 := hMl
  clear hMl
  have K1 := Lib.hid k1; have K2 := Lib.hid k2; have HCl := Lib.hid hCl; have HMl := Lib.hid hMl2; have HF := Lib.hid hfin; have C1 := Lib.hid c1
  clear k1 k2 hCl hMl2 hfin c1
  have hci : ¬ cap = i := by omega
  have t1 : (i : Int) ≤ (cap : Int) := by omega
  have t2 : (i : Int) ≤ (n : Int) := by omega
  have t3 : ((i : Int) == (n : Int)) = false := beq_eq_false_iff_ne.2 (by omega)
  have t4 : (n : Int) + 1 ≤ (cap : Int) := by omega
  have t5 : (i : Int) + 1 ≤ (n : Int) + 1 := by omega
  have t6 : ¬ cap = i + 1 := by omega
  have t7 : (i : Int) + 1 ≤ (cap : Int) := by omega
  have t8 : (i : Int) ≤ (n : Int) + 1 := by omega
  go_enter Tryd.func38, Tryd.ntmps38
  go_wp2_with fail
  have q0 : (0 : Int) ≤ (i : Int) + 1 := by omega
  have q1 : IntKind.i64.wrap ((i : Int) + 1) = (i : Int) + 1 := IntWalk.i64_in _ (by omega)
  have q2 : ((i : Int) + 1).toNat = i + 1 := by omega
  go_still_tail 8, (by kernel_rfl)
  clear q0 q1 q2
  change wpList _ _ _ _ _ w.drew
  have C3 : Hid (w.drew.heap[g]? = some (.cells cells.toArray 24 (0, 0))) := C1.out
  have G3 : Hid (w.grownBy w.drew none) := ⟨rfl, rfl, rfl, Nat.le_refl _, fun _ _ _ => rfl⟩
  have D3 : Hid (∀ j u, (C.drop (i * 2))[j]? = some u → w.drew.cell? ((⟨g, i * 2, none⟩ : Addr).add j) = some u) := fun j u hj => by
    rw [List.getElem?_drop] at hj
    rw [Addr.add_lit]
    exact hC _ _ hj
  have N3 : Hid (∀ j u, M[j]? = some u → w.drew.cell? ((⟨gv, 0, none⟩ : Addr).add j) = some u) := hnews
  have hgv : gv < w.heap.size := by
    have := hnews 0 (M[0]'(by rw [HMl.out]; decide)) (List.getElem?_eq_getElem _)
    exact World.block_lt_of_cell? w _ this
  clear hC hnews
  have hmin : Nat.min (n + 1 - i) (n - i) = n - i := Nat.min_eq_right (by omega)
  have L3 : Hid ((C.drop (i * 2)).length = Nat.min (n + 1 - i) (n - i) * 2) := by
    show _ = _
    rw [hmin, List.length_drop, HCl.out]; omega
  have F3 : Hid ((i + 1) * 2 + (C.drop (i * 2)).length ≤ cells.length) := by
    show _ ≤ _
    rw [List.length_drop, HCl.out, K1.out]; omega
  have one3 : ∀ u ∈ C.drop (i * 2), u.oneCell' = true := fun u hu => one1 u (List.mem_of_mem_drop hu)
  clear hmin
  have hz3 : gv < w.drew.heap.size := hgv
  generalize hD : C.drop (i * 2) = D at *
  have HD := Lib.hid hD
  clear hD
  generalize w.drew = w3 at *
  refine wpList_copyN rfl (.tmp 73) (.tmp 76) 22 22 rfl 24 2 Tryd.underlying22 mkInfo2 _ _ _ _ _ _ rfl rfl g ((i + 1) * 2) cells 24 C3.out D L3.out (fun _ => ⟨rfl, _, rfl, D3.out⟩) F3.out one3 ?_
  intro w4 C4 g4 _
  have G4 := Lib.hid (grown_trans (row := some g) ⟨G3.out.os, G3.out.tape, G3.out.output, G3.out.size, fun k hk _ => G3.out.block k hk (by simp)⟩ g4)
  have N4 : Hid (∀ j u, M[j]? = some u → w4.cell? ((⟨gv, 0, none⟩ : Addr).add j) = some u) := fun j u hj => by
    have h0 := N3.out j u hj
    rw [Addr.add_lit] at h0 ⊢
    exact (World.cell?_of_block (w := w3) (a := ⟨gv, 0 + j, none⟩) (g4.block gv hz3 (by simpa using hne))).trans h0
  have n1 : Nat.min 1 (n + 1 - i) = 1 := Nat.min_eq_left (by omega)
  have L4 : Hid (M.length = Nat.min 1 (n + 1 - i) * 2) := by show _ = _; rw [n1, HMl.out]
  have F4 : Hid (i * 2 + M.length ≤ (splice cells ((i + 1) * 2) D).length) := by show _ ≤ _; rw [length_splice _ _ _ F3.out, HMl.out, K1.out]; omega
  clear g4 n1
  generalize hS : splice cells ((i + 1) * 2) D = S at *
  have HS := Lib.hid hS
  clear hS
  go_wp2_with (with_reducible refine wpList_copyN rfl (.tmp 80) (.tmp 81) 22 22 rfl 24 2 Tryd.underlying22 mkInfo2 _ _ _ _ _ _ rfl rfl g (i * 2) S 24 C4.out M L4.out (fun _ => ⟨rfl, _, rfl, N4.out⟩) F4.out one2 ?_)
  intro w5 C5 g5 _
  have G5 := Lib.hid (grown_trans G4.out g5)
  clear g5
  go_wp2_with fail
  go_ret
  have hDl : D.length = (n - i) * 2 := by rw [← HD.out, List.length_drop, HCl.out]; omega
  have hSl : S.length = cap * 2 := by rw [← HS.out, length_splice _ _ _ F3.out, K1.out]
  have hCl := HCl.out
  have hMl := HMl.out
  have hcl := K1.out
  have hRl : R.length = (n + 1) * 2 := by rw [HF.out, List.length_append, List.length_append, List.length_take]; omega
  refine ⟨_, rfl, G5.out, hRl, .inr ⟨g, cap, _, rfl, hbg, C5.out, by omega, by simpa [maxLen] using hcm, ?_, ?_⟩⟩
  · rw [List.size_toArray, length_splice _ _ _ F4.out, hSl]
  · show (splice S (i * 2) M).take ((n + 1) * 2) = R
    have e0 : S.take (i * 2) = C.take (i * 2) := by
      rw [← HS.out, ← K2.out, List.take_take, Nat.min_eq_left (by omega)]
      have := splice_take (L := cells) (zs := D) (off := (i + 1) * 2) (by omega)
      have h2 := congrArg (List.take (i * 2)) this
      rw [List.take_take, List.take_take, Nat.min_eq_left (by omega)] at h2
      exact h2
    have e1 : (S.drop (i * 2 + M.length)).take D.length = D := by
      rw [← HS.out, splice, show i * 2 + M.length = (i + 1) * 2 by omega, List.drop_left' (by rw [List.length_take]; omega), List.take_left' rfl]
    rw [HF.out, splice, e0, show (n + 1) * 2 = (C.take (i * 2)).length + (M.length + D.length) by rw [List.length_take]; omega, List.take_length_add_append, List.take_length_add_append, e1]
end Go.Proofs.YtjjgbgojlhaapaaDoor
