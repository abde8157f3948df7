/- Marks: the walk of slices.Insert at one mark, where it must grow. -/
import Derived.Test.YtjjgbgojlhaapaaDoorMkF
import Derived.StillTailTactics
namespace Go.Proofs.YtjjgbgojlhaapaaDoor
open Go.RowKit

theorem splice_get_lt {cur zs : List Value} {off i : Nat} (hi : i < off) (ho : off ≤ cur.length) : (splice cur off zs)[i]? = cur[i]? := by
  rw [splice, List.getElem?_append_left (by rw [List.length_take]; omega), List.getElem?_take, if_pos hi]
theorem splice_take {L zs : List Value} {off : Nat} (ho : off ≤ L.length) : (splice L off zs).take off = L.take off := by
  rw [splice, List.take_left' (by rw [List.length_take]; omega)]
theorem splice_take2 {L zs : List Value} {off : Nat} (ho : off ≤ L.length) : (splice L off zs).take (off + zs.length) = L.take off ++ zs := by
  rw [splice, ← List.append_assoc, List.take_left' (by rw [List.length_append, List.length_take]; omega)]
theorem splice_drop {L zs : List Value} {off : Nat} (ho : off ≤ L.length) : (splice L off zs).drop (off + zs.length) = L.drop (off + zs.length) := by
  rw [splice, ← List.append_assoc, List.drop_left' (by rw [List.length_append, List.length_take]; omega)]

theorem mkInfo2 : (Tryd.prog.info? 24).map (·.size) = some 2 := by kernel_rfl
theorem underInt : Tryd.prog.underlying 3 = some (.int .i64) := by kernel_rfl

set_option maxRecDepth 100000 in
set_option maxHeartbeats 1000000 in
theorem insertMk_grow (base g cap gv i : Nat) (xs : List Mk) (m : Mk) (w : World) (h : w.ownsRow base 24 2 (.slice (some ⟨g, 0, none⟩) xs.length cap) xs.length (mkCells xs)) (hv : MkAt w gv 0 m) (hbase : base ≤ w.heap.size) (hsz : (xs.length + 1) * 16 ≤ 140737488355328)
    (hin : i < xs.length) (hcap : cap < xs.length + 1) :
    Calls Tryd.prog 38 #[.slice (some ⟨g, 0, none⟩) xs.length cap, .int .i64 i, .slice (some ⟨gv, 0, none⟩) 1 1] w fun e w' => ∃ v', e = .returned v' ∧ w.grownBy w' (some g) ∧
      w'.ownsRow base 24 2 v' (xs.length + 1) (mkCells (insMk xs i m)) := by
  obtain ⟨i0, hi, hz0, hz1, hz2⟩ := info_parts mkInfo
  have hnews := mk1_news hv
  have hgv : gv < w.heap.size := World.block_lt_of_cell? w _ hv.1
  obtain ⟨hrow, hbg, hlc, hcm, _, _⟩ := mkAt_of_own h
  have hg : g < w.heap.size := hrow.lt
  have hC : ∀ j u, (mkCells xs)[j]? = some u → w.cell? ⟨g, j, none⟩ = some u := fun j u hj => by
    have := h.cells (g := g) rfl j u hj
    rwa [Addr.add_lit, Nat.zero_add] at this
  have hfin : mkCells (insMk xs i m) = (mkCells xs).take (i * 2) ++ (mkCells [m] ++ (mkCells xs).drop (i * 2)) := by
    rw [insMk, mkCells_append, mkCells_take, show m :: xs.drop i = [m] ++ xs.drop i from rfl, mkCells_append, mkCells_drop]
  have hCl := mkCells_len xs
  have one1 : ∀ u ∈ mkCells xs, u.oneCell' = true := (mkCells_chunks w (fun _ => True) xs).one
  have one2 : ∀ u ∈ mkCells [m], u.oneCell' = true := (mkCells_chunks w (fun _ => True) [m]).one
  have hMl := mkCells_len [m]
  clear h hv hrow
  generalize mkCells (insMk xs i m) = R at *
  generalize mkCells [m] = M at *
  generalize mkCells xs = C at *
  generalize xs.length = n at *
  have hMl2 : M.length = 2 := hMl
  clear hMl
  -- the append of zeros
  obtain ⟨cells, k1, k2, k3, k4, hrun⟩ := run_append_zeros_grow (P := Tryd.prog) w 22 3 22 24 i0 (.agg #[.int .i64 0, .int .i64 0]) Tryd.underlying22 underInt hi hz0 (by rw [hz1]; rfl) (by rw [hz1]; decide)
    ⟨g, 0, none⟩ i cap (C.take (i * 2)) (by rw [List.length_take, hz1]; omega) (fun j u hj => by
      rw [Addr.add_lit, Nat.zero_add]
      rw [List.getElem?_take] at hj
      split at hj
      · exact hC j u hj
      · cases hj) (n + 1 - i) (by omega) (by omega) (by rw [hz2]; omega) (by omega)
  have e1 : i + (n + 1 - i) = n + 1 := by omega
  have e2 : ((n + 1 - i : Nat) : Int) = (n : Int) + 1 - i := by omega
  rw [e1] at k1 k3 k4 hrun
  rw [e2] at hrun
  rw [hz1] at k1 k2
  generalize grownCap w (n + 1) cap 24 = cap2 at *
  have Hrun := Lib.hid hrun; have K1 := Lib.hid k1; have K2 := Lib.hid k2; have HCl := Lib.hid hCl; have HMl := Lib.hid hMl2; have HF := Lib.hid hfin
  clear hrun k1 k2 e1 e2 hCl hMl2 hfin
  have hci : ¬ cap = i := by omega
  have t1 : (i : Int) ≤ (cap : Int) := by omega
  have t2 : (i : Int) ≤ (n : Int) := by omega
  have t3 : ((i : Int) == (n : Int)) = false := beq_eq_false_iff_ne.2 (by omega)
  have t4 : (cap : Int) < (n : Int) + 1 := by omega
  obtain ⟨W1, hW1⟩ : ∃ W1, W1 = (w.drew.alloc (.cells cells.toArray 24)) := ⟨_, rfl⟩
  have c1 : (w.drew.alloc (.cells cells.toArray 24)).heap[w.heap.size]? = some (.cells cells.toArray 24 (0, 0)) := heap_alloc_new w.drew _
  have b1 : Below w.heap.size w (w.drew.alloc (.cells cells.toArray 24)) := bel_alloc (bel_drew (Below.refl _ _)) _
  have m1 : ∀ j u, M[j]? = some u → (w.drew.alloc (.cells cells.toArray 24)).cell? ((⟨gv, 0, none⟩ : Addr).add j) = some u := fun j u hj => cell_later' b1 (hnews j u hj)
  rw [← hW1] at c1 b1 m1
  have hr2 := Hrun.out
  rw [← hW1] at hr2
  have Hr2 := Lib.hid hr2
  clear hr2 Hrun
  have n1 : Nat.min 1 (n + 1 - i) = 1 := Nat.min_eq_left (by omega)
  have l1 : M.length = Nat.min 1 (n + 1 - i) * 2 := by rw [n1, HMl.out]
  have f1 : i * 2 + M.length ≤ cells.length := by rw [HMl.out, K1.out]; omega
  have HW := Lib.hid hW1; have C1 := Lib.hid c1; have B1 := Lib.hid b1; have M1 := Lib.hid m1; have L1 := Lib.hid l1; have F1 := Lib.hid f1; have N1 := Lib.hid n1
  clear hW1 c1 b1 m1 l1 f1 n1 hnews
  have hc2n : ¬ cap2 = i := by omega
  have t5 : (i : Int) ≤ (cap2 : Int) := by omega
  have t6 : (i : Int) ≤ (n : Int) + 1 := by omega
  go_enter Tryd.func38, Tryd.ntmps38
  go_wp2_with (first | (at_builtin; refine wpList_append_runN rfl (.tmp 34) (.tmp 39) 22 3 rfl _ _ _ _ rfl rfl Hr2.out ?_) | (with_reducible refine wpList_copyN rfl (.tmp 43) (.tmp 44) 22 22 rfl 24 2 Tryd.underlying22 mkInfo2 _ _ _ _ _ _ rfl rfl w.heap.size (i * 2) cells 24 C1.out M L1.out (fun _ => ⟨rfl, _, rfl, M1.out⟩) F1.out one2 ?_))
  intro w2 C2 g2 s2
  go_wp2_with fail
  have q3 : (i : Int) + 1 ≤ (cap2 : Int) := by omega
  have q3' : (i : Int) + 1 ≤ (n : Int) + 1 := by omega
  have q4 : ¬ cap2 = i + 1 := by omega
  have q0 : (0 : Int) ≤ (i : Int) + 1 := by omega
  have q1 : IntKind.i64.wrap ((i : Int) + 1) = (i : Int) + 1 := IntWalk.i64_in _ (by omega)
  have q2 : ((i : Int) + 1).toNat = i + 1 := by omega
  go_still_tail 8, (by kernel_rfl)
  clear q0 q1 q2
  change wpList _ _ _ _ _ w2.drew
  have hg1 : W1.heap[g]? = w.heap[g]? := B1.out.block g hg
  have hg2 : w2.drew.heap[g]? = w.heap[g]? := (g2.block g (Nat.lt_of_lt_of_le hg B1.out.size) (by simp; omega)).trans hg1
  have C3 : Hid (w2.drew.heap[w.heap.size]? = some (.cells (splice cells (i * 2) M).toArray 24 (0, 0))) := C2.out
  have G3 : Hid (w.grownBy w2.drew none) := ⟨g2.os.trans B1.out.os, g2.tape.trans B1.out.tape, g2.output.trans B1.out.output, Nat.le_trans B1.out.size g2.size, fun k hk _ => (g2.block k (Nat.lt_of_lt_of_le hk B1.out.size) (by simp; omega)).trans (B1.out.block k hk)⟩
  have D3 : ∀ j u, (C.drop (i * 2))[j]? = some u → w2.drew.cell? ((⟨g, i * 2, none⟩ : Addr).add j) = some u := fun j u hj => by
    rw [List.getElem?_drop] at hj
    rw [Addr.add_lit]
    exact (World.cell?_of_block (w := w) (a := ⟨g, i * 2 + j, none⟩) hg2).trans (hC _ _ hj)
  clear C2 g2 s2 hg1 hg2 hC
  have hmin : Nat.min (n - i) (n - i) = n - i := Nat.min_self _
  have L3 : Hid ((C.drop (i * 2)).length = Nat.min (n - i) (n - i) * 2) := by
    show _ = _
    rw [hmin, List.length_drop, HCl.out]; omega
  have F3 : Hid ((i + 1) * 2 + (C.drop (i * 2)).length ≤ (splice cells (i * 2) M).length) := by
    show _ ≤ _
    rw [length_splice _ _ _ F1.out, List.length_drop, HCl.out, K1.out]; omega
  have one3 : ∀ u ∈ C.drop (i * 2), u.oneCell' = true := fun u hu => one1 u (List.mem_of_mem_drop hu)
  have D3' := Lib.hid D3
  clear D3 hmin
  generalize hS : splice cells (i * 2) M = S at *
  generalize hD : C.drop (i * 2) = D at *
  have HS := Lib.hid hS; have HD := Lib.hid hD
  clear hS hD
  generalize w2.drew = w3 at *
  refine wpList_copyN rfl (.tmp 50) (.tmp 53) 22 22 rfl 24 2 Tryd.underlying22 mkInfo2 _ _ _ _ _ _ rfl rfl w.heap.size ((i + 1) * 2) S 24 C3.out D L3.out (fun _ => ⟨rfl, _, rfl, D3'.out⟩) F3.out one3 ?_
  intro w4 C4 g4 _
  have G4 := Lib.hid g4
  clear g4
  go_wp2_with fail
  go_ret
  have hG : w.grownBy w4 (some g) := ⟨G4.out.os.trans G3.out.os, G4.out.tape.trans G3.out.tape, G4.out.output.trans G3.out.output, Nat.le_trans G3.out.size G4.out.size, fun k hk _ => (G4.out.block k (Nat.lt_of_lt_of_le hk G3.out.size) (by simp; omega)).trans (G3.out.block k hk (by simp))⟩
  have hDl : D.length = (n - i) * 2 := by rw [← HD.out, List.length_drop, HCl.out]; omega
  have hSl : S.length = cap2 * 2 := by rw [← HS.out, length_splice _ _ _ F1.out, K1.out]
  have hCl := HCl.out
  have hMl := HMl.out
  have hcl := K1.out
  have hRl : R.length = (n + 1) * 2 := by rw [HF.out, List.length_append, List.length_append, List.length_take]; omega
  refine ⟨_, rfl, hG, hRl, .inr ⟨w.heap.size, cap2, _, rfl, hbase, C4.out, k3, k4, ?_, ?_⟩⟩
  · rw [List.size_toArray, length_splice _ _ _ F3.out, hSl]
  · have e : (n + 1) * 2 = (i + 1) * 2 + D.length := by omega
    show (splice S ((i + 1) * 2) D).take ((n + 1) * 2) = R
    rw [e, splice_take2 (by omega), ← HS.out, show (i + 1) * 2 = i * 2 + M.length by omega, splice_take2 (by omega), K2.out, HF.out, List.append_assoc]
end Go.Proofs.YtjjgbgojlhaapaaDoor
