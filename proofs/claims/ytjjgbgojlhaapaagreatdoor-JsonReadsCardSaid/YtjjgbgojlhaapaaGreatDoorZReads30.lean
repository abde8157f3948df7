/- Parts of the proof: Dl, Sm. -/
import Derived.Test.YtjjgbgojlhaapaaGreatDoorZReads29
import Derived.Test.YtjjgbgojlhaapaaGreatDoorZReads12
import Derived.Test.YtjjgbgojlhaapaaGreatDoorZReads7
namespace Go.Proofs.YtjjgbgojlhaapaaGreatDoor
open Go.RowKit Go.Lib

def VResR (R : Nat) (s : ByteArray) (r : JV × St) (w : World) (z : Ending) (w' : World) : Prop := ∃ (v : JV) (A1 : Option Addr) (n1 c1 : Nat) (A2 : Option Addr) (n2 c2 : Nat),
  z = .returned (.agg #[.int .i64 v.k, .int .i64 v.n, .string v.s, .slice A1 n1 c1, .slice A2 n2 c2]) ∧ JR w' (fun b => w.heap.size ≤ b) v [.int .i64 v.k, .int .i64 v.n, .string v.s, .slice A1 n1 c1, .slice A2 n2 c2] ∧
  (r.2.e = 0 → v = r.1) ∧ RdPost 74 R s r.2.p r.2.e w w'
def ValAtR (s : ByteArray) (o : Int) (pv : St → JV × St) : Prop := ∀ (R : Nat) (x : St) (w : World), x.e = 0 → x.p ≤ s.size → RdAt 74 R s x.p x.e w →
  Calls Tryz.prog 29 #[.pointer (some ⟨R, 0, none⟩), .int .i64 o] w (VResR R s (pv x) w)
/-- forth, and not beyond the text -/
def FwdR (s : ByteArray) (pv : St → JV × St) : Prop := ∀ x : St, x.e = 0 → x.p ≤ s.size → x.p ≤ (pv x).2.p ∧ (pv x).2.p ≤ s.size
theorem next_fwd {s : ByteArray} {c : UInt8} {y : St} (h : (nextD s c y).1 = true) : y.p + 1 ≤ (nextD s c y).2.p := by
  have hb : y.p ≤ (y.blanks s).p := (skip_le _ _).1
  unfold nextD at h ⊢
  simp only at h ⊢
  split at h
  · cases h
  · rename_i h1
    rw [if_neg h1]
    split at h
    · cases h
    · rename_i h2
      rw [if_neg h2]
      split at h
      · cases h
      · rename_i h3
        rw [if_neg h3]
        simp only [St.step]; omega
theorem refInfo : (Tryz.prog.info? 35).map (fun i => (i.zero, i.size, i.bytes)) = some (some (.agg #[.int .i64 0, .int .i64 0, .string ⟨#[]⟩, .slice none 0 0, .slice none 0 0]), 5, 80) := by kernel_rfl
def LRelR (R B V : Nat) (s : ByteArray) (pv : St → JV × St) (w : World) (fin : List JV × St) (gg : Nat) (wr : World) : Prop := ∃ (f : Nat) (vs : List JV) (y : St) (va : Value),
  f ≤ gg ∧ y.e = 0 ∧ y.p ≤ s.size ∧ s.size + 1 - y.p ≤ f ∧ vs.length ≤ y.p ∧ RowIn 35 35 jvTy V mkL va vs wr ∧
  wr.heap[B]? = some (.cells #[.int .i64 0, .int .i64 0, .string ⟨#[]⟩, .slice none 0 0, .slice none 0 0] 35 (0, 0)) ∧ RdPost 74 R s y.p y.e w wr ∧ listLoopD s pv f vs y = fin
set_option maxRecDepth 100000 in
set_option maxHeartbeats 16000000 in
theorem rdlist_any (s : ByteArray) (op : Int) (pv : St → JV × St) (ih : ValAtR s op pv) (hs : s.size ≤ 1000000) (hfw : FwdR s pv)
    (R : Nat) (x : St) (w : World) (hx0 : x.e = 0) (hxp : x.p < s.size) (h : RdAt 74 R s x.p x.e w) :
    Calls Tryz.prog 54 #[.pointer (some ⟨R, 0, none⟩), .int .i64 op] w (VResR R s (listD s pv x) w) := by
  have hR := h.cells.2.2.2.2.2.2
  have hAA : Below w.heap.size w ((w.alloc (.cells #[.int .i64 0, .int .i64 0, .string ⟨#[]⟩, .slice none 0 0, .slice none 0 0] 35)).alloc (.cells #[.int .i64 6, .int .i64 0, .string ⟨#[]⟩, .slice none 0 0, .slice none 0 0] 35)) := bel_alloc (bel_alloc (Below.refl _ _) _) _
  have hb0 := heap_alloc2_old w (.cells #[.int .i64 0, .int .i64 0, .string ⟨#[]⟩, .slice none 0 0, .slice none 0 0] 35) (.cells #[.int .i64 6, .int .i64 0, .string ⟨#[]⟩, .slice none 0 0, .slice none 0 0] 35)
  have hv0 := heap_alloc2_new w (.cells #[.int .i64 0, .int .i64 0, .string ⟨#[]⟩, .slice none 0 0, .slice none 0 0] 35) (.cells #[.int .i64 6, .int .i64 0, .string ⟨#[]⟩, .slice none 0 0, .slice none 0 0] 35)
  have hp1 := RdPost.below h.post hAA
  generalize hW1 : (w.alloc (.cells #[.int .i64 0, .int .i64 0, .string ⟨#[]⟩, .slice none 0 0, .slice none 0 0] 35)).alloc (.cells #[.int .i64 6, .int .i64 0, .string ⟨#[]⟩, .slice none 0 0, .slice none 0 0] 35) = W1 at *
  have hem := rdempty_any R s 93 x W1 hs hxp hp1.1
  have hE : listD s pv x = if (emptyD s 93 x).1 then (listV [], (emptyD s 93 x).2) else (listV (listLoopD s pv (s.size + 1 - (emptyD s 93 x).2.p) [] (emptyD s 93 x).2).1, (listLoopD s pv (s.size + 1 - (emptyD s 93 x).2.p) [] (emptyD s 93 x).2).2) := rfl
  have hem0 : (emptyD s 93 x).1 = false → (emptyD s 93 x).2.e = 0 ∧ (emptyD s 93 x).2.p ≤ s.size := fun hf => by
    have h1 := (empty_D s 93 x hx0 (by decide)).2.2 hf
    rw [h1.1]
    exact ⟨hx0, (blanks_le (x := x.step) (by simp only [St.step]; omega)).2⟩
  have HP1 := Lib.hid hp1; have HB1 := Lib.hid hb0; have HV1 := Lib.hid hv0; have HEM := Lib.hid hem; have HW1 := Lib.hid hW1; have HIH := Lib.hid ih; have HFW := Lib.hid hfw
  clear hp1 hb0 hv0 hem hW1 ih hfw hAA h
  generalize listD s pv x = res at *
  generalize emptyD s 93 x = em at *
  obtain ⟨bb, y⟩ := em
  simp only at *
  have HE := Lib.hid hE
  clear hE
  go_enter Tryz.func54, Tryz.ntmps54
  go_upto_region 2 with (fail)
  rw [HW1.out]
  go_wp2_with fail
  refine Calls.mono HEM.out ?_
  rintro e w2 ⟨rfl, hp2⟩
  have HB2 := Lib.hid (hp2.keep (B := w.heap.size) HB1.out (by omega))
  have HV2 := Lib.hid (hp2.keep (B := w.heap.size + 1) HV1.out (by omega))
  have HP2 := Lib.hid (HP1.out.trans hp2)
  clear hp2 HEM HP1 HB1 HV1 HW1
  obtain ⟨l0, l1, l2, _, f1, _, hRw⟩ := HP2.out.1.cells
  cases bb with
  | true =>
    have hres : res = (listV [], y) := by rw [HE.out, if_pos rfl]
    subst hres
    clear HE hem0
    obtain ⟨⟨b0, b1, b2, b3, b4⟩, ⟨g0, g1, g2, g3, g4⟩, hBw⟩ := cells5 HB2.out
    obtain ⟨⟨v0, v1, v2, v3, v4⟩, _, hVw⟩ := cells5 HV2.out
    have hrow : RowIn 35 35 jvTy (w.heap.size + 1) mkL (.slice none 0 0) ([] : List JV) w2 := RowIn.nil HV2.out
    have hf := set5 (.int .i64 6) (.int .i64 0) (.string ⟨#[]⟩) (.slice none 0 0) (.slice none 0 0) HB2.out
    have hr5 := RdPost.set5 HP2.out (B := w.heap.size) (Nat.le_refl _) hR (.int .i64 6) (.int .i64 0) (.string ⟨#[]⟩) (.slice none 0 0) (.slice none 0 0)
    have hjj := row_jr hrow (N := w.heap.size) (w' := (((((w2.setCell ⟨w.heap.size, 0, none⟩ (.int .i64 6)).setCell ⟨w.heap.size, 1, none⟩ (.int .i64 0)).setCell ⟨w.heap.size, 2, none⟩ (.string ⟨#[]⟩)).setCell ⟨w.heap.size, 3, none⟩ (.slice none 0 0)).setCell ⟨w.heap.size, 4, none⟩ (.slice none 0 0))) (by omega) (fun b hb => set5_other _ _ _ _ _ (by omega))
    have HF5 := Lib.hid hf; have HR5 := Lib.hid hr5; have HJJ := Lib.hid hjj
    clear hf hr5 hjj hrow
    go_wp2_with fail
    exact bodyPost_ret (results_cell_row rfl _ _ w.heap.size 35 #[.int .i64 6, .int .i64 0, .string ⟨#[]⟩, .slice none 0 0, .slice none 0 0] (0, 0) _ rfl HF5.out Tryz.underlying35 rfl (by kernel_rfl)) rfl ⟨listV [], none, 0, 0, none, 0, 0, rfl, HJJ.out, fun _ => rfl, HR5.out⟩
  | false =>
    obtain ⟨hy0, hyp⟩ := hem0 rfl
    have hres : res = (listV (listLoopD s pv (s.size + 1 - y.p) [] y).1, (listLoopD s pv (s.size + 1 - y.p) [] y).2) := by rw [HE.out, if_neg Bool.false_ne_true]
    generalize hfin : listLoopD s pv (s.size + 1 - y.p) [] y = fin at *
    have HL := Lib.hid (show LRelR R w.heap.size (w.heap.size + 1) s pv w fin (s.size + 1 - y.p) w2 from ⟨s.size + 1 - y.p, [], y, .slice none 0 0, Nat.le_refl _, hy0, hyp, Nat.le_refl _, Nat.zero_le _, RowIn.nil HV2.out, HB2.out, HP2.out, hfin⟩)
    clear HE hem0
    subst hres
    clear hfin
    obtain ⟨i0, hi, hz0, hz1, hz2⟩ := info_parts refInfo
    go_wp2_with fail
    go_loopg [] (s.size + 1 - y.p) (fun gg wr => Aside (LRelR R w.heap.size (w.heap.size + 1) s pv w fin gg wr))
    case atStart => exact HL.out
    case round =>
      clear l0 l1 l2 f1 hRw HL HP2 HB2 HV2 hy0 hyp
      obtain ⟨f, vs, q, va, hfg, he, hqs, hqf, hvl, hrow, hbk, hrd, hfin⟩ := hrel
      obtain ⟨A, c, rfl⟩ := hrow.form
      have hRV : R < w.heap.size + 1 := by omega
      obtain ⟨g, rfl⟩ : ∃ g, f = g + 1 := ⟨f - 1, by omega⟩
      have HP := Lib.hid hrd
      obtain ⟨⟨v0, v1, v2, v3, v4⟩, _, hVw⟩ := cells5 (show wr.heap[w.heap.size + 1]? = some (.cells #[.int .i64 6, .int .i64 0, .string ⟨#[]⟩, .slice A vs.length c, .slice none 0 0] 35 (0, 0)) from hrow.1)
      have HIV := Lib.hid (HIH.out R q wr.drew he hqs hrd.1)
      have hgd := HFW.out q he hqs
      have HFE := Lib.hid (show (if (nextD s 93 (pv q).2).1 then listLoopD s pv g (vs ++ [(pv q).1]) (nextD s 93 (pv q).2).2 else (vs ++ [(pv q).1], (nextD s 93 (pv q).2).2)) = fin from hfin)
      have HROWD := Lib.hid (show RowIn 35 35 jvTy (w.heap.size + 1) mkL (.slice A vs.length c) vs wr.drew from hrow.kept ⟨rfl, rfl, rfl, Nat.le_refl _, fun _ _ _ => rfl⟩ hRV)
      have HVD := Lib.hid (show wr.drew.heap[w.heap.size + 1]? = some (.cells (mkL (.slice A vs.length c)) 35 (0, 0)) from hrow.1)
      have HBD := Lib.hid (show wr.drew.heap[w.heap.size]? = some (.cells #[.int .i64 0, .int .i64 0, .string ⟨#[]⟩, .slice none 0 0, .slice none 0 0] 35 (0, 0)) from hbk)
      clear hrow hbk hrd hfin
      generalize pv q = pq at *
      obtain ⟨v', z⟩ := pq
      simp only at HIV hgd
      go_wp2_with fail
      refine PrintLast.wp_region_last_drew (S := fun w' => w'.cell? ⟨w.heap.size + 1, 3, none⟩ = some (.slice A vs.length c)) (ds := [6, 8]) (by kernel_rfl) ?_ (fun hHeld => ?_)
      · exact v3
      refine PrintLast.wpAnyLast_take (i := 0) (v := ?_) rfl (by kernel_rfl) (by kernel_rfl) (by kernel_rfl) (by kernel_rfl) (by kernel_rfl) (fun _ _ _ h => h) (Or.inl ⟨by kernel_rfl, ?_⟩) (by assumption) ?_
      rotate_left
      · (intro w hSw; (try dsimp only at hSw); go_simp; try (with_reducible rfl))
      try simp only [List.getElem_toArray, List.getElem_cons_zero, Act.put, List.setIfInBounds_toArray, List.set_cons_zero, List.set_cons_succ]
      refine PrintLast.wpAnyLast_take (i := 1) (v := ?_) rfl (by kernel_rfl) (by kernel_rfl) (by kernel_rfl) (by kernel_rfl) (by kernel_rfl) (fun _ _ _ h => h) (Or.inl ⟨by kernel_rfl, ?_⟩) (by assumption) ?_
      rotate_left
      · (intro w hSw; (try dsimp only at hSw); go_simp; try (with_reducible rfl))
      try simp only [List.getElem_toArray, List.getElem_cons_zero, List.getElem_cons_succ, Act.put, List.setIfInBounds_toArray, List.set_cons_zero, List.set_cons_succ]
      refine PrintLast.wpAnyLast_take (i := 2) (v := ?_) rfl (by kernel_rfl) (by kernel_rfl) (by kernel_rfl) (by kernel_rfl) (by kernel_rfl) (fun _ _ _ h => h) (Or.inl ⟨by kernel_rfl, ?_⟩) (by assumption) ?_
      rotate_left
      · (intro w hSw; (try dsimp only at hSw); go_simp; try (with_reducible rfl))
      try simp only [List.getElem_toArray, List.getElem_cons_zero, List.getElem_cons_succ, Act.put, List.setIfInBounds_toArray, List.set_cons_zero, List.set_cons_succ]
      refine PrintLast.wpAnyLast_take (i := 3) (v := ?_) rfl (by kernel_rfl) (by kernel_rfl) (by kernel_rfl) (by kernel_rfl) (by kernel_rfl) (fun _ _ _ h => h) (Or.inl ⟨by kernel_rfl, ?_⟩) (by assumption) ?_
      rotate_left
      · (intro w hSw; (try dsimp only at hSw); go_simp; try (with_reducible rfl))
      try simp only [List.getElem_toArray, List.getElem_cons_zero, List.getElem_cons_succ, Act.put, List.setIfInBounds_toArray, List.set_cons_zero, List.set_cons_succ]
      have HK := Lib.hid hHeld
      clear hHeld
      refine PrintLast.wpAnyLast_ready (rs := [4]) (by kernel_rfl) (by simp) ?_
      refine PrintLast.AllReadyL.cons rfl (by decide) (fun K hK => ?_) PrintLast.AllReadyL.nil
      rw [if_pos (by kernel_rfl)]
      go_simp
      go_at_call 29; refine (HIV.out).mono ?_; rintro e w5 ⟨v, A1, n1, c1, A2, n2, c2, rfl, hjr, heq, hp5⟩
      have HJ := Lib.hid hjr; have HEQ := Lib.hid heq; have HP5 := Lib.hid hp5
      clear hjr heq hp5
      go_wp2_with fail
      refine hK.out _ _ ?_ (fun hHeld => ?_)
      · rw [Lib.cell_of_heap (HP5.out.keep HVD.out (by omega))]; rfl
      clear hK K
      try simp only [List.getElem_toArray, List.getElem_cons_zero, List.getElem_cons_succ, Act.put, List.setIfInBounds_toArray, List.set_cons_zero, List.set_cons_succ]
      clear HK
      have HK := Lib.hid hHeld
      clear hHeld
      refine PrintLast.wpAnyLast_ready (rs := [5]) (by kernel_rfl) (by simp) ?_
      refine PrintLast.AllReadyL.cons rfl (by decide) (fun K hK => ?_) PrintLast.AllReadyL.nil
      rw [if_pos (by kernel_rfl)]
      go_simp
      try simp only [List.foldl_cons, List.foldl_nil, List.setIfInBounds_toArray, List.set_cons_zero, List.set_cons_succ, Nat.reduceAdd]
      refine hK.out _ _ ?_ (fun hHeld => ?_)
      · exact cell_later' (bel_alloc (Below.refl _ _) _) HK.out
      clear hK K
      try simp only [List.getElem_toArray, List.getElem_cons_zero, List.getElem_cons_succ, Act.put, List.setIfInBounds_toArray, List.set_cons_zero, List.set_cons_succ]
      clear HK
      refine PrintLast.wpAnyLast_ready (rs := [6]) (by kernel_rfl) (by simp) ?_
      refine PrintLast.AllReadyL.cons_last rfl (by decide) (fun K hK => ?_) PrintLast.AllReadyL.nil
      have hrow5 := HROWD.out.kept HP5.out.2 hRV
      obtain ⟨hv5, cs, hown5, hch5⟩ := hrow5
      have hal := bel_alloc (Below.refl w5.heap.size w5) (.cells #[.int .i64 v.k, .int .i64 v.n, .string v.s, .slice A1 n1 c1, .slice A2 n2 c2] 35)
      have hownU := own_laterB hown5 hal
      have hnews : ∀ j u, [.int .i64 v.k, .int .i64 v.n, .string v.s, .slice A1 n1 c1, .slice A2 n2 c2][j]? = some u → (w5.alloc (.cells #[.int .i64 v.k, .int .i64 v.n, .string v.s, .slice A1 n1 c1, .slice A2 n2 c2] 35)).cell? ((⟨w5.heap.size, 0, none⟩ : Addr).add j) = some u := fun j u hj => by
        rw [Addr.add_lit, Nat.zero_add]; exact cell_newB w5 #[.int .i64 v.k, .int .i64 v.n, .string v.s, .slice A1 n1 c1, .slice A2 n2 c2] 35 j u (by simpa using hj)
      have HV5 := Lib.hid hv5; have HO5 := Lib.hid hown5; have HC5 := Lib.hid hch5; have HOU := Lib.hid hownU; have HNW := Lib.hid hnews
      clear hv5 hown5 hch5 hal hownU hnews
      have hM : vs.length + 1 ≤ maxLen := by simp only [maxLen]; omega
      have hby : (vs.length + 1) * 80 ≤ 140737488355328 := by omega
      have hbs : w.heap.size + 1 + 1 ≤ (w5.alloc (.cells #[.int .i64 v.k, .int .i64 v.n, .string v.s, .slice A1 n1 c1, .slice A2 n2 c2] 35)).heap.size := by
        have := HP5.out.2.size
        have e : wr.drew.heap.size = wr.heap.size := rfl
        have h2 : (w5.alloc (.cells #[.int .i64 v.k, .int .i64 v.n, .string v.s, .slice A1 n1 c1, .slice A2 n2 c2] 35)).heap.size = w5.heap.size + 1 := by show (w5.heap.push _).size = _; simp
        omega
      refine step_append_own rfl _ _ 32 rfl (w.heap.size + 1 + 1) 35 i0 _ 5 80 Tryz.underlying32 hi hz0 hz1 hz2 rfl (by decide) _ vs.length cs rfl HOU.out ⟨w5.heap.size, 0, none⟩ 1 1 _ rfl rfl HNW.out (by intro u hu; simp at hu; rcases hu with rfl | rfl | rfl | rfl | rfl <;> rfl) hM hby hbs ?_
      intro v' W ho hg hx
      refine hK.out _ _ ?_
      clear hK K
      try simp only [List.getElem_toArray, List.getElem_cons_zero, List.getElem_cons_succ, Act.put, List.setIfInBounds_toArray, List.set_cons_zero, List.set_cons_succ]
      obtain ⟨A7, c7, rfl⟩ := own_sliceB ho
      have hpush := RowIn.push (T := 35) (E := 35) (Y := jvTy) (mk := mkL) (i := 3) (va' := .slice A7 (vs.length + 1) c7) rfl HV5.out HO5.out HC5.out (x := v) (N := wr.heap.size) HJ.out (by omega) (fun j hj => by obtain ⟨_, cs', ho', _⟩ := HROWD.out; exact (ho'.lt j hj).2) hg hx ho
      have hlt5 : w.heap.size + 1 < w5.heap.size := (Array.getElem?_eq_some_iff.1 HV5.out).1
      have hobj : ∀ k, (Value.slice A vs.length c).ownBlock = some k → w.heap.size + 1 < k := fun k hk => by have := (HO5.out.lt k hk).1; omega
      have hsz5 : (w5.alloc (.cells #[.int .i64 v.k, .int .i64 v.n, .string v.s, .slice A1 n1 c1, .slice A2 n2 c2] 35)).heap.size = w5.heap.size + 1 := by show (w5.heap.push _).size = _; simp
      have hVW : W.heap[w.heap.size + 1]? = some (.cells (mkL (.slice A vs.length c)) 35 (0, 0)) :=
        (hg.block _ (by omega) (fun e => by have := hobj _ e.symm; omega)).trans (((bel_alloc (Below.refl w5.heap.size w5) _).block _ hlt5).trans HV5.out)
      have w3 : W.cell? ⟨w.heap.size + 1, 3, none⟩ = some (.slice A vs.length c) := by rw [Lib.cell_of_heap hVW]; rfl
      have f3 : W.frozen? ⟨w.heap.size + 1, 3, none⟩ = false := by simp [World.frozen?, hVW]
      have hpF := RdPost.setB (i := 3) (B := w.heap.size + 1) (RdPost.far (RdPost.below (RdPost.trans (RdPost.drew HP.out) HP5.out) (bel_alloc (Below.refl w5.heap.size w5) (.cells #[.int .i64 v.k, .int .i64 v.n, .string v.s, .slice A1 n1 c1, .slice A2 n2 c2] 35))) hg (fun k hk => by have := hobj k hk; omega) hR) (by omega) hR (.slice A7 (vs.length + 1) c7)
      have hbF : (W.setCell ⟨w.heap.size + 1, 3, none⟩ (.slice A7 (vs.length + 1) c7)).heap[w.heap.size]? = _ :=
        (Below.heap_setCell _ _ _ _ (by show w.heap.size ≠ w.heap.size + 1; omega)).trans ((hg.block _ (by omega) (fun e => by have := hobj _ e.symm; omega)).trans (((bel_alloc (Below.refl w5.heap.size w5) _).block _ (by omega)).trans (HP5.out.keep HBD.out (by omega))))
      have HPF := Lib.hid hpF; have HBF := Lib.hid hbF; have HRF := Lib.hid hpush
      clear hpF hbF hpush hg hx ho hVW hlt5 hobj
      refine PrintLast.wpAnyLast_any (i := 7) (v := ?_) rfl (Region.noSelect_spec (by kernel_rfl)) (fun _ _ _ h => h) _ _ _ _ (Region.free_spec rfl (by kernel_rfl)) (List.contains_iff_mem.1 (by kernel_rfl)) (Or.inl ⟨by kernel_rfl, ?_⟩) ?_
      rotate_left
      · (intro w; go_simp; try (with_reducible rfl))
      try simp only [List.getElem_toArray, List.getElem_cons_zero, List.getElem_cons_succ, Act.put, List.setIfInBounds_toArray, List.set_cons_zero, List.set_cons_succ]
      refine PrintLast.wpAnyLast_ready (rs := [8]) (by kernel_rfl) (by simp) ?_
      refine PrintLast.AllReadyL.cons_last rfl (by decide) (fun K hK => ?_) PrintLast.AllReadyL.nil
      rw [if_pos (by kernel_rfl)]
      go_simp
      refine hK.out _ _ ?_
      clear hK K
      try simp only [List.getElem_toArray, List.getElem_cons_zero, List.getElem_cons_succ, Act.put, List.setIfInBounds_toArray, List.set_cons_zero, List.set_cons_succ]
      refine PrintLast.wpAnyLast_done (by kernel_rfl) ?_ _
      generalize W.setCell ⟨w.heap.size + 1, 3, none⟩ (.slice A7 (vs.length + 1) c7) = WF at *
      have hfe := HFE.out
      try simp only at hfe
      have HNX := Lib.hid (rdnext_any R s 93 z WF hs hgd.2 HPF.out.1)
      have hfwd := next_fwd (s := s) (c := 93) (y := z)
      have hnp := next_p (s := s) (c := 93) hgd.2
      have hze : (nextD s 93 z).1 = true → z.e = 0 := fun h => by
        by_cases hz : z.e = 0
        · exact hz
        · rw [next_err hz] at h; cases h
      have hne : (nextD s 93 z).1 = true → (nextD s 93 z).2.e = 0 := fun h => next_e (hze h) h
      have hle : (nextD s 93 z).2.e = 0 → z.e = 0 := fun h => by
        by_cases hz : z.e = 0
        · exact hz
        · rw [next_err hz] at h; exact absurd h hz
      generalize nextD s 93 z = nx at *
      obtain ⟨b9, y9⟩ := nx
      simp only at *
      go_wp2_with fail
      refine Calls.mono HNX.out ?_
      rintro e w9 ⟨rfl, hp9⟩
      have HR9 := Lib.hid (HRF.out.kept hp9.2 hRV)
      have HB9 := Lib.hid (hp9.keep (B := w.heap.size) HBF.out (by omega))
      have HP9 := Lib.hid (RdPost.trans HPF.out hp9)
      clear hp9 HNX HRF HBF HPF
      cases b9 with
      | true =>
        have hv : v = v' := HEQ.out (hze rfl)
        subst hv
        rw [if_pos rfl] at hfe
        have h1 := hfwd rfl
        have h2 := hne rfl
        go_wp2_with fail
        go_roundg g
        case measure => omega
        case rel => exact ⟨g, vs ++ [v], y9, .slice A7 (vs.length + 1) c7, Nat.le_refl _, h2, hnp, by omega, by rw [List.length_append, List.length_singleton]; omega, HR9.out, HB9.out, HP9.out, hfe⟩
      | false =>
        rw [if_neg Bool.false_ne_true] at hfe
        subst hfe
        obtain ⟨⟨b0, b1, b2, b3, b4⟩, ⟨g0, g1, g2, g3, g4⟩, hBw⟩ := cells5 HB9.out
        obtain ⟨⟨u0, u1, u2, u3, u4⟩, _, hVw9⟩ := cells5 (show w9.heap[w.heap.size + 1]? = some (.cells #[.int .i64 6, .int .i64 0, .string ⟨#[]⟩, .slice A7 (vs.length + 1) c7, .slice none 0 0] 35 (0, 0)) from HR9.out.1)
        have hf := set5 (.int .i64 6) (.int .i64 0) (.string ⟨#[]⟩) (.slice A7 (vs.length + 1) c7) (.slice none 0 0) HB9.out
        have hr5 := RdPost.set5 HP9.out (B := w.heap.size) (Nat.le_refl _) hR (.int .i64 6) (.int .i64 0) (.string ⟨#[]⟩) (.slice A7 (vs.length + 1) c7) (.slice none 0 0)
        have hjj := row_jr HR9.out (N := w.heap.size) (w' := (((((w9.setCell ⟨w.heap.size, 0, none⟩ (.int .i64 6)).setCell ⟨w.heap.size, 1, none⟩ (.int .i64 0)).setCell ⟨w.heap.size, 2, none⟩ (.string ⟨#[]⟩)).setCell ⟨w.heap.size, 3, none⟩ (.slice A7 (vs.length + 1) c7)).setCell ⟨w.heap.size, 4, none⟩ (.slice none 0 0))) (by omega) (fun b hb => set5_other _ _ _ _ _ (by omega))
        have HF5 := Lib.hid hf; have HR5 := Lib.hid hr5; have HJJ := Lib.hid hjj
        have HLE := Lib.hid hle
        clear hf hr5 hjj v0 v1 v2 v3 v4
        go_wp2_with fail
        exact bodyPost_ret (results_cell_row rfl _ _ w.heap.size 35 #[.int .i64 6, .int .i64 0, .string ⟨#[]⟩, .slice A7 (vs.length + 1) c7, .slice none 0 0] (0, 0) _ rfl HF5.out Tryz.underlying35 rfl (by kernel_rfl)) rfl ⟨listV (vs ++ [v]), A7, vs.length + 1, c7, none, 0, 0, rfl, HJJ.out, fun he => by rw [HEQ.out (HLE.out he)], HR5.out⟩
end Go.Proofs.YtjjgbgojlhaapaaGreatDoor
namespace Go.Proofs.YtjjgbgojlhaapaaGreatDoor
open Go.RowKit Go.Lib

mutual
def sameB : JV → JV → Bool
  | .mk k n s l m, .mk k' n' s' l' m' => k == k' && n == n' && s.toList == s'.toList && sameL l l' && sameM m m'
def sameL : List JV → List JV → Bool
  | [], [] => true
  | x :: xs, y :: ys => sameB x y && sameL xs ys
  | _, _ => false
def sameM : List (ByteArray × JV) → List (ByteArray × JV) → Bool
  | [], [] => true
  | (a, x) :: xs, (b, y) :: ys => (a.toList == b.toList && sameB x y) && sameM xs ys
  | _, _ => false
end
mutual
theorem same_refl : ∀ x : JV, sameB x x = true
  | .mk k n s l m => by simp [sameB, sameL_refl l, sameM_refl m]
theorem sameL_refl : ∀ l : List JV, sameL l l = true
  | [] => rfl
  | x :: xs => by simp [sameL, same_refl x, sameL_refl xs]
theorem sameM_refl : ∀ l : List (ByteArray × JV), sameM l l = true
  | [] => rfl
  | (a, x) :: xs => by simp [sameM, same_refl x, sameM_refl xs]
end
theorem sameB_eq (x y : JV) : sameB x y = (x.k == y.k && x.n == y.n && x.s.toList == y.s.toList && sameL x.l y.l && sameM x.m y.m) := by
  obtain ⟨k, n, s, l, m⟩ := x
  obtain ⟨k', n', s', l', m'⟩ := y
  rfl
theorem sameL_len : ∀ (l l' : List JV), l.length ≠ l'.length → sameL l l' = false
  | [], [], h => absurd rfl h
  | [], _ :: _, _ => rfl
  | _ :: _, [], _ => rfl
  | x :: xs, y :: ys, h => by simp only [sameL, sameL_len xs ys (by simpa using h), Bool.and_false]
theorem sameM_len : ∀ (l l' : List (ByteArray × JV)), l.length ≠ l'.length → sameM l l' = false
  | [], [], h => absurd rfl h
  | [], _ :: _, _ => rfl
  | _ :: _, [], _ => rfl
  | (a, x) :: xs, (b, y) :: ys, h => by simp only [sameM, sameM_len xs ys (by simpa using h), Bool.and_false]
theorem sameL_step {l l' : List JV} {k : Nat} {x y : JV} (h : sameL l l' = sameL (l.drop k) (l'.drop k)) (hx : l[k]? = some x) (hy : l'[k]? = some y) : sameL l l' = (sameB x y && sameL (l.drop (k + 1)) (l'.drop (k + 1))) := by
  rw [h, drop_of_get hx, drop_of_get hy]; rfl
theorem sameM_step {l l' : List (ByteArray × JV)} {k : Nat} {a b : ByteArray} {x y : JV} (h : sameM l l' = sameM (l.drop k) (l'.drop k)) (hx : l[k]? = some (a, x)) (hy : l'[k]? = some (b, y)) : sameM l l' = ((a.toList == b.toList && sameB x y) && sameM (l.drop (k + 1)) (l'.drop (k + 1))) := by
  rw [h, drop_of_get hx, drop_of_get hy]; rfl
theorem sameL_end {l l' : List JV} {k : Nat} (h : sameL l l' = sameL (l.drop k) (l'.drop k)) (h1 : l.length ≤ k) (h2 : l'.length ≤ k) : sameL l l' = true := by
  rw [h, List.drop_of_length_le h1, List.drop_of_length_le h2]; rfl
theorem sameM_end {l l' : List (ByteArray × JV)} {k : Nat} (h : sameM l l' = sameM (l.drop k) (l'.drop k)) (h1 : l.length ≤ k) (h2 : l'.length ≤ k) : sameM l l' = true := by
  rw [h, List.drop_of_length_le h1, List.drop_of_length_le h2]; rfl
theorem get_mem {α : Type} {l : List α} {k : Nat} {x : α} (h : l[k]? = some x) : x ∈ l := List.mem_of_getElem? h
/-- what a call of Same on a tree says -/
def SameAt (x : JV) : Prop := ∀ (y : JV) (cs cs' : List Value) (F F' : Nat → Prop) (w : World), JR w F x cs → JR w F' y cs' →
  Calls Tryz.prog 19 #[.agg cs.toArray, .agg cs'.toArray] w fun e w' => e = .returned (.bool (sameB x y)) ∧ Below w.heap.size w w'
set_option maxRecDepth 100000 in
set_option maxHeartbeats 4000000 in
theorem eqv_any (l l' : List JV) (ih : ∀ q ∈ l, SameAt q) (v v' : Value) (F F' : Nat → Prop) (w : World) (h : Sl jvTy w F v l) (h' : Sl jvTy w F' v' l') :
    Calls Tryz.prog 38 #[v, v', .func (.func 19) #[] #[]] w fun e w' => e = .returned (.bool (sameL l l')) ∧ Below w.heap.size w w' := by
  obtain ⟨A1, c1, rfl, hl63, hel⟩ := val_cells h
  obtain ⟨A2, c2, rfl, hm63, hem⟩ := val_cells h'
  have HL := Lib.hid hel; have HM := Lib.hid hem; have IH := Lib.hid ih
  clear h h' hel hem ih
  by_cases hlen : l.length = l'.length
  case neg =>
    have hd : ((l.length : Int) != (l'.length : Int)) = true := by simpa using (fun e => hlen (by exact_mod_cast e))
    have hn : ¬ ((l.length : Int) = (l'.length : Int)) := by omega
    rw [sameL_len l l' hlen]
    go_enter Tryz.func38, Tryz.ntmps38
    go_wp2_with fail
    go_ret
    exact ⟨rfl, Below.refl _ _⟩
  case pos =>
    have HN := Lib.hid hlen
    have hl2 : l'.length = l.length := hlen.symm
    rw [hl2] at hm63 ⊢
    generalize hn : l.length = n at *
    have Hn := Lib.hid hn; have Hm := Lib.hid hl2
    clear hlen hn hl2
    go_enter Tryz.func38, Tryz.ntmps38
    go_wp2_with fail
    go_loopg [17] n (fun gg s17 wr => ∃ k : Nat, k ≤ n ∧ n - k ≤ gg ∧ s17 = .int .i64 k ∧ Aside (Below w.heap.size w wr) ∧ Aside (sameL l l' = sameL (l.drop k) (l'.drop k)))
    case atStart => exact ⟨0, Nat.zero_le _, by omega, rfl, Below.refl _ _, rfl⟩
    case round =>
      obtain ⟨k, hk, hgg, rfl, HB, HA⟩ := hrel
      by_cases hlt : k < n
      · have hltz : (k : Int) < (n : Int) := by omega
        obtain ⟨x, hx⟩ : ∃ p, l[k]? = some p := get_ex (by have := Hn.out; omega)
        obtain ⟨y, hy⟩ : ∃ p, l'[k]? = some p := get_ex (by have := Hm.out; omega)
        obtain ⟨b, o, B1, k1, d1, B2, k2, d2, rfl, e0, e1, e2, e3, e4, hjr⟩ := HL.out k x hx
        obtain ⟨b', o', B1', k1', d1', B2', k2', d2', rfl, e0', e1', e2', e3', e4', hjr'⟩ := HM.out k y hy
        have r0 := cell_later' HB.out e0
        have r1 := cell_later' HB.out e1
        have r2 := cell_later' HB.out e2
        have r3 := cell_later' HB.out e3
        have r4 := cell_later' HB.out e4
        have r0' := cell_later' HB.out e0'
        have r1' := cell_later' HB.out e1'
        have r2' := cell_later' HB.out e2'
        have r3' := cell_later' HB.out e3'
        have r4' := cell_later' HB.out e4'
        have hbr : b < wr.heap.size := World.block_lt_of_cell? _ _ r0
        have hbr' : b' < wr.heap.size := World.block_lt_of_cell? _ _ r0'
        have hcall := fun V (hV : Below wr.heap.size wr V) => IH.out x (get_mem hx) y _ _ F F' V (JR_later hjr (bel_trans HB.out hV)) (JR_later hjr' (bel_trans HB.out hV))
        have hstep := sameL_step HA.out hx hy
        have HC := Lib.hid hcall; have HST := Lib.hid hstep
        clear hx hy hjr hjr' e0 e1 e2 e3 e4 e0' e1' e2' e3' e4' hcall hstep
        go_wp2_with fail
        refine (HC.out _ ?_).mono ?_
        · exact bel_alloc (bel_alloc (Below.refl _ _) _) _
        cases hsb : sameB x y with
        | false =>
          rintro e w5 ⟨rfl, hb5⟩
          have hR : sameL l l' = false := by rw [HST.out, hsb]; rfl
          have HR := Lib.hid hR
          clear hR hsb
          go_wp2_with fail
          go_ret
          exact ⟨ret_bool (by rw [HR.out]), bel_trans HB.out (bel_trans (bel_alloc (bel_alloc (Below.refl _ _) _) _) hb5)⟩
        | true =>
          rintro e w5 ⟨rfl, hb5⟩
          have hR : sameL l l' = sameL (l.drop (k + 1)) (l'.drop (k + 1)) := by rw [HST.out, hsb]; rfl
          have HR := Lib.hid hR
          clear hR hsb
          go_wp2_with fail
          go_roundg (n - (k + 1))
          case measure => omega
          case rel => exact ⟨k + 1, by omega, by omega, by simp, bel_trans HB.out (bel_trans (bel_alloc (bel_alloc (Below.refl _ _) _) _) hb5), HR.out⟩
      · have hltz : ¬ ((k : Int) < (n : Int)) := by omega
        have HE := Lib.hid (sameL_end HA.out (by have := Hn.out; omega) (by have := Hm.out; omega))
        go_wp2_with fail
        go_ret
        exact ⟨ret_bool (by rw [HE.out]), HB.out⟩
set_option maxRecDepth 100000 in
set_option maxHeartbeats 4000000 in
theorem same1_any (x : JV) (ih : SameAt x) (nm nm' : ByteArray) (y : JV) (cs cs' : List Value) (F F' : Nat → Prop) (w : World) (h : JR w F x cs) (h' : JR w F' y cs') :
    Calls Tryz.prog 40 #[.agg (Value.string nm :: cs).toArray, .agg (Value.string nm' :: cs').toArray] w fun e w' => e = .returned (.bool (nm.toList == nm'.toList && sameB x y)) ∧ Below w.heap.size w w' := by
  have hcall := fun V (hV : Below w.heap.size w V) => ih y cs cs' F F' V (JR_later h hV) (JR_later h' hV)
  obtain ⟨A1, n1, c1, A2, n2, c2, rfl⟩ := JR_form h
  obtain ⟨B1, k1, d1, B2, k2, d2, rfl⟩ := JR_form h'
  have HC := Lib.hid hcall
  clear hcall ih h h'
  cases he : (nm.toList == nm'.toList) with
  | false =>
    go_enter Tryz.func40, Tryz.ntmps40
    go_wp2_with fail
    go_ret
    exact ⟨rfl, bel_alloc (bel_alloc (Below.refl _ _) _) _⟩
  | true =>
    go_enter Tryz.func40, Tryz.ntmps40
    go_wp2_with fail
    refine (HC.out _ (bel_alloc (bel_alloc (Below.refl _ _) _) _)).mono ?_
    rintro e w5 ⟨rfl, hb5⟩
    go_wp2_with fail
    go_ret
    exact ⟨ret_bool (by simp), bel_trans (bel_alloc (bel_alloc (Below.refl _ _) _) _) hb5⟩
set_option maxRecDepth 100000 in
set_option maxHeartbeats 4000000 in
theorem eqm_any (l l' : List (ByteArray × JV)) (ih : ∀ q ∈ l, SameAt q.2) (v v' : Value) (F F' : Nat → Prop) (w : World) (h : Sl memTy w F v l) (h' : Sl memTy w F' v' l') :
    Calls Tryz.prog 39 #[v, v', .func (.func 40) #[] #[]] w fun e w' => e = .returned (.bool (sameM l l')) ∧ Below w.heap.size w w' := by
  obtain ⟨A1, c1, rfl, hl63, hel⟩ := mem_cells h
  obtain ⟨A2, c2, rfl, hm63, hem⟩ := mem_cells h'
  have HL := Lib.hid hel; have HM := Lib.hid hem; have IH := Lib.hid ih
  clear h h' hel hem ih
  by_cases hlen : l.length = l'.length
  case neg =>
    have hd : ((l.length : Int) != (l'.length : Int)) = true := by simpa using (fun e => hlen (by exact_mod_cast e))
    have hn : ¬ ((l.length : Int) = (l'.length : Int)) := by omega
    rw [sameM_len l l' hlen]
    go_enter Tryz.func39, Tryz.ntmps39
    go_wp2_with fail
    go_ret
    exact ⟨rfl, Below.refl _ _⟩
  case pos =>
    have HN := Lib.hid hlen
    have hl2 : l'.length = l.length := hlen.symm
    rw [hl2] at hm63 ⊢
    generalize hn : l.length = n at *
    have Hn := Lib.hid hn; have Hm := Lib.hid hl2
    clear hlen hn hl2
    go_enter Tryz.func39, Tryz.ntmps39
    go_wp2_with fail
    go_loopg [17] n (fun gg s17 wr => ∃ k : Nat, k ≤ n ∧ n - k ≤ gg ∧ s17 = .int .i64 k ∧ Aside (Below w.heap.size w wr) ∧ Aside (sameM l l' = sameM (l.drop k) (l'.drop k)))
    case atStart => exact ⟨0, Nat.zero_le _, by omega, rfl, Below.refl _ _, rfl⟩
    case round =>
      obtain ⟨k, hk, hgg, rfl, HB, HA⟩ := hrel
      by_cases hlt : k < n
      · have hltz : (k : Int) < (n : Int) := by omega
        obtain ⟨⟨nm, x⟩, hx⟩ : ∃ p, l[k]? = some p := get_ex (by have := Hn.out; omega)
        obtain ⟨⟨nm', y⟩, hy⟩ : ∃ p, l'[k]? = some p := get_ex (by have := Hm.out; omega)
        obtain ⟨b, o, B1, k1, d1, B2, k2, d2, rfl, hnz, e0, e1, e2, e3, e4, e5, hjr⟩ := HL.out k nm x hx
        obtain ⟨b', o', B1', k1', d1', B2', k2', d2', rfl, hnz', e0', e1', e2', e3', e4', e5', hjr'⟩ := HM.out k nm' y hy
        have r0 := cell_later' HB.out e0
        have r1 := cell_later' HB.out e1
        have r2 := cell_later' HB.out e2
        have r3 := cell_later' HB.out e3
        have r4 := cell_later' HB.out e4
        have r5 := cell_later' HB.out e5
        have r0' := cell_later' HB.out e0'
        have r1' := cell_later' HB.out e1'
        have r2' := cell_later' HB.out e2'
        have r3' := cell_later' HB.out e3'
        have r4' := cell_later' HB.out e4'
        have r5' := cell_later' HB.out e5'
        have hbr : b < wr.heap.size := World.block_lt_of_cell? _ _ r0
        have hbr' : b' < wr.heap.size := World.block_lt_of_cell? _ _ r0'
        have hcall := fun V (hV : Below wr.heap.size wr V) => same1_any x (IH.out _ (get_mem hx)) nm nm' y _ _ F F' V (JR_later hjr (bel_trans HB.out hV)) (JR_later hjr' (bel_trans HB.out hV))
        have hstep := sameM_step HA.out hx hy
        have HC := Lib.hid hcall; have HST := Lib.hid hstep
        clear hx hy hjr hjr' e0 e1 e2 e3 e4 e5 e0' e1' e2' e3' e4' e5' hcall hstep hnz hnz'
        go_wp2_with fail
        refine (HC.out _ ?_).mono ?_
        · exact bel_alloc (bel_alloc (Below.refl _ _) _) _
        cases hsb : (nm.toList == nm'.toList && sameB x y) with
        | false =>
          rintro e w5 ⟨rfl, hb5⟩
          have hR : sameM l l' = false := by rw [HST.out, hsb]; rfl
          have HR := Lib.hid hR
          clear hR hsb
          go_wp2_with fail
          go_ret
          exact ⟨ret_bool (by rw [HR.out]), bel_trans HB.out (bel_trans (bel_alloc (bel_alloc (Below.refl _ _) _) _) hb5)⟩
        | true =>
          rintro e w5 ⟨rfl, hb5⟩
          have hR : sameM l l' = sameM (l.drop (k + 1)) (l'.drop (k + 1)) := by rw [HST.out, hsb]; rfl
          have HR := Lib.hid hR
          clear hR hsb
          go_wp2_with fail
          go_roundg (n - (k + 1))
          case measure => omega
          case rel => exact ⟨k + 1, by omega, by omega, by simp, bel_trans HB.out (bel_trans (bel_alloc (bel_alloc (Below.refl _ _) _) _) hb5), HR.out⟩
      · have hltz : ¬ ((k : Int) < (n : Int)) := by omega
        have HE := Lib.hid (sameM_end HA.out (by have := Hn.out; omega) (by have := Hm.out; omega))
        go_wp2_with fail
        go_ret
        exact ⟨ret_bool (by rw [HE.out]), HB.out⟩
theorem val_size {x q : JV} {k : Nat} (h : x.l[k]? = some q) : SizeOf.sizeOf q < SizeOf.sizeOf x := by
  have hm := List.sizeOf_lt_of_mem (get_mem h)
  obtain ⟨a, b, s, l, m⟩ := x
  simp only [JV.mk.sizeOf_spec, JV.l] at *
  omega
theorem mem_size {x : JV} {q : ByteArray × JV} (h : q ∈ x.m) : SizeOf.sizeOf q.2 < SizeOf.sizeOf x := by
  have hm := List.sizeOf_lt_of_mem h
  obtain ⟨a, b, s, l, m⟩ := x
  obtain ⟨nm, q⟩ := q
  simp only [JV.mk.sizeOf_spec, JV.m, Prod.mk.sizeOf_spec] at *
  omega
theorem val_size' {x q : JV} (h : q ∈ x.l) : SizeOf.sizeOf q < SizeOf.sizeOf x := by
  have hm := List.sizeOf_lt_of_mem h
  obtain ⟨a, b, s, l, m⟩ := x
  simp only [JV.mk.sizeOf_spec, JV.l] at *
  omega
set_option maxRecDepth 100000 in
set_option maxHeartbeats 8000000 in
theorem same_step (x : JV) (ihl : ∀ q ∈ x.l, SameAt q) (ihm : ∀ q ∈ x.m, SameAt q.2) : SameAt x := by
  intro y cs cs' F F' w h h'
  obtain ⟨vl, vm, ⟨rfl, hsz⟩, hl, hm⟩ := JR_iff.1 h
  obtain ⟨vl', vm', ⟨rfl, hsz'⟩, hl', hm'⟩ := JR_iff.1 h'
  have hcl := fun V (hV : Below w.heap.size w V) => eqv_any x.l y.l ihl vl vl' F F' V (hl.below hV) (hl'.below hV)
  have hcm := fun V (hV : Below w.heap.size w V) => eqm_any x.m y.m ihm vm vm' F F' V (hm.below hV) (hm'.below hV)
  obtain ⟨A1, c1, rfl⟩ := hl.form
  obtain ⟨A2, c2, rfl⟩ := hm.form
  obtain ⟨B1, d1, rfl⟩ := hl'.form
  obtain ⟨B2, d2, rfl⟩ := hm'.form
  have HCL := Lib.hid hcl; have HCM := Lib.hid hcm
  have hE := sameB_eq x y
  clear hcl hcm hl hm hl' hm' h h' hsz hsz' ihl ihm
  generalize sameB x y = R at *
  have HE := Lib.hid hE
  clear hE
  have hb2 : ∀ o1 o2, Below w.heap.size w ((w.alloc o1).alloc o2) := fun _ _ => bel_alloc (bel_alloc (Below.refl _ _) _) _
  have HB := Lib.hid hb2
  clear hb2
  cases e1 : (x.k == y.k) with
  | false =>
    have hR : R = false := by rw [HE.out, e1]; rfl
    subst hR
    clear HE HCL HCM
    go_enter Tryz.func19, Tryz.ntmps19
    go_wp2_with fail
    go_ret
    exact ⟨rfl, HB.out _ _⟩
  | true =>
    cases e2 : (x.n == y.n) with
    | false =>
      have hR : R = false := by rw [HE.out, e2]; simp
      subst hR
      clear HE HCL HCM
      go_enter Tryz.func19, Tryz.ntmps19
      go_wp2_with fail
      go_ret
      exact ⟨rfl, HB.out _ _⟩
    | true =>
      cases e3 : (x.s.toList == y.s.toList) with
      | false =>
        have hR : R = false := by rw [HE.out, e3]; simp
        subst hR
        clear HE HCL HCM
        go_enter Tryz.func19, Tryz.ntmps19
        go_wp2_with fail
        go_ret
        exact ⟨rfl, HB.out _ _⟩
      | true =>
        have hR : R = (sameL x.l y.l && sameM x.m y.m) := by rw [HE.out, e1, e2, e3]; simp
        have HR := Lib.hid hR
        clear HE hR
        go_enter Tryz.func19, Tryz.ntmps19
        go_wp2_with fail
        refine (HCL.out _ (HB.out _ _)).mono ?_
        cases hsl : sameL x.l y.l with
        | false =>
          have hR2 : R = false := by rw [HR.out, hsl]; rfl
          subst hR2
          clear HR hsl
          rintro e w5 ⟨rfl, hb5⟩
          go_wp2_with fail
          go_ret
          exact ⟨rfl, bel_trans (HB.out _ _) hb5⟩
        | true =>
          have hR2 : R = sameM x.m y.m := by rw [HR.out, hsl]; rfl
          have HR2 := Lib.hid hR2
          clear HR hsl hR2
          rintro e w5 ⟨rfl, hb5⟩
          have hbw := bel_trans (HB.out _ _) hb5
          have HBW := Lib.hid hbw
          have m4 : ((w.alloc (.cells #[.int .i64 x.k, .int .i64 x.n, .string x.s, .slice A1 x.l.length c1, .slice A2 x.m.length c2] 28)).alloc (.cells #[.int .i64 y.k, .int .i64 y.n, .string y.s, .slice B1 y.l.length d1, .slice B2 y.m.length d2] 28)).cell? ⟨w.heap.size, 4, none⟩ = some (.slice A2 x.m.length c2) := by rw [Lib.cell_of_heap (heap_alloc2_old w _ _)]; rfl
          have m5 : ((w.alloc (.cells #[.int .i64 x.k, .int .i64 x.n, .string x.s, .slice A1 x.l.length c1, .slice A2 x.m.length c2] 28)).alloc (.cells #[.int .i64 y.k, .int .i64 y.n, .string y.s, .slice B1 y.l.length d1, .slice B2 y.m.length d2] 28)).cell? ⟨w.heap.size + 1, 4, none⟩ = some (.slice B2 y.m.length d2) := by rw [Lib.cell_of_heap (heap_alloc2_new w _ _)]; rfl
          have p4 := cell_later' hb5 m4
          have p5 := cell_later' hb5 m5
          clear hbw m4 m5
          go_wp2_with fail
          refine (HCM.out _ HBW.out).mono ?_
          rintro e w6 ⟨rfl, hb6⟩
          go_wp2_with fail
          go_ret
          exact ⟨ret_bool (by rw [HR2.out]), bel_trans HBW.out hb6⟩
theorem same_any (x : JV) : SameAt x := by
  have key : ∀ (n : Nat) (x : JV), SizeOf.sizeOf x < n → SameAt x := fun n => by
    induction n with
    | zero => intro x h; omega
    | succ n ih =>
      intro x h
      exact same_step x (fun q hq => ih q (by have := val_size' hq; omega)) (fun q hq => ih q.2 (by have := mem_size hq; omega))
  exact key _ x (Nat.lt_succ_self _)
end Go.Proofs.YtjjgbgojlhaapaaGreatDoor
