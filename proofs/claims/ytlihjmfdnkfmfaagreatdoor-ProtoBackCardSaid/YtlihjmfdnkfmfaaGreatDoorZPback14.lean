/- Parts of the proof: Vo. -/
import Derived.Test.YtlihjmfdnkfmfaaGreatDoorZPback13
namespace Go.Proofs.YtlihjmfdnkfmfaaGreatDoor
open Go.RowKit Go.Lib

def ORel (R B V : Nat) (s : ByteArray) (pv : St → JV × St) (w : World) (fin : List (ByteArray × JV) × St) (gg : Nat) (wr : World) : Prop := ∃ (f : Nat) (vs acc : List (ByteArray × JV)) (y : St) (va : Value),
  f ≤ gg ∧ (y.e = 0 → y.p ≤ s.size ∧ s.size + 1 - y.p ≤ f ∧ vs = acc ∧ vs.length ≤ y.p ∧ (acc.map (fun m => m.1.toList)).Nodup) ∧ (y.p ≤ s.size + 1 ∧ vs.length ≤ s.size + 1) ∧ RowIn 43 49 memTy V mkM va vs wr ∧
  wr.heap[B]? = some (.cells #[.int .i64 0, .int .i64 0, .string ⟨#[]⟩, .slice none 0 0, .slice none 0 0] 43 (0, 0)) ∧ RdPost 148 R s y.p y.e w wr ∧ objLoop s pv f acc y = fin
theorem sort_eq {vs l : List (ByteArray × JV)} (hp : vs.Perm l) (hs : SortedNm vs) (hn : (l.map (fun m => m.1.toList)).Nodup) : vs = sortNames l :=
  sorted_unique (hp.trans (sortNames_perm l).symm) hs (sortNames_sorted l) ((hp.map _).nodup_iff.2 hn)
theorem RowIn.reset {V : Nat} {va : Value} {vs : List (ByteArray × JV)} {w : World} {T E : TypeId} (h : RowIn T E memTy V mkM va vs w) : RowIn T E memTy V mkM va vs (w.setCell ⟨V, 4, none⟩ va) := by
  obtain ⟨h1, cs, h2, h3⟩ := h
  have hs : (w.setCell ⟨V, 4, none⟩ va).heap.size = w.heap.size := by simp [World.setCell]
  refine ⟨heap_setCell_row h1, cs, World.ownsRow.kept h2 (grown_set (g := V) _) ?_, (h3.frame (w' := w.setCell ⟨V, 4, none⟩ va) (fun b hb => Below.heap_setCell _ _ _ _ (by show b ≠ V; omega))).mono (fun b hb => ⟨hb.1, by rw [hs]; exact hb.2.1, hb.2.2⟩)⟩
  rcases hv : va.ownBlock with _ | j
  · exact .inl rfl
  · right; intro e; have := (h2.lt j hv).1; have := Option.some.inj e; omega

set_option maxRecDepth 100000 in
set_option maxHeartbeats 8000000 in
theorem object_any_json (s : ByteArray) (d : Nat) (pv : St → JV × St) (ih : ValAt s d pv) (hd : d ≤ 100) (hs : s.size ≤ 1000000) (hgood : GoodV s pv)
    (w0 : World) (R : Nat) (x : St) (w : World) (hT : Tabs w0) (h0 : Below w0.heap.size w0 w) (hR0 : w0.heap.size ≤ R) (hx0 : x.e = 0) (hxp : x.p < s.size) (h : RdAt 148 R s x.p x.e w) :
    Calls Tryz.prog 116 #[.pointer (some ⟨R, 0, none⟩), .int .i64 ((d : Int) + 1)] w (VRes R s (objectB s pv x) w) := by
  have hR := h.cells.2.2.2.2.2.2
  have hw1 : IntKind.i64.wrap ((d : Int) + 1 - 1) = (d : Int) := by rw [IntWalk.i64_in _ (by omega)]; omega
  have hw2 : IntKind.i64.wrap (d : Int) = (d : Int) := IntWalk.i64_in _ (by omega)
  have hst := i64_step (p := x.p) (by omega)
  have hAA : Below w.heap.size w ((w.alloc (.cells #[.int .i64 0, .int .i64 0, .string ⟨#[]⟩, .slice none 0 0, .slice none 0 0] 43)).alloc (.cells #[.int .i64 7, .int .i64 0, .string ⟨#[]⟩, .slice none 0 0, .slice none 0 0] 43)) := bel_alloc (bel_alloc (Below.refl _ _) _) _
  have hb0 := heap_alloc2_old w (.cells #[.int .i64 0, .int .i64 0, .string ⟨#[]⟩, .slice none 0 0, .slice none 0 0] 43) (.cells #[.int .i64 7, .int .i64 0, .string ⟨#[]⟩, .slice none 0 0, .slice none 0 0] 43)
  have hv0 := heap_alloc2_new w (.cells #[.int .i64 0, .int .i64 0, .string ⟨#[]⟩, .slice none 0 0, .slice none 0 0] 43) (.cells #[.int .i64 7, .int .i64 0, .string ⟨#[]⟩, .slice none 0 0, .slice none 0 0] 43)
  have hp1 := RdPost.set1 (RdPost.below h.post hAA) (x.p + 1)
  have e1 : ((x.p + 1 : Nat) : Int) = (x.p : Int) + 1 := by simp
  rw [e1] at hp1
  have hrd := (RdPost.below h.post hAA).1.cells
  obtain ⟨l0, l1, l2, _, f1, _, hRw⟩ := hrd
  generalize hW1 : (w.alloc (.cells #[.int .i64 0, .int .i64 0, .string ⟨#[]⟩, .slice none 0 0, .slice none 0 0] 43)).alloc (.cells #[.int .i64 7, .int .i64 0, .string ⟨#[]⟩, .slice none 0 0, .slice none 0 0] 43) = W1 at *
  have hb1 : (W1.setCell ⟨R, 1, none⟩ (.int .i64 ((x.p : Int) + 1))).heap[w.heap.size]? = _ := (Below.heap_setCell _ _ _ _ (by show w.heap.size ≠ R; omega)).trans hb0
  have hv1 : (W1.setCell ⟨R, 1, none⟩ (.int .i64 ((x.p : Int) + 1))).heap[w.heap.size + 1]? = _ := (Below.heap_setCell _ _ _ _ (by show w.heap.size + 1 ≠ R; omega)).trans hv0
  have hsee := see_any R s x.step _ hs hp1.1
  have HP1 := Lib.hid hp1; have HB1 := Lib.hid hb1; have HV1 := Lib.hid hv1; have HSEE := Lib.hid hsee; have HW1 := Lib.hid hW1
  have HT := Lib.hid hT; have H0 := Lib.hid h0; have HIH := Lib.hid ih; have HGD := Lib.hid hgood
  have hE : objectB s pv x = if (x.step.see s).1 = 125 then (objV [], (x.step.see s).2.step) else (objV (sortNames (objLoop s pv (s.size + 1 - (x.step.see s).2.p) [] (x.step.see s).2).1), (objLoop s pv (s.size + 1 - (x.step.see s).2.p) [] (x.step.see s).2).2) := rfl
  have hbd := see_bd (s := s) (x := x.step) (by simp only [St.step]; omega)
  have hat := see_at (s := s) (x := x.step)
  have hser := see_err (s := s) (x := x.step) (by simp only [St.step]; exact hx0)
  clear hp1 hb1 hv1 hsee hT h0 ih hgood hAA hb0 hv0 h hW1
  generalize objectB s pv x = res at *
  generalize x.step.see s = r at *
  obtain ⟨ch, y⟩ := r
  simp only at *
  have HE := Lib.hid hE; have HAT := Lib.hid hat; have HSER := Lib.hid hser
  clear hE hat hser
  go_enter Tryz.func116, Tryz.ntmps116
  go_upto_region 2 with (fail)
  rw [HW1.out]
  go_wp2_with fail
  refine Calls.mono HSEE.out ?_
  rintro e w2 ⟨rfl, hp2⟩
  have hbk2 := hp2.keep (B := w.heap.size) HB1.out (by omega)
  have hvl2 := hp2.keep (B := w.heap.size + 1) HV1.out (by omega)
  have hpp2 := HP1.out.trans hp2
  obtain ⟨l0, l1, l2, _, f1, _, hRw⟩ := hpp2.1.cells
  have HB2 := Lib.hid hbk2; have HV2 := Lib.hid hvl2; have HP2 := Lib.hid hpp2
  clear hp2 hbk2 hvl2 hpp2 HSEE HP1 HB1 HV1 HW1
  by_cases h93 : ch = 125
  · subst h93
    have hres : res = (objV [], y.step) := by rw [HE.out, if_pos rfl]
    subst hres
    clear HE
    have hy := HAT.out (by decide)
    have hsty := i64_step (p := y.p) (by omega)
    have d93 : (((125 : UInt8).toNat : Int) == 125) = true := rfl
    have hpA := RdPost.set1 HP2.out (y.p + 1)
    have e2 : ((y.p + 1 : Nat) : Int) = (y.p : Int) + 1 := by simp
    rw [e2] at hpA
    have hbA : (w2.setCell ⟨R, 1, none⟩ (.int .i64 ((y.p : Int) + 1))).heap[w.heap.size]? = _ := (Below.heap_setCell _ _ _ _ (by show w.heap.size ≠ R; omega)).trans HB2.out
    have hvA : (w2.setCell ⟨R, 1, none⟩ (.int .i64 ((y.p : Int) + 1))).heap[w.heap.size + 1]? = _ := (Below.heap_setCell _ _ _ _ (by show w.heap.size + 1 ≠ R; omega)).trans HV2.out
    have HPA := Lib.hid hpA; have HBA := Lib.hid hbA; have HVA := Lib.hid hvA
    clear hpA hbA hvA e2
    go_upto_region 5 with (fail)
    generalize w2.setCell ⟨R, 1, none⟩ (.int .i64 ((y.p : Int) + 1)) = WA at *
    have hrow : RowIn 43 49 memTy (w.heap.size + 1) mkM (.slice none 0 0) ([] : List (ByteArray × JV)) WA := RowIn.nil HVA.out
    have HROW := Lib.hid hrow
    clear hrow l0 l1 l2 f1
    obtain ⟨⟨b0, b1, b2, b3, b4⟩, ⟨g0, g1, g2, g3, g4⟩, hBw⟩ := cells5 HBA.out
    obtain ⟨⟨v0, v1, v2, v3, v4⟩, _, hVw⟩ := cells5 (show WA.heap[w.heap.size + 1]? = some (.cells #[.int .i64 7, .int .i64 0, .string ⟨#[]⟩, .slice none 0 0, .slice none 0 0] 43 (0, 0)) from HROW.out.1)
    have hf := set5 (.int .i64 7) (.int .i64 0) (.string ⟨#[]⟩) (.slice none 0 0) (.slice none 0 0) HBA.out
    have hr5 := RdPost.set5 HPA.out (B := w.heap.size) (Nat.le_refl _) hR (.int .i64 7) (.int .i64 0) (.string ⟨#[]⟩) (.slice none 0 0) (.slice none 0 0)
    have hjj := row_jrM HROW.out (N := w.heap.size) (w' := (((((WA.setCell ⟨w.heap.size, 0, none⟩ (.int .i64 7)).setCell ⟨w.heap.size, 1, none⟩ (.int .i64 0)).setCell ⟨w.heap.size, 2, none⟩ (.string ⟨#[]⟩)).setCell ⟨w.heap.size, 3, none⟩ (.slice none 0 0)).setCell ⟨w.heap.size, 4, none⟩ (.slice none 0 0))) (by omega) (fun b hb => set5_other _ _ _ _ _ (by omega))
    have HF5 := Lib.hid hf; have HR5 := Lib.hid hr5; have HJJ := Lib.hid hjj
    clear hf hr5 hjj
    go_wp2_with fail
    exact bodyPost_ret (results_cell_row rfl _ _ w.heap.size 43 #[.int .i64 7, .int .i64 0, .string ⟨#[]⟩, .slice none 0 0, .slice none 0 0] (0, 0) _ rfl HF5.out Tryz.underlying43 rfl (by kernel_rfl)) rfl ⟨objV _, none, 0, 0, _, _, _, rfl, HJJ.out, fun _ => rfl, HR5.out⟩
  · have d93 : ((ch.toNat : Int) == 125) = false := by
      have : ch.toNat ≠ 125 := fun h => h93 (UInt8.toNat_inj.1 h)
      simp; omega
    have hres : res = (objV (sortNames (objLoop s pv (s.size + 1 - y.p) [] y).1), (objLoop s pv (s.size + 1 - y.p) [] y).2) := by rw [HE.out, if_neg h93]
    generalize hfin : objLoop s pv (s.size + 1 - y.p) [] y = fin at *
    have hl : ORel R w.heap.size (w.heap.size + 1) s pv w fin (s.size + 1 - y.p) w2 :=
      ⟨s.size + 1 - y.p, [], [], y, .slice none 0 0, Nat.le_refl _, fun _ => ⟨hbd.2, Nat.le_refl _, rfl, Nat.zero_le _, List.nodup_nil⟩, ⟨by omega, Nat.zero_le _⟩, RowIn.nil HV2.out, HB2.out, HP2.out, hfin⟩
    have HL := Lib.hid hl
    clear HE
    subst hres
    clear hl hfin HSER HAT h93 hst hbd
    obtain ⟨i0, hi, hz0, hz1, hz2⟩ := info_parts memInfo
    go_wp2_with fail
    go_loopg [] (s.size + 1 - y.p) (fun gg wr => Aside (ORel R w.heap.size (w.heap.size + 1) s pv w fin gg wr))
    case atStart => exact HL.out
    case round =>
      clear l0 l1 l2 f1 hRw HL HP2 HB2 HV2
      obtain ⟨f, vs, acc, q, va, hfg, hq0, ⟨hqp, hvb⟩, hrow, hbk, hrd, hfin⟩ := hrel
      obtain ⟨A, c, rfl⟩ := hrow.form
      have hRV : R < w.heap.size + 1 := by omega
      obtain ⟨l0, l1, l2, _, f1, _, hRw⟩ := hrd.1.cells
      have HROW := Lib.hid hrow; have HB := Lib.hid hbk; have HP := Lib.hid hrd; have HF := Lib.hid hfin
      clear hrow hbk hrd hfin
      by_cases he : q.e = 0
      · have d0 : (q.e == 0) = true := by simpa using he
        obtain ⟨hqs, hqf, rfl, hvl, hnd⟩ := hq0 he
        obtain ⟨g, rfl⟩ : ∃ g, f = g + 1 := ⟨f - 1, by omega⟩
        obtain ⟨⟨v0, v1, v2, v3, v4⟩, _, hVw⟩ := cells5 (show wr.heap[w.heap.size + 1]? = some (.cells #[.int .i64 7, .int .i64 0, .string ⟨#[]⟩, .slice none 0 0, .slice A vs.length c] 43 (0, 0)) from HROW.out.1)
        have hiv := member_json s d pv HIH.out hd hs w0 R q wr.drew (fun b => w.heap.size + 1 < b) (.slice A vs.length c) vs (fun b hb => by omega) (show RowIn 43 49 memTy (w.heap.size + 1) mkM (.slice A vs.length c) vs wr.drew from HROW.out.kept ⟨rfl, rfl, rfl, Nat.le_refl _, fun _ _ _ => rfl⟩ hRV).sl (by omega) HT.out (by have := H0.out.grown HP.out.2 H0.out.size (fun j hj => by have := Option.some.inj hj; omega); exact this.drew) hR0 hqs HP.out.1
        have hgd := member_good HGD.out vs hqs
        have hnew := fun h => member_new (s := s) (pv := pv) (l := vs) (x := q) h hnd
        have heq : objLoop s pv (g + 1) vs q = (if q.e ≠ 0 then (vs, q) else if (memberB s pv vs q).2.e ≠ 0 then (vs ++ [(memberB s pv vs q).1], (memberB s pv vs q).2) else if ((memberB s pv vs q).2.see s).1 = 125 then (vs ++ [(memberB s pv vs q).1], ((memberB s pv vs q).2.see s).2.step) else if ((memberB s pv vs q).2.see s).2.e ≠ 0 then (vs ++ [(memberB s pv vs q).1], ((memberB s pv vs q).2.see s).2) else objLoop s pv g (vs ++ [(memberB s pv vs q).1]) (((memberB s pv vs q).2.see s).2.wants s 44)) := rfl
        rw [if_neg (by simpa using he)] at heq
        have hfe : fin = _ := HF.out.symm.trans heq
        have HIV := Lib.hid hiv; have HFE := Lib.hid hfe
        have HROWD := Lib.hid (show RowIn 43 49 memTy (w.heap.size + 1) mkM (.slice A vs.length c) vs wr.drew from HROW.out.kept ⟨rfl, rfl, rfl, Nat.le_refl _, fun _ _ _ => rfl⟩ hRV)
        have HVD := Lib.hid (show wr.drew.heap[w.heap.size + 1]? = some (.cells (mkM (.slice A vs.length c)) 43 (0, 0)) from HROW.out.1)
        have HBD := Lib.hid (show wr.drew.heap[w.heap.size]? = some (.cells #[.int .i64 0, .int .i64 0, .string ⟨#[]⟩, .slice none 0 0, .slice none 0 0] 43 (0, 0)) from HB.out)
        have HPD := Lib.hid (show RdPost 148 R s q.p q.e w wr from HP.out)
        clear hiv heq hfe hq0 HF he hnd
        generalize memberB s pv vs q = pq at *
        obtain ⟨v', z⟩ := pq
        simp only at HIV hgd hnew
        go_wp2_with fail
        refine PrintLast.wp_region_last_drew (S := fun w' => w'.cell? ⟨w.heap.size + 1, 4, none⟩ = some (.slice A vs.length c)) (ds := [8, 10]) (by kernel_rfl) ?_ (fun hHeld => ?_)
        · exact v4
        refine PrintLast.tk 0 (v := ?_) rfl (by assumption) ?_ ?_
        rotate_left
        · (intro w hSw; (try dsimp only at hSw); go_simp; try (with_reducible rfl))
        try simp only [lay]
        refine PrintLast.tk 1 (v := ?_) rfl (by assumption) ?_ ?_
        rotate_left
        · (intro w hSw; (try dsimp only at hSw); go_simp; try (with_reducible rfl))
        try simp only [lay]
        refine PrintLast.tk 2 (v := ?_) rfl (by assumption) ?_ ?_
        rotate_left
        · (intro w hSw; (try dsimp only at hSw); go_simp; try (with_reducible rfl))
        try simp only [lay]
        refine PrintLast.tk 3 (v := ?_) rfl (by assumption) ?_ ?_
        rotate_left
        · (intro w hSw; (try dsimp only at hSw); go_simp; try (with_reducible rfl))
        try simp only [lay]
        refine PrintLast.tk 4 (v := ?_) rfl (by assumption) ?_ ?_
        rotate_left
        · (intro w hSw; (try dsimp only at hSw); go_simp; try (with_reducible rfl))
        try simp only [lay]
        refine PrintLast.tk 5 (v := ?_) rfl (by assumption) ?_ ?_
        rotate_left
        · (intro w hSw; (try dsimp only at hSw); go_simp; try (with_reducible rfl))
        try simp only [lay]
        have HK := Lib.hid hHeld
        clear hHeld
        refine PrintLast.wpAnyLast_ready (rs := [6]) (by kernel_rfl) (by simp) ?_
        refine PrintLast.AllReadyL.cons rfl (by decide) (fun K hK => ?_) PrintLast.AllReadyL.nil
        rw [if_pos (by kernel_rfl)]
        go_simp
        go_at_call 156; refine (HIV.out).mono ?_; rintro e w5 ⟨v, A1, n1, c1, A2, n2, c2, rfl, hjr, hnsz, heq, hp5⟩
        have HJ := Lib.hid hjr; have HEQ := Lib.hid heq; have HP5 := Lib.hid hp5; have HNSZ := Lib.hid hnsz
        clear hjr heq hp5 hnsz
        go_wp2_with fail
        refine hK.out _ _ ?_ (fun hHeld => ?_)
        · rw [Lib.cell_of_heap (HP5.out.keep HVD.out (by omega))]; rfl
        clear hK K
        try simp only [lay]
        clear HK
        have HK := Lib.hid hHeld
        clear hHeld
        refine PrintLast.wpAnyLast_ready (rs := [7]) (by kernel_rfl) (by simp) ?_
        refine PrintLast.AllReadyL.cons rfl (by decide) (fun K hK => ?_) PrintLast.AllReadyL.nil
        rw [if_pos (by kernel_rfl)]
        go_simp
        try simp only [List.foldl_cons, List.foldl_nil, List.setIfInBounds_toArray, List.set_cons_zero, List.set_cons_succ, Nat.reduceAdd]
        refine hK.out _ _ ?_ (fun hHeld => ?_)
        · exact cell_later' (bel_alloc (Below.refl _ _) _) HK.out
        clear hK K
        try simp only [lay]
        clear HK
        refine PrintLast.wpAnyLast_ready (rs := [8]) (by kernel_rfl) (by simp) ?_
        refine PrintLast.AllReadyL.cons_last rfl (by decide) (fun K hK => ?_) PrintLast.AllReadyL.nil
        have hrow5 := HROWD.out.kept HP5.out.2 hRV
        obtain ⟨hv5, cs, hown5, hch5⟩ := hrow5
        have hsz5 : (w5.alloc (.cells #[.string v.1, .int .i64 v.2.k, .int .i64 v.2.n, .string v.2.s, .slice A1 n1 c1, .slice A2 n2 c2] 49)).heap.size = w5.heap.size + 1 := by show (w5.heap.push _).size = _; simp
        have hal := bel_alloc (Below.refl w5.heap.size w5) (.cells #[.string v.1, .int .i64 v.2.k, .int .i64 v.2.n, .string v.2.s, .slice A1 n1 c1, .slice A2 n2 c2] 49)
        have hownU := own_laterB hown5 hal
        have hnews : ∀ j u, [.string v.1, .int .i64 v.2.k, .int .i64 v.2.n, .string v.2.s, .slice A1 n1 c1, .slice A2 n2 c2][j]? = some u → (w5.alloc (.cells #[.string v.1, .int .i64 v.2.k, .int .i64 v.2.n, .string v.2.s, .slice A1 n1 c1, .slice A2 n2 c2] 49)).cell? ((⟨w5.heap.size, 0, none⟩ : Addr).add j) = some u := fun j u hj => by rw [Addr.add_lit, Nat.zero_add]; exact cell_newB _ _ _ _ _ (by simpa using hj)
        have HV5 := Lib.hid hv5; have HO5 := Lib.hid hown5; have HC5 := Lib.hid hch5; have HOU := Lib.hid hownU; have HNW := Lib.hid hnews
        clear hv5 hown5 hch5 hal hownU hnews
        have hM : vs.length + 1 ≤ maxLen := by simp only [maxLen]; omega
        have hby : (vs.length + 1) * 96 ≤ 140737488355328 := by omega
        have hbs : w.heap.size + 1 + 1 ≤ (w5.alloc (.cells #[.string v.1, .int .i64 v.2.k, .int .i64 v.2.n, .string v.2.s, .slice A1 n1 c1, .slice A2 n2 c2] 49)).heap.size := by have := HP5.out.2.size; have e : wr.drew.heap.size = wr.heap.size := rfl; omega
        refine step_append_own rfl _ _ 41 rfl (w.heap.size + 1 + 1) 49 i0 _ 6 96 Tryz.underlying41 hi hz0 hz1 hz2 rfl (by decide) _ vs.length cs rfl HOU.out ⟨w5.heap.size, 0, none⟩ 1 1 _ rfl rfl HNW.out (by intro u hu; simp at hu; rcases hu with rfl | rfl | rfl | rfl | rfl | rfl <;> rfl) hM hby hbs ?_
        intro v' W ho hg hx
        refine hK.out _ _ ?_
        clear hK K
        try simp only [lay]
        obtain ⟨A7, c7, rfl⟩ := own_sliceB ho
        have hpush := RowIn.push (T := 43) (E := 49) (Y := memTy) (mk := mkM) (i := 4) (va' := .slice A7 (vs.length + 1) c7) rfl HV5.out HO5.out HC5.out (x := v) (N := wr.heap.size) ⟨_, ⟨rfl, HNSZ.out⟩, HJ.out⟩ (by omega) (fun j hj => by obtain ⟨_, cs', ho', _⟩ := HROWD.out; exact (ho'.lt j hj).2) hg hx ho
        have hlt5 : w.heap.size + 1 < w5.heap.size := (Array.getElem?_eq_some_iff.1 HV5.out).1
        have hobj : ∀ k, (Value.slice A vs.length c).ownBlock = some k → w.heap.size + 1 < k := fun k hk => by have := (HO5.out.lt k hk).1; omega
        have hVW : W.heap[w.heap.size + 1]? = some (.cells (mkM (.slice A vs.length c)) 43 (0, 0)) :=
          (hg.block _ (by omega) (fun e => by have := hobj _ e.symm; omega)).trans (((bel_alloc (Below.refl w5.heap.size w5) _).block _ hlt5).trans HV5.out)
        have w3m : W.cell? ⟨w.heap.size + 1, 4, none⟩ = some (.slice A vs.length c) := by rw [Lib.cell_of_heap hVW]; rfl
        have f3m : W.frozen? ⟨w.heap.size + 1, 4, none⟩ = false := by simp [World.frozen?, hVW]
        have hpF := RdPost.setB (i := 4) (B := w.heap.size + 1) (RdPost.far (RdPost.below (RdPost.trans (RdPost.drew HPD.out) HP5.out) (bel_alloc (Below.refl w5.heap.size w5) (.cells #[.string v.1, .int .i64 v.2.k, .int .i64 v.2.n, .string v.2.s, .slice A1 n1 c1, .slice A2 n2 c2] 49))) hg (fun k hk => by have := hobj k hk; omega) hR) (by omega) hR (.slice A7 (vs.length + 1) c7)
        have hbF : (W.setCell ⟨w.heap.size + 1, 4, none⟩ (.slice A7 (vs.length + 1) c7)).heap[w.heap.size]? = _ :=
          (Below.heap_setCell _ _ _ _ (by show w.heap.size ≠ w.heap.size + 1; omega)).trans ((hg.block _ (by omega) (fun e => by have := hobj _ e.symm; omega)).trans (((bel_alloc (Below.refl w5.heap.size w5) _).block _ (by omega)).trans (HP5.out.keep HBD.out (by omega))))
        have HPF := Lib.hid hpF; have HBF := Lib.hid hbF; have HRF := Lib.hid hpush
        clear hpF hbF hpush hg hx ho hVW hlt5 hobj
        refine PrintLast.wpAnyLast_any (i := 9) (v := ?_) rfl (Region.noSelect_spec (by kernel_rfl)) (fun _ _ _ h => h) _ _ _ _ (Region.free_spec rfl (by kernel_rfl)) (List.contains_iff_mem.1 (by kernel_rfl)) (Or.inl ⟨by kernel_rfl, ?_⟩) ?_
        rotate_left
        · (intro w; go_simp; try (with_reducible rfl))
        try simp only [lay]
        refine PrintLast.wpAnyLast_ready (rs := [10]) (by kernel_rfl) (by simp) ?_
        refine PrintLast.AllReadyL.cons_last rfl (by decide) (fun K hK => ?_) PrintLast.AllReadyL.nil
        rw [if_pos (by kernel_rfl)]
        go_simp
        refine hK.out _ _ ?_
        clear hK K
        try simp only [lay]
        refine PrintLast.wpAnyLast_done (by kernel_rfl) ?_ _
        generalize W.setCell ⟨w.heap.size + 1, 4, none⟩ (.slice A7 (vs.length + 1) c7) = WF at *
        obtain ⟨l0, l1, l2, _, f1, _, hRw5⟩ := HPF.out.1.cells
        have hfe := HFE.out
        try simp only at hfe
        by_cases hz : z.e = 0
        · have dz : (z.e == 0) = true := by simpa using hz
          have hv : v = v' := HEQ.out hz
          have HNEW := Lib.hid (hnew hz)
          obtain ⟨hzq, hzs⟩ := hgd.1 hz
          rw [if_neg (by simpa using hz)] at hfe
          have hsee := see_any R s z WF hs HPF.out.1
          have hsb := see_bd hzs
          have hsat := see_at (s := s) (x := z)
          generalize z.see s = r3 at *
          obtain ⟨c3, y3⟩ := r3
          simp only at hsb hfe hsat
          have HSEE3 := Lib.hid hsee; have HFE3 := Lib.hid hfe; have HVV := Lib.hid hv; have HSAT := Lib.hid hsat
          clear hsee hfe hv hz HFE hsat
          go_wp2_with fail
          refine Calls.mono HSEE3.out ?_
          rintro e w6 ⟨rfl, hp6⟩
          have hb6 := hp6.keep (B := w.heap.size) HBF.out (by omega)
          have hr6 := HRF.out.kept hp6.2 hRV
          have hpp6 := HPF.out.trans hp6
          try simp only at hpp6
          obtain ⟨l0, l1, l2, _, f1, _, hRw6⟩ := hpp6.1.cells
          have HB6 := Lib.hid hb6; have HR6 := Lib.hid hr6; have HP6 := Lib.hid hpp6
          clear hp6 hb6 hr6 hpp6
          by_cases h93b : c3 = 125
          · subst h93b
            have hfe := HFE3.out
            rw [if_pos rfl] at hfe
            subst hfe
            have hy3 := HSAT.out (by decide)
            have d93b : (((125 : UInt8).toNat : Int) == 125) = true := rfl
            have hsty := i64_step (p := y3.p) (by omega)
            have hpA := RdPost.set1 HP6.out (y3.p + 1)
            have e2 : ((y3.p + 1 : Nat) : Int) = (y3.p : Int) + 1 := by simp
            rw [e2] at hpA
            have hbA : (w6.setCell ⟨R, 1, none⟩ (.int .i64 ((y3.p : Int) + 1))).heap[w.heap.size]? = _ := (Below.heap_setCell _ _ _ _ (by show w.heap.size ≠ R; omega)).trans HB6.out
            have hrA := HR6.out.kept (grown_set (w := w6) (g := R) (i := 1) (.int .i64 ((y3.p : Int) + 1))) hRV
            have HPA := Lib.hid hpA; have HBA := Lib.hid hbA; have HRA := Lib.hid hrA
            clear hpA hbA hrA e2
            go_upto_region 12 with (fail)
            generalize w6.setCell ⟨R, 1, none⟩ (.int .i64 ((y3.p : Int) + 1)) = WA at *
            clear l0 l1 l2 f1
            obtain ⟨hv1, cs1, ho1, hc1⟩ := HRA.out
            obtain ⟨ms, rfl, hall⟩ := chunks_mc hc1
            have hml := hall.len
            have hso := sorted_any (w.heap.size + 1 + 1) (.slice A7 (vs.length + 1) c7) ms WA (by rw [hml]; exact ho1) (by rw [hml]; (try simp only [List.length_append, List.length_singleton]); omega)
            obtain ⟨⟨v0, v1, v2, v3, v4⟩, _, hVw1⟩ := cells5 (show WA.heap[w.heap.size + 1]? = some (.cells #[.int .i64 7, .int .i64 0, .string ⟨#[]⟩, .slice none 0 0, .slice A7 (vs.length + 1) c7] 43 (0, 0)) from hv1)
            have HSO := Lib.hid hso; have HALL := Lib.hid hall; have HV1 := Lib.hid hv1; have HO1 := Lib.hid ho1
            clear hso hall hv1 ho1 hc1 hml
            go_wp2_with fail
            refine Calls.mono HSO.out ?_
            rintro e w9 ⟨rfl, ms', hpm, hsm, ho9, hg9⟩
            obtain ⟨vs', hpv, hsv, hrow9⟩ := RowIn.sorted HV1.out HO1.out HALL.out hpm hsm ho9 hg9
            have hob9 : ∀ k, (.slice A7 (vs.length + 1) c7 : Value).ownBlock = some k → w.heap.size + 1 < k := fun k hk => by have := (HO1.out.lt k hk).1; omega
            have hb9 := (hg9.block w.heap.size (Array.getElem?_eq_some_iff.1 HBA.out).1 (fun e => by have := hob9 _ e.symm; omega)).trans HBA.out
            have hp9 := RdPost.setB (i := 4) (B := w.heap.size + 1) (RdPost.far HPA.out hg9 (fun k hk => by have := hob9 k hk; omega) hR) (by omega) hR (.slice A7 (vs.length + 1) c7)
            have hbF9 : (w9.setCell ⟨w.heap.size + 1, 4, none⟩ (.slice A7 (vs.length + 1) c7)).heap[w.heap.size]? = _ := (Below.heap_setCell _ _ _ _ (by show w.heap.size ≠ w.heap.size + 1; omega)).trans hb9
            obtain ⟨⟨_, _, _, _, v4'⟩, ⟨_, _, _, _, f4'⟩, hVw9⟩ := cells5 (show w9.heap[w.heap.size + 1]? = some (.cells #[.int .i64 7, .int .i64 0, .string ⟨#[]⟩, .slice none 0 0, .slice A7 (vs.length + 1) c7] 43 (0, 0)) from hrow9.1)
            have hrF9 := RowIn.reset hrow9
            have HPF9 := Lib.hid hp9; have HBF9 := Lib.hid hbF9; have HRF9 := Lib.hid hrF9; have HPV := Lib.hid hpv; have HSV := Lib.hid hsv
            clear hpm hsm ho9 hg9 hpv hsv hrow9 hb9 hp9 hbF9 hrF9 hob9 v0 v1 v2 v3 v4
            go_upto_region 13 with (fail)
            generalize w9.setCell ⟨w.heap.size + 1, 4, none⟩ (.slice A7 (vs.length + 1) c7) = WB at *
            clear v4' f4'
            obtain ⟨⟨b0, b1, b2, b3, b4⟩, ⟨g0, g1, g2, g3, g4⟩, hBw⟩ := cells5 HBF9.out
            obtain ⟨⟨v0, v1, v2, v3, v4⟩, _, hVw⟩ := cells5 (show WB.heap[w.heap.size + 1]? = some (.cells #[.int .i64 7, .int .i64 0, .string ⟨#[]⟩, .slice none 0 0, .slice A7 (vs.length + 1) c7] 43 (0, 0)) from HRF9.out.1)
            have hf := set5 (.int .i64 7) (.int .i64 0) (.string ⟨#[]⟩) (.slice none 0 0) (.slice A7 (vs.length + 1) c7) HBF9.out
            have hr5 := RdPost.set5 HPF9.out (B := w.heap.size) (Nat.le_refl _) hR (.int .i64 7) (.int .i64 0) (.string ⟨#[]⟩) (.slice none 0 0) (.slice A7 (vs.length + 1) c7)
            have hjj := row_jrM HRF9.out (N := w.heap.size) (w' := (((((WB.setCell ⟨w.heap.size, 0, none⟩ (.int .i64 7)).setCell ⟨w.heap.size, 1, none⟩ (.int .i64 0)).setCell ⟨w.heap.size, 2, none⟩ (.string ⟨#[]⟩)).setCell ⟨w.heap.size, 3, none⟩ (.slice none 0 0)).setCell ⟨w.heap.size, 4, none⟩ (.slice A7 (vs.length + 1) c7))) (by omega) (fun b hb => set5_other _ _ _ _ _ (by omega))
            have HF5 := Lib.hid hf; have HR5 := Lib.hid hr5; have HJJ := Lib.hid hjj
            clear hf hr5 hjj
            go_wp2_with fail
            exact bodyPost_ret (results_cell_row rfl _ _ w.heap.size 43 #[.int .i64 7, .int .i64 0, .string ⟨#[]⟩, .slice none 0 0, .slice A7 (vs.length + 1) c7] (0, 0) _ rfl HF5.out Tryz.underlying43 rfl (by kernel_rfl)) rfl ⟨objV _, none, 0, 0, _, _, _, rfl, HJJ.out, fun _ => by rw [sort_eq HPV.out HSV.out (by rw [HVV.out]; exact HNEW.out), HVV.out], HR5.out⟩
          · have d93b : ((c3.toNat : Int) == 125) = false := by
              have : c3.toNat ≠ 125 := fun h => h93b (UInt8.toNat_inj.1 h)
              simp; omega
            have hfe := HFE3.out
            rw [if_neg h93b] at hfe
            by_cases hy3 : y3.e = 0
            · have dy : (y3.e == 0) = true := by simpa using hy3
              rw [if_neg (by simpa using hy3)] at hfe
              have hwa := wants_any R s y3 44 w6 hs (by omega) HP6.out.1
              rw [show ((44 : UInt8).toNat : Int) = 44 from rfl] at hwa
              have hwg := wants_good (s := s) (x := y3) (c := 44) (by decide) hsb.2
              generalize y3.wants s 44 = y4 at *
              have HWA := Lib.hid hwa; have HFE4 := Lib.hid hfe
              clear hwa hfe hy3 HFE3
              go_wp2_with fail
              refine Calls.mono HWA.out ?_
              rintro e w7 ⟨rfl, hp7⟩
              have hl7 : ORel R w.heap.size (w.heap.size + 1) s pv w fin g w7 := ⟨g, vs ++ [v], vs ++ [v'], y4, _, Nat.le_refl _, fun h => ⟨(hwg.1.1 h).2, by have := hwg.2 h; omega, by rw [HVV.out], by have := hwg.2 h; rw [List.length_append]; simp; omega, HNEW.out⟩, ⟨hwg.1.2, by rw [List.length_append]; simp; omega⟩, HR6.out.kept hp7.2 hRV, hp7.keep HB6.out (by omega), HP6.out.trans hp7, HFE4.out.symm⟩
              have HL7 := Lib.hid hl7
              clear hl7 hp7
              go_wp2_with fail
              go_roundg g
              case measure => omega
              case rel => exact HL7.out
            · have dy : (y3.e == 0) = false := by simpa using hy3
              rw [if_pos hy3] at hfe
              have hl7 : ORel R w.heap.size (w.heap.size + 1) s pv w fin g w6 := ⟨g, vs ++ [v], vs ++ [v'], y3, _, Nat.le_refl _, fun h => absurd h hy3, ⟨by omega, by rw [List.length_append]; simp; omega⟩, HR6.out, HB6.out, HP6.out, by rw [hfe]; exact objLoop_err hy3⟩
              have HL7 := Lib.hid hl7
              clear hl7 hfe HFE3 hy3
              go_wp2_with fail
              go_roundg g
              case measure => omega
              case rel => exact HL7.out
        · have dz : (z.e == 0) = false := by simpa using hz
          rw [if_pos hz] at hfe
          have hl7 : ORel R w.heap.size (w.heap.size + 1) s pv w fin g WF := ⟨g, vs ++ [v], vs ++ [v'], z, _, Nat.le_refl _, fun h => absurd h hz, ⟨hgd.2, by rw [List.length_append]; simp; omega⟩, HRF.out, HBF.out, HPF.out, by rw [hfe]; exact objLoop_err hz⟩
          have HL7 := Lib.hid hl7
          clear hl7 hfe HFE hz
          go_wp2_with fail
          go_roundg g
          case measure => omega
          case rel => exact HL7.out
      · have d0 : (q.e == 0) = false := by simpa using he
        have hfe : fin = (acc, q) := HF.out.symm.trans (objLoop_err he)
        subst hfe
        clear hq0 HF
        obtain ⟨hv1, cs1, ho1, hc1⟩ := HROW.out
        obtain ⟨ms, rfl, hall⟩ := chunks_mc hc1
        have hml := hall.len
        have hso := sorted_any (w.heap.size + 1 + 1) (.slice A vs.length c) ms wr (by rw [hml]; exact ho1) (by rw [hml]; (try simp only [List.length_append, List.length_singleton]); omega)
        obtain ⟨⟨v0, v1, v2, v3, v4⟩, _, hVw1⟩ := cells5 (show wr.heap[w.heap.size + 1]? = some (.cells #[.int .i64 7, .int .i64 0, .string ⟨#[]⟩, .slice none 0 0, .slice A vs.length c] 43 (0, 0)) from hv1)
        have HSO := Lib.hid hso; have HALL := Lib.hid hall; have HV1 := Lib.hid hv1; have HO1 := Lib.hid ho1
        clear hso hall hv1 ho1 hc1 hml
        go_wp2_with fail
        refine Calls.mono HSO.out ?_
        rintro e w9 ⟨rfl, ms', hpm, hsm, ho9, hg9⟩
        obtain ⟨vs', hpv, hsv, hrow9⟩ := RowIn.sorted HV1.out HO1.out HALL.out hpm hsm ho9 hg9
        have hob9 : ∀ k, (.slice A vs.length c : Value).ownBlock = some k → w.heap.size + 1 < k := fun k hk => by have := (HO1.out.lt k hk).1; omega
        have hb9 := (hg9.block w.heap.size (Array.getElem?_eq_some_iff.1 HB.out).1 (fun e => by have := hob9 _ e.symm; omega)).trans HB.out
        have hp9 := RdPost.setB (i := 4) (B := w.heap.size + 1) (RdPost.far HP.out hg9 (fun k hk => by have := hob9 k hk; omega) hR) (by omega) hR (.slice A vs.length c)
        have hbF9 : (w9.setCell ⟨w.heap.size + 1, 4, none⟩ (.slice A vs.length c)).heap[w.heap.size]? = _ := (Below.heap_setCell _ _ _ _ (by show w.heap.size ≠ w.heap.size + 1; omega)).trans hb9
        obtain ⟨⟨_, _, _, _, v4'⟩, ⟨_, _, _, _, f4'⟩, hVw9⟩ := cells5 (show w9.heap[w.heap.size + 1]? = some (.cells #[.int .i64 7, .int .i64 0, .string ⟨#[]⟩, .slice none 0 0, .slice A vs.length c] 43 (0, 0)) from hrow9.1)
        have hrF9 := RowIn.reset hrow9
        have HPF9 := Lib.hid hp9; have HBF9 := Lib.hid hbF9; have HRF9 := Lib.hid hrF9; have HPV := Lib.hid hpv; have HSV := Lib.hid hsv
        clear hpm hsm ho9 hg9 hpv hsv hrow9 hb9 hp9 hbF9 hrF9 hob9 v0 v1 v2 v3 v4
        go_upto_region 13 with (fail)
        generalize w9.setCell ⟨w.heap.size + 1, 4, none⟩ (.slice A vs.length c) = WB at *
        clear v4' f4'
        obtain ⟨⟨b0, b1, b2, b3, b4⟩, ⟨g0, g1, g2, g3, g4⟩, hBw⟩ := cells5 HBF9.out
        obtain ⟨⟨v0, v1, v2, v3, v4⟩, _, hVw⟩ := cells5 (show WB.heap[w.heap.size + 1]? = some (.cells #[.int .i64 7, .int .i64 0, .string ⟨#[]⟩, .slice none 0 0, .slice A vs.length c] 43 (0, 0)) from HRF9.out.1)
        have hf := set5 (.int .i64 7) (.int .i64 0) (.string ⟨#[]⟩) (.slice none 0 0) (.slice A vs.length c) HBF9.out
        have hr5 := RdPost.set5 HPF9.out (B := w.heap.size) (Nat.le_refl _) hR (.int .i64 7) (.int .i64 0) (.string ⟨#[]⟩) (.slice none 0 0) (.slice A vs.length c)
        have hjj := row_jrM HRF9.out (N := w.heap.size) (w' := (((((WB.setCell ⟨w.heap.size, 0, none⟩ (.int .i64 7)).setCell ⟨w.heap.size, 1, none⟩ (.int .i64 0)).setCell ⟨w.heap.size, 2, none⟩ (.string ⟨#[]⟩)).setCell ⟨w.heap.size, 3, none⟩ (.slice none 0 0)).setCell ⟨w.heap.size, 4, none⟩ (.slice A vs.length c))) (by omega) (fun b hb => set5_other _ _ _ _ _ (by omega))
        have HF5 := Lib.hid hf; have HR5 := Lib.hid hr5; have HJJ := Lib.hid hjj
        clear hf hr5 hjj
        go_wp2_with fail
        exact bodyPost_ret (results_cell_row rfl _ _ w.heap.size 43 #[.int .i64 7, .int .i64 0, .string ⟨#[]⟩, .slice none 0 0, .slice A vs.length c] (0, 0) _ rfl HF5.out Tryz.underlying43 rfl (by kernel_rfl)) rfl ⟨objV _, none, 0, 0, _, _, _, rfl, HJJ.out, fun h => absurd h he, HR5.out⟩
end Go.Proofs.YtlihjmfdnkfmfaaGreatDoor
