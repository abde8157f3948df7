/- Parts of the proof: Do. -/
import Derived.Test.YtjjgbgojlhaapaaGreatDoorZReads33
import Derived.Test.YtjjgbgojlhaapaaGreatDoorZReads34
import Derived.Test.YtjjgbgojlhaapaaGreatDoorZReads14
namespace Go.Proofs.YtjjgbgojlhaapaaGreatDoor
open Go.RowKit Go.Lib

theorem toList_mk (l : List UInt8) : (⟨l.toArray⟩ : ByteArray).toList = l := by rw [ByteArray.toList_eq]
theorem place_less (nm : ByteArray) : ∀ l : List (ByteArray × JV), (∀ j q, j < placeR nm l → l[j]? = some q → Op.bytesLess q.1.toList nm.toList = true) ∧ (∀ q, l[placeR nm l]? = some q → Op.bytesLess q.1.toList nm.toList = false)
  | [] => by simp [placeR]
  | q :: l => by
    have ih := place_less nm l
    unfold placeR at ih ⊢
    by_cases h : Op.bytesLess q.1.toList nm.toList = true
    · rw [List.takeWhile_cons_of_pos (p := fun q : ByteArray × JV => Op.bytesLess q.1.toList nm.toList) h, List.length_cons]
      refine ⟨fun j r hj hr => ?_, fun r hr => ih.2 r (by simpa using hr)⟩
      cases j with
      | zero => obtain rfl : q = r := by simpa using hr
                exact h
      | succ j => exact ih.1 j r (by omega) (by simpa using hr)
    · rw [List.takeWhile_cons_of_neg (p := fun q : ByteArray × JV => Op.bytesLess q.1.toList nm.toList) h]
      refine ⟨fun j r hj => absurd hj (Nat.not_lt_zero _), fun r hr => ?_⟩
      obtain rfl : q = r := by simpa using hr
      simpa using h
theorem dup_some {tl : List UInt8} {ms : List (ByteArray × JV)} {K : Nat} {q : ByteArray × JV} (hK : placeR ⟨tl.toArray⟩ ms = K) (h : ms[K]? = some q) : dupR ⟨tl.toArray⟩ ms = (q.1.toList == tl) := by
  subst hK
  unfold dupR
  rw [h]
  simp only [toList_mk]
theorem dup_none {tl : List UInt8} {ms : List (ByteArray × JV)} {K : Nat} (hK : placeR ⟨tl.toArray⟩ ms = K) (h : ms.length ≤ K) : dupR ⟨tl.toArray⟩ ms = false := by
  subst hK
  unfold dupR
  rw [List.getElem?_eq_none h]
def ObS (V X : Nat) (u a0 a1 a2 a3 a4 : Value) (w : World) : Prop := w.cell? ⟨V, 4, none⟩ = some u ∧ w.cell? ⟨X, 0, none⟩ = some a0 ∧ w.cell? ⟨X, 1, none⟩ = some a1 ∧ w.cell? ⟨X, 2, none⟩ = some a2 ∧ w.cell? ⟨X, 3, none⟩ = some a3 ∧ w.cell? ⟨X, 4, none⟩ = some a4
theorem ObS.later {V X : Nat} {u a0 a1 a2 a3 a4 : Value} {w W : World} (h : ObS V X u a0 a1 a2 a3 a4 w) (hb : Below w.heap.size w W) : ObS V X u a0 a1 a2 a3 a4 W :=
  ⟨cell_later' hb h.1, cell_later' hb h.2.1, cell_later' hb h.2.2.1, cell_later' hb h.2.2.2.1, cell_later' hb h.2.2.2.2.1, cell_later' hb h.2.2.2.2.2⟩
theorem size_set (w : World) (a : Addr) (v : Value) : (w.setCell a v).heap.size = w.heap.size := by simp [World.setCell]
theorem rmemInfo' : (Tryz.prog.info? 61).map (fun i => (i.zero, i.size, i.bytes)) = some (some (.agg #[.string ⟨#[]⟩, .int .i64 0, .int .i64 0, .string ⟨#[]⟩, .slice none 0 0, .slice none 0 0]), 6, 96) := by kernel_rfl
theorem text_short {s : ByteArray} {x : St} (h : (textD s x).2.e = 0) : (textD s x).1.length ≤ 8000 := by
  unfold textD at h ⊢
  split
  · simp
  · rename_i h1
    rw [if_neg h1] at h
    simp only at h ⊢
    by_cases h2 : 8000 < (unquoteB s x.p).1.length
    · rw [if_pos h2] at h
      exact absurd h (fail_not (by decide))
    · omega
def ORelR (R B V : Nat) (s : ByteArray) (pv : St → JV × St) (w : World) (fin : JV × St) (gg : Nat) (wr : World) : Prop := ∃ (f : Nat) (ms : List (ByteArray × JV)) (y : St) (va : Value),
  f ≤ gg ∧ y.e = 0 ∧ y.p ≤ s.size ∧ s.size + 1 - y.p ≤ f ∧ ms.length ≤ y.p ∧ RowIn 35 61 memTy V mkM va ms wr ∧
  wr.heap[B]? = some (.cells #[.int .i64 0, .int .i64 0, .string ⟨#[]⟩, .slice none 0 0, .slice none 0 0] 35 (0, 0)) ∧ RdPost 74 R s y.p y.e w wr ∧ objLoopD s pv f ms y = fin
set_option maxRecDepth 100000 in
set_option maxHeartbeats 32000000 in
theorem rdobject_any (s : ByteArray) (op : Int) (pv : St → JV × St) (ih : ValAtR s op pv) (hs : s.size ≤ 1000000) (hfw : FwdR s pv) : ObjAtR s op pv := by
  intro R x w hx0 hxp h
  have hR := h.cells.2.2.2.2.2.2
  have hAA : Below w.heap.size w ((w.alloc (.cells #[.int .i64 0, .int .i64 0, .string ⟨#[]⟩, .slice none 0 0, .slice none 0 0] 35)).alloc (.cells #[.int .i64 7, .int .i64 0, .string ⟨#[]⟩, .slice none 0 0, .slice none 0 0] 35)) := bel_alloc (bel_alloc (Below.refl _ _) _) _
  have hb0 := heap_alloc2_old w (.cells #[.int .i64 0, .int .i64 0, .string ⟨#[]⟩, .slice none 0 0, .slice none 0 0] 35) (.cells #[.int .i64 7, .int .i64 0, .string ⟨#[]⟩, .slice none 0 0, .slice none 0 0] 35)
  have hv0 := heap_alloc2_new w (.cells #[.int .i64 0, .int .i64 0, .string ⟨#[]⟩, .slice none 0 0, .slice none 0 0] 35) (.cells #[.int .i64 7, .int .i64 0, .string ⟨#[]⟩, .slice none 0 0, .slice none 0 0] 35)
  have hp1 := RdPost.below h.post hAA
  generalize hW1 : (w.alloc (.cells #[.int .i64 0, .int .i64 0, .string ⟨#[]⟩, .slice none 0 0, .slice none 0 0] 35)).alloc (.cells #[.int .i64 7, .int .i64 0, .string ⟨#[]⟩, .slice none 0 0, .slice none 0 0] 35) = W1 at *
  have hem := rdempty_any R s 125 x W1 hs hxp hp1.1
  have hE : objectD s pv x = if (emptyD s 125 x).1 then (objV [], (emptyD s 125 x).2) else objLoopD s pv (s.size + 1 - (emptyD s 125 x).2.p) [] (emptyD s 125 x).2 := rfl
  have hem0 : (emptyD s 125 x).1 = false → (emptyD s 125 x).2.e = 0 ∧ (emptyD s 125 x).2.p ≤ s.size := fun hf => by
    have h1 := (empty_D s 125 x hx0 (by decide)).2.2 hf
    rw [h1.1]
    exact ⟨hx0, (blanks_le (x := x.step) (by simp only [St.step]; omega)).2⟩
  have HP1 := Lib.hid hp1; have HB1 := Lib.hid hb0; have HV1 := Lib.hid hv0; have HEM := Lib.hid hem; have HW1 := Lib.hid hW1; have HIH := Lib.hid ih; have HFW := Lib.hid hfw
  clear hp1 hb0 hv0 hem hW1 ih hfw hAA h
  generalize objectD s pv x = res at *
  generalize emptyD s 125 x = em at *
  obtain ⟨bb, y⟩ := em
  simp only at *
  have HE := Lib.hid hE
  clear hE
  go_enter Tryz.func55, Tryz.ntmps55
  go_upto_region 2 with (fail)
  rw [HW1.out]
  go_wp2_with fail
  refine Calls.mono HEM.out ?_
  rintro e w2 ⟨rfl, hp2⟩
  have HB2 := Lib.hid (hp2.keep (B := w.heap.size) HB1.out (by omega))
  have HV2 := Lib.hid (hp2.keep (B := w.heap.size + 1) HV1.out (by omega))
  have HP2 := Lib.hid (HP1.out.trans hp2)
  clear hp2 HEM HP1 HB1 HV1 HW1
  obtain ⟨l0, l1, l2, _, f1, _, hRw⟩ := HP2.out.1.cells
  cases bb with
  | true =>
    have hres : res = (objV [], y) := by rw [HE.out, if_pos rfl]
    subst hres
    clear HE hem0
    obtain ⟨⟨b0, b1, b2, b3, b4⟩, ⟨g0, g1, g2, g3, g4⟩, hBw⟩ := cells5 HB2.out
    obtain ⟨⟨v0, v1, v2, v3, v4⟩, _, hVw⟩ := cells5 HV2.out
    have hrow : RowIn 35 61 memTy (w.heap.size + 1) mkM (.slice none 0 0) ([] : List (ByteArray × JV)) w2 := RowIn.nil HV2.out
    have hf := set5 (.int .i64 7) (.int .i64 0) (.string ⟨#[]⟩) (.slice none 0 0) (.slice none 0 0) HB2.out
    have hr5 := RdPost.set5 HP2.out (B := w.heap.size) (Nat.le_refl _) hR (.int .i64 7) (.int .i64 0) (.string ⟨#[]⟩) (.slice none 0 0) (.slice none 0 0)
    have hjj := row_jrM hrow (N := w.heap.size) (w' := (((((w2.setCell ⟨w.heap.size, 0, none⟩ (.int .i64 7)).setCell ⟨w.heap.size, 1, none⟩ (.int .i64 0)).setCell ⟨w.heap.size, 2, none⟩ (.string ⟨#[]⟩)).setCell ⟨w.heap.size, 3, none⟩ (.slice none 0 0)).setCell ⟨w.heap.size, 4, none⟩ (.slice none 0 0))) (by omega) (fun b hb => set5_other _ _ _ _ _ (by omega))
    have HF5 := Lib.hid hf; have HR5 := Lib.hid hr5; have HJJ := Lib.hid hjj
    clear hf hr5 hjj hrow
    go_wp2_with fail
    exact bodyPost_ret (results_cell_row rfl _ _ w.heap.size 35 #[.int .i64 7, .int .i64 0, .string ⟨#[]⟩, .slice none 0 0, .slice none 0 0] (0, 0) _ rfl HF5.out Tryz.underlying35 rfl (by kernel_rfl)) rfl ⟨objV [], none, 0, 0, none, 0, 0, rfl, HJJ.out, fun _ => rfl, HR5.out⟩
  | false =>
    obtain ⟨hy0, hyp⟩ := hem0 rfl
    have hfin : objLoopD s pv (s.size + 1 - y.p) [] y = res := by rw [HE.out, if_neg Bool.false_ne_true]
    have HL := Lib.hid (show ORelR R w.heap.size (w.heap.size + 1) s pv w res (s.size + 1 - y.p) w2 from ⟨s.size + 1 - y.p, [], y, .slice none 0 0, Nat.le_refl _, hy0, hyp, Nat.le_refl _, Nat.zero_le _, RowIn.nil HV2.out, HB2.out, HP2.out, hfin⟩)
    clear HE hem0 hfin
    go_wp2_with fail
    go_loopg [] (s.size + 1 - y.p) (fun gg wr => Aside (ORelR R w.heap.size (w.heap.size + 1) s pv w res gg wr))
    case atStart => exact HL.out
    case round =>
      clear l0 l1 l2 f1 hRw HL HP2 HB2 HV2 hy0 hyp
      obtain ⟨f, ms, q, va, hfg, he, hqs, hqf, hvl, hrow, hbk, hrd, hfin⟩ := hrel
      obtain ⟨A, c, rfl⟩ := hrow.form
      have hRV : R < w.heap.size + 1 := by omega
      obtain ⟨g, rfl⟩ : ∃ g, f = g + 1 := ⟨f - 1, by omega⟩
      have HSK := Lib.hid (rdskip_any R s q wr hs hrd.1)
      have HROW := Lib.hid hrow; have HBK := Lib.hid hbk; have HP := Lib.hid hrd; have HFIN := Lib.hid hfin
      clear hrow hbk hrd hfin
      go_wp2_with fail
      refine Calls.mono HSK.out ?_
      rintro e w3 ⟨rfl, hp3⟩
      have hbl := blanks_le (s := s) hqs
      have HTX := Lib.hid (rdtext_any R s (q.blanks s) w3 hs hbl.2 hp3.1)
      go_wp2_with fail
      refine Calls.mono HTX.out ?_
      rintro e w4 ⟨rfl, hp4⟩
      have hp24 := hp3.trans hp4
      have HROW4 := Lib.hid (HROW.out.kept hp24.2 hRV)
      have HB4 := Lib.hid (hp24.keep (B := w.heap.size) HBK.out (by omega))
      have HP4 := Lib.hid (HP.out.trans hp24)
      clear hp3 hp4 hp24 HSK HTX HROW HBK HP
      have hfe := HFIN.out
      simp only [objLoopD] at hfe
      have htf := text_fwd s (q.blanks s) hbl.2
      have htn := text_short (s := s) (x := q.blanks s)
      generalize textD s (q.blanks s) = t at *
      obtain ⟨tl, ty⟩ := t
      simp only at hfe htf htn
      have HFE := Lib.hid hfe
      clear hfe HFIN
      obtain ⟨hpl1, hpl2⟩ := place_less ⟨tl.toArray⟩ ms
      have hpl3 := (place_lt ⟨tl.toArray⟩ ms).2.2
      simp only [toList_mk] at hpl1 hpl2
      have hsl := HROW4.out.sl
      obtain ⟨A', c', hAc, hmx, hmc⟩ := mem_cells hsl
      obtain ⟨rfl, rfl⟩ : A = A' ∧ c = c' := by simpa using hAc
      have hv4 := HROW4.out.1
      have HPL1 := Lib.hid hpl1; have HPL2 := Lib.hid hpl2; have HMC := Lib.hid hmc
      clear hpl1 hpl2 hmc hAc hsl
      obtain ⟨⟨v0, v1, v2, v3, v4⟩, _, hVw⟩ := cells5 (show w4.heap[w.heap.size + 1]? = some (.cells #[.int .i64 7, .int .i64 0, .string ⟨#[]⟩, .slice none 0 0, .slice A ms.length c] 35 (0, 0)) from hv4)
      clear hv4
      generalize hK : placeR ⟨tl.toArray⟩ ms = K at *
      have HK := Lib.hid hK
      clear hK
      go_wp2_with fail
      go_loopg [7] K (fun gg s7 wr => ∃ k : Nat, k ≤ K ∧ K - k ≤ gg ∧ s7 = .int .i64 k ∧ wr = w4)
      case atStart => exact ⟨0, Nat.zero_le _, by omega, rfl, rfl⟩
      case round =>
        obtain ⟨k, hk, hgg, rfl, rfl⟩ := hrel
        by_cases hkK : k < K
        · have hkn : k < ms.length := by omega
          have dk : decide (k < ms.length) = true := decide_eq_true hkn
          have dk2 : decide ((k : Int) < (ms.length : Int)) = true := decide_eq_true (by omega)
          have hk0 : (0 : Int) ≤ (k : Int) := by omega
          have hkz : (k : Int) < (ms.length : Int) := by omega
          obtain ⟨⟨nk, yk⟩, hgk⟩ := get_ex hkn
          obtain ⟨b, o, A1, n1, c1, A2, n2, c2, rfl, hns, m0, _⟩ := HMC.out k nk yk hgk
          have hls : Op.bytesLess nk.toList tl = true := HPL1.out k _ hkK hgk
          clear hgk hns
          go_wp2_with fail
          go_roundg (K - (k + 1))
          case measure => omega
          case rel => exact ⟨k + 1, by omega, by omega, by simp, rfl⟩
        · obtain rfl : k = K := by omega
          have hF : (∃ nk b o, A = some ⟨b, o, none⟩ ∧ (decide (k < ms.length) = true ∧ decide ((k : Int) < (ms.length : Int)) = true ∧ (0 : Int) ≤ (k : Int) ∧ (k : Int) < (ms.length : Int)) ∧ wr.cell? ⟨b, o + k * 6, none⟩ = some (.string nk) ∧ Op.bytesLess nk.toList tl = false ∧ (nk.toList == tl) = dupR ⟨tl.toArray⟩ ms) ∨
              (dupR ⟨tl.toArray⟩ ms = false ∧ decide (k < ms.length) = false ∧ decide ((k : Int) < (ms.length : Int)) = false ∧ ¬ ((k : Int) < (ms.length : Int))) := by
            by_cases hkn : k < ms.length
            · obtain ⟨⟨nk, yk⟩, hgk⟩ := get_ex hkn
              obtain ⟨b, o, A1, n1, c1, A2, n2, c2, hA, hns, m0, _⟩ := HMC.out k nk yk hgk
              exact .inl ⟨nk, b, o, hA, ⟨decide_eq_true hkn, decide_eq_true (by omega), by omega, by omega⟩, m0, HPL2.out _ hgk, (dup_some HK.out hgk).symm⟩
            · exact .inr ⟨dup_none HK.out (by omega), decide_eq_false hkn, decide_eq_false (by omega), by omega⟩
          have hfe := HFE.out
          obtain ⟨l0, l1, l2, _, f1, _, hRw⟩ := HP4.out.1.cells
          clear HFE HPL1 HPL2 HMC hgg hk hkK
          by_cases te : ty.e = 0
          · have te0 : (ty.e == 0) = true := by simpa using te
            cases hdu : dupR ⟨tl.toArray⟩ ms with
            | true =>
              rw [if_pos ⟨te, hdu⟩] at hfe
              rw [hdu] at hF
              rcases hF with ⟨nk, b, o, rfl, ⟨dk, dk2, hk0, hkz⟩, m0, hls, deq⟩ | ⟨h, _⟩
              · have hls2 : Op.bytesLess tl tl = false := by rw [eq_of_beq deq] at hls; exact hls
                subst hfe
                have HFL := Lib.hid (rdfail_lit R s ty 4 wr HP4.out.1)
                go_wp2_with fail
                refine Calls.mono HFL.out ?_
                rintro e w8 ⟨rfl, hp8⟩
                have HB8 := Lib.hid (hp8.keep (B := w.heap.size) HB4.out (by omega))
                have HR8 := Lib.hid (RdPost.trans HP4.out hp8)
                have HJ8 := Lib.hid (show JR w8 (fun b => w.heap.size + 1 ≤ b) zeroV [.int .i64 0, .int .i64 0, .string ⟨#[]⟩, .slice none 0 0, .slice none 0 0] from flat_jr _ _ 0)
                clear hp8 HFL
                obtain ⟨⟨b0, b1, b2, b3, b4⟩, ⟨g0, g1, g2, g3, g4⟩, hBw⟩ := cells5 HB8.out
                have hf := set5 (.int .i64 0) (.int .i64 0) (.string ⟨#[]⟩) (.slice none 0 0) (.slice none 0 0) HB8.out
                have hr5 := RdPost.set5 HR8.out (B := w.heap.size) (Nat.le_refl _) hR (.int .i64 0) (.int .i64 0) (.string ⟨#[]⟩) (.slice none 0 0) (.slice none 0 0)
                have hjj := JR_mono (F' := fun b => w.heap.size ≤ b) (fun b hb => Nat.le_of_succ_le hb) _ _ (JR_frame (w' := (((((w8.setCell ⟨w.heap.size, 0, none⟩ (.int .i64 0)).setCell ⟨w.heap.size, 1, none⟩ (.int .i64 0)).setCell ⟨w.heap.size, 2, none⟩ (.string ⟨#[]⟩)).setCell ⟨w.heap.size, 3, none⟩ (.slice none 0 0)).setCell ⟨w.heap.size, 4, none⟩ (.slice none 0 0))) (fun b (hb : w.heap.size + 1 ≤ b) => set5_other _ _ _ _ _ (by omega)) _ _ HJ8.out)
                have HF5 := Lib.hid hf; have HR5 := Lib.hid hr5; have HJJ := Lib.hid hjj
                clear hf hr5 hjj
                go_wp2_with fail
                exact bodyPost_ret (results_cell_row rfl _ _ w.heap.size 35 #[.int .i64 0, .int .i64 0, .string ⟨#[]⟩, .slice none 0 0, .slice none 0 0] (0, 0) _ rfl HF5.out Tryz.underlying35 rfl (by kernel_rfl)) rfl ⟨zeroV, none, 0, 0, none, 0, 0, rfl, HJJ.out, fun _ => rfl, HR5.out⟩
              · cases h
            | false =>
              have hnd : ¬ (ty.e = 0 ∧ dupR ⟨tl.toArray⟩ ms = true) := fun h => by rw [hdu] at h; exact Bool.false_ne_true h.2
              rw [if_neg hnd] at hfe
              rw [hdu] at hF
              have hbt := blanks_le (s := s) (x := ty) htf.2
              have HSK2 := Lib.hid (rdskip_any R s ty wr hs HP4.out.1)
              have hue : (ty.blanks s).e = 0 := te
              generalize ty.blanks s = u at *
              rw [if_neg (show ¬ u.e ≠ 0 from fun h => h hue)] at hfe
              have due : (u.e != 0) = false := by simpa using hue
              have HFE2 := Lib.hid hfe; have HK2 := Lib.hid hpl3; have HK1 := HK; have HTF := Lib.hid htf
              clear hfe hnd htf
              rcases hF with ⟨nk, b, o, rfl, ⟨dk, dk2, hk0, hkz⟩, m0, hls, deq⟩ | ⟨_, dk, dk2, hkz⟩
              all_goals
                go_wp2_with fail
                refine Calls.mono HSK2.out ?_
                rintro e w5 ⟨rfl, hp5⟩
                have HROW5 := Lib.hid (HROW4.out.kept hp5.2 hRV)
                have HB5 := Lib.hid (hp5.keep (B := w.heap.size) HB4.out (by omega))
                have HP5 := Lib.hid (HP4.out.trans hp5)
                clear hp5 HSK2 HROW4 HB4 HP4 l0 l1 l2 f1 hRw
                try clear m0
                obtain ⟨l0, l1, l2, _, f1, _, hRw⟩ := HP5.out.1.cells
                by_cases h1 : s.size ≤ u.p
                · have d1 : ((u.p : Int) == (s.size : Int)) = true := by simp; omega
                  have hfe := HFE2.out
                  rw [if_pos h1] at hfe
                  subst hfe
                  clear HFE2
                  have HFL := Lib.hid (fun n => rdfail_lit R s u 2 (w5.drewN n) (HP5.out.1.drewN n))
                  go_wp2_with fail
                  go_quiet (fail)
                  go_wp2_with fail
                  refine Calls.mono (HFL.out _) ?_
                  rintro e w8 ⟨rfl, hp8⟩
                  have HB8 := Lib.hid (hp8.keep (B := w.heap.size) (show (w5.drewN _).heap[w.heap.size]? = _ from HB5.out) (by omega))
                  have HR8 := Lib.hid (RdPost.trans (RdPost.drewN HP5.out _) hp8)
                  have HJ8 := Lib.hid (show JR w8 (fun b => w.heap.size + 1 ≤ b) zeroV [.int .i64 0, .int .i64 0, .string ⟨#[]⟩, .slice none 0 0, .slice none 0 0] from flat_jr _ _ 0)
                  clear hp8 HFL
                  obtain ⟨⟨b0, b1, b2, b3, b4⟩, ⟨g0, g1, g2, g3, g4⟩, hBw⟩ := cells5 HB8.out
                  have hf := set5 (.int .i64 0) (.int .i64 0) (.string ⟨#[]⟩) (.slice none 0 0) (.slice none 0 0) HB8.out
                  have hr5 := RdPost.set5 HR8.out (B := w.heap.size) (Nat.le_refl _) hR (.int .i64 0) (.int .i64 0) (.string ⟨#[]⟩) (.slice none 0 0) (.slice none 0 0)
                  have hjj := JR_mono (F' := fun b => w.heap.size ≤ b) (fun b hb => Nat.le_of_succ_le hb) _ _ (JR_frame (w' := (((((w8.setCell ⟨w.heap.size, 0, none⟩ (.int .i64 0)).setCell ⟨w.heap.size, 1, none⟩ (.int .i64 0)).setCell ⟨w.heap.size, 2, none⟩ (.string ⟨#[]⟩)).setCell ⟨w.heap.size, 3, none⟩ (.slice none 0 0)).setCell ⟨w.heap.size, 4, none⟩ (.slice none 0 0))) (fun b (hb : w.heap.size + 1 ≤ b) => set5_other _ _ _ _ _ (by omega)) _ _ HJ8.out)
                  have HF5 := Lib.hid hf; have HR5 := Lib.hid hr5; have HJJ := Lib.hid hjj
                  clear hf hr5 hjj
                  go_wp2_with fail
                  exact bodyPost_ret (results_cell_row rfl _ _ w.heap.size 35 #[.int .i64 0, .int .i64 0, .string ⟨#[]⟩, .slice none 0 0, .slice none 0 0] (0, 0) _ rfl HF5.out Tryz.underlying35 rfl (by kernel_rfl)) rfl ⟨zeroV, none, 0, 0, none, 0, 0, rfl, HJJ.out, fun _ => rfl, HR5.out⟩
                · have d1 : ((u.p : Int) == (s.size : Int)) = false := by simp; omega
                  have hfe := HFE2.out
                  rw [if_neg h1] at hfe
                  have hq0 : (0 : Int) ≤ (u.p : Int) := by omega
                  have hqs : (u.p : Int) < (s.size : Int) := by omega
                  have hgb := get_byte (s := s) (q := u.p) (by omega)
                  by_cases h58 : byteAt s u.p = 58
                  · have d58 : (((byteAt s u.p).toNat : Int) != 58) = false := by rw [h58]; rfl
                    rw [if_neg (show ¬ byteAt s u.p ≠ 58 from fun h => h h58)] at hfe
                    clear HFE2
                    have hst := i64_step (p := u.p) (by omega)
                    have hsub : (u.p : Int) + 1 - 1 = (u.p : Int) := by omega
                    have hset := fun n => RdPost.set1 (RdPost.drewN HP5.out.1.post n) (u.p + 1)
                    have hiv := fun n => HIH.out R u.step ((w5.drewN n).setCell ⟨R, 1, none⟩ (.int .i64 ((u.p + 1 : Nat) : Int))) hue (by show u.p + 1 ≤ s.size; omega) (hset n).1
                    have hgd := HFW.out u.step hue (by show u.p + 1 ≤ s.size; omega)
                    have ee1 : ((u.p + 1 : Nat) : Int) = (u.p : Int) + 1 := by simp
                    simp only [ee1] at hset hiv
                    have HSET := Lib.hid hset; have HIV := Lib.hid hiv; have HFE3 := Lib.hid hfe
                    clear hset hiv hfe ee1
                    have hsp : u.step.p = u.p + 1 := rfl
                    rw [hsp] at hgd
                    clear hsp
                    generalize pv u.step = pq at *
                    obtain ⟨v', z⟩ := pq
                    simp only at hgd
                    generalize byteAt s u.p = b9 at *
                    go_wp2_with fail
                    go_quiet (fail)
                    go_wp2_with fail
                    go_quiet (fail)
                    go_wp2_with fail
                    refine Calls.mono (HIV.out _) ?_
                    rintro e w6 ⟨v, A1, n1, c1, A2, n2, c2, rfl, hjr, heq, hp6⟩
                    have hal := bel_alloc (Below.refl w6.heap.size w6) (.cells #[.int .i64 v.k, .int .i64 v.n, .string v.s, .slice A1 n1 c1, .slice A2 n2 c2] 35)
                    have h65 := RdPost.trans (HSET.out _) hp6
                    have hp57 := RdPost.below h65 hal
                    have hV5 : w.heap.size + 1 < w5.heap.size := (Array.getElem?_eq_some_iff.1 HROW5.out.1).1
                    have hX5 : w5.heap.size ≤ w6.heap.size := h65.2.size
                    obtain ⟨A5, c5, HR5⟩ : ∃ A5 c5, Hid (RowIn 35 61 memTy (w.heap.size + 1) mkM (.slice A5 ms.length c5) ms w5) := ⟨_, _, HROW5⟩
                    have hOW : ∀ j, (Value.slice A5 ms.length c5).ownBlock = some j → w.heap.size + 1 < j ∧ j < w5.heap.size := fun j hj => by
                      obtain ⟨_, cs0, ho0, _⟩ := HR5.out
                      have := ho0.lt j hj
                      exact ⟨by omega, this.2⟩
                    have hj6 : JR w6 (fun b => w5.heap.size ≤ b) v [.int .i64 v.k, .int .i64 v.n, .string v.s, .slice A1 n1 c1, .slice A2 n2 c2] := JR_mono (fun b hb => by rw [size_set] at hb; exact hb) _ _ hjr
                    have HRD := Lib.hid ((HR5.out.kept hp57.2 hRV).kept (w' := (w6.alloc (.cells #[.int .i64 v.k, .int .i64 v.n, .string v.s, .slice A1 n1 c1, .slice A2 n2 c2] 35)).drew) ⟨rfl, rfl, rfl, Nat.le_refl _, fun _ _ _ => rfl⟩ hRV)
                    have HBD := Lib.hid (show (w6.alloc (.cells #[.int .i64 v.k, .int .i64 v.n, .string v.s, .slice A1 n1 c1, .slice A2 n2 c2] 35)).drew.heap[w.heap.size]? = _ from hp57.keep (B := w.heap.size) HB5.out (by omega))
                    have HPD := Lib.hid (RdPost.drew (HP5.out.trans hp57))
                    have HXD := Lib.hid (show (w6.alloc (.cells #[.int .i64 v.k, .int .i64 v.n, .string v.s, .slice A1 n1 c1, .slice A2 n2 c2] 35)).drew.heap[w6.heap.size]? = _ from heap_alloc_new w6 (.cells #[.int .i64 v.k, .int .i64 v.n, .string v.s, .slice A1 n1 c1, .slice A2 n2 c2] 35))
                    have HJD := Lib.hid (JR_later hj6 (bel_drew hal))
                    have HEQ := Lib.hid heq; have HOW := Lib.hid hOW
                    have hfe := HFE3.out
                    clear hal hp57 h65 hjr heq hp6 HIV HSET HROW5 HR5 HB5 HP5 hj6 hOW l0 l1 l2 f1 hRw v0 v1 v2 v3 v4 hVw hgb hsub hst HFE3
                    go_upto_region 20 with (fail)
                    generalize w6.alloc (.cells #[.int .i64 v.k, .int .i64 v.n, .string v.s, .slice A1 n1 c1, .slice A2 n2 c2] 35) = W7 at *
                    generalize w6.heap.size = X at *
                    obtain ⟨hvD, cs, hownD, hchD⟩ := HRD.out
                    have hlc : ms.length ≤ c5 := by
                      rcases hownD.2 with ⟨h0, hl0⟩ | ⟨_, _, _, h0, _, _, hnc, _⟩
                      · omega
                      · injection h0 with _ _ h3
                        omega
                    obtain ⟨⟨v0, v1, v2, v3, v4⟩, _, hVw⟩ := cells5 (show W7.drew.heap[w.heap.size + 1]? = some (.cells #[.int .i64 7, .int .i64 0, .string ⟨#[]⟩, .slice none 0 0, .slice A5 ms.length c5] 35 (0, 0)) from hvD)
                    obtain ⟨⟨x0, x1, x2, x3, x4⟩, _, hXw⟩ := cells5 HXD.out
                    have hkn := HK2.out
                    have hk0 : (0 : Int) ≤ (k : Int) := by omega
                    have hkl : (k : Int) ≤ (ms.length : Int) := by omega
                    have hkc : (k : Int) ≤ (c5 : Int) := by omega
                    have HOD := Lib.hid hownD; have HVD := Lib.hid hvD; have HCD := Lib.hid hchD
                    have HSS := Lib.hid (show ObS (w.heap.size + 1) X (.slice A5 ms.length c5) (.int .i64 v.k) (.int .i64 v.n) (.string v.s) (.slice A1 n1 c1) (.slice A2 n2 c2) W7.drew from ⟨v4, x0, x1, x2, x3, x4⟩)
                    clear hownD hvD hchD v0 v1 v2 v3 v4 hVw x0 x1 x2 x3 x4 hXw HXD
                    obtain ⟨i0, hi, hz0, hz1, hz2⟩ := info_parts rmemInfo'
                    go_wp2_with fail
                    refine PrintLast.wp_region_last_drew (S := ObS (w.heap.size + 1) X (.slice A5 ms.length c5) (.int .i64 v.k) (.int .i64 v.n) (.string v.s) (.slice A1 n1 c1) (.slice A2 n2 c2)) (ds := [13, 15]) (by kernel_rfl) HSS.out (fun hHeld => ?_)
                    generalize W7.drew = D at *
                    refine PrintLast.wpAnyLast_take (i := 0) (v := ?_) rfl (by kernel_rfl) (by kernel_rfl) (by kernel_rfl) (by kernel_rfl) (by kernel_rfl) (fun _ _ _ h => h) (Or.inl ⟨by kernel_rfl, ?_⟩) (by assumption) ?_
                    rotate_left
                    · (intro w hSw; obtain ⟨s4, x0, x1, x2, x3, x4⟩ := hSw; go_simp; try (with_reducible rfl))
                    try simp only [List.getElem_toArray, List.getElem_cons_zero, Act.put, List.setIfInBounds_toArray, List.set_cons_zero, List.set_cons_succ]
                    refine PrintLast.wpAnyLast_take (i := 1) (v := ?_) rfl (by kernel_rfl) (by kernel_rfl) (by kernel_rfl) (by kernel_rfl) (by kernel_rfl) (fun _ _ _ h => h) (Or.inl ⟨by kernel_rfl, ?_⟩) (by assumption) ?_
                    rotate_left
                    · (intro w hSw; obtain ⟨s4, x0, x1, x2, x3, x4⟩ := hSw; go_simp; try (with_reducible rfl))
                    try simp only [List.getElem_toArray, List.getElem_cons_zero, List.getElem_cons_succ, Act.put, List.setIfInBounds_toArray, List.set_cons_zero, List.set_cons_succ]
                    refine PrintLast.wpAnyLast_take (i := 2) (v := ?_) rfl (by kernel_rfl) (by kernel_rfl) (by kernel_rfl) (by kernel_rfl) (by kernel_rfl) (fun _ _ _ h => h) (Or.inl ⟨by kernel_rfl, ?_⟩) (by assumption) ?_
                    rotate_left
                    · (intro w hSw; obtain ⟨s4, x0, x1, x2, x3, x4⟩ := hSw; go_simp; try (with_reducible rfl))
                    try simp only [List.getElem_toArray, List.getElem_cons_zero, List.getElem_cons_succ, Act.put, List.setIfInBounds_toArray, List.set_cons_zero, List.set_cons_succ]
                    refine PrintLast.wpAnyLast_take (i := 3) (v := ?_) rfl (by kernel_rfl) (by kernel_rfl) (by kernel_rfl) (by kernel_rfl) (by kernel_rfl) (fun _ _ _ h => h) (Or.inl ⟨by kernel_rfl, ?_⟩) (by assumption) ?_
                    rotate_left
                    · (intro w hSw; obtain ⟨s4, x0, x1, x2, x3, x4⟩ := hSw; go_simp; try (with_reducible rfl))
                    try simp only [List.getElem_toArray, List.getElem_cons_zero, List.getElem_cons_succ, Act.put, List.setIfInBounds_toArray, List.set_cons_zero, List.set_cons_succ]
                    refine PrintLast.wpAnyLast_take (i := 4) (v := ?_) rfl (by kernel_rfl) (by kernel_rfl) (by kernel_rfl) (by kernel_rfl) (by kernel_rfl) (fun _ _ _ h => h) (Or.inl ⟨by kernel_rfl, ?_⟩) (by assumption) ?_
                    rotate_left
                    · (intro w hSw; obtain ⟨s4, x0, x1, x2, x3, x4⟩ := hSw; go_simp; try (with_reducible rfl))
                    try simp only [List.getElem_toArray, List.getElem_cons_zero, List.getElem_cons_succ, Act.put, List.setIfInBounds_toArray, List.set_cons_zero, List.set_cons_succ]
                    refine PrintLast.wpAnyLast_take (i := 5) (v := ?_) rfl (by kernel_rfl) (by kernel_rfl) (by kernel_rfl) (by kernel_rfl) (by kernel_rfl) (fun _ _ _ h => h) (Or.inl ⟨by kernel_rfl, ?_⟩) (by assumption) ?_
                    rotate_left
                    · (intro w hSw; obtain ⟨s4, x0, x1, x2, x3, x4⟩ := hSw; go_simp; try (with_reducible rfl))
                    try simp only [List.getElem_toArray, List.getElem_cons_zero, List.getElem_cons_succ, Act.put, List.setIfInBounds_toArray, List.set_cons_zero, List.set_cons_succ]
                    refine PrintLast.wpAnyLast_take (i := 6) (v := ?_) rfl (by kernel_rfl) (by kernel_rfl) (by kernel_rfl) (by kernel_rfl) (by kernel_rfl) (fun _ _ _ h => h) (Or.inl ⟨by kernel_rfl, ?_⟩) (by assumption) ?_
                    rotate_left
                    · (intro w hSw; obtain ⟨s4, x0, x1, x2, x3, x4⟩ := hSw; go_simp; try (with_reducible rfl))
                    try simp only [List.getElem_toArray, List.getElem_cons_zero, List.getElem_cons_succ, Act.put, List.setIfInBounds_toArray, List.set_cons_zero, List.set_cons_succ]
                    refine PrintLast.wpAnyLast_take (i := 8) (v := ?_) rfl (by kernel_rfl) (by kernel_rfl) (by kernel_rfl) (by kernel_rfl) (by kernel_rfl) (fun _ _ _ h => h) (Or.inl ⟨by kernel_rfl, ?_⟩) (by assumption) ?_
                    rotate_left
                    · (intro w hSw; obtain ⟨s4, x0, x1, x2, x3, x4⟩ := hSw; go_simp; try (with_reducible rfl))
                    try simp only [List.getElem_toArray, List.getElem_cons_zero, List.getElem_cons_succ, Act.put, List.setIfInBounds_toArray, List.set_cons_zero, List.set_cons_succ]
                    refine PrintLast.wpAnyLast_take (i := 9) (v := ?_) rfl (by kernel_rfl) (by kernel_rfl) (by kernel_rfl) (by kernel_rfl) (by kernel_rfl) (fun _ _ _ h => h) (Or.inl ⟨by kernel_rfl, ?_⟩) (by assumption) ?_
                    rotate_left
                    · (intro w hSw; obtain ⟨s4, x0, x1, x2, x3, x4⟩ := hSw; go_simp; try (with_reducible rfl))
                    try simp only [List.getElem_toArray, List.getElem_cons_zero, List.getElem_cons_succ, Act.put, List.setIfInBounds_toArray, List.set_cons_zero, List.set_cons_succ]
                    refine PrintLast.wpAnyLast_take (i := 10) (v := ?_) rfl (by kernel_rfl) (by kernel_rfl) (by kernel_rfl) (by kernel_rfl) (by kernel_rfl) (fun _ _ _ h => h) (Or.inl ⟨by kernel_rfl, ?_⟩) (by assumption) ?_
                    rotate_left
                    · (intro w hSw; obtain ⟨s4, x0, x1, x2, x3, x4⟩ := hSw; go_simp; try (with_reducible rfl))
                    try simp only [List.getElem_toArray, List.getElem_cons_zero, List.getElem_cons_succ, Act.put, List.setIfInBounds_toArray, List.set_cons_zero, List.set_cons_succ]
                    refine PrintLast.wpAnyLast_take (i := 11) (v := ?_) rfl (by kernel_rfl) (by kernel_rfl) (by kernel_rfl) (by kernel_rfl) (by kernel_rfl) (fun _ _ _ h => h) (Or.inl ⟨by kernel_rfl, ?_⟩) (by assumption) ?_
                    rotate_left
                    · (intro w hSw; obtain ⟨s4, x0, x1, x2, x3, x4⟩ := hSw; go_simp; try (with_reducible rfl))
                    try simp only [List.getElem_toArray, List.getElem_cons_zero, List.getElem_cons_succ, Act.put, List.setIfInBounds_toArray, List.set_cons_zero, List.set_cons_succ]
                    have HS0 := Lib.hid hHeld
                    have HK := Lib.hid hHeld
                    clear hHeld
                    refine PrintLast.wpAnyLast_ready (rs := [7]) (by kernel_rfl) (by simp) ?_
                    refine PrintLast.AllReadyL.cons rfl (by decide) (fun K hK => ?_) PrintLast.AllReadyL.nil
                    rw [if_pos (by kernel_rfl)]
                    go_simp
                    try simp only [List.foldl_cons, List.foldl_nil, List.setIfInBounds_toArray, List.set_cons_zero, List.set_cons_succ, Nat.reduceAdd]
                    refine hK.out _ _ ?_ (fun hHeld => ?_)
                    · exact ObS.later HK.out (bel_alloc (Below.refl _ _) _)
                    clear hK K
                    try simp only [List.getElem_toArray, List.getElem_cons_zero, List.getElem_cons_succ, Act.put, List.setIfInBounds_toArray, List.set_cons_zero, List.set_cons_succ]
                    clear hHeld HK
                    refine PrintLast.wpAnyLast_ready (rs := [12]) (by kernel_rfl) (by simp) ?_
                    refine PrintLast.AllReadyL.cons rfl (by decide) (fun K hK => ?_) PrintLast.AllReadyL.nil
                    have hal := bel_alloc (Below.refl D.heap.size D) (.cells #[.string ⟨tl.toArray⟩, .int .i64 v.k, .int .i64 v.n, .string v.s, .slice A1 n1 c1, .slice A2 n2 c2] 61)
                    have hsz : (D.alloc (.cells #[.string ⟨tl.toArray⟩, .int .i64 v.k, .int .i64 v.n, .string v.s, .slice A1 n1 c1, .slice A2 n2 c2] 61)).heap.size = D.heap.size + 1 := by show (D.heap.push _).size = _; simp
                    have hsrc := own_src (size := 6) (own_laterB HOD.out hal) hkn
                    have hone : ∀ u ∈ cs.drop (k * 6), u.oneCell' = true := fun u hu => HCD.out.one u (List.mem_of_mem_drop hu)
                    have hlen : (cs.drop (k * 6)).length = (ms.length - k) * 6 := by
                      have h1 : cs.length = ms.length * 6 := HOD.out.1
                      rw [List.length_drop, h1, ← Nat.sub_mul]
                    have hms8 : ms.length ≤ 1000000 := by omega
                    have hM : 1 + (ms.length - k) ≤ maxLen := by simp only [maxLen]; omega
                    have hby : (1 + (ms.length - k)) * 96 ≤ 140737488355328 := by omega
                    refine step_append_opt rfl _ _ 33 rfl D.heap.size 61 i0 _ 6 96 Tryz.underlying33 hi hz0 hz1 hz2 rfl (by decide) _ 1 [.string ⟨tl.toArray⟩, .int .i64 v.k, .int .i64 v.n, .string v.s, .slice A1 n1 c1, .slice A2 n2 c2] rfl (own_new D D.heap.size 61 [.string ⟨tl.toArray⟩, .int .i64 v.k, .int .i64 v.n, .string v.s, .slice A1 n1 c1, .slice A2 n2 c2] 6 rfl (Nat.le_refl _)) _ (ms.length - k) (cs.drop (k * 6)) rfl hsrc hlen hone hM hby (by omega) ?_
                    intro v1 W1 ho1 hg1 hx1
                    have hb1 : Below D.heap.size D W1 := bel_grown hal hg1 (fun j hj => by obtain rfl := Option.some.inj hj; exact Nat.le_refl _)
                    obtain ⟨g1, cap1, rfl, hbg1⟩ := own_pos ho1 (by omega)
                    refine hK.out _ _ ?_ (fun hHeld => ?_)
                    · exact ObS.later HS0.out hb1
                    clear hK K hHeld
                    try simp only [List.getElem_toArray, List.getElem_cons_zero, List.getElem_cons_succ, Act.put, List.setIfInBounds_toArray, List.set_cons_zero, List.set_cons_succ]
                    refine PrintLast.wpAnyLast_ready (rs := [13]) (by kernel_rfl) (by simp) ?_
                    refine PrintLast.AllReadyL.cons_last rfl (by decide) (fun K hK => ?_) PrintLast.AllReadyL.nil
                    have hown1 := own_take (size := 6) (own_laterB HOD.out hb1) hkn
                    have hone2 : ∀ u ∈ [.string ⟨tl.toArray⟩, .int .i64 v.k, .int .i64 v.n, .string v.s, .slice A1 n1 c1, .slice A2 n2 c2] ++ cs.drop (k * 6), u.oneCell' = true := fun u hu => by
                      rcases List.mem_append.1 hu with hu | hu
                      · simp at hu
                        rcases hu with rfl | rfl | rfl | rfl | rfl | rfl <;> rfl
                      · exact hone u hu
                    have hM2 : k + (1 + (ms.length - k)) ≤ maxLen := by simp only [maxLen]; omega
                    have hby2 : (k + (1 + (ms.length - k))) * 96 ≤ 140737488355328 := by omega
                    have hVD : w.heap.size + 1 < D.heap.size := (Array.getElem?_eq_some_iff.1 HVD.out).1
                    have hs1 := hb1.size
                    refine step_append_own rfl _ _ 33 rfl (w.heap.size + 1 + 1) 61 i0 _ 6 96 Tryz.underlying33 hi hz0 hz1 hz2 rfl (by decide) _ k (cs.take (k * 6)) rfl hown1 ⟨g1, 0, none⟩ (1 + (ms.length - k)) cap1 _ rfl ho1.1 (ho1.cells (g := g1) rfl) hone2 hM2 hby2 (by omega) ?_
                    intro v2 W2 ho2 hg2 hx2
                    refine hK.out _ _ ?_
                    clear hK K
                    try simp only [List.getElem_toArray, List.getElem_cons_zero, List.getElem_cons_succ, Act.put, List.setIfInBounds_toArray, List.set_cons_zero, List.set_cons_succ]
                    obtain ⟨A7, c7, rfl⟩ := own_sliceB ho2
                    have htsz : (⟨tl.toArray⟩ : ByteArray).size ≤ 9223372036854775807 := by have := htn te; simp [ByteArray.size]; omega
                    have hins := RowIn.insert (T := 35) (E := 61) (Y := memTy) (i := 4) (mk := mkM) (N := w5.heap.size) (v2 := .slice A7 (k + (1 + (ms.length - k))) c7) rfl HVD.out HOD.out HCD.out (x := ((⟨tl.toArray⟩ : ByteArray), v)) (c6 := [.string ⟨tl.toArray⟩, .int .i64 v.k, .int .i64 v.n, .string v.s, .slice A1 n1 c1, .slice A2 n2 c2]) ⟨_, ⟨rfl, htsz⟩, HJD.out⟩ (by omega) (fun j hj => (HOW.out j hj).2) hkn hb1 hg2 hx2 ho2
                    have hob : ∀ j, (Value.slice A5 k c5).ownBlock = some j → w.heap.size + 1 < j := fun j hj => (HOW.out j (by cases A5 <;> exact hj)).1
                    have hg3 : W1.grownBy W2 (Value.slice A5 k c5).ownBlock := hg2
                    have hVW : W2.heap[w.heap.size + 1]? = some (.cells (mkM (.slice A5 ms.length c5)) 35 (0, 0)) :=
                      (hg3.block _ (by omega) (fun e => by have := hob _ e.symm; omega)).trans ((hb1.block _ hVD).trans HVD.out)
                    have w4 : W2.cell? ⟨w.heap.size + 1, 4, none⟩ = some (.slice A5 ms.length c5) := by rw [Lib.cell_of_heap hVW]; rfl
                    have f4 : W2.frozen? ⟨w.heap.size + 1, 4, none⟩ = false := by simp [World.frozen?, hVW]
                    have hpF := RdPost.setB (i := 4) (B := w.heap.size + 1) (RdPost.far (RdPost.below HPD.out hb1) hg3 (fun j hj => by have := hob j hj; omega) hR) (by omega) hR (.slice A7 (k + (1 + (ms.length - k))) c7)
                    have hbF : (W2.setCell ⟨w.heap.size + 1, 4, none⟩ (.slice A7 (k + (1 + (ms.length - k))) c7)).heap[w.heap.size]? = _ :=
                      (Below.heap_setCell _ _ _ _ (by show w.heap.size ≠ w.heap.size + 1; omega)).trans ((hg3.block _ (by omega) (fun e => by have := hob _ e.symm; omega)).trans ((hb1.block _ (by omega)).trans HBD.out))
                    have HPF := Lib.hid hpF; have HBF := Lib.hid hbF; have HRF := Lib.hid hins
                    clear hpF hbF hins hg3 hg2 hx2 ho2 hVW hob hown1 ho1 hg1 hx1 hb1 hs1 hsrc hal hsz hone hone2 hlen HOD HVD HCD HS0
                    refine PrintLast.wpAnyLast_any (i := 14) (v := ?_) rfl (Region.noSelect_spec (by kernel_rfl)) (fun _ _ _ h => h) _ _ _ _ (Region.free_spec rfl (by kernel_rfl)) (List.contains_iff_mem.1 (by kernel_rfl)) (Or.inl ⟨by kernel_rfl, ?_⟩) ?_
                    rotate_left
                    · (intro w; go_simp; try (with_reducible rfl))
                    try simp only [List.getElem_toArray, List.getElem_cons_zero, List.getElem_cons_succ, Act.put, List.setIfInBounds_toArray, List.set_cons_zero, List.set_cons_succ]
                    refine PrintLast.wpAnyLast_ready (rs := [15]) (by kernel_rfl) (by simp) ?_
                    refine PrintLast.AllReadyL.cons_last rfl (by decide) (fun K hK => ?_) PrintLast.AllReadyL.nil
                    rw [if_pos (by kernel_rfl)]
                    go_simp
                    refine hK.out _ _ ?_
                    clear hK K
                    try simp only [List.getElem_toArray, List.getElem_cons_zero, List.getElem_cons_succ, Act.put, List.setIfInBounds_toArray, List.set_cons_zero, List.set_cons_succ]
                    refine PrintLast.wpAnyLast_done (by kernel_rfl) ?_ _
                    generalize W2.setCell ⟨w.heap.size + 1, 4, none⟩ (.slice A7 (k + (1 + (ms.length - k))) c7) = WF at *
                    try generalize (if c5 = k then A5 else Option.map (fun x => x.add (k * 6)) A5) = A9
                    try simp only at hfe
                    have hiv : insR ((⟨tl.toArray⟩ : ByteArray), v) ms = ms.take k ++ ((⟨tl.toArray⟩ : ByteArray), v) :: ms.drop k := by unfold insR; rw [HK1.out]
                    have HNX := Lib.hid (rdnext_any R s 125 z WF hs hgd.2 HPF.out.1)
                    have hfwd := next_fwd (s := s) (c := 125) (y := z)
                    have hnp := next_p (s := s) (c := 125) hgd.2
                    have hze : (nextD s 125 z).1 = true → z.e = 0 := fun h => by
                      by_cases hz : z.e = 0
                      · exact hz
                      · rw [next_err hz] at h; cases h
                    have hne : (nextD s 125 z).1 = true → (nextD s 125 z).2.e = 0 := fun h => next_e (hze h) h
                    have hle : (nextD s 125 z).2.e = 0 → z.e = 0 := fun h => by
                      by_cases hz : z.e = 0
                      · exact hz
                      · rw [next_err hz] at h; exact absurd h hz
                    generalize nextD s 125 z = nx at *
                    obtain ⟨b8, y9⟩ := nx
                    simp only at *
                    go_wp2_with fail
                    refine Calls.mono HNX.out ?_
                    rintro e w9 ⟨rfl, hp9⟩
                    have HR9 := Lib.hid (HRF.out.kept hp9.2 hRV)
                    have HB9 := Lib.hid (hp9.keep (B := w.heap.size) HBF.out (by omega))
                    have HP9 := Lib.hid (RdPost.trans HPF.out hp9)
                    clear hp9 HNX HRF HBF HPF
                    cases b8 with
                    | true =>
                      have hv : v = v' := HEQ.out (hze rfl)
                      subst hv
                      rw [if_pos rfl, hiv] at hfe
                      have h1 := hfwd rfl
                      have h2 := hne rfl
                      have h3 := HTF.out
                      go_wp2_with fail
                      go_roundg g
                      case measure => omega
                      case rel => exact ⟨g, _, y9, .slice A7 (k + (1 + (ms.length - k))) c7, Nat.le_refl _, h2, hnp, by have h4 := h3.1; omega, by have h4 := h3.1; rw [List.length_append, List.length_cons, List.length_take, List.length_drop]; omega, HR9.out, HB9.out, HP9.out, hfe⟩
                    | false =>
                      rw [if_neg Bool.false_ne_true] at hfe
                      subst hfe
                      have HLE := Lib.hid hle
                      have HIV := Lib.hid hiv
                      clear hle hiv
                      obtain ⟨A5, c5, HRA⟩ : ∃ A5 c5, Hid (RowIn 35 61 memTy (w.heap.size + 1) mkM (.slice A5 (k + (1 + (ms.length - k))) c5) (ms.take k ++ ((⟨tl.toArray⟩ : ByteArray), v) :: ms.drop k) w9) := ⟨_, _, HR9⟩
                      clear HR9
                      obtain ⟨⟨b0, b1, b2, b3, b4⟩, ⟨g0, g1, g2, g3, g4⟩, hBw⟩ := cells5 HB9.out
                      obtain ⟨⟨v0, v1, v2, v3, v4⟩, _, hVw⟩ := cells5 (show w9.heap[w.heap.size + 1]? = some (.cells #[.int .i64 7, .int .i64 0, .string ⟨#[]⟩, .slice none 0 0, .slice A5 (k + (1 + (ms.length - k))) c5] 35 (0, 0)) from HRA.out.1)
                      have hf := set5 (.int .i64 7) (.int .i64 0) (.string ⟨#[]⟩) (.slice none 0 0) (.slice A5 (k + (1 + (ms.length - k))) c5) HB9.out
                      have hr5 := RdPost.set5 HP9.out (B := w.heap.size) (Nat.le_refl _) hR (.int .i64 7) (.int .i64 0) (.string ⟨#[]⟩) (.slice none 0 0) (.slice A5 (k + (1 + (ms.length - k))) c5)
                      have hjj := row_jrM HRA.out (N := w.heap.size) (w' := (((((w9.setCell ⟨w.heap.size, 0, none⟩ (.int .i64 7)).setCell ⟨w.heap.size, 1, none⟩ (.int .i64 0)).setCell ⟨w.heap.size, 2, none⟩ (.string ⟨#[]⟩)).setCell ⟨w.heap.size, 3, none⟩ (.slice none 0 0)).setCell ⟨w.heap.size, 4, none⟩ (.slice A5 (k + (1 + (ms.length - k))) c5))) (by omega) (fun b hb => set5_other _ _ _ _ _ (by omega))
                      have HF5 := Lib.hid hf; have HR5 := Lib.hid hr5; have HJJ := Lib.hid hjj
                      clear hf hr5 hjj
                      go_wp2_with fail
                      exact bodyPost_ret (results_cell_row rfl _ _ w.heap.size 35 #[.int .i64 7, .int .i64 0, .string ⟨#[]⟩, .slice none 0 0, .slice A5 (k + (1 + (ms.length - k))) c5] (0, 0) _ rfl HF5.out Tryz.underlying35 rfl (by kernel_rfl)) rfl ⟨objV ((ms.take k ++ ((⟨tl.toArray⟩ : ByteArray), v) :: ms.drop k)), none, 0, 0, A5, (k + (1 + (ms.length - k))), c5, rfl, HJJ.out, fun he => by rw [← HEQ.out (HLE.out he), HIV.out], HR5.out⟩
                  · have d58 : (((byteAt s u.p).toNat : Int) != 58) = true := by
                      have : (byteAt s u.p).toNat ≠ 58 := fun e => h58 (UInt8.toNat.inj e)
                      simp; omega
                    rw [if_pos (show byteAt s u.p ≠ 58 from h58)] at hfe
                    subst hfe
                    clear HFE2 h58
                    generalize byteAt s u.p = b9 at *
                    have HFL := Lib.hid (fun n => rdfail_lit R s u 4 (w5.drewN n) (HP5.out.1.drewN n))
                    go_wp2_with fail
                    go_quiet (fail)
                    go_wp2_with fail
                    go_quiet (fail)
                    go_wp2_with fail
                    refine Calls.mono (HFL.out _) ?_
                    rintro e w8 ⟨rfl, hp8⟩
                    have HB8 := Lib.hid (hp8.keep (B := w.heap.size) (show (w5.drewN _).heap[w.heap.size]? = _ from HB5.out) (by omega))
                    have HR8 := Lib.hid (RdPost.trans (RdPost.drewN HP5.out _) hp8)
                    have HJ8 := Lib.hid (show JR w8 (fun b => w.heap.size + 1 ≤ b) zeroV [.int .i64 0, .int .i64 0, .string ⟨#[]⟩, .slice none 0 0, .slice none 0 0] from flat_jr _ _ 0)
                    clear hp8 HFL
                    obtain ⟨⟨b0, b1, b2, b3, b4⟩, ⟨g0, g1, g2, g3, g4⟩, hBw⟩ := cells5 HB8.out
                    have hf := set5 (.int .i64 0) (.int .i64 0) (.string ⟨#[]⟩) (.slice none 0 0) (.slice none 0 0) HB8.out
                    have hr5 := RdPost.set5 HR8.out (B := w.heap.size) (Nat.le_refl _) hR (.int .i64 0) (.int .i64 0) (.string ⟨#[]⟩) (.slice none 0 0) (.slice none 0 0)
                    have hjj := JR_mono (F' := fun b => w.heap.size ≤ b) (fun b hb => Nat.le_of_succ_le hb) _ _ (JR_frame (w' := (((((w8.setCell ⟨w.heap.size, 0, none⟩ (.int .i64 0)).setCell ⟨w.heap.size, 1, none⟩ (.int .i64 0)).setCell ⟨w.heap.size, 2, none⟩ (.string ⟨#[]⟩)).setCell ⟨w.heap.size, 3, none⟩ (.slice none 0 0)).setCell ⟨w.heap.size, 4, none⟩ (.slice none 0 0))) (fun b (hb : w.heap.size + 1 ≤ b) => set5_other _ _ _ _ _ (by omega)) _ _ HJ8.out)
                    have HF5 := Lib.hid hf; have HR5 := Lib.hid hr5; have HJJ := Lib.hid hjj
                    clear hf hr5 hjj
                    go_wp2_with fail
                    exact bodyPost_ret (results_cell_row rfl _ _ w.heap.size 35 #[.int .i64 0, .int .i64 0, .string ⟨#[]⟩, .slice none 0 0, .slice none 0 0] (0, 0) _ rfl HF5.out Tryz.underlying35 rfl (by kernel_rfl)) rfl ⟨zeroV, none, 0, 0, none, 0, 0, rfl, HJJ.out, fun _ => rfl, HR5.out⟩
          · have te0 : (ty.e == 0) = false := by simpa using te
            rw [if_neg (show ¬ (ty.e = 0 ∧ dupR ⟨tl.toArray⟩ ms = true) from fun h => te h.1)] at hfe
            have HSK2 := Lib.hid (rdskip_any R s ty wr hs HP4.out.1)
            have hue : (ty.blanks s).e ≠ 0 := te
            generalize ty.blanks s = u at *
            rw [if_pos hue] at hfe
            have due : (u.e != 0) = true := by simpa using hue
            subst hfe
            rcases hF with ⟨nk, b, o, rfl, ⟨dk, dk2, hk0, hkz⟩, m0, hls, deq⟩ | ⟨_, dk, dk2, hkz⟩
            all_goals
              go_wp2_with fail
              refine Calls.mono HSK2.out ?_
              rintro e w5 ⟨rfl, hp5⟩
              have HROW5 := Lib.hid (HROW4.out.kept hp5.2 hRV)
              have HB5 := Lib.hid (hp5.keep (B := w.heap.size) HB4.out (by omega))
              have HP5 := Lib.hid (HP4.out.trans hp5)
              clear hp5 HSK2 HROW4 HB4 HP4 l0 l1 l2 f1 hRw v0 v1 v2 v3 v4 hVw
              try clear m0
              obtain ⟨l0, l1, l2, _, f1, _, hRw⟩ := HP5.out.1.cells
              obtain ⟨A5, c5, HRA⟩ : ∃ A5 c5, Hid (RowIn 35 61 memTy (w.heap.size + 1) mkM (.slice A5 ms.length c5) ms w5) := ⟨_, _, HROW5⟩
              clear HROW5
              obtain ⟨⟨b0, b1, b2, b3, b4⟩, ⟨g0, g1, g2, g3, g4⟩, hBw⟩ := cells5 HB5.out
              obtain ⟨⟨v0, v1, v2, v3, v4⟩, _, hVw⟩ := cells5 (show w5.heap[w.heap.size + 1]? = some (.cells #[.int .i64 7, .int .i64 0, .string ⟨#[]⟩, .slice none 0 0, .slice A5 ms.length c5] 35 (0, 0)) from HRA.out.1)
              have hf := set5 (.int .i64 7) (.int .i64 0) (.string ⟨#[]⟩) (.slice none 0 0) (.slice A5 ms.length c5) HB5.out
              have hr5 := RdPost.set5 HP5.out (B := w.heap.size) (Nat.le_refl _) hR (.int .i64 7) (.int .i64 0) (.string ⟨#[]⟩) (.slice none 0 0) (.slice A5 ms.length c5)
              have hjj := row_jrM HRA.out (N := w.heap.size) (w' := (((((w5.setCell ⟨w.heap.size, 0, none⟩ (.int .i64 7)).setCell ⟨w.heap.size, 1, none⟩ (.int .i64 0)).setCell ⟨w.heap.size, 2, none⟩ (.string ⟨#[]⟩)).setCell ⟨w.heap.size, 3, none⟩ (.slice none 0 0)).setCell ⟨w.heap.size, 4, none⟩ (.slice A5 ms.length c5))) (by omega) (fun b hb => set5_other _ _ _ _ _ (by omega))
              have HF5 := Lib.hid hf; have HR5 := Lib.hid hr5; have HJJ := Lib.hid hjj
              clear hf hr5 hjj
              go_wp2_with fail
              exact bodyPost_ret (results_cell_row rfl _ _ w.heap.size 35 #[.int .i64 7, .int .i64 0, .string ⟨#[]⟩, .slice none 0 0, .slice A5 ms.length c5] (0, 0) _ rfl HF5.out Tryz.underlying35 rfl (by kernel_rfl)) rfl ⟨objV ms, none, 0, 0, A5, ms.length, c5, rfl, HJJ.out, fun _ => rfl, HR5.out⟩
end Go.Proofs.YtjjgbgojlhaapaaGreatDoor
