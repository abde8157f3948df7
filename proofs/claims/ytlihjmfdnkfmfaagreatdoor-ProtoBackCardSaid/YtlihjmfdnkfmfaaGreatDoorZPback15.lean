/- Parts of the proof: Vv. -/
import Derived.Test.YtlihjmfdnkfmfaaGreatDoorZPback14
namespace Go.Proofs.YtlihjmfdnkfmfaaGreatDoor
open Go.RowKit Go.Lib

theorem flat_jr (w : World) (F : Nat → Prop) (k : Int) : JR w F (.mk k 0 ⟨#[]⟩ [] []) [.int .i64 k, .int .i64 0, .string ⟨#[]⟩, .slice none 0 0, .slice none 0 0] := by
  exact JR_iff.2 ⟨.slice none 0 0, .slice none 0 0, ⟨rfl, by simp [JV.s, ByteArray.size]⟩, .inl ⟨rfl, none, 0, rfl⟩, .inl ⟨rfl, none, 0, rfl⟩⟩
theorem num_jr (w : World) (F : Nat → Prop) (m : Int) : JR w F (numV m) [.int .i64 4, .int .i64 m, .string ⟨#[]⟩, .slice none 0 0, .slice none 0 0] := by
  exact JR_iff.2 ⟨.slice none 0 0, .slice none 0 0, ⟨rfl, by simp [numV, JV.s, ByteArray.size]⟩, .inl ⟨rfl, none, 0, rfl⟩, .inl ⟨rfl, none, 0, rfl⟩⟩
theorem word_jr (w : World) (F : Nat → Prop) {nm : ByteArray} (h : nm.size ≤ 9223372036854775807) : JR w F (wordV nm) [.int .i64 5, .int .i64 0, .string nm, .slice none 0 0, .slice none 0 0] := by
  exact JR_iff.2 ⟨.slice none 0 0, .slice none 0 0, ⟨rfl, by simpa [wordV, JV.s] using h⟩, .inl ⟨rfl, none, 0, rfl⟩, .inl ⟨rfl, none, 0, rfl⟩⟩

set_option maxRecDepth 100000 in
set_option maxHeartbeats 8000000 in
theorem value_none (s : ByteArray) (hs : s.size ≤ 1000000) : ValAt s 0 (valueB s 0) := by
  intro w0 R x w hT h0 hR0 hx0 hxp h
  have hR := h.cells.2.2.2.2.2.2
  have hA : Below w.heap.size w (w.alloc (.cells #[.int .i64 0, .int .i64 0, .string ⟨#[]⟩, .slice none 0 0, .slice none 0 0] 43)) := bel_alloc (Below.refl _ _) _
  have hb0 := heap_alloc_new w (.cells #[.int .i64 0, .int .i64 0, .string ⟨#[]⟩, .slice none 0 0, .slice none 0 0] 43)
  have hp0 := RdPost.below h.post hA
  have hsee := see_any R s x _ hs hp0.1
  have hsb := see_bd hxp
  have hsa := see_at (s := s) (x := x)
  have hE : valueB s 0 x = (if (x.see s).2.e ≠ 0 then (zeroV, (x.see s).2)
    else if opens.contains (x.see s).1 then (zeroV, (x.see s).2.fail 10)
    else numberB s (x.see s).2) := rfl
  have HB0 := Lib.hid hb0; have HP0 := Lib.hid hp0; have HSEE := Lib.hid hsee; have HT := Lib.hid hT; have H0 := Lib.hid h0
  clear hA hb0 hp0 hsee hT h0 h
  generalize valueB s 0 x = res at *
  generalize x.see s = r at *
  obtain ⟨ch, y⟩ := r
  simp only at *
  have HE := Lib.hid hE; have HSA := Lib.hid hsa
  clear hE hsa
  have hdd : decide (((0 : Nat) : Int) < 1) = true := rfl
  have hix := fun W => idx_any ⟨#[91, 123, 34, 45, 48, 49, 50, 51, 52, 53, 54, 55, 56, 57, 116, 102, 110]⟩ ch W
  rw [show (⟨#[91, 123, 34, 45, 48, 49, 50, 51, 52, 53, 54, 55, 56, 57, 116, 102, 110]⟩ : ByteArray).data.toList = opens from rfl] at hix
  have hii := idx_iff opens ch
  have HIX := Lib.hid hix
  clear hix
  go_enter Tryz.func67, Tryz.ntmps67
  go_wp2_with fail
  refine Calls.mono HSEE.out ?_
  rintro e w2 ⟨rfl, hp2⟩
  have hbk2 := hp2.keep (B := w.heap.size) HB0.out (by omega)
  have hpp2 := HP0.out.trans hp2
  obtain ⟨l0, l1, l2, _, f1, _, hRw⟩ := hpp2.1.cells
  have HB2 := Lib.hid hbk2; have HP2 := Lib.hid hpp2
  have hgr : w0.heap.size ≤ w.heap.size := H0.out.size
  have hbw := H0.out.grown HP2.out.2 H0.out.size (fun j hj => by have := Option.some.inj hj; omega)
  have htw := HT.out.below hbw
  have HBW := Lib.hid hbw; have HTW := Lib.hid htw
  clear hp2 hbk2 hpp2 HSEE HP0 HB0 hbw htw
  by_cases hy : y.e = 0
  case neg =>
    have dy : (y.e != 0) = true := by simpa using hy
    have hfe := HE.out
    rw [if_pos hy] at hfe
    subst hfe
    clear HE
    obtain ⟨⟨b0, b1, b2, b3, b4⟩, ⟨g0, g1, g2, g3, g4⟩, hBw⟩ := cells5 HB2.out
    have hf := set5 (.int .i64 0) (.int .i64 0) (.string ⟨#[]⟩) (.slice none 0 0) (.slice none 0 0) HB2.out
    have hr5 := RdPost.set5 HP2.out (B := w.heap.size) (Nat.le_refl _) hR (.int .i64 0) (.int .i64 0) (.string ⟨#[]⟩) (.slice none 0 0) (.slice none 0 0)
    have hjj : JR (((((w2.setCell ⟨w.heap.size, 0, none⟩ (.int .i64 0)).setCell ⟨w.heap.size, 1, none⟩ (.int .i64 0)).setCell ⟨w.heap.size, 2, none⟩ (.string ⟨#[]⟩)).setCell ⟨w.heap.size, 3, none⟩ (.slice none 0 0)).setCell ⟨w.heap.size, 4, none⟩ (.slice none 0 0)) (fun b => w.heap.size ≤ b) zeroV [.int .i64 0, .int .i64 0, .string ⟨#[]⟩, .slice none 0 0, .slice none 0 0] := zero_jr _ _
    have HF5 := Lib.hid hf; have HR5 := Lib.hid hr5; have HJJ := Lib.hid hjj
    clear hf hr5 hjj
    go_wp2_with fail
    exact bodyPost_ret (results_cell_row rfl _ _ w.heap.size 43 #[.int .i64 0, .int .i64 0, .string ⟨#[]⟩, .slice none 0 0, .slice none 0 0] (0, 0) _ rfl HF5.out Tryz.underlying43 rfl (by kernel_rfl)) rfl ⟨zeroV, none, 0, 0, none, 0, 0, rfl, HJJ.out, fun _ => rfl, HR5.out⟩
  case pos =>
    have dy : (y.e != 0) = false := by simp [hy]
    have hfe := HE.out
    rw [if_neg (by simpa using hy)] at hfe
    have hyx : x.e = 0 := hx0
    have HFE := Lib.hid hfe
    have HYE := Lib.hid hy
    clear hfe HE hy hx0 hyx
    by_cases hop : opens.contains ch = true
    case pos =>
      have hfe := HFE.out
      rw [if_pos hop] at hfe
      have hge : decide (0 ≤ Lib.indexByte opens ch) = true := decide_eq_true (hii.2 hop)
      clear hii hop
      have hfl := fun n => fail_any R s y 10 (w2.drewN n) (HP2.out.1.drewN n)
      have HFL := Lib.hid hfl
      clear hfl HFE
      subst hfe
      go_wp2_with fail
      refine Calls.mono (HIX.out _) ?_
      rintro e W ⟨rfl, hW⟩
      rw [hW]
      clear hW
      go_wp2_with fail
      refine Calls.mono (HFL.out 0) ?_
      rintro e w3 ⟨rfl, hp3⟩
      have hb3 := hp3.keep (B := w.heap.size) HB2.out (by omega)
      have hpp3 := HP2.out.trans hp3
      have HB3 := Lib.hid hb3; have HP3 := Lib.hid hpp3
      clear hp3 hb3 hpp3 l0 l1 l2 f1
      obtain ⟨⟨b0, b1, b2, b3, b4⟩, ⟨g0, g1, g2, g3, g4⟩, hBw⟩ := cells5 HB3.out
      have hf := set5 (.int .i64 0) (.int .i64 0) (.string ⟨#[]⟩) (.slice none 0 0) (.slice none 0 0) HB3.out
      have hr5 := RdPost.set5 HP3.out (B := w.heap.size) (Nat.le_refl _) hR (.int .i64 0) (.int .i64 0) (.string ⟨#[]⟩) (.slice none 0 0) (.slice none 0 0)
      have hjj : JR (((((w3.setCell ⟨w.heap.size, 0, none⟩ (.int .i64 0)).setCell ⟨w.heap.size, 1, none⟩ (.int .i64 0)).setCell ⟨w.heap.size, 2, none⟩ (.string ⟨#[]⟩)).setCell ⟨w.heap.size, 3, none⟩ (.slice none 0 0)).setCell ⟨w.heap.size, 4, none⟩ (.slice none 0 0)) (fun b => w.heap.size ≤ b) zeroV [.int .i64 0, .int .i64 0, .string ⟨#[]⟩, .slice none 0 0, .slice none 0 0] := zero_jr _ _
      have HF5 := Lib.hid hf; have HR5 := Lib.hid hr5; have HJJ := Lib.hid hjj
      clear hf hr5 hjj
      go_wp2_with fail
      exact bodyPost_ret (results_cell_row rfl _ _ w.heap.size 43 #[.int .i64 0, .int .i64 0, .string ⟨#[]⟩, .slice none 0 0, .slice none 0 0] (0, 0) _ rfl HF5.out Tryz.underlying43 rfl (by kernel_rfl)) rfl ⟨zeroV, none, 0, 0, none, 0, 0, rfl, HJJ.out, fun _ => rfl, HR5.out⟩
    have hge : decide (0 ≤ Lib.indexByte opens ch) = false := by
      have : ¬ 0 ≤ Lib.indexByte opens ch := fun h => hop (hii.1 h)
      simpa using this
    have hfe := HFE.out
    rw [if_neg hop] at hfe
    have hne : ∀ c : UInt8, opens.contains c = true → ((ch.toNat : Int) == (c.toNat : Int)) = false := fun c hc => by
      have : ch.toNat ≠ c.toNat := fun h => hop (by rw [UInt8.toNat_inj.1 h]; exact hc)
      simp; omega
    have d91 : ((ch.toNat : Int) == 91) = false := hne 91 (by decide)
    have d123 : ((ch.toNat : Int) == 123) = false := hne 123 (by decide)
    have d34 : ((ch.toNat : Int) == 34) = false := hne 34 (by decide)
    have d116 : ((ch.toNat : Int) == 116) = false := hne 116 (by decide)
    have d102 : ((ch.toNat : Int) == 102) = false := hne 102 (by decide)
    have d110 : ((ch.toNat : Int) == 110) = false := hne 110 (by decide)
    have HFE := Lib.hid hfe
    clear hfe hii hop hne
    go_wp2_with fail
    refine Calls.mono (HIX.out _) ?_
    rintro e W ⟨rfl, hW⟩
    rw [hW]
    clear hW
    have hnum := number_json R s y w2 hs (by omega) HP2.out.1
    have hfe := HFE.out
    have HNUM := Lib.hid hnum
    clear hnum HFE
    generalize numberB s y = nb at *
    subst hfe
    go_wp2_with fail
    refine Calls.mono HNUM.out ?_
    rintro e w3 ⟨m, hnb, he, hp3⟩
    have he' : e = .returned (.agg #[.int .i64 4, .int .i64 m, .string ⟨#[]⟩, .slice none 0 0, .slice none 0 0]) := he
    subst he'
    have HNB := Lib.hid hnb.out
    have hb3 := hp3.keep (B := w.heap.size) HB2.out (by omega)
    have hpp3 := HP2.out.trans hp3
    have HB3 := Lib.hid hb3; have HP3 := Lib.hid hpp3
    clear he hp3 hb3 hpp3 hnb l0 l1 l2 f1
    obtain ⟨⟨b0, b1, b2, b3, b4⟩, ⟨g0, g1, g2, g3, g4⟩, hBw⟩ := cells5 HB3.out
    have hf := set5 (.int .i64 4) (.int .i64 m) (.string ⟨#[]⟩) (.slice none 0 0) (.slice none 0 0) HB3.out
    have hr5 := RdPost.set5 HP3.out (B := w.heap.size) (Nat.le_refl _) hR (.int .i64 4) (.int .i64 m) (.string ⟨#[]⟩) (.slice none 0 0) (.slice none 0 0)
    have hjj : JR (((((w3.setCell ⟨w.heap.size, 0, none⟩ (.int .i64 4)).setCell ⟨w.heap.size, 1, none⟩ (.int .i64 m)).setCell ⟨w.heap.size, 2, none⟩ (.string ⟨#[]⟩)).setCell ⟨w.heap.size, 3, none⟩ (.slice none 0 0)).setCell ⟨w.heap.size, 4, none⟩ (.slice none 0 0)) (fun b => w.heap.size ≤ b) (numV m) [.int .i64 4, .int .i64 m, .string ⟨#[]⟩, .slice none 0 0, .slice none 0 0] := num_jr _ _ m
    have HF5 := Lib.hid hf; have HR5 := Lib.hid hr5; have HJJ := Lib.hid hjj
    clear hf hr5 hjj
    go_wp2_with fail
    exact bodyPost_ret (results_cell_row rfl _ _ w.heap.size 43 #[.int .i64 4, .int .i64 m, .string ⟨#[]⟩, .slice none 0 0, .slice none 0 0] (0, 0) _ rfl HF5.out Tryz.underlying43 rfl (by kernel_rfl)) rfl ⟨(numV m), none, 0, 0, none, 0, 0, rfl, HJJ.out, fun _ => by rw [HNB.out], HR5.out⟩

set_option maxRecDepth 100000 in
set_option maxHeartbeats 8000000 in
theorem value_step (s : ByteArray) (hs : s.size ≤ 1000000) (d : Nat) (hd : d ≤ 100) (ih : ValAt s d (valueB s d)) : ValAt s (d + 1) (valueB s (d + 1)) := by
  intro w0 R x w hT h0 hR0 hx0 hxp h
  have hR := h.cells.2.2.2.2.2.2
  have hA : Below w.heap.size w (w.alloc (.cells #[.int .i64 0, .int .i64 0, .string ⟨#[]⟩, .slice none 0 0, .slice none 0 0] 43)) := bel_alloc (Below.refl _ _) _
  have hb0 := heap_alloc_new w (.cells #[.int .i64 0, .int .i64 0, .string ⟨#[]⟩, .slice none 0 0, .slice none 0 0] 43)
  have hp0 := RdPost.below h.post hA
  have hsee := see_any R s x _ hs hp0.1
  have hsb := see_bd hxp
  have hsa := see_at (s := s) (x := x)
  have hE : valueB s (d + 1) x = (if (x.see s).2.e ≠ 0 then (zeroV, (x.see s).2)
    else if (x.see s).1 = 91 then listB s (valueB s d) (x.see s).2
    else if (x.see s).1 = 123 then objectB s (valueB s d) (x.see s).2
    else if (x.see s).1 = 34 then (wordV ⟨(textB s (x.see s).2).1.toArray⟩, (textB s (x.see s).2).2)
    else if (x.see s).1 = 116 then wordB s [116, 114, 117, 101] 3 (x.see s).2
    else if (x.see s).1 = 102 then wordB s [102, 97, 108, 115, 101] 2 (x.see s).2
    else if (x.see s).1 = 110 then wordB s [110, 117, 108, 108] 1 (x.see s).2
    else numberB s (x.see s).2) := rfl
  have HB0 := Lib.hid hb0; have HP0 := Lib.hid hp0; have HSEE := Lib.hid hsee; have HT := Lib.hid hT; have H0 := Lib.hid h0
  clear hA hb0 hp0 hsee hT h0 h
  generalize valueB s (d + 1) x = res at *
  generalize x.see s = r at *
  obtain ⟨ch, y⟩ := r
  simp only at *
  have HE := Lib.hid hE; have HSA := Lib.hid hsa
  clear hE hsa
  have hdd : decide (((d : Int) + 1) < 1) = false := by simp; omega
  rw [show (((d + 1 : Nat) : Int)) = (d : Int) + 1 from by simp]
  go_enter Tryz.func67, Tryz.ntmps67
  go_wp2_with fail
  refine Calls.mono HSEE.out ?_
  rintro e w2 ⟨rfl, hp2⟩
  have hbk2 := hp2.keep (B := w.heap.size) HB0.out (by omega)
  have hpp2 := HP0.out.trans hp2
  obtain ⟨l0, l1, l2, _, f1, _, hRw⟩ := hpp2.1.cells
  have HB2 := Lib.hid hbk2; have HP2 := Lib.hid hpp2
  have hgr : w0.heap.size ≤ w.heap.size := H0.out.size
  have hbw := H0.out.grown HP2.out.2 H0.out.size (fun j hj => by have := Option.some.inj hj; omega)
  have htw := HT.out.below hbw
  have HBW := Lib.hid hbw; have HTW := Lib.hid htw
  clear hp2 hbk2 hpp2 HSEE HP0 HB0 hbw htw
  by_cases hy : y.e = 0
  case neg =>
    have dy : (y.e != 0) = true := by simpa using hy
    have hfe := HE.out
    rw [if_pos hy] at hfe
    subst hfe
    clear HE
    obtain ⟨⟨b0, b1, b2, b3, b4⟩, ⟨g0, g1, g2, g3, g4⟩, hBw⟩ := cells5 HB2.out
    have hf := set5 (.int .i64 0) (.int .i64 0) (.string ⟨#[]⟩) (.slice none 0 0) (.slice none 0 0) HB2.out
    have hr5 := RdPost.set5 HP2.out (B := w.heap.size) (Nat.le_refl _) hR (.int .i64 0) (.int .i64 0) (.string ⟨#[]⟩) (.slice none 0 0) (.slice none 0 0)
    have hjj : JR (((((w2.setCell ⟨w.heap.size, 0, none⟩ (.int .i64 0)).setCell ⟨w.heap.size, 1, none⟩ (.int .i64 0)).setCell ⟨w.heap.size, 2, none⟩ (.string ⟨#[]⟩)).setCell ⟨w.heap.size, 3, none⟩ (.slice none 0 0)).setCell ⟨w.heap.size, 4, none⟩ (.slice none 0 0)) (fun b => w.heap.size ≤ b) zeroV [.int .i64 0, .int .i64 0, .string ⟨#[]⟩, .slice none 0 0, .slice none 0 0] := zero_jr _ _
    have HF5 := Lib.hid hf; have HR5 := Lib.hid hr5; have HJJ := Lib.hid hjj
    clear hf hr5 hjj
    go_wp2_with fail
    exact bodyPost_ret (results_cell_row rfl _ _ w.heap.size 43 #[.int .i64 0, .int .i64 0, .string ⟨#[]⟩, .slice none 0 0, .slice none 0 0] (0, 0) _ rfl HF5.out Tryz.underlying43 rfl (by kernel_rfl)) rfl ⟨zeroV, none, 0, 0, none, 0, 0, rfl, HJJ.out, fun _ => rfl, HR5.out⟩
  case pos =>
    have dy : (y.e != 0) = false := by simp [hy]
    have hfe := HE.out
    rw [if_neg (by simpa using hy)] at hfe
    have hyx : x.e = 0 := hx0
    have HFE := Lib.hid hfe
    have HYE := Lib.hid hy
    clear hfe HE hy hx0 hyx
    by_cases h91 : ch = 91
    case pos =>
      subst h91
      have d91 : (((91 : UInt8).toNat : Int)) = 91 := rfl
      try rw [d91]
      have hfe := HFE.out
      rw [if_pos rfl] at hfe
      have hlt := (HSA.out (by decide)).1
      have hcl := list_any_json s d (valueB s d) ih hd hs (value_good s d) w0 R y w2 HT.out HBW.out hR0 HYE.out hlt HP2.out.1
      have HCL := Lib.hid hcl
      clear hcl HFE
      generalize listB s (valueB s d) y = nb at *
      subst hfe
      go_wp2_with fail
      refine Calls.mono HCL.out ?_
      rintro e w3 ⟨v, A1, n1, c1, A2, n2, c2, rfl, hjr, heq, hp3⟩
      have hsz3 := HP2.out.2.size
      have hb3 := hp3.keep (B := w.heap.size) HB2.out (by omega)
      have hpp3 := HP2.out.trans hp3
      have hwb : w.heap.size < w2.heap.size := (Array.getElem?_eq_some_iff.1 HB2.out).1
      have HB3 := Lib.hid hb3; have HP3 := Lib.hid hpp3; have HJR := Lib.hid hjr; have HEQ := Lib.hid heq
      clear hp3 hb3 hpp3 hjr heq l0 l1 l2 f1
      obtain ⟨⟨b0, b1, b2, b3, b4⟩, ⟨g0, g1, g2, g3, g4⟩, hBw⟩ := cells5 HB3.out
      have hf := set5 (.int .i64 v.k) (.int .i64 v.n) (.string v.s) (.slice A1 n1 c1) (.slice A2 n2 c2) HB3.out
      have hr5 := RdPost.set5 HP3.out (B := w.heap.size) (Nat.le_refl _) hR (.int .i64 v.k) (.int .i64 v.n) (.string v.s) (.slice A1 n1 c1) (.slice A2 n2 c2)
      have hjj : JR (((((w3.setCell ⟨w.heap.size, 0, none⟩ (.int .i64 v.k)).setCell ⟨w.heap.size, 1, none⟩ (.int .i64 v.n)).setCell ⟨w.heap.size, 2, none⟩ (.string v.s)).setCell ⟨w.heap.size, 3, none⟩ (.slice A1 n1 c1)).setCell ⟨w.heap.size, 4, none⟩ (.slice A2 n2 c2)) (fun b => w.heap.size ≤ b) v [.int .i64 v.k, .int .i64 v.n, .string v.s, .slice A1 n1 c1, .slice A2 n2 c2] := JR_mono (fun b hb => by omega) _ _ (JR_frame (w := w3) (F := fun b => w2.heap.size ≤ b) (fun b hb => set5_other _ _ _ _ _ (by omega)) _ _ HJR.out)
      have HF5 := Lib.hid hf; have HR5 := Lib.hid hr5; have HJJ := Lib.hid hjj
      clear hf hr5 hjj
      go_wp2_with fail
      exact bodyPost_ret (results_cell_row rfl _ _ w.heap.size 43 #[.int .i64 v.k, .int .i64 v.n, .string v.s, .slice A1 n1 c1, .slice A2 n2 c2] (0, 0) _ rfl HF5.out Tryz.underlying43 rfl (by kernel_rfl)) rfl ⟨v, _, _, _, _, _, _, rfl, HJJ.out, HEQ.out, HR5.out⟩
    have d91 : ((ch.toNat : Int) == 91) = false := by
      have : ch.toNat ≠ 91 := fun h => h91 (UInt8.toNat_inj.1 h)
      simp; omega
    by_cases h123 : ch = 123
    case pos =>
      subst h123
      have d123 : (((123 : UInt8).toNat : Int)) = 123 := rfl
      try rw [d123]
      have hfe := HFE.out
      repeat rw [if_neg (by decide)] at hfe
      rw [if_pos rfl] at hfe
      have hlt := (HSA.out (by decide)).1
      have hcl := object_any_json s d (valueB s d) ih hd hs (value_good s d) w0 R y w2 HT.out HBW.out hR0 HYE.out hlt HP2.out.1
      have HCL := Lib.hid hcl
      clear hcl HFE
      generalize objectB s (valueB s d) y = nb at *
      subst hfe
      go_wp2_with fail
      refine Calls.mono HCL.out ?_
      rintro e w3 ⟨v, A1, n1, c1, A2, n2, c2, rfl, hjr, heq, hp3⟩
      have hsz3 := HP2.out.2.size
      have hb3 := hp3.keep (B := w.heap.size) HB2.out (by omega)
      have hpp3 := HP2.out.trans hp3
      have hwb : w.heap.size < w2.heap.size := (Array.getElem?_eq_some_iff.1 HB2.out).1
      have HB3 := Lib.hid hb3; have HP3 := Lib.hid hpp3; have HJR := Lib.hid hjr; have HEQ := Lib.hid heq
      clear hp3 hb3 hpp3 hjr heq l0 l1 l2 f1
      obtain ⟨⟨b0, b1, b2, b3, b4⟩, ⟨g0, g1, g2, g3, g4⟩, hBw⟩ := cells5 HB3.out
      have hf := set5 (.int .i64 v.k) (.int .i64 v.n) (.string v.s) (.slice A1 n1 c1) (.slice A2 n2 c2) HB3.out
      have hr5 := RdPost.set5 HP3.out (B := w.heap.size) (Nat.le_refl _) hR (.int .i64 v.k) (.int .i64 v.n) (.string v.s) (.slice A1 n1 c1) (.slice A2 n2 c2)
      have hjj : JR (((((w3.setCell ⟨w.heap.size, 0, none⟩ (.int .i64 v.k)).setCell ⟨w.heap.size, 1, none⟩ (.int .i64 v.n)).setCell ⟨w.heap.size, 2, none⟩ (.string v.s)).setCell ⟨w.heap.size, 3, none⟩ (.slice A1 n1 c1)).setCell ⟨w.heap.size, 4, none⟩ (.slice A2 n2 c2)) (fun b => w.heap.size ≤ b) v [.int .i64 v.k, .int .i64 v.n, .string v.s, .slice A1 n1 c1, .slice A2 n2 c2] := JR_mono (fun b hb => by omega) _ _ (JR_frame (w := w3) (F := fun b => w2.heap.size ≤ b) (fun b hb => set5_other _ _ _ _ _ (by omega)) _ _ HJR.out)
      have HF5 := Lib.hid hf; have HR5 := Lib.hid hr5; have HJJ := Lib.hid hjj
      clear hf hr5 hjj
      go_wp2_with fail
      exact bodyPost_ret (results_cell_row rfl _ _ w.heap.size 43 #[.int .i64 v.k, .int .i64 v.n, .string v.s, .slice A1 n1 c1, .slice A2 n2 c2] (0, 0) _ rfl HF5.out Tryz.underlying43 rfl (by kernel_rfl)) rfl ⟨v, _, _, _, _, _, _, rfl, HJJ.out, HEQ.out, HR5.out⟩
    have d123 : ((ch.toNat : Int) == 123) = false := by
      have : ch.toNat ≠ 123 := fun h => h123 (UInt8.toNat_inj.1 h)
      simp; omega
    by_cases h34 : ch = 34
    case pos =>
      subst h34
      have d34 : (((34 : UInt8).toNat : Int)) = 34 := rfl
      try rw [d34]
      have hfe := HFE.out
      repeat rw [if_neg (by decide)] at hfe
      rw [if_pos rfl] at hfe
      have htx := text_json R s y w2 hs (fun _ => by omega) HTW.out.u8 HP2.out.1
      have htl : (textB s y).1.length ≤ 4 * s.size := by
        unfold textB
        split
        · exact Nat.zero_le _
        · exact unquote_len s _ (by omega)
      have HTX := Lib.hid htx
      clear htx HFE
      generalize textB s y = t at *
      obtain ⟨tl, u⟩ := t
      simp only at hfe htl
      have hnz : (⟨tl.toArray⟩ : ByteArray).size ≤ 9223372036854775807 := by simp [ByteArray.size]; omega
      subst hfe
      go_wp2_with fail
      refine Calls.mono HTX.out ?_
      rintro e w3 ⟨rfl, hp3⟩
      try simp only at hp3
      generalize (⟨tl.toArray⟩ : ByteArray) = nm at *
      have hb3 := hp3.keep (B := w.heap.size) HB2.out (by omega)
      have hpp3 := HP2.out.trans hp3
      have HB3 := Lib.hid hb3; have HP3 := Lib.hid hpp3
      clear hp3 hb3 hpp3 l0 l1 l2 f1
      obtain ⟨⟨b0, b1, b2, b3, b4⟩, ⟨g0, g1, g2, g3, g4⟩, hBw⟩ := cells5 HB3.out
      have hf := set5 (.int .i64 5) (.int .i64 0) (.string nm) (.slice none 0 0) (.slice none 0 0) HB3.out
      have hr5 := RdPost.set5 HP3.out (B := w.heap.size) (Nat.le_refl _) hR (.int .i64 5) (.int .i64 0) (.string nm) (.slice none 0 0) (.slice none 0 0)
      have hjj : JR (((((w3.setCell ⟨w.heap.size, 0, none⟩ (.int .i64 5)).setCell ⟨w.heap.size, 1, none⟩ (.int .i64 0)).setCell ⟨w.heap.size, 2, none⟩ (.string nm)).setCell ⟨w.heap.size, 3, none⟩ (.slice none 0 0)).setCell ⟨w.heap.size, 4, none⟩ (.slice none 0 0)) (fun b => w.heap.size ≤ b) (wordV nm) [.int .i64 5, .int .i64 0, .string nm, .slice none 0 0, .slice none 0 0] := word_jr _ _ hnz
      have HF5 := Lib.hid hf; have HR5 := Lib.hid hr5; have HJJ := Lib.hid hjj
      clear hf hr5 hjj
      go_wp2_with fail
      exact bodyPost_ret (results_cell_row rfl _ _ w.heap.size 43 #[.int .i64 5, .int .i64 0, .string nm, .slice none 0 0, .slice none 0 0] (0, 0) _ rfl HF5.out Tryz.underlying43 rfl (by kernel_rfl)) rfl ⟨(wordV nm), none, 0, 0, none, 0, 0, rfl, HJJ.out, fun _ => rfl, HR5.out⟩
    have d34 : ((ch.toNat : Int) == 34) = false := by
      have : ch.toNat ≠ 34 := fun h => h34 (UInt8.toNat_inj.1 h)
      simp; omega
    by_cases h116 : ch = 116
    case pos =>
      subst h116
      have d116 : (((116 : UInt8).toNat : Int)) = 116 := rfl
      try rw [d116]
      have hfe := HFE.out
      repeat rw [if_neg (by decide)] at hfe
      rw [if_pos rfl] at hfe
      have hwd := word_any R s ⟨#[116, 114, 117, 101]⟩ 3 y w2 hs (by decide) (by omega) HP2.out.1
      rw [show (⟨#[116, 114, 117, 101]⟩ : ByteArray).data.toList = [116, 114, 117, 101] from rfl] at hwd
      have hkk : (wordB s [116, 114, 117, 101] 3 y).1 = .mk (if (wordIn s [116, 114, 117, 101] y).1 then 3 else 0) 0 ⟨#[]⟩ [] [] := by
        unfold wordB
        cases (wordIn s [116, 114, 117, 101] y).1 <;> rfl
      have HWD := Lib.hid hwd; have HKK := Lib.hid hkk
      clear hwd hkk HFE
      generalize (if (wordIn s [116, 114, 117, 101] y).1 then (3 : Int) else 0) = kk at *
      generalize wordB s [116, 114, 117, 101] 3 y = nb at *
      subst hfe
      go_wp2_with fail
      refine Calls.mono HWD.out ?_
      rintro e w3 ⟨he, hp3⟩
      have he' : e = .returned (.agg #[.int .i64 kk, .int .i64 0, .string ⟨#[]⟩, .slice none 0 0, .slice none 0 0]) := he
      subst he'
      have hb3 := hp3.keep (B := w.heap.size) HB2.out (by omega)
      have hpp3 := HP2.out.trans hp3
      have HB3 := Lib.hid hb3; have HP3 := Lib.hid hpp3
      clear he hp3 hb3 hpp3 l0 l1 l2 f1
      obtain ⟨⟨b0, b1, b2, b3, b4⟩, ⟨g0, g1, g2, g3, g4⟩, hBw⟩ := cells5 HB3.out
      have hf := set5 (.int .i64 kk) (.int .i64 0) (.string ⟨#[]⟩) (.slice none 0 0) (.slice none 0 0) HB3.out
      have hr5 := RdPost.set5 HP3.out (B := w.heap.size) (Nat.le_refl _) hR (.int .i64 kk) (.int .i64 0) (.string ⟨#[]⟩) (.slice none 0 0) (.slice none 0 0)
      have hjj : JR (((((w3.setCell ⟨w.heap.size, 0, none⟩ (.int .i64 kk)).setCell ⟨w.heap.size, 1, none⟩ (.int .i64 0)).setCell ⟨w.heap.size, 2, none⟩ (.string ⟨#[]⟩)).setCell ⟨w.heap.size, 3, none⟩ (.slice none 0 0)).setCell ⟨w.heap.size, 4, none⟩ (.slice none 0 0)) (fun b => w.heap.size ≤ b) (.mk kk 0 ⟨#[]⟩ [] []) [.int .i64 kk, .int .i64 0, .string ⟨#[]⟩, .slice none 0 0, .slice none 0 0] := flat_jr _ _ kk
      have HF5 := Lib.hid hf; have HR5 := Lib.hid hr5; have HJJ := Lib.hid hjj
      clear hf hr5 hjj
      go_wp2_with fail
      exact bodyPost_ret (results_cell_row rfl _ _ w.heap.size 43 #[.int .i64 kk, .int .i64 0, .string ⟨#[]⟩, .slice none 0 0, .slice none 0 0] (0, 0) _ rfl HF5.out Tryz.underlying43 rfl (by kernel_rfl)) rfl ⟨(.mk kk 0 ⟨#[]⟩ [] []), none, 0, 0, none, 0, 0, rfl, HJJ.out, fun _ => HKK.out.symm, HR5.out⟩
    have d116 : ((ch.toNat : Int) == 116) = false := by
      have : ch.toNat ≠ 116 := fun h => h116 (UInt8.toNat_inj.1 h)
      simp; omega
    by_cases h102 : ch = 102
    case pos =>
      subst h102
      have d102 : (((102 : UInt8).toNat : Int)) = 102 := rfl
      try rw [d102]
      have hfe := HFE.out
      repeat rw [if_neg (by decide)] at hfe
      rw [if_pos rfl] at hfe
      have hwd := word_any R s ⟨#[102, 97, 108, 115, 101]⟩ 2 y w2 hs (by decide) (by omega) HP2.out.1
      rw [show (⟨#[102, 97, 108, 115, 101]⟩ : ByteArray).data.toList = [102, 97, 108, 115, 101] from rfl] at hwd
      have hkk : (wordB s [102, 97, 108, 115, 101] 2 y).1 = .mk (if (wordIn s [102, 97, 108, 115, 101] y).1 then 2 else 0) 0 ⟨#[]⟩ [] [] := by
        unfold wordB
        cases (wordIn s [102, 97, 108, 115, 101] y).1 <;> rfl
      have HWD := Lib.hid hwd; have HKK := Lib.hid hkk
      clear hwd hkk HFE
      generalize (if (wordIn s [102, 97, 108, 115, 101] y).1 then (2 : Int) else 0) = kk at *
      generalize wordB s [102, 97, 108, 115, 101] 2 y = nb at *
      subst hfe
      go_wp2_with fail
      refine Calls.mono HWD.out ?_
      rintro e w3 ⟨he, hp3⟩
      have he' : e = .returned (.agg #[.int .i64 kk, .int .i64 0, .string ⟨#[]⟩, .slice none 0 0, .slice none 0 0]) := he
      subst he'
      have hb3 := hp3.keep (B := w.heap.size) HB2.out (by omega)
      have hpp3 := HP2.out.trans hp3
      have HB3 := Lib.hid hb3; have HP3 := Lib.hid hpp3
      clear he hp3 hb3 hpp3 l0 l1 l2 f1
      obtain ⟨⟨b0, b1, b2, b3, b4⟩, ⟨g0, g1, g2, g3, g4⟩, hBw⟩ := cells5 HB3.out
      have hf := set5 (.int .i64 kk) (.int .i64 0) (.string ⟨#[]⟩) (.slice none 0 0) (.slice none 0 0) HB3.out
      have hr5 := RdPost.set5 HP3.out (B := w.heap.size) (Nat.le_refl _) hR (.int .i64 kk) (.int .i64 0) (.string ⟨#[]⟩) (.slice none 0 0) (.slice none 0 0)
      have hjj : JR (((((w3.setCell ⟨w.heap.size, 0, none⟩ (.int .i64 kk)).setCell ⟨w.heap.size, 1, none⟩ (.int .i64 0)).setCell ⟨w.heap.size, 2, none⟩ (.string ⟨#[]⟩)).setCell ⟨w.heap.size, 3, none⟩ (.slice none 0 0)).setCell ⟨w.heap.size, 4, none⟩ (.slice none 0 0)) (fun b => w.heap.size ≤ b) (.mk kk 0 ⟨#[]⟩ [] []) [.int .i64 kk, .int .i64 0, .string ⟨#[]⟩, .slice none 0 0, .slice none 0 0] := flat_jr _ _ kk
      have HF5 := Lib.hid hf; have HR5 := Lib.hid hr5; have HJJ := Lib.hid hjj
      clear hf hr5 hjj
      go_wp2_with fail
      exact bodyPost_ret (results_cell_row rfl _ _ w.heap.size 43 #[.int .i64 kk, .int .i64 0, .string ⟨#[]⟩, .slice none 0 0, .slice none 0 0] (0, 0) _ rfl HF5.out Tryz.underlying43 rfl (by kernel_rfl)) rfl ⟨(.mk kk 0 ⟨#[]⟩ [] []), none, 0, 0, none, 0, 0, rfl, HJJ.out, fun _ => HKK.out.symm, HR5.out⟩
    have d102 : ((ch.toNat : Int) == 102) = false := by
      have : ch.toNat ≠ 102 := fun h => h102 (UInt8.toNat_inj.1 h)
      simp; omega
    by_cases h110 : ch = 110
    case pos =>
      subst h110
      have d110 : (((110 : UInt8).toNat : Int)) = 110 := rfl
      try rw [d110]
      have hfe := HFE.out
      repeat rw [if_neg (by decide)] at hfe
      rw [if_pos rfl] at hfe
      have hwd := word_any R s ⟨#[110, 117, 108, 108]⟩ 1 y w2 hs (by decide) (by omega) HP2.out.1
      rw [show (⟨#[110, 117, 108, 108]⟩ : ByteArray).data.toList = [110, 117, 108, 108] from rfl] at hwd
      have hkk : (wordB s [110, 117, 108, 108] 1 y).1 = .mk (if (wordIn s [110, 117, 108, 108] y).1 then 1 else 0) 0 ⟨#[]⟩ [] [] := by
        unfold wordB
        cases (wordIn s [110, 117, 108, 108] y).1 <;> rfl
      have HWD := Lib.hid hwd; have HKK := Lib.hid hkk
      clear hwd hkk HFE
      generalize (if (wordIn s [110, 117, 108, 108] y).1 then (1 : Int) else 0) = kk at *
      generalize wordB s [110, 117, 108, 108] 1 y = nb at *
      subst hfe
      go_wp2_with fail
      refine Calls.mono HWD.out ?_
      rintro e w3 ⟨he, hp3⟩
      have he' : e = .returned (.agg #[.int .i64 kk, .int .i64 0, .string ⟨#[]⟩, .slice none 0 0, .slice none 0 0]) := he
      subst he'
      have hb3 := hp3.keep (B := w.heap.size) HB2.out (by omega)
      have hpp3 := HP2.out.trans hp3
      have HB3 := Lib.hid hb3; have HP3 := Lib.hid hpp3
      clear he hp3 hb3 hpp3 l0 l1 l2 f1
      obtain ⟨⟨b0, b1, b2, b3, b4⟩, ⟨g0, g1, g2, g3, g4⟩, hBw⟩ := cells5 HB3.out
      have hf := set5 (.int .i64 kk) (.int .i64 0) (.string ⟨#[]⟩) (.slice none 0 0) (.slice none 0 0) HB3.out
      have hr5 := RdPost.set5 HP3.out (B := w.heap.size) (Nat.le_refl _) hR (.int .i64 kk) (.int .i64 0) (.string ⟨#[]⟩) (.slice none 0 0) (.slice none 0 0)
      have hjj : JR (((((w3.setCell ⟨w.heap.size, 0, none⟩ (.int .i64 kk)).setCell ⟨w.heap.size, 1, none⟩ (.int .i64 0)).setCell ⟨w.heap.size, 2, none⟩ (.string ⟨#[]⟩)).setCell ⟨w.heap.size, 3, none⟩ (.slice none 0 0)).setCell ⟨w.heap.size, 4, none⟩ (.slice none 0 0)) (fun b => w.heap.size ≤ b) (.mk kk 0 ⟨#[]⟩ [] []) [.int .i64 kk, .int .i64 0, .string ⟨#[]⟩, .slice none 0 0, .slice none 0 0] := flat_jr _ _ kk
      have HF5 := Lib.hid hf; have HR5 := Lib.hid hr5; have HJJ := Lib.hid hjj
      clear hf hr5 hjj
      go_wp2_with fail
      exact bodyPost_ret (results_cell_row rfl _ _ w.heap.size 43 #[.int .i64 kk, .int .i64 0, .string ⟨#[]⟩, .slice none 0 0, .slice none 0 0] (0, 0) _ rfl HF5.out Tryz.underlying43 rfl (by kernel_rfl)) rfl ⟨(.mk kk 0 ⟨#[]⟩ [] []), none, 0, 0, none, 0, 0, rfl, HJJ.out, fun _ => HKK.out.symm, HR5.out⟩
    have d110 : ((ch.toNat : Int) == 110) = false := by
      have : ch.toNat ≠ 110 := fun h => h110 (UInt8.toNat_inj.1 h)
      simp; omega
    have hfe := HFE.out
    rw [if_neg h91, if_neg h123, if_neg h34, if_neg h116, if_neg h102, if_neg h110] at hfe
    have HFE := Lib.hid hfe
    clear hfe
    have hnum := number_json R s y w2 hs (by omega) HP2.out.1
    have hfe := HFE.out
    have HNUM := Lib.hid hnum
    clear hnum HFE
    generalize numberB s y = nb at *
    subst hfe
    go_wp2_with fail
    refine Calls.mono HNUM.out ?_
    rintro e w3 ⟨m, hnb, he, hp3⟩
    have he' : e = .returned (.agg #[.int .i64 4, .int .i64 m, .string ⟨#[]⟩, .slice none 0 0, .slice none 0 0]) := he
    subst he'
    have HNB := Lib.hid hnb.out
    have hb3 := hp3.keep (B := w.heap.size) HB2.out (by omega)
    have hpp3 := HP2.out.trans hp3
    have HB3 := Lib.hid hb3; have HP3 := Lib.hid hpp3
    clear he hp3 hb3 hpp3 hnb l0 l1 l2 f1
    obtain ⟨⟨b0, b1, b2, b3, b4⟩, ⟨g0, g1, g2, g3, g4⟩, hBw⟩ := cells5 HB3.out
    have hf := set5 (.int .i64 4) (.int .i64 m) (.string ⟨#[]⟩) (.slice none 0 0) (.slice none 0 0) HB3.out
    have hr5 := RdPost.set5 HP3.out (B := w.heap.size) (Nat.le_refl _) hR (.int .i64 4) (.int .i64 m) (.string ⟨#[]⟩) (.slice none 0 0) (.slice none 0 0)
    have hjj : JR (((((w3.setCell ⟨w.heap.size, 0, none⟩ (.int .i64 4)).setCell ⟨w.heap.size, 1, none⟩ (.int .i64 m)).setCell ⟨w.heap.size, 2, none⟩ (.string ⟨#[]⟩)).setCell ⟨w.heap.size, 3, none⟩ (.slice none 0 0)).setCell ⟨w.heap.size, 4, none⟩ (.slice none 0 0)) (fun b => w.heap.size ≤ b) (numV m) [.int .i64 4, .int .i64 m, .string ⟨#[]⟩, .slice none 0 0, .slice none 0 0] := num_jr _ _ m
    have HF5 := Lib.hid hf; have HR5 := Lib.hid hr5; have HJJ := Lib.hid hjj
    clear hf hr5 hjj
    go_wp2_with fail
    exact bodyPost_ret (results_cell_row rfl _ _ w.heap.size 43 #[.int .i64 4, .int .i64 m, .string ⟨#[]⟩, .slice none 0 0, .slice none 0 0] (0, 0) _ rfl HF5.out Tryz.underlying43 rfl (by kernel_rfl)) rfl ⟨(numV m), none, 0, 0, none, 0, 0, rfl, HJJ.out, fun _ => by rw [HNB.out], HR5.out⟩

theorem value_at (s : ByteArray) (hs : s.size ≤ 1000000) : ∀ d, d ≤ 101 → ValAt s d (valueB s d)
  | 0, _ => value_none s hs
  | d + 1, h => value_step s hs d (by omega) (value_at s hs d (by omega))
end Go.Proofs.YtlihjmfdnkfmfaaGreatDoor
