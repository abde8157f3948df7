/- Parts of the proof: Dv, Ot. -/
import Derived.Test.YtjjgbgojlhaapaaGreatDoorZReads30
import Derived.Test.YtjjgbgojlhaapaaGreatDoorZReads15
import Derived.Test.YtjjgbgojlhaapaaGreatDoorZReads11
namespace Go.Proofs.YtjjgbgojlhaapaaGreatDoor
open Go.RowKit Go.Lib

def ListAtR (s : ByteArray) (op : Int) (pv : St → JV × St) : Prop := ∀ (R : Nat) (x : St) (w : World), x.e = 0 → x.p < s.size → RdAt 74 R s x.p x.e w →
  Calls Tryz.prog 54 #[.pointer (some ⟨R, 0, none⟩), .int .i64 op] w (VResR R s (listD s pv x) w)
def ObjAtR (s : ByteArray) (op : Int) (pv : St → JV × St) : Prop := ∀ (R : Nat) (x : St) (w : World), x.e = 0 → x.p < s.size → RdAt 74 R s x.p x.e w →
  Calls Tryz.prog 55 #[.pointer (some ⟨R, 0, none⟩), .int .i64 op] w (VResR R s (objectD s pv x) w)
theorem wordR_form (s : ByteArray) (l : List UInt8) (k : Int) (x : St) : ∃ k', (wordR s l k x).1 = .mk k' 0 ⟨#[]⟩ [] [] := by
  unfold wordR zeroV
  split
  · exact ⟨k, rfl⟩
  · exact ⟨0, rfl⟩
theorem numR_form (s : ByteArray) (x : St) : ∃ k n, (numR s x).1 = .mk k n ⟨#[]⟩ [] [] := by
  have ha : ∀ neg y, ∃ k n, (numAtR s neg y).1 = .mk k n ⟨#[]⟩ [] [] := fun neg y => by
    unfold numAtR numEndR zeroV numV
    repeat' split
    all_goals exact ⟨_, _, rfl⟩
  unfold numR
  split
  · exact ha _ _
  · exact ha _ _
set_option maxRecDepth 100000 in
set_option maxHeartbeats 32000000 in
theorem rdvalue_none (s : ByteArray)  (hs : s.size ≤ 1000000) : ValAtR s 64 (valueD s 0) := by
  intro R x w hx0 hxp h
  have hR := h.cells.2.2.2.2.2.2
  have hA : Below w.heap.size w (w.alloc (.cells #[.int .i64 0, .int .i64 0, .string ⟨#[]⟩, .slice none 0 0, .slice none 0 0] 35)) := bel_alloc (Below.refl _ _) _
  have hb0 := heap_alloc_new w (.cells #[.int .i64 0, .int .i64 0, .string ⟨#[]⟩, .slice none 0 0, .slice none 0 0] 35)
  have hp0 := RdPost.below h.post hA
  have hsk := rdskip_any R s x _ hs hp0.1
  have hbl := blanks_le (s := s) hxp
  have hye : (x.blanks s).e = 0 := hx0
  have hE : valueD s 0 x = if s.size ≤ (x.blanks s).p then (zeroV, (x.blanks s).fail 2) else if opens.contains (byteAt s (x.blanks s).p) = false then (zeroV, (x.blanks s).fail 4) else (zeroV, (x.blanks s).fail 10) := rfl
  have HB0 := Lib.hid hb0; have HP0 := Lib.hid hp0; have HSK := Lib.hid hsk
  clear hA hb0 hp0 hsk h
  generalize valueD s 0 x = res at *
  generalize x.blanks s = y at *
  have HE := Lib.hid hE
  clear hE
  go_enter Tryz.func29, Tryz.ntmps29
  go_wp2_with fail
  refine Calls.mono HSK.out ?_
  rintro e w2 ⟨rfl, hp2⟩
  have HB2 := Lib.hid (hp2.keep (B := w.heap.size) HB0.out (by omega))
  have HP2 := Lib.hid (HP0.out.trans hp2)
  have hsz2 : w.heap.size + 1 ≤ w2.heap.size := by
    have := (Array.getElem?_eq_some_iff.1 HB2.out).1
    omega
  obtain ⟨l0, l1, l2, _, f1, _, hRw⟩ := HP2.out.1.cells
  clear hp2 HSK HP0 HB0
  by_cases h1 : s.size ≤ y.p
  · have d1 : ((y.p : Int) == (s.size : Int)) = true := by simp; omega
    have hres : res = (zeroV, y.fail 2) := by rw [HE.out, if_pos h1]
    subst hres
    clear HE
    have HFL := Lib.hid (fun n => rdfail_lit R s y 2 (w2.drewN n) (HP2.out.1.drewN n))
    go_wp2_with fail
    go_quiet (fail)
    have HFL2 := Lib.hid (fun n => rdfail_lit R s y 2 (w2.drewN n) (HP2.out.1.drewN n))
    go_wp2_with fail
    refine Calls.mono (HFL2.out _) ?_
    rintro e w3 ⟨rfl, hp3⟩
    have HB3 := Lib.hid (hp3.keep (B := w.heap.size) (show (w2.drewN _).heap[w.heap.size]? = _ from HB2.out) (by omega))
    have HR3 := Lib.hid (RdPost.trans (RdPost.drewN HP2.out _) hp3)
    have HJ3 := Lib.hid (show JR w3 (fun b => w.heap.size + 1 ≤ b) zeroV [.int .i64 0, .int .i64 0, .string ⟨#[]⟩, .slice none 0 0, .slice none 0 0] from flat_jr _ _ 0)
    clear hp3 HFL2 HFL
    obtain ⟨⟨b0, b1, b2, b3, b4⟩, ⟨g0, g1, g2, g3, g4⟩, hBw⟩ := cells5 HB3.out
    have hf := set5 (.int .i64 0) (.int .i64 0) (.string ⟨#[]⟩) (.slice none 0 0) (.slice none 0 0) HB3.out
    have hr5 := RdPost.set5 HR3.out (B := w.heap.size) (Nat.le_refl _) hR (.int .i64 0) (.int .i64 0) (.string ⟨#[]⟩) (.slice none 0 0) (.slice none 0 0)
    have hjj := JR_mono (F' := fun b => w.heap.size ≤ b) (fun b hb => Nat.le_of_succ_le hb) _ _ (JR_frame (w' := (((((w3.setCell ⟨w.heap.size, 0, none⟩ (.int .i64 0)).setCell ⟨w.heap.size, 1, none⟩ (.int .i64 0)).setCell ⟨w.heap.size, 2, none⟩ (.string ⟨#[]⟩)).setCell ⟨w.heap.size, 3, none⟩ (.slice none 0 0)).setCell ⟨w.heap.size, 4, none⟩ (.slice none 0 0))) (fun b (hb : w.heap.size + 1 ≤ b) => set5_other _ _ _ _ _ (by omega)) _ _ HJ3.out)
    have HF5 := Lib.hid hf; have HR5 := Lib.hid hr5; have HJJ := Lib.hid hjj
    clear hf hr5 hjj
    go_wp2_with fail
    exact bodyPost_ret (results_cell_row rfl _ _ w.heap.size 35 #[.int .i64 0, .int .i64 0, .string ⟨#[]⟩, .slice none 0 0, .slice none 0 0] (0, 0) _ rfl HF5.out Tryz.underlying35 rfl (by kernel_rfl)) rfl ⟨zeroV, none, 0, 0, none, 0, 0, rfl, HJJ.out, fun _ => rfl, HR5.out⟩
  · have d1 : ((y.p : Int) == (s.size : Int)) = false := by simp; omega
    have hE := HE.out
    rw [if_neg h1] at hE
    have hq0 : (0 : Int) ≤ (y.p : Int) := by omega
    have hqs : (y.p : Int) < (s.size : Int) := by omega
    have hyl : y.p < s.size := by omega
    have hgb := get_byte hyl
    have HBG := Lib.hid (fun W => begins_any (byteAt s y.p) W)
    have HCE := Lib.hid (fun k : UInt8 => (⟨fun h => by rw [h], fun h => UInt8.toNat.inj h⟩ : byteAt s y.p = k ↔ (byteAt s y.p).toNat = k.toNat))
    have HHE := Lib.hid hE
    clear HE hE
    generalize byteAt s y.p = c at *
    go_wp2_with fail
    go_quiet (fail)
    go_wp2_with fail
    go_quiet (fail)
    go_wp2_with fail
    refine Calls.mono (HBG.out _) ?_
    rintro e w2' ⟨rfl, rfl⟩
    have HBD := Lib.hid (fun n => (show (w2.drewN n).heap[w.heap.size]? = _ from HB2.out))
    have HPD := Lib.hid (fun n => RdPost.drewN HP2.out n)
    clear HB2 HP2 hgb
    cases hop : opens.contains c with
    | false =>
      have hres : res = (zeroV, y.fail 4) := by rw [HHE.out, if_pos hop]
      subst hres
      clear HHE hop
      have HFL := Lib.hid (fun n => rdfail_lit R s y 4 (w2.drewN n) (HPD.out n).1)
      go_wp2_with fail
      refine Calls.mono (HFL.out _) ?_
      rintro e w3 ⟨rfl, hp3⟩
      have HB3 := Lib.hid (hp3.keep (B := w.heap.size) (HBD.out _) (by omega))
      have HR3 := Lib.hid (RdPost.trans (HPD.out _) hp3)
      have HJ3 := Lib.hid (show JR w3 (fun b => w.heap.size + 1 ≤ b) zeroV [.int .i64 0, .int .i64 0, .string ⟨#[]⟩, .slice none 0 0, .slice none 0 0] from flat_jr _ _ 0)
      clear hp3 HFL
      obtain ⟨⟨b0, b1, b2, b3, b4⟩, ⟨g0, g1, g2, g3, g4⟩, hBw⟩ := cells5 HB3.out
      have hf := set5 (.int .i64 0) (.int .i64 0) (.string ⟨#[]⟩) (.slice none 0 0) (.slice none 0 0) HB3.out
      have hr5 := RdPost.set5 HR3.out (B := w.heap.size) (Nat.le_refl _) hR (.int .i64 0) (.int .i64 0) (.string ⟨#[]⟩) (.slice none 0 0) (.slice none 0 0)
      have hjj := JR_mono (F' := fun b => w.heap.size ≤ b) (fun b hb => Nat.le_of_succ_le hb) _ _ (JR_frame (w' := (((((w3.setCell ⟨w.heap.size, 0, none⟩ (.int .i64 0)).setCell ⟨w.heap.size, 1, none⟩ (.int .i64 0)).setCell ⟨w.heap.size, 2, none⟩ (.string ⟨#[]⟩)).setCell ⟨w.heap.size, 3, none⟩ (.slice none 0 0)).setCell ⟨w.heap.size, 4, none⟩ (.slice none 0 0))) (fun b (hb : w.heap.size + 1 ≤ b) => set5_other _ _ _ _ _ (by omega)) _ _ HJ3.out)
      have HF5 := Lib.hid hf; have HR5 := Lib.hid hr5; have HJJ := Lib.hid hjj
      clear hf hr5 hjj
      go_wp2_with fail
      exact bodyPost_ret (results_cell_row rfl _ _ w.heap.size 35 #[.int .i64 0, .int .i64 0, .string ⟨#[]⟩, .slice none 0 0, .slice none 0 0] (0, 0) _ rfl HF5.out Tryz.underlying35 rfl (by kernel_rfl)) rfl ⟨zeroV, none, 0, 0, none, 0, 0, rfl, HJJ.out, fun _ => rfl, HR5.out⟩
    | true =>
      have hE := HHE.out
      rw [if_neg (by rw [hop]; decide)] at hE
      clear HHE hop
      subst hE
      have d64 : ((64 : Int) == 64) = true := rfl
      have HFL := Lib.hid (fun n => rdfail_lit R s y 10 (w2.drewN n) (HPD.out n).1)
      go_wp2_with fail
      refine Calls.mono (HFL.out _) ?_
      rintro e w3 ⟨rfl, hp3⟩
      have HB3 := Lib.hid (hp3.keep (B := w.heap.size) (HBD.out _) (by omega))
      have HR3 := Lib.hid (RdPost.trans (HPD.out _) hp3)
      have HJ3 := Lib.hid (show JR w3 (fun b => w.heap.size + 1 ≤ b) zeroV [.int .i64 0, .int .i64 0, .string ⟨#[]⟩, .slice none 0 0, .slice none 0 0] from flat_jr _ _ 0)
      clear hp3 HFL
      obtain ⟨⟨b0, b1, b2, b3, b4⟩, ⟨g0, g1, g2, g3, g4⟩, hBw⟩ := cells5 HB3.out
      have hf := set5 (.int .i64 0) (.int .i64 0) (.string ⟨#[]⟩) (.slice none 0 0) (.slice none 0 0) HB3.out
      have hr5 := RdPost.set5 HR3.out (B := w.heap.size) (Nat.le_refl _) hR (.int .i64 0) (.int .i64 0) (.string ⟨#[]⟩) (.slice none 0 0) (.slice none 0 0)
      have hjj := JR_mono (F' := fun b => w.heap.size ≤ b) (fun b hb => Nat.le_of_succ_le hb) _ _ (JR_frame (w' := (((((w3.setCell ⟨w.heap.size, 0, none⟩ (.int .i64 0)).setCell ⟨w.heap.size, 1, none⟩ (.int .i64 0)).setCell ⟨w.heap.size, 2, none⟩ (.string ⟨#[]⟩)).setCell ⟨w.heap.size, 3, none⟩ (.slice none 0 0)).setCell ⟨w.heap.size, 4, none⟩ (.slice none 0 0))) (fun b (hb : w.heap.size + 1 ≤ b) => set5_other _ _ _ _ _ (by omega)) _ _ HJ3.out)
      have HF5 := Lib.hid hf; have HR5 := Lib.hid hr5; have HJJ := Lib.hid hjj
      clear hf hr5 hjj
      go_wp2_with fail
      exact bodyPost_ret (results_cell_row rfl _ _ w.heap.size 35 #[.int .i64 0, .int .i64 0, .string ⟨#[]⟩, .slice none 0 0, .slice none 0 0] (0, 0) _ rfl HF5.out Tryz.underlying35 rfl (by kernel_rfl)) rfl ⟨zeroV, none, 0, 0, none, 0, 0, rfl, HJJ.out, fun _ => rfl, HR5.out⟩
set_option maxRecDepth 100000 in
set_option maxHeartbeats 32000000 in
theorem rdvalue_step (s : ByteArray) (o : Int) (ho : 0 ≤ o ∧ o < 64) (d : Nat) (hl : ListAtR s (o + 1) (valueD s d)) (hob : ObjAtR s (o + 1) (valueD s d)) (hs : s.size ≤ 1000000) : ValAtR s o (valueD s (d + 1)) := by
  intro R x w hx0 hxp h
  have hR := h.cells.2.2.2.2.2.2
  have hA : Below w.heap.size w (w.alloc (.cells #[.int .i64 0, .int .i64 0, .string ⟨#[]⟩, .slice none 0 0, .slice none 0 0] 35)) := bel_alloc (Below.refl _ _) _
  have hb0 := heap_alloc_new w (.cells #[.int .i64 0, .int .i64 0, .string ⟨#[]⟩, .slice none 0 0, .slice none 0 0] 35)
  have hp0 := RdPost.below h.post hA
  have hsk := rdskip_any R s x _ hs hp0.1
  have hbl := blanks_le (s := s) hxp
  have hye : (x.blanks s).e = 0 := hx0
  have hE : valueD s (d + 1) x = if s.size ≤ (x.blanks s).p then (zeroV, (x.blanks s).fail 2) else if opens.contains (byteAt s (x.blanks s).p) = false then (zeroV, (x.blanks s).fail 4) else if byteAt s (x.blanks s).p = 110 then wordR s [110, 117, 108, 108] 1 (x.blanks s) else if byteAt s (x.blanks s).p = 102 then wordR s [102, 97, 108, 115, 101] 2 (x.blanks s) else if byteAt s (x.blanks s).p = 116 then wordR s [116, 114, 117, 101] 3 (x.blanks s) else if byteAt s (x.blanks s).p = 34 then (wordV ⟨(textD s (x.blanks s)).1.toArray⟩, (textD s (x.blanks s)).2) else if byteAt s (x.blanks s).p = 91 then listD s (valueD s d) (x.blanks s) else if byteAt s (x.blanks s).p = 123 then objectD s (valueD s d) (x.blanks s) else numR s (x.blanks s) := rfl
  have HB0 := Lib.hid hb0; have HP0 := Lib.hid hp0; have HSK := Lib.hid hsk
  clear hA hb0 hp0 hsk h
  generalize valueD s (d + 1) x = res at *
  generalize x.blanks s = y at *
  have HE := Lib.hid hE
  clear hE
  go_enter Tryz.func29, Tryz.ntmps29
  go_wp2_with fail
  refine Calls.mono HSK.out ?_
  rintro e w2 ⟨rfl, hp2⟩
  have HB2 := Lib.hid (hp2.keep (B := w.heap.size) HB0.out (by omega))
  have HP2 := Lib.hid (HP0.out.trans hp2)
  have hsz2 : w.heap.size + 1 ≤ w2.heap.size := by
    have := (Array.getElem?_eq_some_iff.1 HB2.out).1
    omega
  obtain ⟨l0, l1, l2, _, f1, _, hRw⟩ := HP2.out.1.cells
  clear hp2 HSK HP0 HB0
  by_cases h1 : s.size ≤ y.p
  · have d1 : ((y.p : Int) == (s.size : Int)) = true := by simp; omega
    have hres : res = (zeroV, y.fail 2) := by rw [HE.out, if_pos h1]
    subst hres
    clear HE
    have HFL := Lib.hid (fun n => rdfail_lit R s y 2 (w2.drewN n) (HP2.out.1.drewN n))
    go_wp2_with fail
    go_quiet (fail)
    have HFL2 := Lib.hid (fun n => rdfail_lit R s y 2 (w2.drewN n) (HP2.out.1.drewN n))
    go_wp2_with fail
    refine Calls.mono (HFL2.out _) ?_
    rintro e w3 ⟨rfl, hp3⟩
    have HB3 := Lib.hid (hp3.keep (B := w.heap.size) (show (w2.drewN _).heap[w.heap.size]? = _ from HB2.out) (by omega))
    have HR3 := Lib.hid (RdPost.trans (RdPost.drewN HP2.out _) hp3)
    have HJ3 := Lib.hid (show JR w3 (fun b => w.heap.size + 1 ≤ b) zeroV [.int .i64 0, .int .i64 0, .string ⟨#[]⟩, .slice none 0 0, .slice none 0 0] from flat_jr _ _ 0)
    clear hp3 HFL2 HFL
    obtain ⟨⟨b0, b1, b2, b3, b4⟩, ⟨g0, g1, g2, g3, g4⟩, hBw⟩ := cells5 HB3.out
    have hf := set5 (.int .i64 0) (.int .i64 0) (.string ⟨#[]⟩) (.slice none 0 0) (.slice none 0 0) HB3.out
    have hr5 := RdPost.set5 HR3.out (B := w.heap.size) (Nat.le_refl _) hR (.int .i64 0) (.int .i64 0) (.string ⟨#[]⟩) (.slice none 0 0) (.slice none 0 0)
    have hjj := JR_mono (F' := fun b => w.heap.size ≤ b) (fun b hb => Nat.le_of_succ_le hb) _ _ (JR_frame (w' := (((((w3.setCell ⟨w.heap.size, 0, none⟩ (.int .i64 0)).setCell ⟨w.heap.size, 1, none⟩ (.int .i64 0)).setCell ⟨w.heap.size, 2, none⟩ (.string ⟨#[]⟩)).setCell ⟨w.heap.size, 3, none⟩ (.slice none 0 0)).setCell ⟨w.heap.size, 4, none⟩ (.slice none 0 0))) (fun b (hb : w.heap.size + 1 ≤ b) => set5_other _ _ _ _ _ (by omega)) _ _ HJ3.out)
    have HF5 := Lib.hid hf; have HR5 := Lib.hid hr5; have HJJ := Lib.hid hjj
    clear hf hr5 hjj
    go_wp2_with fail
    exact bodyPost_ret (results_cell_row rfl _ _ w.heap.size 35 #[.int .i64 0, .int .i64 0, .string ⟨#[]⟩, .slice none 0 0, .slice none 0 0] (0, 0) _ rfl HF5.out Tryz.underlying35 rfl (by kernel_rfl)) rfl ⟨zeroV, none, 0, 0, none, 0, 0, rfl, HJJ.out, fun _ => rfl, HR5.out⟩
  · have d1 : ((y.p : Int) == (s.size : Int)) = false := by simp; omega
    have hE := HE.out
    rw [if_neg h1] at hE
    have hq0 : (0 : Int) ≤ (y.p : Int) := by omega
    have hqs : (y.p : Int) < (s.size : Int) := by omega
    have hyl : y.p < s.size := by omega
    have hgb := get_byte hyl
    have HBG := Lib.hid (fun W => begins_any (byteAt s y.p) W)
    have HCE := Lib.hid (fun k : UInt8 => (⟨fun h => by rw [h], fun h => UInt8.toNat.inj h⟩ : byteAt s y.p = k ↔ (byteAt s y.p).toNat = k.toNat))
    have HHE := Lib.hid hE
    clear HE hE
    generalize byteAt s y.p = c at *
    go_wp2_with fail
    go_quiet (fail)
    go_wp2_with fail
    go_quiet (fail)
    go_wp2_with fail
    refine Calls.mono (HBG.out _) ?_
    rintro e w2' ⟨rfl, rfl⟩
    have HBD := Lib.hid (fun n => (show (w2.drewN n).heap[w.heap.size]? = _ from HB2.out))
    have HPD := Lib.hid (fun n => RdPost.drewN HP2.out n)
    clear HB2 HP2 hgb
    cases hop : opens.contains c with
    | false =>
      have hres : res = (zeroV, y.fail 4) := by rw [HHE.out, if_pos hop]
      subst hres
      clear HHE hop
      have HFL := Lib.hid (fun n => rdfail_lit R s y 4 (w2.drewN n) (HPD.out n).1)
      go_wp2_with fail
      refine Calls.mono (HFL.out _) ?_
      rintro e w3 ⟨rfl, hp3⟩
      have HB3 := Lib.hid (hp3.keep (B := w.heap.size) (HBD.out _) (by omega))
      have HR3 := Lib.hid (RdPost.trans (HPD.out _) hp3)
      have HJ3 := Lib.hid (show JR w3 (fun b => w.heap.size + 1 ≤ b) zeroV [.int .i64 0, .int .i64 0, .string ⟨#[]⟩, .slice none 0 0, .slice none 0 0] from flat_jr _ _ 0)
      clear hp3 HFL
      obtain ⟨⟨b0, b1, b2, b3, b4⟩, ⟨g0, g1, g2, g3, g4⟩, hBw⟩ := cells5 HB3.out
      have hf := set5 (.int .i64 0) (.int .i64 0) (.string ⟨#[]⟩) (.slice none 0 0) (.slice none 0 0) HB3.out
      have hr5 := RdPost.set5 HR3.out (B := w.heap.size) (Nat.le_refl _) hR (.int .i64 0) (.int .i64 0) (.string ⟨#[]⟩) (.slice none 0 0) (.slice none 0 0)
      have hjj := JR_mono (F' := fun b => w.heap.size ≤ b) (fun b hb => Nat.le_of_succ_le hb) _ _ (JR_frame (w' := (((((w3.setCell ⟨w.heap.size, 0, none⟩ (.int .i64 0)).setCell ⟨w.heap.size, 1, none⟩ (.int .i64 0)).setCell ⟨w.heap.size, 2, none⟩ (.string ⟨#[]⟩)).setCell ⟨w.heap.size, 3, none⟩ (.slice none 0 0)).setCell ⟨w.heap.size, 4, none⟩ (.slice none 0 0))) (fun b (hb : w.heap.size + 1 ≤ b) => set5_other _ _ _ _ _ (by omega)) _ _ HJ3.out)
      have HF5 := Lib.hid hf; have HR5 := Lib.hid hr5; have HJJ := Lib.hid hjj
      clear hf hr5 hjj
      go_wp2_with fail
      exact bodyPost_ret (results_cell_row rfl _ _ w.heap.size 35 #[.int .i64 0, .int .i64 0, .string ⟨#[]⟩, .slice none 0 0, .slice none 0 0] (0, 0) _ rfl HF5.out Tryz.underlying35 rfl (by kernel_rfl)) rfl ⟨zeroV, none, 0, 0, none, 0, 0, rfl, HJJ.out, fun _ => rfl, HR5.out⟩
    | true =>
      have hE := HHE.out
      rw [if_neg (by rw [hop]; decide)] at hE
      clear HHE hop
      have d64 : (o == 64) = false := by simp; omega
      have hwo : wrap64 (o + 1) = o + 1 := by unfold wrap64; omega
      have hwo2 : IntKind.i64.wrap (o + 1) = o + 1 := IntWalk.i64_in _ (by omega)
      by_cases e110 : c = 110
      · have d110 : ((c.toNat : Int) == 110) = true := by rw [e110]; rfl
        rw [if_pos e110] at hE
        clear e110 HCE
        have hcl := fun n => rdword_any R s ⟨#[110, 117, 108, 108]⟩ 1 y (w2.drewN n) hs (by decide) hbl.2 (HPD.out n).1
        rw [show (⟨#[110, 117, 108, 108]⟩ : ByteArray).data.toList = [110, 117, 108, 108] from rfl] at hcl
        obtain ⟨k', hk'⟩ := wordR_form s [110, 117, 108, 108] 1 y
        generalize wordR s [110, 117, 108, 108] 1 y = r at *
        obtain ⟨rv, ry⟩ := r
        simp only at hk'
        subst hk'
        subst hE
        have HCL := Lib.hid (fun n => (show Calls Tryz.prog _ _ (w2.drewN n) (fun z w' => z = .returned (.agg #[.int .i64 k', .int .i64 0, .string ⟨#[]⟩, .slice none 0 0, .slice none 0 0]) ∧ RdPost 74 R s ry.p ry.e (w2.drewN n) w') from hcl n))
        clear hcl hwo hwo2
        go_wp2_with fail
        refine Calls.mono (HCL.out _) ?_
        rintro e w3 ⟨rfl, hp3⟩
        have HB3 := Lib.hid (hp3.keep (B := w.heap.size) (HBD.out _) (by omega))
        have HR3 := Lib.hid (RdPost.trans (HPD.out _) hp3)
        have HJ3 := Lib.hid (show JR w3 (fun b => w.heap.size + 1 ≤ b) (.mk k' 0 ⟨#[]⟩ [] []) [.int .i64 k', .int .i64 0, .string ⟨#[]⟩, .slice none 0 0, .slice none 0 0] from JR_iff.2 ⟨.slice none 0 0, .slice none 0 0, ⟨rfl, by simp [JV.s, ByteArray.size]⟩, .inl ⟨rfl, none, 0, rfl⟩, .inl ⟨rfl, none, 0, rfl⟩⟩)
        clear hp3 HCL
        obtain ⟨⟨b0, b1, b2, b3, b4⟩, ⟨g0, g1, g2, g3, g4⟩, hBw⟩ := cells5 HB3.out
        have hf := set5 (.int .i64 k') (.int .i64 0) (.string ⟨#[]⟩) (.slice none 0 0) (.slice none 0 0) HB3.out
        have hr5 := RdPost.set5 HR3.out (B := w.heap.size) (Nat.le_refl _) hR (.int .i64 k') (.int .i64 0) (.string ⟨#[]⟩) (.slice none 0 0) (.slice none 0 0)
        have hjj := JR_mono (F' := fun b => w.heap.size ≤ b) (fun b hb => Nat.le_of_succ_le hb) _ _ (JR_frame (w' := (((((w3.setCell ⟨w.heap.size, 0, none⟩ (.int .i64 k')).setCell ⟨w.heap.size, 1, none⟩ (.int .i64 0)).setCell ⟨w.heap.size, 2, none⟩ (.string ⟨#[]⟩)).setCell ⟨w.heap.size, 3, none⟩ (.slice none 0 0)).setCell ⟨w.heap.size, 4, none⟩ (.slice none 0 0))) (fun b (hb : w.heap.size + 1 ≤ b) => set5_other _ _ _ _ _ (by omega)) _ _ HJ3.out)
        have HF5 := Lib.hid hf; have HR5 := Lib.hid hr5; have HJJ := Lib.hid hjj
        clear hf hr5 hjj
        go_wp2_with fail
        exact bodyPost_ret (results_cell_row rfl _ _ w.heap.size 35 #[.int .i64 k', .int .i64 0, .string ⟨#[]⟩, .slice none 0 0, .slice none 0 0] (0, 0) _ rfl HF5.out Tryz.underlying35 rfl (by kernel_rfl)) rfl ⟨.mk k' 0 ⟨#[]⟩ [] [], none, 0, 0, none, 0, 0, rfl, HJJ.out, fun _ => rfl, HR5.out⟩
      · have d110 : ((c.toNat : Int) == 110) = false := by
          have : c.toNat ≠ 110 := fun e => e110 (UInt8.toNat.inj e)
          simp; omega
        rw [if_neg e110] at hE
        by_cases e102 : c = 102
        · have d102 : ((c.toNat : Int) == 102) = true := by rw [e102]; rfl
          rw [if_pos e102] at hE
          clear e102 HCE
          have hcl := fun n => rdword_any R s ⟨#[102, 97, 108, 115, 101]⟩ 2 y (w2.drewN n) hs (by decide) hbl.2 (HPD.out n).1
          rw [show (⟨#[102, 97, 108, 115, 101]⟩ : ByteArray).data.toList = [102, 97, 108, 115, 101] from rfl] at hcl
          obtain ⟨k', hk'⟩ := wordR_form s [102, 97, 108, 115, 101] 2 y
          generalize wordR s [102, 97, 108, 115, 101] 2 y = r at *
          obtain ⟨rv, ry⟩ := r
          simp only at hk'
          subst hk'
          subst hE
          have HCL := Lib.hid (fun n => (show Calls Tryz.prog _ _ (w2.drewN n) (fun z w' => z = .returned (.agg #[.int .i64 k', .int .i64 0, .string ⟨#[]⟩, .slice none 0 0, .slice none 0 0]) ∧ RdPost 74 R s ry.p ry.e (w2.drewN n) w') from hcl n))
          clear hcl hwo hwo2
          go_wp2_with fail
          refine Calls.mono (HCL.out _) ?_
          rintro e w3 ⟨rfl, hp3⟩
          have HB3 := Lib.hid (hp3.keep (B := w.heap.size) (HBD.out _) (by omega))
          have HR3 := Lib.hid (RdPost.trans (HPD.out _) hp3)
          have HJ3 := Lib.hid (show JR w3 (fun b => w.heap.size + 1 ≤ b) (.mk k' 0 ⟨#[]⟩ [] []) [.int .i64 k', .int .i64 0, .string ⟨#[]⟩, .slice none 0 0, .slice none 0 0] from JR_iff.2 ⟨.slice none 0 0, .slice none 0 0, ⟨rfl, by simp [JV.s, ByteArray.size]⟩, .inl ⟨rfl, none, 0, rfl⟩, .inl ⟨rfl, none, 0, rfl⟩⟩)
          clear hp3 HCL
          obtain ⟨⟨b0, b1, b2, b3, b4⟩, ⟨g0, g1, g2, g3, g4⟩, hBw⟩ := cells5 HB3.out
          have hf := set5 (.int .i64 k') (.int .i64 0) (.string ⟨#[]⟩) (.slice none 0 0) (.slice none 0 0) HB3.out
          have hr5 := RdPost.set5 HR3.out (B := w.heap.size) (Nat.le_refl _) hR (.int .i64 k') (.int .i64 0) (.string ⟨#[]⟩) (.slice none 0 0) (.slice none 0 0)
          have hjj := JR_mono (F' := fun b => w.heap.size ≤ b) (fun b hb => Nat.le_of_succ_le hb) _ _ (JR_frame (w' := (((((w3.setCell ⟨w.heap.size, 0, none⟩ (.int .i64 k')).setCell ⟨w.heap.size, 1, none⟩ (.int .i64 0)).setCell ⟨w.heap.size, 2, none⟩ (.string ⟨#[]⟩)).setCell ⟨w.heap.size, 3, none⟩ (.slice none 0 0)).setCell ⟨w.heap.size, 4, none⟩ (.slice none 0 0))) (fun b (hb : w.heap.size + 1 ≤ b) => set5_other _ _ _ _ _ (by omega)) _ _ HJ3.out)
          have HF5 := Lib.hid hf; have HR5 := Lib.hid hr5; have HJJ := Lib.hid hjj
          clear hf hr5 hjj
          go_wp2_with fail
          exact bodyPost_ret (results_cell_row rfl _ _ w.heap.size 35 #[.int .i64 k', .int .i64 0, .string ⟨#[]⟩, .slice none 0 0, .slice none 0 0] (0, 0) _ rfl HF5.out Tryz.underlying35 rfl (by kernel_rfl)) rfl ⟨.mk k' 0 ⟨#[]⟩ [] [], none, 0, 0, none, 0, 0, rfl, HJJ.out, fun _ => rfl, HR5.out⟩
        · have d102 : ((c.toNat : Int) == 102) = false := by
            have : c.toNat ≠ 102 := fun e => e102 (UInt8.toNat.inj e)
            simp; omega
          rw [if_neg e102] at hE
          by_cases e116 : c = 116
          · have d116 : ((c.toNat : Int) == 116) = true := by rw [e116]; rfl
            rw [if_pos e116] at hE
            clear e116 HCE
            have hcl := fun n => rdword_any R s ⟨#[116, 114, 117, 101]⟩ 3 y (w2.drewN n) hs (by decide) hbl.2 (HPD.out n).1
            rw [show (⟨#[116, 114, 117, 101]⟩ : ByteArray).data.toList = [116, 114, 117, 101] from rfl] at hcl
            obtain ⟨k', hk'⟩ := wordR_form s [116, 114, 117, 101] 3 y
            generalize wordR s [116, 114, 117, 101] 3 y = r at *
            obtain ⟨rv, ry⟩ := r
            simp only at hk'
            subst hk'
            subst hE
            have HCL := Lib.hid (fun n => (show Calls Tryz.prog _ _ (w2.drewN n) (fun z w' => z = .returned (.agg #[.int .i64 k', .int .i64 0, .string ⟨#[]⟩, .slice none 0 0, .slice none 0 0]) ∧ RdPost 74 R s ry.p ry.e (w2.drewN n) w') from hcl n))
            clear hcl hwo hwo2
            go_wp2_with fail
            refine Calls.mono (HCL.out _) ?_
            rintro e w3 ⟨rfl, hp3⟩
            have HB3 := Lib.hid (hp3.keep (B := w.heap.size) (HBD.out _) (by omega))
            have HR3 := Lib.hid (RdPost.trans (HPD.out _) hp3)
            have HJ3 := Lib.hid (show JR w3 (fun b => w.heap.size + 1 ≤ b) (.mk k' 0 ⟨#[]⟩ [] []) [.int .i64 k', .int .i64 0, .string ⟨#[]⟩, .slice none 0 0, .slice none 0 0] from JR_iff.2 ⟨.slice none 0 0, .slice none 0 0, ⟨rfl, by simp [JV.s, ByteArray.size]⟩, .inl ⟨rfl, none, 0, rfl⟩, .inl ⟨rfl, none, 0, rfl⟩⟩)
            clear hp3 HCL
            obtain ⟨⟨b0, b1, b2, b3, b4⟩, ⟨g0, g1, g2, g3, g4⟩, hBw⟩ := cells5 HB3.out
            have hf := set5 (.int .i64 k') (.int .i64 0) (.string ⟨#[]⟩) (.slice none 0 0) (.slice none 0 0) HB3.out
            have hr5 := RdPost.set5 HR3.out (B := w.heap.size) (Nat.le_refl _) hR (.int .i64 k') (.int .i64 0) (.string ⟨#[]⟩) (.slice none 0 0) (.slice none 0 0)
            have hjj := JR_mono (F' := fun b => w.heap.size ≤ b) (fun b hb => Nat.le_of_succ_le hb) _ _ (JR_frame (w' := (((((w3.setCell ⟨w.heap.size, 0, none⟩ (.int .i64 k')).setCell ⟨w.heap.size, 1, none⟩ (.int .i64 0)).setCell ⟨w.heap.size, 2, none⟩ (.string ⟨#[]⟩)).setCell ⟨w.heap.size, 3, none⟩ (.slice none 0 0)).setCell ⟨w.heap.size, 4, none⟩ (.slice none 0 0))) (fun b (hb : w.heap.size + 1 ≤ b) => set5_other _ _ _ _ _ (by omega)) _ _ HJ3.out)
            have HF5 := Lib.hid hf; have HR5 := Lib.hid hr5; have HJJ := Lib.hid hjj
            clear hf hr5 hjj
            go_wp2_with fail
            exact bodyPost_ret (results_cell_row rfl _ _ w.heap.size 35 #[.int .i64 k', .int .i64 0, .string ⟨#[]⟩, .slice none 0 0, .slice none 0 0] (0, 0) _ rfl HF5.out Tryz.underlying35 rfl (by kernel_rfl)) rfl ⟨.mk k' 0 ⟨#[]⟩ [] [], none, 0, 0, none, 0, 0, rfl, HJJ.out, fun _ => rfl, HR5.out⟩
          · have d116 : ((c.toNat : Int) == 116) = false := by
              have : c.toNat ≠ 116 := fun e => e116 (UInt8.toNat.inj e)
              simp; omega
            rw [if_neg e116] at hE
            by_cases e34 : c = 34
            · have d34 : ((c.toNat : Int) == 34) = true := by rw [e34]; rfl
              rw [if_pos e34] at hE
              clear e34 HCE
              have hcl := fun n => rdtext_any R s y (w2.drewN n) hs hbl.2 (HPD.out n).1
              have htl : (textD s y).1.length ≤ 9223372036854775807 := by
                unfold textD
                have := unquote_len s y.p hbl.2
                split
                · simp
                · simp only; omega
              generalize textD s y = r at *
              obtain ⟨rl, ry⟩ := r
              simp only at hcl htl hE
              subst hE
              have HCL := Lib.hid hcl
              have HTL := Lib.hid (show (⟨rl.toArray⟩ : ByteArray).size ≤ 9223372036854775807 by simpa [ByteArray.size] using htl)
              clear hcl htl hwo hwo2
              generalize (⟨rl.toArray⟩ : ByteArray) = S at *
              go_wp2_with fail
              refine Calls.mono (HCL.out _) ?_
              rintro e w3 ⟨rfl, hp3⟩
              have HB3 := Lib.hid (hp3.keep (B := w.heap.size) (HBD.out _) (by omega))
              have HR3 := Lib.hid (RdPost.trans (HPD.out _) hp3)
              have HJ3 := Lib.hid (show JR w3 (fun b => w.heap.size + 1 ≤ b) (wordV S) [.int .i64 5, .int .i64 0, .string S, .slice none 0 0, .slice none 0 0] from word_jr _ _ HTL.out)
              clear hp3 HCL
              obtain ⟨⟨b0, b1, b2, b3, b4⟩, ⟨g0, g1, g2, g3, g4⟩, hBw⟩ := cells5 HB3.out
              have hf := set5 (.int .i64 5) (.int .i64 0) (.string S) (.slice none 0 0) (.slice none 0 0) HB3.out
              have hr5 := RdPost.set5 HR3.out (B := w.heap.size) (Nat.le_refl _) hR (.int .i64 5) (.int .i64 0) (.string S) (.slice none 0 0) (.slice none 0 0)
              have hjj := JR_mono (F' := fun b => w.heap.size ≤ b) (fun b hb => Nat.le_of_succ_le hb) _ _ (JR_frame (w' := (((((w3.setCell ⟨w.heap.size, 0, none⟩ (.int .i64 5)).setCell ⟨w.heap.size, 1, none⟩ (.int .i64 0)).setCell ⟨w.heap.size, 2, none⟩ (.string S)).setCell ⟨w.heap.size, 3, none⟩ (.slice none 0 0)).setCell ⟨w.heap.size, 4, none⟩ (.slice none 0 0))) (fun b (hb : w.heap.size + 1 ≤ b) => set5_other _ _ _ _ _ (by omega)) _ _ HJ3.out)
              have HF5 := Lib.hid hf; have HR5 := Lib.hid hr5; have HJJ := Lib.hid hjj
              clear hf hr5 hjj
              go_wp2_with fail
              exact bodyPost_ret (results_cell_row rfl _ _ w.heap.size 35 #[.int .i64 5, .int .i64 0, .string S, .slice none 0 0, .slice none 0 0] (0, 0) _ rfl HF5.out Tryz.underlying35 rfl (by kernel_rfl)) rfl ⟨wordV S, none, 0, 0, none, 0, 0, rfl, HJJ.out, fun _ => rfl, HR5.out⟩
            · have d34 : ((c.toNat : Int) == 34) = false := by
                have : c.toNat ≠ 34 := fun e => e34 (UInt8.toNat.inj e)
                simp; omega
              rw [if_neg e34] at hE
              by_cases e91 : c = 91
              · have d91 : ((c.toNat : Int) == 91) = true := by rw [e91]; rfl
                rw [if_pos e91] at hE
                clear e91 HCE
                have HCL := Lib.hid (fun n => hl R y (w2.drewN n) hye hyl (HPD.out n).1)
                generalize listD s (valueD s d) y = r at *
                obtain ⟨rv, ry⟩ := r
                subst hE
                go_wp2_with fail
                refine Calls.mono (HCL.out _) ?_
                rintro e w3 ⟨v, A1, n1, c1, A2, n2, c2, rfl, hjr, heq, hp3⟩
                have HB3 := Lib.hid (hp3.keep (B := w.heap.size) (HBD.out _) (by omega))
                have HR3 := Lib.hid (RdPost.trans (HPD.out _) hp3)
                have HJ3 := Lib.hid (JR_mono (F' := fun b => w.heap.size + 1 ≤ b) (fun b hb => Nat.le_trans hsz2 hb) _ _ hjr)
                have HEQ := Lib.hid heq
                clear hp3 HCL hjr heq hwo hwo2
                obtain ⟨⟨b0, b1, b2, b3, b4⟩, ⟨g0, g1, g2, g3, g4⟩, hBw⟩ := cells5 HB3.out
                have hf := set5 (.int .i64 v.k) (.int .i64 v.n) (.string v.s) (.slice A1 n1 c1) (.slice A2 n2 c2) HB3.out
                have hr5 := RdPost.set5 HR3.out (B := w.heap.size) (Nat.le_refl _) hR (.int .i64 v.k) (.int .i64 v.n) (.string v.s) (.slice A1 n1 c1) (.slice A2 n2 c2)
                have hjj := JR_mono (F' := fun b => w.heap.size ≤ b) (fun b hb => Nat.le_of_succ_le hb) _ _ (JR_frame (w' := (((((w3.setCell ⟨w.heap.size, 0, none⟩ (.int .i64 v.k)).setCell ⟨w.heap.size, 1, none⟩ (.int .i64 v.n)).setCell ⟨w.heap.size, 2, none⟩ (.string v.s)).setCell ⟨w.heap.size, 3, none⟩ (.slice A1 n1 c1)).setCell ⟨w.heap.size, 4, none⟩ (.slice A2 n2 c2))) (fun b (hb : w.heap.size + 1 ≤ b) => set5_other _ _ _ _ _ (by omega)) _ _ HJ3.out)
                have HF5 := Lib.hid hf; have HR5 := Lib.hid hr5; have HJJ := Lib.hid hjj
                clear hf hr5 hjj
                go_wp2_with fail
                exact bodyPost_ret (results_cell_row rfl _ _ w.heap.size 35 #[.int .i64 v.k, .int .i64 v.n, .string v.s, .slice A1 n1 c1, .slice A2 n2 c2] (0, 0) _ rfl HF5.out Tryz.underlying35 rfl (by kernel_rfl)) rfl ⟨v, A1, n1, c1, A2, n2, c2, rfl, HJJ.out, HEQ.out, HR5.out⟩
              · have d91 : ((c.toNat : Int) == 91) = false := by
                  have : c.toNat ≠ 91 := fun e => e91 (UInt8.toNat.inj e)
                  simp; omega
                rw [if_neg e91] at hE
                by_cases e123 : c = 123
                · have d123 : ((c.toNat : Int) == 123) = true := by rw [e123]; rfl
                  rw [if_pos e123] at hE
                  clear e123 HCE
                  have HCL := Lib.hid (fun n => hob R y (w2.drewN n) hye hyl (HPD.out n).1)
                  generalize objectD s (valueD s d) y = r at *
                  obtain ⟨rv, ry⟩ := r
                  subst hE
                  go_wp2_with fail
                  refine Calls.mono (HCL.out _) ?_
                  rintro e w3 ⟨v, A1, n1, c1, A2, n2, c2, rfl, hjr, heq, hp3⟩
                  have HB3 := Lib.hid (hp3.keep (B := w.heap.size) (HBD.out _) (by omega))
                  have HR3 := Lib.hid (RdPost.trans (HPD.out _) hp3)
                  have HJ3 := Lib.hid (JR_mono (F' := fun b => w.heap.size + 1 ≤ b) (fun b hb => Nat.le_trans hsz2 hb) _ _ hjr)
                  have HEQ := Lib.hid heq
                  clear hp3 HCL hjr heq hwo hwo2
                  obtain ⟨⟨b0, b1, b2, b3, b4⟩, ⟨g0, g1, g2, g3, g4⟩, hBw⟩ := cells5 HB3.out
                  have hf := set5 (.int .i64 v.k) (.int .i64 v.n) (.string v.s) (.slice A1 n1 c1) (.slice A2 n2 c2) HB3.out
                  have hr5 := RdPost.set5 HR3.out (B := w.heap.size) (Nat.le_refl _) hR (.int .i64 v.k) (.int .i64 v.n) (.string v.s) (.slice A1 n1 c1) (.slice A2 n2 c2)
                  have hjj := JR_mono (F' := fun b => w.heap.size ≤ b) (fun b hb => Nat.le_of_succ_le hb) _ _ (JR_frame (w' := (((((w3.setCell ⟨w.heap.size, 0, none⟩ (.int .i64 v.k)).setCell ⟨w.heap.size, 1, none⟩ (.int .i64 v.n)).setCell ⟨w.heap.size, 2, none⟩ (.string v.s)).setCell ⟨w.heap.size, 3, none⟩ (.slice A1 n1 c1)).setCell ⟨w.heap.size, 4, none⟩ (.slice A2 n2 c2))) (fun b (hb : w.heap.size + 1 ≤ b) => set5_other _ _ _ _ _ (by omega)) _ _ HJ3.out)
                  have HF5 := Lib.hid hf; have HR5 := Lib.hid hr5; have HJJ := Lib.hid hjj
                  clear hf hr5 hjj
                  go_wp2_with fail
                  exact bodyPost_ret (results_cell_row rfl _ _ w.heap.size 35 #[.int .i64 v.k, .int .i64 v.n, .string v.s, .slice A1 n1 c1, .slice A2 n2 c2] (0, 0) _ rfl HF5.out Tryz.underlying35 rfl (by kernel_rfl)) rfl ⟨v, A1, n1, c1, A2, n2, c2, rfl, HJJ.out, HEQ.out, HR5.out⟩
                · have d123 : ((c.toNat : Int) == 123) = false := by
                    have : c.toNat ≠ 123 := fun e => e123 (UInt8.toNat.inj e)
                    simp; omega
                  rw [if_neg e123] at hE
                  have hcl := fun n => rdnumber_any R s y (w2.drewN n) hs hyl (HPD.out n).1
                  obtain ⟨k', m', hk'⟩ := numR_form s y
                  generalize numR s y = r at *
                  obtain ⟨rv, ry⟩ := r
                  simp only at hk'
                  subst hk'
                  subst hE
                  have HCL := Lib.hid (fun n => (show Calls Tryz.prog _ _ (w2.drewN n) (fun z w' => z = .returned (.agg #[.int .i64 k', .int .i64 m', .string ⟨#[]⟩, .slice none 0 0, .slice none 0 0]) ∧ RdPost 74 R s ry.p ry.e (w2.drewN n) w') from hcl n))
                  clear hcl hwo hwo2
                  go_wp2_with fail
                  refine Calls.mono (HCL.out _) ?_
                  rintro e w3 ⟨rfl, hp3⟩
                  have HB3 := Lib.hid (hp3.keep (B := w.heap.size) (HBD.out _) (by omega))
                  have HR3 := Lib.hid (RdPost.trans (HPD.out _) hp3)
                  have HJ3 := Lib.hid (show JR w3 (fun b => w.heap.size + 1 ≤ b) (.mk k' m' ⟨#[]⟩ [] []) [.int .i64 k', .int .i64 m', .string ⟨#[]⟩, .slice none 0 0, .slice none 0 0] from JR_iff.2 ⟨.slice none 0 0, .slice none 0 0, ⟨rfl, by simp [JV.s, ByteArray.size]⟩, .inl ⟨rfl, none, 0, rfl⟩, .inl ⟨rfl, none, 0, rfl⟩⟩)
                  clear hp3 HCL
                  obtain ⟨⟨b0, b1, b2, b3, b4⟩, ⟨g0, g1, g2, g3, g4⟩, hBw⟩ := cells5 HB3.out
                  have hf := set5 (.int .i64 k') (.int .i64 m') (.string ⟨#[]⟩) (.slice none 0 0) (.slice none 0 0) HB3.out
                  have hr5 := RdPost.set5 HR3.out (B := w.heap.size) (Nat.le_refl _) hR (.int .i64 k') (.int .i64 m') (.string ⟨#[]⟩) (.slice none 0 0) (.slice none 0 0)
                  have hjj := JR_mono (F' := fun b => w.heap.size ≤ b) (fun b hb => Nat.le_of_succ_le hb) _ _ (JR_frame (w' := (((((w3.setCell ⟨w.heap.size, 0, none⟩ (.int .i64 k')).setCell ⟨w.heap.size, 1, none⟩ (.int .i64 m')).setCell ⟨w.heap.size, 2, none⟩ (.string ⟨#[]⟩)).setCell ⟨w.heap.size, 3, none⟩ (.slice none 0 0)).setCell ⟨w.heap.size, 4, none⟩ (.slice none 0 0))) (fun b (hb : w.heap.size + 1 ≤ b) => set5_other _ _ _ _ _ (by omega)) _ _ HJ3.out)
                  have HF5 := Lib.hid hf; have HR5 := Lib.hid hr5; have HJJ := Lib.hid hjj
                  clear hf hr5 hjj
                  go_wp2_with fail
                  exact bodyPost_ret (results_cell_row rfl _ _ w.heap.size 35 #[.int .i64 k', .int .i64 m', .string ⟨#[]⟩, .slice none 0 0, .slice none 0 0] (0, 0) _ rfl HF5.out Tryz.underlying35 rfl (by kernel_rfl)) rfl ⟨.mk k' m' ⟨#[]⟩ [] [], none, 0, 0, none, 0, 0, rfl, HJJ.out, fun _ => rfl, HR5.out⟩
end Go.Proofs.YtjjgbgojlhaapaaGreatDoor
namespace Go.Proofs.YtjjgbgojlhaapaaGreatDoor
open Go.RowKit

/-- v[:k] of a row of the call's own is a row of the call's own -/
theorem own_take {w : World} {base : Nat} {e : TypeId} {size n c k : Nat} {A : Option Addr} {xs : List Value} (h : w.ownsRow base e size (.slice A n c) n xs) (hk : k ≤ n) :
    w.ownsRow base e size (.slice A k c) k (xs.take (k * size)) := by
  obtain ⟨h1, h2⟩ := h
  refine ⟨by rw [List.length_take, h1]; exact Nat.min_eq_left (Nat.mul_le_mul_right _ hk), ?_⟩
  rcases h2 with ⟨hv, h0⟩ | ⟨g, cap, cur, hv, hbg, hg, hnc, hcm, hcs, ht⟩
  · obtain ⟨rfl, hn, rfl⟩ : A = none ∧ n = 0 ∧ c = 0 := by simpa using hv
    have : k = 0 := by omega
    subst this
    exact .inl ⟨rfl, rfl⟩
  · obtain ⟨rfl, rfl⟩ : A = some ⟨g, 0, none⟩ ∧ c = cap := by simpa using hv
    refine .inr ⟨g, c, cur, rfl, hbg, hg, by omega, hcm, hcs, ?_⟩
    rw [← ht, List.take_take, Nat.min_eq_left (Nat.mul_le_mul_right _ hk)]
/-- one more in the midst of a row that a local variable's field holds -/
theorem RowIn.ins {α : Type} {T E : TypeId} {Y : Ty α} {V N i k : Nat} {mk : Value → Array Value} {va va' : Value} {vs : List α} {x : α} {c cs : List Value} {w5 W : World} (hmk : (mk va).setIfInBounds i va' = mk va')
    (h1 : w5.heap[V]? = some (.cells (mk va) T (0, 0))) (h2 : w5.ownsRow (V + 1) E Y.sz va vs.length cs) (h3 : Chunks Y w5 (fun b => V < b ∧ b < w5.heap.size ∧ some b ≠ va.ownBlock) vs cs)
    (hx : Y.R w5 (fun b => N ≤ b) x c) (hVN : V < N) (hvN : ∀ j, va.ownBlock = some j → j < N) (hk : k ≤ vs.length)
    (hg : w5.grownBy W va.ownBlock) (hob : va'.ownBlock = va.ownBlock ∨ ∃ j, va'.ownBlock = some j ∧ w5.heap.size ≤ j)
    (hoo : W.ownsRow (V + 1) E Y.sz va' (vs.length + 1) (cs.take (k * Y.sz) ++ (c ++ cs.drop (k * Y.sz)))) : RowIn T E Y V mk va' (vs.take k ++ x :: vs.drop k) (W.setCell ⟨V, i, none⟩ va') := by
  have hV : V < w5.heap.size := (Array.getElem?_eq_some_iff.1 h1).1
  have hob1 : ∀ j, va.ownBlock = some j → V + 1 ≤ j := fun j hj => (h2.lt j hj).1
  have hob2 : ∀ j, va'.ownBlock = some j → V + 1 ≤ j := fun j hj => (hoo.lt j hj).1
  have hblk : ∀ b, V < b → b < w5.heap.size → some b ≠ va.ownBlock → (W.setCell ⟨V, i, none⟩ va').heap[b]? = w5.heap[b]? := fun b a1 a2 a3 =>
    (Below.heap_setCell _ _ _ _ (by show b ≠ V; omega)).trans (hg.block b a2 a3)
  have hnb : ∀ b, b < w5.heap.size → some b ≠ va.ownBlock → some b ≠ va'.ownBlock := fun b a1 a2 => by
    rcases hob with h | ⟨j, h, hj⟩
    · rw [h]; exact a2
    · rw [h]; intro e; have := Option.some.inj e; omega
  have hsS : (W.setCell ⟨V, i, none⟩ va').heap.size = W.heap.size := by simp [World.setCell]
  have hWV : W.heap[V]? = some (.cells (mk va) T (0, 0)) := (hg.block V hV (by intro e; have := hob1 V e.symm; omega)).trans h1
  have hsW := hg.size
  have hall : Chunks Y w5 (fun b => V < b ∧ b < w5.heap.size ∧ some b ≠ va.ownBlock) (vs.take k ++ x :: vs.drop k) (cs.take (k * Y.sz) ++ (c ++ cs.drop (k * Y.sz))) := by
    refine Chunks.append (h3.take k) ⟨c, cs.drop (k * Y.sz), rfl, ?_, h3.drop k⟩
    exact Y.mono (fun b hb => ⟨by omega, hb.2, fun e => by have := hvN b e.symm; omega⟩) (Y.bound hx)
  refine ⟨by rw [← hmk]; exact heap_setCell_row hWV, cs.take (k * Y.sz) ++ (c ++ cs.drop (k * Y.sz)), ?_, ?_⟩
  · have hl : (vs.take k ++ x :: vs.drop k).length = vs.length + 1 := by
      rw [List.length_append, List.length_cons, List.length_take, List.length_drop]; omega
    rw [hl]
    refine World.ownsRow.kept hoo (grown_set (g := V) _) ?_
    rcases hv : va'.ownBlock with _ | j
    · exact .inl rfl
    · right
      intro e
      have := hob2 j hv
      have := Option.some.inj e
      omega
  · exact (hall.frame (w' := W.setCell ⟨V, i, none⟩ va') (fun b hb => hblk b hb.1 hb.2.1 hb.2.2)).mono (fun b hb => ⟨hb.1, by rw [hsS]; omega, hnb b hb.2.1 hb.2.2⟩)
end Go.Proofs.YtjjgbgojlhaapaaGreatDoor
