/- Parts of the proof: Fi, Er, Jo, Bo. -/
import Derived.Test.YtjjgbgojlhaapaaGreatDoorZReads16
import Derived.Test.YtjjgbgojlhaapaaGreatDoorZReads36
import Derived.Lib.SlBytesConst
import Derived.Test.YtjjgbgojlhaapaaGreatDoorZReads31
import Derived.Test.YtjjgbgojlhaapaaGreatDoorZReads32
import Derived.Test.YtjjgbgojlhaapaaGreatDoorZReads27
import Derived.Test.YtjjgbgojlhaapaaGreatDoorZReads34
import Derived.Test.YtjjgbgojlhaapaaGreatDoorZReads22
import Derived.Test.YtjjgbgojlhaapaaGreatDoorZReads4
import Derived.Test.YtjjgbgojlhaapaaGreatDoorZReads7
namespace Go.Proofs.YtjjgbgojlhaapaaGreatDoor
open Go.RowKit Go.Lib

def firstS : ByteArray := ⟨#[123, 34, 98, 34, 58, 49, 44, 34, 97, 34, 58, 91, 116, 114, 117, 101, 44, 110, 117, 108, 108, 93, 125]⟩
def firstV : JV := objV [(⟨#[97]⟩, listV [.mk 3 0 ⟨#[]⟩ [] [], .mk 1 0 ⟨#[]⟩ [] []]), (⟨#[98]⟩, numV 1)]
def firstP : List UInt8 := [123, 34, 97, 34, 58, 91, 116, 114, 117, 101, 44, 110, 117, 108, 108, 93, 44, 34, 98, 34, 58, 49, 125]
theorem first_parse : parseB firstS = (firstV, 0) := by kernel_rfl
theorem first_point : (parseB ⟨#[49, 46, 53]⟩).2 = 4 := by kernel_rfl
theorem first_twice : (parseB ⟨#[123, 34, 97, 34, 58, 49, 44, 34, 97, 34, 58, 50, 125]⟩).2 = 4 := by kernel_rfl
theorem first_may : mayJ 64 firstV = true := by kernel_rfl
theorem first_print : printB 64 firstV = firstP := by kernel_rfl

def cellsOf (s : ByteArray) : Array Value := (s.data.toList.map fun x => Value.int .u8 (x.toNat : Int)).toArray
theorem bsl_alloc (w : World) (s : ByteArray) (t : TypeId) (n c : Nat) (cs : Array Value) (fz : Nat × Nat) (hn : n = s.size) (hc : cs = cellsOf s) : BSl (w.alloc (.cells cs t fz)) (fun _ => True) (.slice (some ⟨w.heap.size, 0, none⟩) n c) s := by
  subst hn; subst hc
  refine .inl ⟨_, _, _, rfl, trivial, fun i hi => ?_⟩
  rw [Lib.cell_of_heap (heap_alloc_new w (.cells (cellsOf s) t fz))]
  unfold cellsOf
  simp [hi]
  rfl
theorem tabs_later {w w' : World} (hT : Tabs w) (hb : Below w.heap.size w w') : Tabs w' := hT.below hb
set_option maxRecDepth 100000 in
set_option maxHeartbeats 8000000 in
theorem first_any (w : World) (hT : Tabs w) : Calls Tryz.prog 6 #[] w fun z w' => z = .returned (.bool true) ∧ Below w.heap.size w w' := by
  have kc := fun (w : World) (C : Array Value) (n c : Nat) => Lib.run_convert_bytes_const (P := Tryz.prog) w 22 5 C n c Tryz.underlying22 Tryz.underlying5
  have h1 : Below w.heap.size w w := Below.refl _ _
  have HT := Lib.hid hT; have H1 := Lib.hid h1
  clear hT h1
  go_enter Tryz.func6, Tryz.ntmps6
  go_wp2_with fail
  have hbA := bel_alloc H1.out (.cells (cellsOf firstS) 5 (23, 24))
  have hpa := parse_any firstS (.slice (some ⟨w.heap.size, 0, none⟩) 23 23) _ (w.alloc (.cells (cellsOf firstS) 5 (23, 24))) (HT.out.below hbA) (bsl_alloc _ _ _ _ _ _ _ rfl rfl)
  refine Calls.mono hpa ?_
  rintro e w1 ⟨A1, n1, c1, A2, n2, c2, he, hj, hb⟩
  rw [first_parse] at he hj
  simp only at he hj
  subst he
  have hb1 := bel_trans hbA hb
  have hA2 := bel_alloc (Below.refl w1.heap.size w1) (.cells #[.int .i64 firstV.k, .int .i64 firstV.n, .string firstV.s, .slice A1 n1 c1, .slice A2 n2 c2] 28)
  have hj2 := JR_later hj hA2
  have hb2 := bel_trans hb1 hA2
  have hc2 := heap_alloc_new w1 (.cells #[.int .i64 firstV.k, .int .i64 firstV.n, .string firstV.s, .slice A1 n1 c1, .slice A2 n2 c2] 28)
  have HB2 := Lib.hid hb2; have HJ2 := Lib.hid hj2; have HC2 := Lib.hid hc2
  clear hbA hpa hj hb hb1 hA2 hj2 hb2 hc2
  go_upto_region 2 with (fail)
  generalize w1.alloc (.cells #[.int .i64 firstV.k, .int .i64 firstV.n, .string firstV.s, .slice A1 n1 c1, .slice A2 n2 c2] 28) = w2 at *
  obtain ⟨⟨v0, v1, v2, v3, v4⟩, _, hV⟩ := cells5 HC2.out
  have hpr := Print_good firstV _ _ w2 HJ2.out (HT.out.below HB2.out) first_may (by rw [first_print]; decide)
  rw [first_print] at hpr
  have HPR := Lib.hid hpr
  clear hpr
  go_wp2_with fail
  refine Calls.mono HPR.out ?_
  rintro e w3 ⟨⟨g, cc, rfl, hbs⟩, hb3⟩
  have hs3 : BSl w3 (fun b => b < w3.heap.size) (.slice (some ⟨g, 0, none⟩) firstP.length cc) ⟨firstP.toArray⟩ := by
    refine .inl ⟨g, 0, cc, rfl, World.block_lt_of_cell? w3 _ (hbs 0 (by decide)), fun i hi => ?_⟩
    have h := hbs i (by simpa [ByteArray.size] using hi)
    rw [Addr.add_mid] at h
    exact h
  have hbw3 := bel_trans HB2.out hb3
  have HS3 := Lib.hid hs3; have HB3 := Lib.hid hbw3
  clear hs3 hbw3 hbs hb3 v0 v1 v2 v3 v4 hV HPR HJ2 HC2 HB2
  go_upto_region 3 with (fail)
  have hlt3 : w3.heap.size ≤ w3.heap.size := Nat.le_refl _
  go_wp2_with fail
  have hbA := bel_alloc HB3.out (.cells (cellsOf ⟨#[49, 46, 53]⟩) 5 (3, 4))
  have hpa := parse_any ⟨#[49, 46, 53]⟩ (.slice (some ⟨w3.heap.size, 0, none⟩) 3 3) _ (w3.alloc (.cells (cellsOf ⟨#[49, 46, 53]⟩) 5 (3, 4))) (HT.out.below hbA) (bsl_alloc _ _ _ _ _ _ _ rfl rfl)
  refine Calls.mono hpa ?_
  rintro e w4 ⟨B1, m1, d1, B2, m2, d2, he, hj, hb⟩
  rw [first_point] at he
  generalize (parseB ⟨#[49, 46, 53]⟩).1 = r4 at *
  subst he
  have hb1 := bel_trans hbA hb
  have hA2 := bel_alloc (Below.refl w4.heap.size w4) (.cells #[.int .i64 r4.k, .int .i64 r4.n, .string r4.s, .slice B1 m1 d1, .slice B2 m2 d2] 28)
  have hb2 := bel_trans hb1 hA2
  have hs := BSl.frame (w' := w4.alloc (.cells #[.int .i64 r4.k, .int .i64 r4.n, .string r4.s, .slice B1 m1 d1, .slice B2 m2 d2] 28)) (fun b hb0 => (hA2.block b (by have := hb.size; have h2 : (w3.alloc (.cells (cellsOf ⟨#[49, 46, 53]⟩) 5 (3, 4))).heap.size = w3.heap.size + 1 := (by show (w3.heap.push _).size = _; simp); have := hlt3; omega)).trans ((hb.block b (by have h2 : (w3.alloc (.cells (cellsOf ⟨#[49, 46, 53]⟩) 5 (3, 4))).heap.size = w3.heap.size + 1 := (by show (w3.heap.push _).size = _; simp); have := hlt3; omega)).trans (heap_alloc_old w3 _ (by have := hlt3; omega)))) HS3.out
  have hlt4 : w3.heap.size ≤ (w4.alloc (.cells #[.int .i64 r4.k, .int .i64 r4.n, .string r4.s, .slice B1 m1 d1, .slice B2 m2 d2] 28)).heap.size := by
    have := hb.size; have := hA2.size
    have h2 : (w3.alloc (.cells (cellsOf ⟨#[49, 46, 53]⟩) 5 (3, 4))).heap.size = w3.heap.size + 1 := (by show (w3.heap.push _).size = _; simp)
    omega
  have HB4 := Lib.hid hb2; have HS4 := Lib.hid hs
  clear hbA hpa hj hb hb1 hA2 hb2 hs
  go_upto_region 4 with (fail)
  generalize w4.alloc (.cells #[.int .i64 r4.k, .int .i64 r4.n, .string r4.s, .slice B1 m1 d1, .slice B2 m2 d2] 28) = w4b at *
  go_wp2_with fail
  have hbA := bel_alloc HB4.out (.cells (cellsOf ⟨#[123, 34, 97, 34, 58, 49, 44, 34, 97, 34, 58, 50, 125]⟩) 5 (13, 14))
  have hpa := parse_any ⟨#[123, 34, 97, 34, 58, 49, 44, 34, 97, 34, 58, 50, 125]⟩ (.slice (some ⟨w4b.heap.size, 0, none⟩) 13 13) _ (w4b.alloc (.cells (cellsOf ⟨#[123, 34, 97, 34, 58, 49, 44, 34, 97, 34, 58, 50, 125]⟩) 5 (13, 14))) (HT.out.below hbA) (bsl_alloc _ _ _ _ _ _ _ rfl rfl)
  refine Calls.mono hpa ?_
  rintro e w5 ⟨B1, m1, d1, B2, m2, d2, he, hj, hb⟩
  rw [first_twice] at he
  generalize (parseB ⟨#[123, 34, 97, 34, 58, 49, 44, 34, 97, 34, 58, 50, 125]⟩).1 = r5 at *
  subst he
  have hb1 := bel_trans hbA hb
  have hA2 := bel_alloc (Below.refl w5.heap.size w5) (.cells #[.int .i64 r5.k, .int .i64 r5.n, .string r5.s, .slice B1 m1 d1, .slice B2 m2 d2] 28)
  have hb2 := bel_trans hb1 hA2
  have hs := BSl.frame (w' := w5.alloc (.cells #[.int .i64 r5.k, .int .i64 r5.n, .string r5.s, .slice B1 m1 d1, .slice B2 m2 d2] 28)) (fun b hb0 => (hA2.block b (by have := hb.size; have h2 : (w4b.alloc (.cells (cellsOf ⟨#[123, 34, 97, 34, 58, 49, 44, 34, 97, 34, 58, 50, 125]⟩) 5 (13, 14))).heap.size = w4b.heap.size + 1 := (by show (w4b.heap.push _).size = _; simp); have := hlt4; omega)).trans ((hb.block b (by have h2 : (w4b.alloc (.cells (cellsOf ⟨#[123, 34, 97, 34, 58, 49, 44, 34, 97, 34, 58, 50, 125]⟩) 5 (13, 14))).heap.size = w4b.heap.size + 1 := (by show (w4b.heap.push _).size = _; simp); have := hlt4; omega)).trans (heap_alloc_old w4b _ (by have := hlt4; omega)))) HS4.out
  have hlt5 : w3.heap.size ≤ (w5.alloc (.cells #[.int .i64 r5.k, .int .i64 r5.n, .string r5.s, .slice B1 m1 d1, .slice B2 m2 d2] 28)).heap.size := by
    have := hb.size; have := hA2.size
    have h2 : (w4b.alloc (.cells (cellsOf ⟨#[123, 34, 97, 34, 58, 49, 44, 34, 97, 34, 58, 50, 125]⟩) 5 (13, 14))).heap.size = w4b.heap.size + 1 := (by show (w4b.heap.push _).size = _; simp)
    omega
  have HB5 := Lib.hid hb2; have HS5 := Lib.hid hs
  clear hbA hpa hj hb hb1 hA2 hb2 hs
  go_upto_region 5 with (fail)
  generalize w5.alloc (.cells #[.int .i64 r5.k, .int .i64 r5.n, .string r5.s, .slice B1 m1 d1, .slice B2 m2 d2] 28) = w5b at *
  have hcv : (convert 22 9 (.slice (some ⟨g, 0, none⟩) firstP.length cc)).run Tryz.prog w5b = .ok (.string ⟨firstP.toArray⟩) w5b := HS5.out.conv
  rw [show (⟨firstP.toArray⟩ : ByteArray) = ⟨#[123, 34, 97, 34, 58, 91, 116, 114, 117, 101, 44, 110, 117, 108, 108, 93, 44, 34, 98, 34, 58, 49, 125]⟩ from rfl] at hcv
  have HFB := Lib.hid HB5.out
  go_wp2_with fail
  go_ret
  exact ⟨rfl, HFB.out⟩
end Go.Proofs.YtjjgbgojlhaapaaGreatDoor
namespace Go.Proofs.YtjjgbgojlhaapaaGreatDoor
open Go.RowKit Go.Lib

theorem bsl_below {w w' : World} {F : Nat → Prop} {v : Value} {s : ByteArray} (h : BSl w F v s) (hb : Below w.heap.size w w') : BSl w' F v s := by
  rcases h with ⟨b, o, c, rfl, hF, hc⟩ | h
  · exact .inl ⟨b, o, c, rfl, hF, fun i hi => (World.cell?_of_block (w := w) (a := ⟨b, o + i, none⟩) (hb.block b (World.block_lt_of_cell? w _ (hc i hi)))).trans (hc i hi)⟩
  · exact .inr h
set_option maxHeartbeats 4000000 in
theorem bytesEq_any (s : ByteArray) (va vb : Value) (F F' : Nat → Prop) (w : World) (ha : BSl w F va s) (hb : BSl w F' vb s) :
    Calls Tryz.prog 12 #[va, vb] w fun e w' => e = .returned (.bool true) ∧ Below w.heap.size w w' := by
  have h1 := ha.conv
  have h2 := hb.conv
  obtain ⟨A1, c1, rfl⟩ := ha.form
  obtain ⟨A2, c2, rfl⟩ := hb.form
  clear ha hb
  go_enter Tryz.func12, Tryz.ntmps12
  go_wp2_with fail
  go_ret
  exact ⟨ret_bool (by simp), Below.refl _ _⟩
theorem parse_ln (s : ByteArray) : LnJ (parseB s).1 := by
  by_cases h : (parseB s).2 = 0
  · exact print_ln 64 _ (parse_may h) (parse_len h)
  · rw [parse_zeroV h]
    exact (LnJ_iff _).2 ⟨⟨by simp [zeroV, JV.l], by simp [zeroV, JV.m]⟩, by simp [zeroV, JV.l], by simp [zeroV, JV.m]⟩
theorem plain_same (x : JV) : sameB x x = true := same_refl x
set_option maxRecDepth 100000 in
set_option maxHeartbeats 16000000 in
theorem jsonReads_any (vb : Value) (lb : List UInt8) (F' : Nat → Prop) (w : World) (hvb : BSl w F' vb ⟨lb.toArray⟩) (hT : Tabs w) :
    Calls Tryz.prog 3 #[vb] w fun z w' => z = .returned (.bool true) ∧ Below w.heap.size w w' := by
  have hln := parse_ln ⟨lb.toArray⟩
  have hpb := fun v F W hT hb => parse_any ⟨lb.toArray⟩ v F W hT hb
  have hrb := fun v F W hb => rdparse_all ⟨lb.toArray⟩ v F W hb
  unfold PRes at hpb hrb
  obtain ⟨Ab, cb, hvf⟩ := hvb.form
  rw [list_size] at hvf
  have HT := Lib.hid hT; have HS0 := Lib.hid hvb; have HPB := Lib.hid hpb; have HRB := Lib.hid hrb; have HLN := Lib.hid hln
  have HB0 := Lib.hid (Below.refl w.heap.size w)
  clear hT hvb hpb hrb hln
  subst hvf
  generalize parseB ⟨lb.toArray⟩ = rb at *
  obtain ⟨V5, e5⟩ := rb
  simp only at HPB HRB HLN
  generalize hnb : lb.length = nb at *
  go_enter Tryz.func3, Tryz.ntmps3
  have hff := first_any w (HT.out.below HB0.out)
  have HFF := Lib.hid hff
  clear hff
  go_wp2_with fail
  refine Calls.mono HFF.out ?_
  rintro e w1 ⟨rfl, hbz⟩
  clear HFF
  have HB2 := Lib.hid (bel_trans HB0.out hbz)
  have HS3 := Lib.hid (bsl_below HS0.out hbz)
  clear HB0 HS0
  clear hbz
  by_cases hlb : 21000 < nb
  · have hd1 : decide (21000 < (nb : Int)) = true := decide_eq_true (by omega)
    have hff := first_any w1 (HT.out.below HB2.out)
    have HFF := Lib.hid hff
    clear hff
    go_wp2_with fail
    refine Calls.mono HFF.out ?_
    rintro e w4 ⟨rfl, hbz⟩
    clear HFF
    have HB5 := Lib.hid (bel_trans HB2.out hbz)
    have HS6 := Lib.hid (bsl_below HS3.out hbz)
    clear HB2 HS3
    clear hbz
    go_wp2_with fail
    go_ret
    exact ⟨rfl, HB5.out⟩
  · have hd1 : decide (21000 < (nb : Int)) = false := decide_eq_false (by omega)
    have hcl := copyBytes_any _ lb _ w1 HS3.out (by omega)
    have HCL := Lib.hid hcl
    clear hcl
    go_wp2_with fail
    refine Calls.mono HCL.out ?_
    rintro e w7 ⟨⟨v', rfl, hown⟩, hbz⟩
    clear HCL
    obtain ⟨Ai, ci, rfl⟩ := own_sliceB hown
    have hsi := own_bsl hown
    rw [hnb] at hsi
    have HB8 := Lib.hid (bel_trans HB2.out hbz)
    have HS9 := Lib.hid (bsl_below HS3.out hbz)
    clear HB2 HS3
    have HSI := Lib.hid hsi
    clear hbz hown hsi
    rw [hnb]
    have hpa := HPB.out _ _ w7 (HT.out.below HB8.out) HSI.out
    have HPA := Lib.hid hpa
    clear hpa
    go_wp2_with fail
    refine Calls.mono HPA.out ?_
    rintro e u12 ⟨qA1, qn1, qc1, qA2, qn2, qc2, rfl, hj, hb⟩
    clear HPA
    have hA2 := bel_alloc (Below.refl u12.heap.size u12) (.cells #[.int .i64 (JV.k V5), .int .i64 (JV.n V5), .string (JV.s V5), .slice qA1 qn1 qc1, .slice qA2 qn2 qc2] 28)
    have hb2 := bel_trans hb hA2
    have hc2 := heap_alloc_new u12 (.cells #[.int .i64 (JV.k V5), .int .i64 (JV.n V5), .string (JV.s V5), .slice qA1 qn1 qc1, .slice qA2 qn2 qc2] 28)
    have hj2 := JR_later hj hA2
    have HB14 := Lib.hid (bel_trans HB8.out hb2)
    have HS15 := Lib.hid (bsl_below HS9.out hb2)
    have HS16 := Lib.hid (bsl_below HSI.out hb2)
    clear HB8 HS9 HSI
    have HK17 := Lib.hid hc2
    have HJ18 := Lib.hid hj2
    clear hA2 hb2 hc2 hj2 hj hb
    go_upto_region 7 with (fail)
    generalize u12.alloc (.cells #[.int .i64 (JV.k V5), .int .i64 (JV.n V5), .string (JV.s V5), .slice qA1 qn1 qc1, .slice qA2 qn2 qc2] 28) = W13 at *
    have hpa := HRB.out _ _ W13 HS15.out
    have HPA := Lib.hid hpa
    clear hpa
    go_wp2_with fail
    refine Calls.mono HPA.out ?_
    rintro e u19 ⟨rA1, rn1, rc1, rA2, rn2, rc2, rfl, hj, hb⟩
    clear HPA
    have hA2 := bel_alloc (Below.refl u19.heap.size u19) (.cells #[.int .i64 (JV.k V5), .int .i64 (JV.n V5), .string (JV.s V5), .slice rA1 rn1 rc1, .slice rA2 rn2 rc2] 35)
    have hb2 := bel_trans hb hA2
    have hc2 := heap_alloc_new u19 (.cells #[.int .i64 (JV.k V5), .int .i64 (JV.n V5), .string (JV.s V5), .slice rA1 rn1 rc1, .slice rA2 rn2 rc2] 35)
    have hj2 := JR_later hj hA2
    have HB21 := Lib.hid (bel_trans HB14.out hb2)
    have HK22 := Lib.hid ((hb2.block u12.heap.size (Array.getElem?_eq_some_iff.1 HK17.out).1).trans HK17.out)
    have HS23 := Lib.hid (bsl_below HS15.out hb2)
    have HS24 := Lib.hid (bsl_below HS16.out hb2)
    have HJ25 := Lib.hid (JR_later HJ18.out hb2)
    clear HB14 HK17 HS15 HS16 HJ18
    have HK26 := Lib.hid hc2
    have HJ27 := Lib.hid hj2
    clear hA2 hb2 hc2 hj2 hj hb
    go_upto_region 8 with (fail)
    generalize u19.alloc (.cells #[.int .i64 (JV.k V5), .int .i64 (JV.n V5), .string (JV.s V5), .slice rA1 rn1 rc1, .slice rA2 rn2 rc2] 35) = W20 at *
    generalize u12.heap.size = X4 at *
    generalize u19.heap.size = X6 at *
    go_wp2_with fail
    refine wp_region_E (by kernel_rfl) ?_
    have HBV := Lib.hid (bel_drew HB21.out)
    have RC : ∀ w2, Lat W20.drew w2 → w2.heap[X4]? = some (.cells #[.int .i64 (JV.k V5), .int .i64 (JV.n V5), .string (JV.s V5), .slice qA1 qn1 qc1, .slice qA2 qn2 qc2] 28 (0, 0)) ∧ w2.heap[X6]? = some (.cells #[.int .i64 (JV.k V5), .int .i64 (JV.n V5), .string (JV.s V5), .slice rA1 rn1 rc1, .slice rA2 rn2 rc2] 35 (0, 0)) := fun w2 hE =>
      ⟨Below.at hE (show W20.drew.heap[X4]? = _ from HK22.out), Below.at hE (show W20.drew.heap[X6]? = _ from HK26.out)⟩
    have HRC := Lib.hid RC
    have HJ4 := Lib.hid (JR_later HJ25.out (bel_drew (Below.refl W20.heap.size W20)))
    have HJ6 := Lib.hid (JR_later HJ27.out (bel_drew (Below.refl W20.heap.size W20)))
    have HSI := Lib.hid (bsl_below HS24.out (bel_drew (Below.refl W20.heap.size W20)))
    have HSB := Lib.hid (bsl_below HS23.out (bel_drew (Below.refl W20.heap.size W20)))
    clear RC HB21 HK22 HK26 HJ25 HJ27 HS24 HS23
    generalize W20.drew = V at *
    refine wpAnyE_tk 0 (v := .bool true) rfl (by kernel_rfl) (by kernel_rfl) (by kernel_rfl) (by kernel_rfl) ?_ ?_
    · intro w2 hE
      have hff := first_any w2 (HT.out.below (bel_trans HBV.out hE))
      have HFF := Lib.hid hff
      clear hff
      go_simp
      exact HFF.out.mono fun e w3 ⟨h1, h2⟩ => ⟨h1, h2⟩
    try simp only [List.getElem_toArray, List.getElem_cons_zero, Act.put, List.setIfInBounds_toArray, List.set_cons_zero, List.set_cons_succ]
    refine wpAnyE_tk 1 (v := ?_) rfl (by kernel_rfl) (by kernel_rfl) (by kernel_rfl) (by kernel_rfl) ?_ ?_
    rotate_left
    · intro w2 hE
      go_simp
      try (with_reducible rfl)
    try simp only [List.getElem_toArray, List.getElem_cons_zero, List.getElem_cons_succ, Act.put, List.setIfInBounds_toArray, List.set_cons_zero, List.set_cons_succ]
    refine wpAnyE_tk 2 (v := ?_) rfl (by kernel_rfl) (by kernel_rfl) (by kernel_rfl) (by kernel_rfl) ?_ ?_
    rotate_left
    · intro w2 hE
      obtain ⟨h4, h6⟩ := HRC.out w2 hE
      obtain ⟨⟨v0, v1, v2, v3, v4⟩, _, hV4⟩ := cells5 h4
      obtain ⟨⟨u0, u1, u2, u3, u4⟩, _, hV6⟩ := cells5 h6
      go_simp
      try (with_reducible rfl)
    try simp only [List.getElem_toArray, List.getElem_cons_zero, List.getElem_cons_succ, Act.put, List.setIfInBounds_toArray, List.set_cons_zero, List.set_cons_succ]
    refine wpAnyE_tk 4 (v := ?_) rfl (by kernel_rfl) (by kernel_rfl) (by kernel_rfl) (by kernel_rfl) ?_ ?_
    rotate_left
    · intro w2 hE
      obtain ⟨h4, h6⟩ := HRC.out w2 hE
      obtain ⟨⟨v0, v1, v2, v3, v4⟩, _, hV4⟩ := cells5 h4
      obtain ⟨⟨u0, u1, u2, u3, u4⟩, _, hV6⟩ := cells5 h6
      go_simp
      try (with_reducible rfl)
    try simp only [List.getElem_toArray, List.getElem_cons_zero, List.getElem_cons_succ, Act.put, List.setIfInBounds_toArray, List.set_cons_zero, List.set_cons_succ]
    refine wpAnyE_one (i := 3) (by kernel_rfl) rfl (fun w4 hE K hK => ?_)
    rw [if_pos (by kernel_rfl)]
    have hpl := plain_any V5 _ _ w4 HLN.out (JR_later HJ4.out hE)
    have HPL := Lib.hid hpl
    have HB4 := Lib.hid (bel_trans HBV.out hE)
    have HJ6b := Lib.hid (JR_later HJ6.out hE)
    have HSIb := Lib.hid (bsl_below HSI.out hE)
    have HSBb := Lib.hid (bsl_below HSB.out hE)
    clear hE hpl HRC HBV HJ4 HJ6 HSI HSB
    go_simp
    refine HPL.out.mono ?_
    rintro e w5 ⟨⟨pA1, pn1, pc1, pA2, pn2, pc2, rfl, hjp⟩, hb⟩
    refine hK.out _ _ hb ?_
    clear hK K
    have HB5 := Lib.hid (bel_trans HB4.out hb)
    have HJ6 := Lib.hid (JR_later HJ6b.out hb)
    have HSI := Lib.hid (bsl_below HSIb.out hb)
    have HSB := Lib.hid (bsl_below HSBb.out hb)
    have HJP := Lib.hid hjp
    clear hb hjp HPL HB4 HJ6b HSIb HSBb
    try simp only [List.getElem_toArray, List.getElem_cons_zero, List.getElem_cons_succ, Act.put, List.setIfInBounds_toArray, List.set_cons_zero, List.set_cons_succ]
    refine wpAnyE_tk 5 (v := .bool true) rfl (by kernel_rfl) (by kernel_rfl) (by kernel_rfl) (by kernel_rfl) ?_ ?_
    · intro w2 hE
      have hsa := rsame_any V5 V5 _ _ _ _ w2 (JR_later HJP.out hE) (JR_later HJ6.out hE)
      rw [same_refl] at hsa
      have HSA := Lib.hid hsa
      clear hsa
      go_simp
      exact HSA.out.mono fun e w3 ⟨h1, h2⟩ => ⟨h1, h2⟩
    try simp only [List.getElem_toArray, List.getElem_cons_zero, List.getElem_cons_succ, Act.put, List.setIfInBounds_toArray, List.set_cons_zero, List.set_cons_succ]
    refine wpAnyE_tk 6 (v := ?_) rfl (by kernel_rfl) (by kernel_rfl) (by kernel_rfl) (by kernel_rfl) ?_ ?_
    rotate_left
    · intro w2 hE
      go_simp
      try (with_reducible rfl)
    try simp only [List.getElem_toArray, List.getElem_cons_zero, List.getElem_cons_succ, Act.put, List.setIfInBounds_toArray, List.set_cons_zero, List.set_cons_succ]
    refine wpAnyE_tk 7 (v := ?_) rfl (by kernel_rfl) (by kernel_rfl) (by kernel_rfl) (by kernel_rfl) ?_ ?_
    rotate_left
    · intro w2 hE
      go_simp
      try (with_reducible rfl)
    try simp only [List.getElem_toArray, List.getElem_cons_zero, List.getElem_cons_succ, Act.put, List.setIfInBounds_toArray, List.set_cons_zero, List.set_cons_succ]
    refine wpAnyE_tk 8 (v := ?_) rfl (by kernel_rfl) (by kernel_rfl) (by kernel_rfl) (by kernel_rfl) ?_ ?_
    rotate_left
    · intro w2 hE
      go_simp
      try (with_reducible rfl)
    try simp only [List.getElem_toArray, List.getElem_cons_zero, List.getElem_cons_succ, Act.put, List.setIfInBounds_toArray, List.set_cons_zero, List.set_cons_succ]
    refine wpAnyE_tk 9 (v := ?_) rfl (by kernel_rfl) (by kernel_rfl) (by kernel_rfl) (by kernel_rfl) ?_ ?_
    rotate_left
    · intro w2 hE
      go_simp
      try (with_reducible rfl)
    try simp only [List.getElem_toArray, List.getElem_cons_zero, List.getElem_cons_succ, Act.put, List.setIfInBounds_toArray, List.set_cons_zero, List.set_cons_succ]
    refine wpAnyE_tk 10 (v := ?_) rfl (by kernel_rfl) (by kernel_rfl) (by kernel_rfl) (by kernel_rfl) ?_ ?_
    rotate_left
    · intro w2 hE
      go_simp
      try (with_reducible rfl)
    try simp only [List.getElem_toArray, List.getElem_cons_zero, List.getElem_cons_succ, Act.put, List.setIfInBounds_toArray, List.set_cons_zero, List.set_cons_succ]
    refine wpAnyE_tk 11 (v := ?_) rfl (by kernel_rfl) (by kernel_rfl) (by kernel_rfl) (by kernel_rfl) ?_ ?_
    rotate_left
    · intro w2 hE
      go_simp
      try (with_reducible rfl)
    try simp only [List.getElem_toArray, List.getElem_cons_zero, List.getElem_cons_succ, Act.put, List.setIfInBounds_toArray, List.set_cons_zero, List.set_cons_succ]
    refine wpAnyE_tk 12 (v := ?_) rfl (by kernel_rfl) (by kernel_rfl) (by kernel_rfl) (by kernel_rfl) ?_ ?_
    rotate_left
    · intro w2 hE
      go_simp
      try (with_reducible rfl)
    try simp only [List.getElem_toArray, List.getElem_cons_zero, List.getElem_cons_succ, Act.put, List.setIfInBounds_toArray, List.set_cons_zero, List.set_cons_succ]
    refine wpAnyE_tk 13 (v := ?_) rfl (by kernel_rfl) (by kernel_rfl) (by kernel_rfl) (by kernel_rfl) ?_ ?_
    rotate_left
    · intro w2 hE
      go_simp
      try (with_reducible rfl)
    try simp only [List.getElem_toArray, List.getElem_cons_zero, List.getElem_cons_succ, Act.put, List.setIfInBounds_toArray, List.set_cons_zero, List.set_cons_succ]
    refine wpAnyE_tk 14 (v := ?_) rfl (by kernel_rfl) (by kernel_rfl) (by kernel_rfl) (by kernel_rfl) ?_ ?_
    rotate_left
    · intro w2 hE
      go_simp
      try (with_reducible rfl)
    try simp only [List.getElem_toArray, List.getElem_cons_zero, List.getElem_cons_succ, Act.put, List.setIfInBounds_toArray, List.set_cons_zero, List.set_cons_succ]
    refine wpAnyE_tk 15 (v := .bool true) rfl (by kernel_rfl) (by kernel_rfl) (by kernel_rfl) (by kernel_rfl) ?_ ?_
    · intro w2 hE
      have hby := bytesEq_any _ _ _ _ _ w2 (bsl_below HSI.out hE) (bsl_below HSB.out hE)
      have HBY := Lib.hid hby
      clear hby
      go_simp
      exact HBY.out.mono fun e w3 ⟨h1, h2⟩ => ⟨h1, h2⟩
    try simp only [List.getElem_toArray, List.getElem_cons_zero, List.getElem_cons_succ, Act.put, List.setIfInBounds_toArray, List.set_cons_zero, List.set_cons_succ]
    refine wpAnyE_tk 16 (v := ?_) rfl (by kernel_rfl) (by kernel_rfl) (by kernel_rfl) (by kernel_rfl) ?_ ?_
    rotate_left
    · intro w2 hE
      go_simp
      try (with_reducible rfl)
    try simp only [List.getElem_toArray, List.getElem_cons_zero, List.getElem_cons_succ, Act.put, List.setIfInBounds_toArray, List.set_cons_zero, List.set_cons_succ]
    refine wpAnyE_tk 17 (v := ?_) rfl (by kernel_rfl) (by kernel_rfl) (by kernel_rfl) (by kernel_rfl) ?_ ?_
    rotate_left
    · intro w2 hE
      go_simp
      try (with_reducible rfl)
    try simp only [List.getElem_toArray, List.getElem_cons_zero, List.getElem_cons_succ, Act.put, List.setIfInBounds_toArray, List.set_cons_zero, List.set_cons_succ]
    refine wpAnyE_done (by kernel_rfl) (fun w6 hE6 => ?_) _
    have HB6 := Lib.hid (bel_trans HB5.out hE6)
    clear hE6
    go_wp2_with fail
    go_ret
    exact ⟨rfl, HB6.out⟩
end Go.Proofs.YtjjgbgojlhaapaaGreatDoor
namespace Go.Proofs.YtjjgbgojlhaapaaGreatDoor
open Go.RowKit Go.Deep Go.ChangeShapes Go.WideShapes Go.ChangeAt

section
variable {H : Type} {enc : TypeId × Value → H} {P : Program} {w : World} {base : Nat} {spare : Nat → Bool} {held : Bool}
/-- a slice argument, its elements opened at less fuel -/
theorem opens_slice_lt {α : Type} {T : Ty α} {t e : TypeId} (ht : P.underlying t = some (.slice e)) (hsz : P.cellsOf e = T.sz) {N : Nat}
    (hel : ∀ n, n < N → ∀ cs y, DataW.trod enc P w base spare held n e cs = some y → ∃ x, T.R w (fun _ => True) x cs) {v : Value} {y : DataW H × List MemPlace}
    (h : DataW.trod enc P w base spare held N t [v] = some y) : ∃ xs : List α, Sl T w (fun _ => True) v xs := by
  rcases DataW.trod_slice ht h with ⟨h0, rfl⟩ | ⟨a, len, cap, elems, rest, n, rfl, h0, rfl, hb, hl, hm, hlen, hi, _, _⟩
  · obtain rfl : v = .slice none 0 0 := by simpa using h0
    exact ⟨[], Sl.nil none 0⟩
  · obtain rfl : v = .slice (some a) len cap := by simpa using h0
    have hcell : ∀ i, i < len → ∃ x cs, T.R w (fun _ => True) x cs ∧ cs.length = T.sz ∧ ∀ j u, cs[j]? = some u → w.cell? ((a.add (i * T.sz)).add j) = some u := by
      intro i hil
      have h1 := hi i hil
      rw [List.getElem?_eq_getElem (show i < elems.length by omega)] at h1
      obtain ⟨cs, hc, ht'⟩ := Option.bind_eq_some_iff.1 h1
      obtain ⟨x, hx⟩ := hel n (by omega) _ _ ht'
      obtain ⟨_, hlen, hcc⟩ := World.cells?_some hc
      refine ⟨x, cs, hx, T.len hx, fun j u hj => ?_⟩
      have := lt_of_get hj
      rw [hsz] at hcc
      rw [hcc j (by rw [← T.len hx]; exact this)]
      exact hj
    rcases Nat.eq_zero_or_pos len with h00 | hp
    · subst h00
      exact ⟨[], Sl.nil (some a) cap⟩
    · obtain ⟨b, o, rfl⟩ : ∃ b o, a = ⟨b, o, none⟩ := by
        obtain ⟨x, cs, hx, hlc, hc⟩ := hcell 0 hp
        have := hc 0 (cs[0]'(by rw [hlc]; exact T.pos)) (List.getElem?_eq_getElem _)
        rw [Nat.zero_mul] at this
        have e1 : (a.add 0).add 0 = a := by simp [Addr.add]
        rw [e1] at this
        obtain ⟨b, o, sp⟩ := a
        refine ⟨b, o, ?_⟩
        cases sp with
        | none => rfl
        | some q =>
          exfalso
          unfold World.cell? at this
          split at this <;> simp at this
      have hbuild : ∀ l, l ≤ len → ∃ (xs : List α) (cs : List Value), xs.length = l ∧ Chunks T w (fun _ => True) xs cs ∧ ∀ j u, cs[j]? = some u → w.cell? ⟨b, o + j, none⟩ = some u := by
        intro l
        induction l with
        | zero => intro _; exact ⟨[], [], rfl, rfl, fun j u hj => by simp at hj⟩
        | succ l ih =>
          intro hll
          obtain ⟨xs, cs, h1, h2, h3⟩ := ih (by omega)
          obtain ⟨x, c, h4, h5, h6⟩ := hcell l (by omega)
          refine ⟨xs ++ [x], cs ++ c, by simp [h1], h2.append (Chunks.single h4), fun j u hj => ?_⟩
          have hcl : cs.length = l * T.sz := by rw [h2.len, h1]
          rcases Nat.lt_or_ge j cs.length with hj2 | hj2
          · rw [List.getElem?_append_left hj2] at hj
            exact h3 j u hj
          · rw [List.getElem?_append_right hj2] at hj
            have := h6 _ _ hj
            rw [Addr.add_lit, Addr.add_lit] at this
            rw [show o + j = o + l * T.sz + (j - cs.length) by omega]
            exact this
      obtain ⟨xs, cs, h1, h2, h3⟩ := hbuild len (Nat.le_refl _)
      exact ⟨xs, .inr ⟨b, o, cap, by rw [h1], trivial, by omega, by simpa [maxLen] using hm, cs, h2, h3⟩⟩
end

set_option maxRecDepth 100000 in
theorem val_fields : ∃ f0 f1 f2 f3 f4, Tryz.prog.underlying 28 = some (.struct #[f0, f1, f2, f3, f4]) ∧ (f0.offset = 0 ∧ f1.offset = 1 ∧ f2.offset = 2 ∧ f3.offset = 3 ∧ f4.offset = 4) ∧
    Tryz.prog.underlying f0.type = some (.int .i64) ∧ Tryz.prog.underlying f1.type = some (.int .i64) ∧ Tryz.prog.underlying f2.type = some .string ∧ Tryz.prog.underlying f3.type = some (.slice 28) ∧ Tryz.prog.underlying f4.type = some (.slice 53) ∧
    Tryz.prog.cellsOf f0.type = 1 ∧ Tryz.prog.cellsOf f1.type = 1 ∧ Tryz.prog.cellsOf f2.type = 1 ∧ Tryz.prog.cellsOf f3.type = 1 ∧ Tryz.prog.cellsOf f4.type = 1 :=
  ⟨_, _, _, _, _, Tryz.underlying28, ⟨rfl, rfl, rfl, rfl, rfl⟩, by kernel_rfl, by kernel_rfl, by kernel_rfl, by kernel_rfl, by kernel_rfl, by kernel_rfl, by kernel_rfl, by kernel_rfl, by kernel_rfl, by kernel_rfl⟩
set_option maxRecDepth 100000 in
theorem mem_fields : ∃ f0 f1, Tryz.prog.underlying 53 = some (.struct #[f0, f1]) ∧ f0.offset = 0 ∧ f1.offset = 1 ∧ Tryz.prog.underlying f0.type = some .string ∧ f1.type = 28 ∧ Tryz.prog.cellsOf f0.type = 1 ∧ Tryz.prog.cellsOf 28 = 5 :=
  ⟨_, _, Tryz.underlying53, rfl, rfl, by kernel_rfl, rfl, by kernel_rfl, by kernel_rfl⟩
theorem cells_val : Tryz.prog.cellsOf 28 = 5 := by kernel_rfl
theorem cells_mem : Tryz.prog.cellsOf 53 = 6 := by kernel_rfl

section
variable {H : Type} {enc : TypeId × Value → H} {w : World} {base : Nat} {spare : Nat → Bool} {held : Bool}
set_option maxRecDepth 100000 in
theorem jv_opens : ∀ (n : Nat) (cs : List Value) (y : DataW H × List MemPlace), DataW.trod enc Tryz.prog w base spare held n 28 cs = some y → ∃ x, jvTy.R w (fun _ => True) x cs := fun n => by
  induction n using Nat.strongRecOn with
  | _ n ih =>
    intro cs y h
    obtain ⟨f0, f1, f2, f3, f4, hu, ⟨o0, o1, o2, o3, o4⟩, u0, u1, u2, u3, u4, c0, c1, c2, c3, c4⟩ := val_fields
    obtain ⟨xs, m, rfl, rfl, hl, hlen, hf⟩ := DataW.trod_struct hu h
    rw [cells_val] at hl
    match cs, hl with
    | [a0, a1, a2, a3, a4], _ =>
      have g0 := hf 0 f0 rfl
      have g1 := hf 1 f1 rfl
      have g2 := hf 2 f2 rfl
      have g3 := hf 3 f3 rfl
      have g4 := hf 4 f4 rfl
      rw [o0, c0] at g0; rw [o1, c1] at g1; rw [o2, c2] at g2; rw [o3, c3] at g3; rw [o4, c4] at g4
      have hx5 : xs.length = 5 := hlen
      match xs, hx5 with
      | [y0, y1, y2, y3, y4], _ =>
        replace g0 : DataW.trod enc Tryz.prog w base spare held m f0.type [a0] = some y0 := g0
        replace g1 : DataW.trod enc Tryz.prog w base spare held m f1.type [a1] = some y1 := g1
        replace g2 : DataW.trod enc Tryz.prog w base spare held m f2.type [a2] = some y2 := g2
        replace g3 : DataW.trod enc Tryz.prog w base spare held m f3.type [a3] = some y3 := g3
        replace g4 : DataW.trod enc Tryz.prog w base spare held m f4.type [a4] = some y4 := g4
        obtain ⟨k, e0, _, _⟩ := DataW.trod_int u0 g0
        obtain ⟨i, e1, _, _⟩ := DataW.trod_int u1 g1
        obtain ⟨s, e2, _, hs⟩ := DataW.trod_string u2 g2
        obtain ⟨l, hL⟩ := opens_slice_lt (T := jvTy) u3 cells_val (fun n' hn' cs' y' h' => ih n' (by omega) cs' y' h') g3
        obtain ⟨mm, hM⟩ := opens_slice_lt (T := memTy) u4 cells_mem (fun n' hn' cs' y' h' => by
          obtain ⟨p0, p1, hu', q0, q1, v0, v1, d0, d1⟩ := mem_fields
          obtain ⟨zs, m', rfl, rfl, hl', hlen', hf'⟩ := DataW.trod_struct hu' h'
          rw [cells_mem] at hl'
          match cs', hl' with
          | [b0, b1, b2, b3, b4, b5], _ =>
            have k0 := hf' 0 p0 rfl
            have k1 := hf' 1 p1 rfl
            rw [q0, d0] at k0; rw [q1, v1, d1] at k1
            have hz2 : zs.length = 2 := hlen'
            match zs, hz2 with
            | [z0, z1], _ =>
              replace k0 : DataW.trod enc Tryz.prog w base spare held m' p0.type [b0] = some z0 := k0
              replace k1 : DataW.trod enc Tryz.prog w base spare held m' 28 [b1, b2, b3, b4, b5] = some z1 := k1
              obtain ⟨nm, e0', _, hnm⟩ := DataW.trod_string v0 k0
              obtain ⟨x, hx⟩ := ih m' (by omega) _ _ k1
              obtain rfl : b0 = .string nm := by simpa using e0'
              exact ⟨(nm, x), _, ⟨rfl, by simpa [maxLen] using hnm⟩, hx⟩) g4
        obtain rfl : a0 = .int .i64 k := by simpa using e0
        obtain rfl : a1 = .int .i64 i := by simpa using e1
        obtain rfl : a2 = .string s := by simpa using e2
        exact ⟨.mk k i s l mm, JR_iff.2 ⟨_, _, ⟨rfl, (show s.size ≤ 9223372036854775807 by simpa [maxLen] using hs)⟩, hL, hM⟩⟩
set_option maxRecDepth 100000 in
/-- an argument json.Value: a tree in memory -/
theorem jv_arg {v : Value} {d : DataW H} {p : List MemPlace} (hok : Value.okWide Tryz.prog w .any base 28 v) (h : DataW.Trod enc Tryz.prog w 0 spare held 28 v d p) :
    ∃ (x : JV) (cs : List Value), v = .agg cs.toArray ∧ JR w (fun _ => True) x cs := by
  obtain ⟨cs, rfl, hsz⟩ := okWide_struct Tryz.underlying28 hok
  obtain ⟨n, hn⟩ := h
  obtain ⟨x, hx⟩ := jv_opens n _ _ hn
  exact ⟨x, cs.toList, rfl, hx⟩
end
end Go.Proofs.YtjjgbgojlhaapaaGreatDoor
namespace Go.Proofs.YtjjgbgojlhaapaaGreatDoor
open Go.RowKit Go.Deep Go.ChangeShapes Go.WideShapes Go.ChangeAt

def byTy : Ty UInt8 where
  sz := 1
  pos := by decide
  R := fun _ _ x cs => cs = [.int .u8 (x.toNat : Int)]
  len := by rintro w F x cs rfl; rfl
  one := by rintro w F x cs rfl u hu; rw [List.mem_singleton.1 hu]; rfl
  mono := fun _ h => h
  frame := fun _ h => h
  bound := fun h => h
theorem by_chunks {w : World} {F : Nat → Prop} : ∀ {xs : List UInt8} {cs : List Value}, Chunks byTy w F xs cs → cs = Lib.byteCells xs
  | [], _, h => h
  | x :: xs, _, ⟨c, r, e, h1, h2⟩ => by
    have h1' : c = [.int .u8 (x.toNat : Int)] := h1
    rw [e, by_chunks h2, h1']
    rfl
theorem by_bsl {w : World} {F : Nat → Prop} {v : Value} {xs : List UInt8} (h : Sl byTy w F v xs) : BSl w F v ⟨xs.toArray⟩ := by
  have hz : (⟨xs.toArray⟩ : ByteArray).size = xs.length := by simp [ByteArray.size]
  rcases h with ⟨rfl, A, c, rfl⟩ | ⟨b, o, c, rfl, hF, hlc, hcm, cs, hch, hcell⟩
  · exact .inr ⟨rfl, A, c, rfl⟩
  · refine .inl ⟨b, o, c, by rw [hz], hF, fun i hi => ?_⟩
    rw [hz] at hi
    exact hcell i _ (by rw [by_chunks hch]; simp [Lib.byteCells, hi]; rfl)
section
variable {H : Type} {enc : TypeId × Value → H} {w : World} {base : Nat} {spare : Nat → Bool} {held : Bool}
theorem u8_cells : Tryz.prog.cellsOf 5 = 1 := by kernel_rfl
set_option maxRecDepth 100000 in
/-- an argument []byte: a list of bytes in memory -/
theorem bytes_arg {v : Value} {d : DataW H} {p : List MemPlace} (hok : Value.okWide Tryz.prog w .any base 22 v) (h : DataW.Trod enc Tryz.prog w 0 spare held 22 v d p) : ∃ l : List UInt8, BSl w (fun _ => True) v ⟨l.toArray⟩ := by
  obtain ⟨a0, len0, cap0, rfl⟩ := okWide_slice Tryz.underlying22 hok
  obtain ⟨fuel, hf⟩ := h
  obtain ⟨xs, hx⟩ := opens_slice_lt (T := byTy) Tryz.underlying22 u8_cells (fun n _ cs y h => by
    obtain ⟨k, e0, _, hwf⟩ := DataW.trod_int Tryz.underlying5 h
    simp [Lit.wf] at hwf
    have h0 : (0 : Int) ≤ k := hwf.1
    have h1 : k ≤ 255 := hwf.2
    refine ⟨UInt8.ofNat k.toNat, ?_⟩
    have : (UInt8.ofNat k.toNat).toNat = k.toNat := by rw [UInt8.toNat_ofNat']; omega
    show cs = [.int .u8 ((UInt8.ofNat k.toNat).toNat : Int)]
    rw [e0, this, show ((k.toNat : Nat) : Int) = k by omega]) hf
  exact ⟨xs, by_bsl hx⟩
end
end Go.Proofs.YtjjgbgojlhaapaaGreatDoor
