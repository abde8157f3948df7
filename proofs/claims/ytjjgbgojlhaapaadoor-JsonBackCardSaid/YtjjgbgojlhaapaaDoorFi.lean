/- json's law package: first: plain facts. -/
import Derived.Test.YtjjgbgojlhaapaaDoorPs
import Derived.Test.YtjjgbgojlhaapaaDoorPb
import Derived.Lib.SlBytesConst
namespace Go.Proofs.YtjjgbgojlhaapaaDoor
open Go.RowKit Go.Lib

def firstS : ByteArray := ⟨#[123, 34, 98, 34, 58, 49, 44, 34, 97, 34, 58, 91, 116, 114, 117, 101, 44, 110, 117, 108, 108, 93, 125]⟩
def firstV : JV := objV [(⟨#[97]⟩, listV [.mk 3 0 ⟨#[]⟩ [] [], .mk 1 0 ⟨#[]⟩ [] []]), (⟨#[98]⟩, numV 1)]
def firstP : List UInt8 := [123, 34, 97, 34, 58, 91, 116, 114, 117, 101, 44, 110, 117, 108, 108, 93, 44, 34, 98, 34, 58, 49, 125]
theorem first_parse : parseB firstS = (firstV, 0) := by kernel_rfl
theorem first_point : (parseB ⟨#[49, 46, 53]⟩).2 = 4 := by kernel_rfl
theorem first_twice : (parseB ⟨#[123, 34, 97, 34, 58, 49, 44, 34, 97, 34, 58, 50, 125]⟩).2 = 4 := by kernel_rfl
theorem first_may : mayJ 64 firstV = true := by kernel_rfl
theorem first_print : printB 64 firstV = firstP := by kernel_rfl

def cellsOf (s : ByteArray) : Array Value := (s.data.toList.map fun x => Value.int .u8 (x.toNat : Int)).toArray
theorem bsl_alloc (w : World) (s : ByteArray) (t : TypeId) (n c : Nat) (cs : Array Value) (fz : Nat × Nat) (hn : n = s.size) (hc : cs = cellsOf s) : BSl (w.alloc (.cells cs t fz)) (fun _ => True) (.slice (some ⟨w.heap.size, 0, none⟩) n c) s := by
  subst hn; subst hc
  refine .inl ⟨_, _, _, rfl, trivial, fun i hi => ?_⟩
  rw [Lib.cell_of_heap (heap_alloc_new w (.cells (cellsOf s) t fz))]
  unfold cellsOf
  simp [hi]
  rfl
theorem tabs_later {w w' : World} (hT : Tabs w) (hb : Below w.heap.size w w') : Tabs w' := hT.below hb
set_option maxRecDepth 100000 in
set_option maxHeartbeats 8000000 in
theorem first_any (w : World) (hT : Tabs w) : Calls Tryd.prog 24 #[] w fun z w' => z = .returned (.bool true) ∧ Below w.heap.size w w' := by
  have kc := fun (w : World) (C : Array Value) (n c : Nat) => Lib.run_convert_bytes_const (P := Tryd.prog) w 58 5 C n c Tryd.underlying58 Tryd.underlying5
  have h1 : Below w.heap.size w w := Below.refl _ _
  have HT := Lib.hid hT; have H1 := Lib.hid h1
  clear hT h1
  go_enter Tryd.func24, Tryd.ntmps24
  go_wp2_with fail
  have hbA := bel_alloc H1.out (.cells (cellsOf firstS) 5 (23, 24))
  have hpa := parse_any firstS (.slice (some ⟨w.heap.size, 0, none⟩) 23 23) _ (w.alloc (.cells (cellsOf firstS) 5 (23, 24))) (HT.out.below hbA) (bsl_alloc _ _ _ _ _ _ _ rfl rfl)
  refine Calls.mono hpa ?_
  rintro e w1 ⟨A1, n1, c1, A2, n2, c2, he, hj, hb⟩
  rw [first_parse] at he hj
  simp only at he hj
  subst he
  have hb1 := bel_trans hbA hb
  have hA2 := bel_alloc (Below.refl w1.heap.size w1) (.cells #[.int .i64 firstV.k, .int .i64 firstV.n, .string firstV.s, .slice A1 n1 c1, .slice A2 n2 c2] 55)
  have hj2 := JR_later hj hA2
  have hb2 := bel_trans hb1 hA2
  have hc2 := heap_alloc_new w1 (.cells #[.int .i64 firstV.k, .int .i64 firstV.n, .string firstV.s, .slice A1 n1 c1, .slice A2 n2 c2] 55)
  have HB2 := Lib.hid hb2; have HJ2 := Lib.hid hj2; have HC2 := Lib.hid hc2
  clear hbA hpa hj hb hb1 hA2 hj2 hb2 hc2
  go_upto_region 2 with (fail)
  generalize w1.alloc (.cells #[.int .i64 firstV.k, .int .i64 firstV.n, .string firstV.s, .slice A1 n1 c1, .slice A2 n2 c2] 55) = w2 at *
  obtain ⟨⟨v0, v1, v2, v3, v4⟩, _, hV⟩ := cells5 HC2.out
  have hpr := Print_good firstV _ _ w2 HJ2.out (HT.out.below HB2.out) first_may (by rw [first_print]; decide)
  rw [first_print] at hpr
  have HPR := Lib.hid hpr
  clear hpr
  go_wp2_with fail
  refine Calls.mono HPR.out ?_
  rintro e w3 ⟨⟨g, cc, rfl, hbs⟩, hb3⟩
  have hs3 : BSl w3 (fun b => b < w3.heap.size) (.slice (some ⟨g, 0, none⟩) firstP.length cc) ⟨firstP.toArray⟩ := by
    refine .inl ⟨g, 0, cc, rfl, World.block_lt_of_cell? w3 _ (hbs 0 (by decide)), fun i hi => ?_⟩
    have h := hbs i (by simpa [ByteArray.size] using hi)
    rw [Addr.add_mid] at h
    exact h
  have hbw3 := bel_trans HB2.out hb3
  have HS3 := Lib.hid hs3; have HB3 := Lib.hid hbw3
  clear hs3 hbw3 hbs hb3 v0 v1 v2 v3 v4 hV HPR HJ2 HC2 HB2
  go_upto_region 3 with (fail)
  have hlt3 : w3.heap.size ≤ w3.heap.size := Nat.le_refl _
  go_wp2_with fail
  have hbA := bel_alloc HB3.out (.cells (cellsOf ⟨#[49, 46, 53]⟩) 5 (3, 4))
  have hpa := parse_any ⟨#[49, 46, 53]⟩ (.slice (some ⟨w3.heap.size, 0, none⟩) 3 3) _ (w3.alloc (.cells (cellsOf ⟨#[49, 46, 53]⟩) 5 (3, 4))) (HT.out.below hbA) (bsl_alloc _ _ _ _ _ _ _ rfl rfl)
  refine Calls.mono hpa ?_
  rintro e w4 ⟨B1, m1, d1, B2, m2, d2, he, hj, hb⟩
  rw [first_point] at he
  generalize (parseB ⟨#[49, 46, 53]⟩).1 = r4 at *
  subst he
  have hb1 := bel_trans hbA hb
  have hA2 := bel_alloc (Below.refl w4.heap.size w4) (.cells #[.int .i64 r4.k, .int .i64 r4.n, .string r4.s, .slice B1 m1 d1, .slice B2 m2 d2] 55)
  have hb2 := bel_trans hb1 hA2
  have hs := BSl.frame (w' := w4.alloc (.cells #[.int .i64 r4.k, .int .i64 r4.n, .string r4.s, .slice B1 m1 d1, .slice B2 m2 d2] 55)) (fun b hb0 => (hA2.block b (by have := hb.size; have h2 : (w3.alloc (.cells (cellsOf ⟨#[49, 46, 53]⟩) 5 (3, 4))).heap.size = w3.heap.size + 1 := (by show (w3.heap.push _).size = _; simp); have := hlt3; omega)).trans ((hb.block b (by have h2 : (w3.alloc (.cells (cellsOf ⟨#[49, 46, 53]⟩) 5 (3, 4))).heap.size = w3.heap.size + 1 := (by show (w3.heap.push _).size = _; simp); have := hlt3; omega)).trans (heap_alloc_old w3 _ (by have := hlt3; omega)))) HS3.out
  have hlt4 : w3.heap.size ≤ (w4.alloc (.cells #[.int .i64 r4.k, .int .i64 r4.n, .string r4.s, .slice B1 m1 d1, .slice B2 m2 d2] 55)).heap.size := by
    have := hb.size; have := hA2.size
    have h2 : (w3.alloc (.cells (cellsOf ⟨#[49, 46, 53]⟩) 5 (3, 4))).heap.size = w3.heap.size + 1 := (by show (w3.heap.push _).size = _; simp)
    omega
  have HB4 := Lib.hid hb2; have HS4 := Lib.hid hs
  clear hbA hpa hj hb hb1 hA2 hb2 hs
  go_upto_region 4 with (fail)
  generalize w4.alloc (.cells #[.int .i64 r4.k, .int .i64 r4.n, .string r4.s, .slice B1 m1 d1, .slice B2 m2 d2] 55) = w4b at *
  go_wp2_with fail
  have hbA := bel_alloc HB4.out (.cells (cellsOf ⟨#[123, 34, 97, 34, 58, 49, 44, 34, 97, 34, 58, 50, 125]⟩) 5 (13, 14))
  have hpa := parse_any ⟨#[123, 34, 97, 34, 58, 49, 44, 34, 97, 34, 58, 50, 125]⟩ (.slice (some ⟨w4b.heap.size, 0, none⟩) 13 13) _ (w4b.alloc (.cells (cellsOf ⟨#[123, 34, 97, 34, 58, 49, 44, 34, 97, 34, 58, 50, 125]⟩) 5 (13, 14))) (HT.out.below hbA) (bsl_alloc _ _ _ _ _ _ _ rfl rfl)
  refine Calls.mono hpa ?_
  rintro e w5 ⟨B1, m1, d1, B2, m2, d2, he, hj, hb⟩
  rw [first_twice] at he
  generalize (parseB ⟨#[123, 34, 97, 34, 58, 49, 44, 34, 97, 34, 58, 50, 125]⟩).1 = r5 at *
  subst he
  have hb1 := bel_trans hbA hb
  have hA2 := bel_alloc (Below.refl w5.heap.size w5) (.cells #[.int .i64 r5.k, .int .i64 r5.n, .string r5.s, .slice B1 m1 d1, .slice B2 m2 d2] 55)
  have hb2 := bel_trans hb1 hA2
  have hs := BSl.frame (w' := w5.alloc (.cells #[.int .i64 r5.k, .int .i64 r5.n, .string r5.s, .slice B1 m1 d1, .slice B2 m2 d2] 55)) (fun b hb0 => (hA2.block b (by have := hb.size; have h2 : (w4b.alloc (.cells (cellsOf ⟨#[123, 34, 97, 34, 58, 49, 44, 34, 97, 34, 58, 50, 125]⟩) 5 (13, 14))).heap.size = w4b.heap.size + 1 := (by show (w4b.heap.push _).size = _; simp); have := hlt4; omega)).trans ((hb.block b (by have h2 : (w4b.alloc (.cells (cellsOf ⟨#[123, 34, 97, 34, 58, 49, 44, 34, 97, 34, 58, 50, 125]⟩) 5 (13, 14))).heap.size = w4b.heap.size + 1 := (by show (w4b.heap.push _).size = _; simp); have := hlt4; omega)).trans (heap_alloc_old w4b _ (by have := hlt4; omega)))) HS4.out
  have hlt5 : w3.heap.size ≤ (w5.alloc (.cells #[.int .i64 r5.k, .int .i64 r5.n, .string r5.s, .slice B1 m1 d1, .slice B2 m2 d2] 55)).heap.size := by
    have := hb.size; have := hA2.size
    have h2 : (w4b.alloc (.cells (cellsOf ⟨#[123, 34, 97, 34, 58, 49, 44, 34, 97, 34, 58, 50, 125]⟩) 5 (13, 14))).heap.size = w4b.heap.size + 1 := (by show (w4b.heap.push _).size = _; simp)
    omega
  have HB5 := Lib.hid hb2; have HS5 := Lib.hid hs
  clear hbA hpa hj hb hb1 hA2 hb2 hs
  go_upto_region 5 with (fail)
  generalize w5.alloc (.cells #[.int .i64 r5.k, .int .i64 r5.n, .string r5.s, .slice B1 m1 d1, .slice B2 m2 d2] 55) = w5b at *
  have hcv : (convert 58 9 (.slice (some ⟨g, 0, none⟩) firstP.length cc)).run Tryd.prog w5b = .ok (.string ⟨firstP.toArray⟩) w5b := HS5.out.conv
  rw [show (⟨firstP.toArray⟩ : ByteArray) = ⟨#[123, 34, 97, 34, 58, 91, 116, 114, 117, 101, 44, 110, 117, 108, 108, 93, 44, 34, 98, 34, 58, 49, 125]⟩ from rfl] at hcv
  have HFB := Lib.hid HB5.out
  go_wp2_with fail
  go_ret
  exact ⟨rfl, HFB.out⟩
end Go.Proofs.YtjjgbgojlhaapaaDoor
