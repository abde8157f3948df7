/- Parts of the proof: Pb, Fi, Nl, Dc, Gp, Gm, Go, Km. -/
import Derived.Test.YtjjgbgojlhaapaaGreatDoorZJls21
import Derived.Laws.IdiomStrings
import Derived.Test.YtjjgbgojlhaapaaGreatDoorZJls15
import Derived.Lib.SlBytesConst
import Derived.Test.YtjjgbgojlhaapaaGreatDoorZJls8
import Derived.Test.YtjjgbgojlhaapaaGreatDoorZJls4
import Derived.Lib.SlBytesRow
import Derived.Test.YtjjgbgojlhaapaaGreatDoorZJls16
import Derived.Test.YtjjgbgojlhaapaaGreatDoorZJls17
import Derived.Test.YtjjgbgojlhaapaaGreatDoorZJls6
namespace Go.Proofs.YtjjgbgojlhaapaaGreatDoor
open Go.RowKit Go.Lib

theorem bytesRow_cell (w : World) (l : List UInt8) (cap : Nat) (e : TypeId) (fz : Nat × Nat) (j : Nat) (hj : j < l.length) : (w.drew.alloc (.cells (bytesRow ⟨l.toArray⟩ cap) e fz)).cell? ((⟨w.heap.size, 0, none⟩ : Addr).add j) = some (.int .u8 (l[j].toNat : Int)) := by
  rw [Addr.add_lit]
  have : (w.drew.alloc (.cells (bytesRow ⟨l.toArray⟩ cap) e fz)).heap[w.heap.size]? = some (.cells (bytesRow ⟨l.toArray⟩ cap) e fz) := heap_alloc_new w.drew (.cells (bytesRow ⟨l.toArray⟩ cap) e fz)
  rw [Lib.cell_of_heap this]
  simp only [bytesRow, Nat.zero_add]
  rw [Array.getElem?_append_left (by simpa using hj)]
  simp [hj]
set_option maxRecDepth 100000 in
set_option maxHeartbeats 4000000 in
theorem Print_bad (x : JV) (cs : List Value) (F : Nat → Prop) (w : World) (h : JR w F x cs) (hT : Tabs w) (hm : mayJ 64 x = false) :
    Calls Tryz.prog 14 #[.agg cs.toArray] w fun e w' => e = .returned (.tuple #[.slice none 0 0, .int .i64 4]) ∧ Below w.heap.size w w' := by
  have hbA : Below w.heap.size w (w.alloc (.cells cs.toArray 28)) := bel_alloc (Below.refl _ _) _
  have hc := May_any x cs F _ (JR_later h hbA) (hT.below hbA)
  rw [hm] at hc
  obtain ⟨A1, n1, c1, A2, n2, c2, rfl⟩ := JR_form h
  have HC := Lib.hid hc; have HB := Lib.hid hbA
  clear hc h hT hbA
  go_enter Tryz.func14, Tryz.ntmps14
  go_wp2_with fail
  refine Calls.mono HC.out ?_
  rintro e w2 ⟨rfl, hb⟩
  go_wp2_with fail
  go_ret2
  exact ⟨rfl, bel_trans HB.out hb⟩

set_option maxRecDepth 100000 in
set_option maxHeartbeats 4000000 in
theorem Print_full (x : JV) (cs : List Value) (F : Nat → Prop) (w : World) (h : JR w F x cs) (hT : Tabs w) (hm : mayJ 64 x = true) (hlen : (printB 64 x).length ≤ 140737488355328) :
    Calls Tryz.prog 14 #[.agg cs.toArray] w fun e w' => (∃ g c, e = .returned (.tuple #[.slice (some ⟨g, 0, none⟩) (printB 64 x).length c, .int .i64 0]) ∧ ((printB 64 x).length ≤ c ∧ c ≤ 9223372036854775807) ∧ ∀ j (hj : j < (printB 64 x).length), w'.cell? ((⟨g, 0, none⟩ : Addr).add j) = some (.int .u8 ((printB 64 x)[j].toNat : Int))) ∧ Below w.heap.size w w' := by
  have hbA : Below w.heap.size w (w.alloc (.cells cs.toArray 28)) := bel_alloc (Below.refl _ _) _
  have hc := May_any x cs F _ (JR_later h hbA) (hT.below hbA)
  rw [hm] at hc
  have hp := fun w0 (h0 : Below w.heap.size w w0) b W => print_at 64 x cs F w0 b [] W hm (JR_later h h0) (hT.below h0)
  obtain ⟨A1, n1, c1, A2, n2, c2, rfl⟩ := JR_form h
  have n0 := cell_newB w #[.int .i64 x.k, .int .i64 x.n, .string x.s, .slice A1 n1 c1, .slice A2 n2 c2] 28 0 _ rfl
  have m1 := cell_newB w #[.int .i64 x.k, .int .i64 x.n, .string x.s, .slice A1 n1 c1, .slice A2 n2 c2] 28 1 _ rfl
  have m2 := cell_newB w #[.int .i64 x.k, .int .i64 x.n, .string x.s, .slice A1 n1 c1, .slice A2 n2 c2] 28 2 _ rfl
  have m3 := cell_newB w #[.int .i64 x.k, .int .i64 x.n, .string x.s, .slice A1 n1 c1, .slice A2 n2 c2] 28 3 _ rfl
  have m4 := cell_newB w #[.int .i64 x.k, .int .i64 x.n, .string x.s, .slice A1 n1 c1, .slice A2 n2 c2] 28 4 _ rfl
  have HC := Lib.hid hc; have HB := Lib.hid hbA; have HP := Lib.hid hp; have HL := Lib.hid hlen
  clear hc h hT hbA hp hlen hm
  generalize printB 64 x = P at *
  go_enter Tryz.func14, Tryz.ntmps14
  go_wp2_with fail
  refine Calls.mono HC.out ?_
  rintro e w2 ⟨rfl, hb⟩
  have l0 := cell_later' hb n0
  have l1 := cell_later' hb m1
  have l2 := cell_later' hb m2
  have l3 := cell_later' hb m3
  have l4 := cell_later' hb m4
  have hz : w.heap.size < w2.heap.size := World.block_lt_of_cell? _ _ l0
  have HB2 := Lib.hid (bel_trans HB.out hb)
  have hbW : Below w2.heap.size w2 (w2.alloc (.cells #[.pointer none, .slice none 0 0] 80)) := bel_alloc (Below.refl _ _) _
  have hfr : Sb w2.heap.size w2.heap.size [] (w2.alloc (.cells #[.pointer none, .slice none 0 0] 80)) := Lib.fresh_isBuilder _ _ w2
  have HW := Lib.hid hbW; have HF := Lib.hid hfr
  clear n0 m1 m2 m3 m4 hb hbW hfr
  go_wp2_with fail
  refine Calls.mono (HP.out w2 HB2.out w2.heap.size _ HW.out HF.out (by simpa using HL.out)) ?_
  rintro e w3 ⟨rfl, hp⟩
  have hsb : Sb w2.heap.size w2.heap.size (Lib.byteCells (P)) w3 := by simpa using hp.1
  have hstr := Tryz.Builder_String_any w2.heap.size w2.heap.size (P) w3 hsb (Nat.le_trans HW.out.size hp.2.1.size)
  have HS := Lib.hid hstr; have HP3 := Lib.hid hp.2.1
  clear hp hsb hstr
  go_wp2_with fail
  refine Calls.mono HS.out ?_
  rintro e w4 ⟨rfl, hb4⟩
  have HB4 := Lib.hid (HB2.out.trans ((HW.out.trans (HP3.out.trans hb4)).mono HB2.out.size))
  clear hb4
  go_wp2_with fail
  rw [run_bytes_of_string w4 _ _ 5 _ Tryz.underlying9 Tryz.underlying22 Tryz.underlying5]
  simp only [Result.andThen]
  rw [Oper.upon_value]
  have hcc := bytesRow_cell w4 P
  have hb5 := fun o => (bel_drew HB4.out).alloc (B := w.heap.size) (by have := HB4.out.size; exact this) o
  have HC5 := Lib.hid hcc; have HB5 := Lib.hid hb5
  clear hcc hb5
  go_wp2_with fail
  go_ret2
  exact ⟨⟨w4.heap.size, grownCap w4 P.length 0 5, rfl, ⟨grownCap_ge _ _ _ _, by have := grownCap_le_maxLen w4 P.length 0 5 (by have := HL.out; simp only [maxLen]; omega); simpa [maxLen] using this⟩, fun j hj => HC5.out _ _ _ j hj⟩, HB5.out _⟩
theorem Print_good (x : JV) (cs : List Value) (F : Nat → Prop) (w : World) (h : JR w F x cs) (hT : Tabs w) (hm : mayJ 64 x = true) (hlen : (printB 64 x).length ≤ 140737488355328) :
    Calls Tryz.prog 14 #[.agg cs.toArray] w fun e w' => (∃ g c, e = .returned (.tuple #[.slice (some ⟨g, 0, none⟩) (printB 64 x).length c, .int .i64 0]) ∧ ∀ j (hj : j < (printB 64 x).length), w'.cell? ((⟨g, 0, none⟩ : Addr).add j) = some (.int .u8 ((printB 64 x)[j].toNat : Int))) ∧ Below w.heap.size w w' :=
  (Print_full x cs F w h hT hm hlen).mono fun _ _ ⟨⟨g, c, e1, _, h2⟩, hb⟩ => ⟨⟨g, c, e1, h2⟩, hb⟩
end Go.Proofs.YtjjgbgojlhaapaaGreatDoor
namespace Go.Proofs.YtjjgbgojlhaapaaGreatDoor
open Go.RowKit Go.Lib

def firstS : ByteArray := ⟨#[123, 34, 98, 34, 58, 49, 44, 34, 97, 34, 58, 91, 116, 114, 117, 101, 44, 110, 117, 108, 108, 93, 125]⟩
def firstV : JV := objV [(⟨#[97]⟩, listV [.mk 3 0 ⟨#[]⟩ [] [], .mk 1 0 ⟨#[]⟩ [] []]), (⟨#[98]⟩, numV 1)]
def firstP : List UInt8 := [123, 34, 97, 34, 58, 91, 116, 114, 117, 101, 44, 110, 117, 108, 108, 93, 44, 34, 98, 34, 58, 49, 125]
theorem first_parse : parseB firstS = (firstV, 0) := by kernel_rfl
theorem first_point : (parseB ⟨#[49, 46, 53]⟩).2 = 4 := by kernel_rfl
theorem first_twice : (parseB ⟨#[123, 34, 97, 34, 58, 49, 44, 34, 97, 34, 58, 50, 125]⟩).2 = 4 := by kernel_rfl
theorem first_may : mayJ 64 firstV = true := by kernel_rfl
theorem first_print : printB 64 firstV = firstP := by kernel_rfl

def cellsOf (s : ByteArray) : Array Value := (s.data.toList.map fun x => Value.int .u8 (x.toNat : Int)).toArray
theorem bsl_alloc (w : World) (s : ByteArray) (t : TypeId) (n c : Nat) (cs : Array Value) (fz : Nat × Nat) (hn : n = s.size) (hc : cs = cellsOf s) : BSl (w.alloc (.cells cs t fz)) (fun _ => True) (.slice (some ⟨w.heap.size, 0, none⟩) n c) s := by
  subst hn; subst hc
  refine .inl ⟨_, _, _, rfl, trivial, fun i hi => ?_⟩
  rw [Lib.cell_of_heap (heap_alloc_new w (.cells (cellsOf s) t fz))]
  unfold cellsOf
  simp [hi]
  rfl
set_option maxRecDepth 100000 in
set_option maxHeartbeats 8000000 in
theorem first_any (w : World) (hT : Tabs w) : Calls Tryz.prog 6 #[] w fun z w' => z = .returned (.bool true) ∧ Below w.heap.size w w' := by
  have kc := fun (w : World) (C : Array Value) (n c : Nat) => Lib.run_convert_bytes_const (P := Tryz.prog) w 22 5 C n c Tryz.underlying22 Tryz.underlying5
  have h1 : Below w.heap.size w w := Below.refl _ _
  have HT := Lib.hid hT; have H1 := Lib.hid h1
  clear hT h1
  go_enter Tryz.func6, Tryz.ntmps6
  go_wp2_with fail
  have hbA := bel_alloc H1.out (.cells (cellsOf firstS) 5 (23, 24))
  have hpa := parse_any firstS (.slice (some ⟨w.heap.size, 0, none⟩) 23 23) _ (w.alloc (.cells (cellsOf firstS) 5 (23, 24))) (HT.out.below hbA) (bsl_alloc _ _ _ _ _ _ _ rfl rfl)
  refine Calls.mono hpa ?_
  rintro e w1 ⟨A1, n1, c1, A2, n2, c2, he, hj, hb⟩
  rw [first_parse] at he hj
  simp only at he hj
  subst he
  have hb1 := bel_trans hbA hb
  have hA2 := bel_alloc (Below.refl w1.heap.size w1) (.cells #[.int .i64 firstV.k, .int .i64 firstV.n, .string firstV.s, .slice A1 n1 c1, .slice A2 n2 c2] 28)
  have hj2 := JR_later hj hA2
  have hb2 := bel_trans hb1 hA2
  have hc2 := heap_alloc_new w1 (.cells #[.int .i64 firstV.k, .int .i64 firstV.n, .string firstV.s, .slice A1 n1 c1, .slice A2 n2 c2] 28)
  have HB2 := Lib.hid hb2; have HJ2 := Lib.hid hj2; have HC2 := Lib.hid hc2
  clear hbA hpa hj hb hb1 hA2 hj2 hb2 hc2
  go_upto_region 2 with (fail)
  generalize w1.alloc (.cells #[.int .i64 firstV.k, .int .i64 firstV.n, .string firstV.s, .slice A1 n1 c1, .slice A2 n2 c2] 28) = w2 at *
  obtain ⟨⟨v0, v1, v2, v3, v4⟩, _, hV⟩ := cells5 HC2.out
  have hpr := Print_good firstV _ _ w2 HJ2.out (HT.out.below HB2.out) first_may (by rw [first_print]; decide)
  rw [first_print] at hpr
  have HPR := Lib.hid hpr
  clear hpr
  go_wp2_with fail
  refine Calls.mono HPR.out ?_
  rintro e w3 ⟨⟨g, cc, rfl, hbs⟩, hb3⟩
  have hs3 : BSl w3 (fun b => b < w3.heap.size) (.slice (some ⟨g, 0, none⟩) firstP.length cc) ⟨firstP.toArray⟩ := by
    refine .inl ⟨g, 0, cc, rfl, World.block_lt_of_cell? w3 _ (hbs 0 (by decide)), fun i hi => ?_⟩
    have h := hbs i (by simpa [ByteArray.size] using hi)
    rw [Addr.add_mid] at h
    exact h
  have hbw3 := bel_trans HB2.out hb3
  have HS3 := Lib.hid hs3; have HB3 := Lib.hid hbw3
  clear hs3 hbw3 hbs hb3 v0 v1 v2 v3 v4 hV HPR HJ2 HC2 HB2
  go_upto_region 3 with (fail)
  have hlt3 : w3.heap.size ≤ w3.heap.size := Nat.le_refl _
  go_wp2_with fail
  have hbA := bel_alloc HB3.out (.cells (cellsOf ⟨#[49, 46, 53]⟩) 5 (3, 4))
  have hpa := parse_any ⟨#[49, 46, 53]⟩ (.slice (some ⟨w3.heap.size, 0, none⟩) 3 3) _ (w3.alloc (.cells (cellsOf ⟨#[49, 46, 53]⟩) 5 (3, 4))) (HT.out.below hbA) (bsl_alloc _ _ _ _ _ _ _ rfl rfl)
  refine Calls.mono hpa ?_
  rintro e w4 ⟨B1, m1, d1, B2, m2, d2, he, hj, hb⟩
  rw [first_point] at he
  generalize (parseB ⟨#[49, 46, 53]⟩).1 = r4 at *
  subst he
  have hb1 := bel_trans hbA hb
  have hA2 := bel_alloc (Below.refl w4.heap.size w4) (.cells #[.int .i64 r4.k, .int .i64 r4.n, .string r4.s, .slice B1 m1 d1, .slice B2 m2 d2] 28)
  have hb2 := bel_trans hb1 hA2
  have hs := BSl.frame (w' := w4.alloc (.cells #[.int .i64 r4.k, .int .i64 r4.n, .string r4.s, .slice B1 m1 d1, .slice B2 m2 d2] 28)) (fun b hb0 => (hA2.block b (by have := hb.size; have h2 : (w3.alloc (.cells (cellsOf ⟨#[49, 46, 53]⟩) 5 (3, 4))).heap.size = w3.heap.size + 1 := (by show (w3.heap.push _).size = _; simp); have := hlt3; omega)).trans ((hb.block b (by have h2 : (w3.alloc (.cells (cellsOf ⟨#[49, 46, 53]⟩) 5 (3, 4))).heap.size = w3.heap.size + 1 := (by show (w3.heap.push _).size = _; simp); have := hlt3; omega)).trans ((bel_alloc (Below.refl w3.heap.size w3) _).block _ (by have := hlt3; omega)))) HS3.out
  have hlt4 : w3.heap.size ≤ (w4.alloc (.cells #[.int .i64 r4.k, .int .i64 r4.n, .string r4.s, .slice B1 m1 d1, .slice B2 m2 d2] 28)).heap.size := by
    have := hb.size; have := hA2.size
    have h2 : (w3.alloc (.cells (cellsOf ⟨#[49, 46, 53]⟩) 5 (3, 4))).heap.size = w3.heap.size + 1 := (by show (w3.heap.push _).size = _; simp)
    omega
  have HB4 := Lib.hid hb2; have HS4 := Lib.hid hs
  clear hbA hpa hj hb hb1 hA2 hb2 hs
  go_upto_region 4 with (fail)
  generalize w4.alloc (.cells #[.int .i64 r4.k, .int .i64 r4.n, .string r4.s, .slice B1 m1 d1, .slice B2 m2 d2] 28) = w4b at *
  go_wp2_with fail
  have hbA := bel_alloc HB4.out (.cells (cellsOf ⟨#[123, 34, 97, 34, 58, 49, 44, 34, 97, 34, 58, 50, 125]⟩) 5 (13, 14))
  have hpa := parse_any ⟨#[123, 34, 97, 34, 58, 49, 44, 34, 97, 34, 58, 50, 125]⟩ (.slice (some ⟨w4b.heap.size, 0, none⟩) 13 13) _ (w4b.alloc (.cells (cellsOf ⟨#[123, 34, 97, 34, 58, 49, 44, 34, 97, 34, 58, 50, 125]⟩) 5 (13, 14))) (HT.out.below hbA) (bsl_alloc _ _ _ _ _ _ _ rfl rfl)
  refine Calls.mono hpa ?_
  rintro e w5 ⟨B1, m1, d1, B2, m2, d2, he, hj, hb⟩
  rw [first_twice] at he
  generalize (parseB ⟨#[123, 34, 97, 34, 58, 49, 44, 34, 97, 34, 58, 50, 125]⟩).1 = r5 at *
  subst he
  have hb1 := bel_trans hbA hb
  have hA2 := bel_alloc (Below.refl w5.heap.size w5) (.cells #[.int .i64 r5.k, .int .i64 r5.n, .string r5.s, .slice B1 m1 d1, .slice B2 m2 d2] 28)
  have hb2 := bel_trans hb1 hA2
  have hs := BSl.frame (w' := w5.alloc (.cells #[.int .i64 r5.k, .int .i64 r5.n, .string r5.s, .slice B1 m1 d1, .slice B2 m2 d2] 28)) (fun b hb0 => (hA2.block b (by have := hb.size; have h2 : (w4b.alloc (.cells (cellsOf ⟨#[123, 34, 97, 34, 58, 49, 44, 34, 97, 34, 58, 50, 125]⟩) 5 (13, 14))).heap.size = w4b.heap.size + 1 := (by show (w4b.heap.push _).size = _; simp); have := hlt4; omega)).trans ((hb.block b (by have h2 : (w4b.alloc (.cells (cellsOf ⟨#[123, 34, 97, 34, 58, 49, 44, 34, 97, 34, 58, 50, 125]⟩) 5 (13, 14))).heap.size = w4b.heap.size + 1 := (by show (w4b.heap.push _).size = _; simp); have := hlt4; omega)).trans ((bel_alloc (Below.refl w4b.heap.size w4b) _).block _ (by have := hlt4; omega)))) HS4.out
  have hlt5 : w3.heap.size ≤ (w5.alloc (.cells #[.int .i64 r5.k, .int .i64 r5.n, .string r5.s, .slice B1 m1 d1, .slice B2 m2 d2] 28)).heap.size := by
    have := hb.size; have := hA2.size
    have h2 : (w4b.alloc (.cells (cellsOf ⟨#[123, 34, 97, 34, 58, 49, 44, 34, 97, 34, 58, 50, 125]⟩) 5 (13, 14))).heap.size = w4b.heap.size + 1 := (by show (w4b.heap.push _).size = _; simp)
    omega
  have HB5 := Lib.hid hb2; have HS5 := Lib.hid hs
  clear hbA hpa hj hb hb1 hA2 hb2 hs
  go_upto_region 5 with (fail)
  generalize w5.alloc (.cells #[.int .i64 r5.k, .int .i64 r5.n, .string r5.s, .slice B1 m1 d1, .slice B2 m2 d2] 28) = w5b at *
  have hcv : (convert 22 9 (.slice (some ⟨g, 0, none⟩) firstP.length cc)).run Tryz.prog w5b = .ok (.string ⟨firstP.toArray⟩) w5b := HS5.out.conv
  rw [show (⟨firstP.toArray⟩ : ByteArray) = ⟨#[123, 34, 97, 34, 58, 91, 116, 114, 117, 101, 44, 110, 117, 108, 108, 93, 44, 34, 98, 34, 58, 49, 125]⟩ from rfl] at hcv
  have HFB := Lib.hid HB5.out
  go_wp2_with fail
  go_ret
  exact ⟨rfl, HFB.out⟩
end Go.Proofs.YtjjgbgojlhaapaaGreatDoor
namespace Go.Proofs.YtjjgbgojlhaapaaGreatDoor
open Go.RowKit Go.Lib

theorem ba_cat (a b : List UInt8) : (⟨a.toArray⟩ : ByteArray) ++ ⟨b.toArray⟩ = ⟨(a ++ b).toArray⟩ := by
  apply ByteArray.ext
  simp [ByteArray.data_append]
theorem str_sum {P : Program} (a b : List UInt8) (W : World) (h : a.length + b.length ≤ 9223372036854775807) : (Op.stringOp .add (⟨a.toArray⟩ : ByteArray) ⟨b.toArray⟩).run P W = .ok (.string ⟨(a ++ b).toArray⟩) W := by
  have := run_string_add_sum (P := P) W (⟨a.toArray⟩ : ByteArray) ⟨b.toArray⟩ (by simpa [ByteArray.size] using h)
  rwa [ba_cat] at this
theorem bs_string (w : World) (l : List UInt8) (t : TypeId) (c cc : Nat) (fz : Nat × Nat) : BSl (w.drew.alloc (.cells (bytesRow ⟨l.toArray⟩ c) t fz)) (fun _ => True) (.slice (some ⟨w.heap.size, 0, none⟩) (⟨l.toArray⟩ : ByteArray).size cc) ⟨l.toArray⟩ := by
  refine .inl ⟨_, _, _, rfl, trivial, fun i hi => ?_⟩
  have h := bytesRow_cell w l c t fz i (by simpa [ByteArray.size] using hi)
  rw [Addr.add_mid] at h
  exact h
end Go.Proofs.YtjjgbgojlhaapaaGreatDoor
namespace Go.Proofs.YtjjgbgojlhaapaaGreatDoor
open Go.RowKit Go.Lib

end Go.Proofs.YtjjgbgojlhaapaaGreatDoor
namespace Go.Proofs.YtjjgbgojlhaapaaGreatDoor
open Go.RowKit Go.Lib

end Go.Proofs.YtjjgbgojlhaapaaGreatDoor
namespace Go.Proofs.YtjjgbgojlhaapaaGreatDoor
open Go.RowKit Go.Lib

mutual
/-- no text of a value is long -/
def SmJ : JV → Prop
  | .mk _ _ s l m => s.size ≤ 1000000 ∧ SmJs l ∧ SmJm m
def SmJs : List JV → Prop
  | [] => True
  | x :: xs => SmJ x ∧ SmJs xs
def SmJm : List (ByteArray × JV) → Prop
  | [] => True
  | (nm, x) :: xs => (nm.size ≤ 1000000 ∧ SmJ x) ∧ SmJm xs
end
end Go.Proofs.YtjjgbgojlhaapaaGreatDoor
namespace Go.Proofs.YtjjgbgojlhaapaaGreatDoor
open Go.RowKit Go.Lib

end Go.Proofs.YtjjgbgojlhaapaaGreatDoor
namespace Go.Proofs.YtjjgbgojlhaapaaGreatDoor
open Go.RowKit Go.Lib

theorem str_cells {w : World} {F : Nat → Prop} {v : Value} {xs : List ByteArray} (hs : Sl strTy w F v xs) : ∃ A c, v = .slice A xs.length c ∧ ∀ k s, xs[k]? = some s → ∃ b o, A = some ⟨b, o, none⟩ ∧ w.cell? ⟨b, o + k, none⟩ = some (.string s) := by
  rcases hs with ⟨rfl, A, c, rfl⟩ | ⟨b, o, c, rfl, _, _, _, cs, h1, h2⟩
  · exact ⟨A, c, rfl, fun k s h => by simp at h⟩
  · refine ⟨_, c, rfl, fun k s h => ⟨b, o, rfl, h2 k _ ?_⟩⟩
    have e : ∀ (xs : List ByteArray) (cs : List Value), Chunks strTy w F xs cs → cs = xs.map Value.string := fun xs => by
      induction xs with
      | nil => exact fun cs h => h
      | cons x xs ih =>
        rintro cs ⟨c, r, rfl, h1, h2⟩
        have h1' : c = [.string x] := h1
        rw [h1', ih r h2]; rfl
    rw [e _ _ h1, List.getElem?_map, h]; rfl
end Go.Proofs.YtjjgbgojlhaapaaGreatDoor
