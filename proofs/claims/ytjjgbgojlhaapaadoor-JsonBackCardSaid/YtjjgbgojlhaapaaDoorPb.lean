/- json: Print. -/
import Derived.Test.YtjjgbgojlhaapaaDoorPa
import Derived.Laws.IdiomStrings
namespace Go.Proofs.YtjjgbgojlhaapaaDoor
open Go.RowKit Go.Lib

theorem bytesRow_cell (w : World) (l : List UInt8) (cap : Nat) (e : TypeId) (fz : Nat × Nat) (j : Nat) (hj : j < l.length) : (w.drew.alloc (.cells (bytesRow ⟨l.toArray⟩ cap) e fz)).cell? ((⟨w.heap.size, 0, none⟩ : Addr).add j) = some (.int .u8 (l[j].toNat : Int)) := by
  rw [Addr.add_lit]
  have : (w.drew.alloc (.cells (bytesRow ⟨l.toArray⟩ cap) e fz)).heap[w.heap.size]? = some (.cells (bytesRow ⟨l.toArray⟩ cap) e fz) := heap_alloc_new w.drew (.cells (bytesRow ⟨l.toArray⟩ cap) e fz)
  rw [Lib.cell_of_heap this]
  simp only [bytesRow, Nat.zero_add]
  rw [Array.getElem?_append_left (by simpa using hj)]
  simp [hj]
set_option maxRecDepth 100000 in
set_option maxHeartbeats 4000000 in
theorem Print_bad (x : JV) (cs : List Value) (F : Nat → Prop) (w : World) (h : JR w F x cs) (hT : Tabs w) (hm : mayJ 64 x = false) :
    Calls Tryd.prog 27 #[.agg cs.toArray] w fun e w' => e = .returned (.tuple #[.slice none 0 0, .int .i64 4]) ∧ Below w.heap.size w w' := by
  have hbA : Below w.heap.size w (w.alloc (.cells cs.toArray 55)) := bel_alloc (Below.refl _ _) _
  have hc := May_any x cs F _ (JR_later h hbA) (hT.below hbA)
  rw [hm] at hc
  obtain ⟨A1, n1, c1, A2, n2, c2, rfl⟩ := JR_form h
  have HC := Lib.hid hc; have HB := Lib.hid hbA
  clear hc h hT hbA
  go_enter Tryd.func27, Tryd.ntmps27
  go_wp2_with fail
  refine Calls.mono HC.out ?_
  rintro e w2 ⟨rfl, hb⟩
  go_wp2_with fail
  go_ret2
  exact ⟨rfl, bel_trans HB.out hb⟩

set_option maxRecDepth 100000 in
set_option maxHeartbeats 4000000 in
theorem Print_full (x : JV) (cs : List Value) (F : Nat → Prop) (w : World) (h : JR w F x cs) (hT : Tabs w) (hm : mayJ 64 x = true) (hlen : (printB 64 x).length ≤ 140737488355328) :
    Calls Tryd.prog 27 #[.agg cs.toArray] w fun e w' => (∃ g c, e = .returned (.tuple #[.slice (some ⟨g, 0, none⟩) (printB 64 x).length c, .int .i64 0]) ∧ ((printB 64 x).length ≤ c ∧ c ≤ 9223372036854775807) ∧ ∀ j (hj : j < (printB 64 x).length), w'.cell? ((⟨g, 0, none⟩ : Addr).add j) = some (.int .u8 ((printB 64 x)[j].toNat : Int))) ∧ Below w.heap.size w w' := by
  have hbA : Below w.heap.size w (w.alloc (.cells cs.toArray 55)) := bel_alloc (Below.refl _ _) _
  have hc := May_any x cs F _ (JR_later h hbA) (hT.below hbA)
  rw [hm] at hc
  have hp := fun w0 (h0 : Below w.heap.size w w0) b W => print_at 64 x cs F w0 b [] W hm (JR_later h h0) (hT.below h0)
  obtain ⟨A1, n1, c1, A2, n2, c2, rfl⟩ := JR_form h
  have n0 := cell_newB w #[.int .i64 x.k, .int .i64 x.n, .string x.s, .slice A1 n1 c1, .slice A2 n2 c2] 55 0 _ rfl
  have m1 := cell_newB w #[.int .i64 x.k, .int .i64 x.n, .string x.s, .slice A1 n1 c1, .slice A2 n2 c2] 55 1 _ rfl
  have m2 := cell_newB w #[.int .i64 x.k, .int .i64 x.n, .string x.s, .slice A1 n1 c1, .slice A2 n2 c2] 55 2 _ rfl
  have m3 := cell_newB w #[.int .i64 x.k, .int .i64 x.n, .string x.s, .slice A1 n1 c1, .slice A2 n2 c2] 55 3 _ rfl
  have m4 := cell_newB w #[.int .i64 x.k, .int .i64 x.n, .string x.s, .slice A1 n1 c1, .slice A2 n2 c2] 55 4 _ rfl
  have HC := Lib.hid hc; have HB := Lib.hid hbA; have HP := Lib.hid hp; have HL := Lib.hid hlen
  clear hc h hT hbA hp hlen hm
  generalize printB 64 x = P at *
  go_enter Tryd.func27, Tryd.ntmps27
  go_wp2_with fail
  refine Calls.mono HC.out ?_
  rintro e w2 ⟨rfl, hb⟩
  have l0 := cell_later' hb n0
  have l1 := cell_later' hb m1
  have l2 := cell_later' hb m2
  have l3 := cell_later' hb m3
  have l4 := cell_later' hb m4
  have hz : w.heap.size < w2.heap.size := World.block_lt_of_cell? _ _ l0
  have HB2 := Lib.hid (bel_trans HB.out hb)
  have hbW : Below w2.heap.size w2 (w2.alloc (.cells #[.pointer none, .slice none 0 0] 101)) := bel_alloc (Below.refl _ _) _
  have hfr : Sb w2.heap.size w2.heap.size [] (w2.alloc (.cells #[.pointer none, .slice none 0 0] 101)) := Lib.fresh_isBuilder _ _ w2
  have HW := Lib.hid hbW; have HF := Lib.hid hfr
  clear n0 m1 m2 m3 m4 hb hbW hfr
  go_wp2_with fail
  refine Calls.mono (HP.out w2 HB2.out w2.heap.size _ HW.out HF.out (by simpa using HL.out)) ?_
  rintro e w3 ⟨rfl, hp⟩
  have hsb : Sb w2.heap.size w2.heap.size (Lib.byteCells (P)) w3 := by simpa using hp.1
  have hstr := Tryd.Builder_String_any w2.heap.size w2.heap.size (P) w3 hsb (Nat.le_trans HW.out.size hp.2.1.size)
  have HS := Lib.hid hstr; have HP3 := Lib.hid hp.2.1
  clear hp hsb hstr
  go_wp2_with fail
  refine Calls.mono HS.out ?_
  rintro e w4 ⟨rfl, hb4⟩
  have HB4 := Lib.hid (HB2.out.trans ((HW.out.trans (HP3.out.trans hb4)).mono HB2.out.size))
  clear hb4
  go_wp2_with fail
  rw [run_bytes_of_string w4 _ _ 5 _ Tryd.underlying9 Tryd.underlying58 Tryd.underlying5]
  simp only [Result.andThen]
  rw [Oper.upon_value]
  have hcc := bytesRow_cell w4 P
  have hb5 := fun o => (bel_drew HB4.out).alloc (B := w.heap.size) (by have := HB4.out.size; exact this) o
  have HC5 := Lib.hid hcc; have HB5 := Lib.hid hb5
  clear hcc hb5
  go_wp2_with fail
  go_ret2
  exact ⟨⟨w4.heap.size, grownCap w4 P.length 0 5, rfl, ⟨grownCap_ge _ _ _ _, by have := grownCap_le_maxLen w4 P.length 0 5 (by have := HL.out; simp only [maxLen]; omega); simpa [maxLen] using this⟩, fun j hj => HC5.out _ _ _ j hj⟩, HB5.out _⟩
theorem Print_good (x : JV) (cs : List Value) (F : Nat → Prop) (w : World) (h : JR w F x cs) (hT : Tabs w) (hm : mayJ 64 x = true) (hlen : (printB 64 x).length ≤ 140737488355328) :
    Calls Tryd.prog 27 #[.agg cs.toArray] w fun e w' => (∃ g c, e = .returned (.tuple #[.slice (some ⟨g, 0, none⟩) (printB 64 x).length c, .int .i64 0]) ∧ ∀ j (hj : j < (printB 64 x).length), w'.cell? ((⟨g, 0, none⟩ : Addr).add j) = some (.int .u8 ((printB 64 x)[j].toNat : Int))) ∧ Below w.heap.size w w' :=
  (Print_full x cs F w h hT hm hlen).mono fun _ _ ⟨⟨g, c, e1, _, h2⟩, hb⟩ => ⟨⟨g, c, e1, h2⟩, hb⟩
end Go.Proofs.YtjjgbgojlhaapaaDoor
