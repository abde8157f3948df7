/- Parts of the proof: Ke, Pa, Pb, Nl, Sg. -/
import Derived.Test.YtlihjmfdnkfmfaaGreatDoorZRback20
import Derived.Test.YtlihjmfdnkfmfaaGreatDoorZRback8
import Derived.Laws.IdiomStrings
import Derived.Test.YtlihjmfdnkfmfaaGreatDoorZRback16
import Derived.Lib.SlBytesConst
import Derived.Test.YtlihjmfdnkfmfaaGreatDoorZRback17
namespace Go.Proofs.YtlihjmfdnkfmfaaGreatDoor
open Go.RowKit Go.Lib

/-- the first member of a name -/
def getB (nm : ByteArray) : List (ByteArray × JV) → JV × Bool
  | [] => (zeroV, false)
  | q :: l => if q.1.toList == nm.toList then (q.2, true) else getB nm l
theorem getB_none {nm : ByteArray} : ∀ {l : List (ByteArray × JV)}, (∀ q ∈ l, (q.1.toList == nm.toList) = false) → getB nm l = (zeroV, false)
  | [], _ => rfl
  | q :: l, h => by
    unfold getB
    rw [h q (List.mem_cons_self ..), if_neg Bool.false_ne_true]
    exact getB_none (fun r hr => h r (List.mem_cons_of_mem _ hr))
theorem getB_hit {nm : ByteArray} {q : ByteArray × JV} {post : List (ByteArray × JV)} (hq : (q.1.toList == nm.toList) = true) : ∀ {pre : List (ByteArray × JV)}, (∀ r ∈ pre, (r.1.toList == nm.toList) = false) → getB nm (pre ++ q :: post) = (q.2, true)
  | [], _ => by show getB nm (q :: post) = _; unfold getB; rw [if_pos hq]
  | r :: pre, h => by
    show getB nm (r :: (pre ++ q :: post)) = _
    unfold getB
    rw [h r (List.mem_cons_self ..), if_neg Bool.false_ne_true]
    exact getB_hit hq (fun s hs => h s (List.mem_cons_of_mem _ hs))
set_option maxHeartbeats 2000000 in
theorem members_any (x : JV) (A1 : Option Addr) (c1 : Nat) (A2 : Option Addr) (c2 : Nat) (w : World) :
    Calls Tryz.prog 54 #[.agg #[.int .i64 x.k, .int .i64 x.n, .string x.s, .slice A1 x.l.length c1, .slice A2 x.m.length c2]] w fun e w' => e = .returned (.func (.func 100) #[] #[.pointer (some ⟨w.heap.size, 0, none⟩)]) ∧ w' = w.alloc (.cells #[.int .i64 x.k, .int .i64 x.n, .string x.s, .slice A1 x.l.length c1, .slice A2 x.m.length c2] 43) := by
  go_enter Tryz.func54, Tryz.ntmps54
  go_wp2_with fail
  go_ret
  exact ⟨rfl, rfl⟩
def GtRes (x : JV) (nm : ByteArray) (w : World) (z : Ending) (w' : World) : Prop := (∃ (A1 : Option Addr) (n1 c1 : Nat) (A2 : Option Addr) (n2 c2 : Nat),
  z = .returned (.tuple #[.agg #[.int .i64 (getB nm (memsOf x)).1.k, .int .i64 (getB nm (memsOf x)).1.n, .string (getB nm (memsOf x)).1.s, .slice A1 n1 c1, .slice A2 n2 c2], .bool (getB nm (memsOf x)).2]) ∧
  JR w' (fun b => w.heap.size ≤ b) (getB nm (memsOf x)).1 [.int .i64 (getB nm (memsOf x)).1.k, .int .i64 (getB nm (memsOf x)).1.n, .string (getB nm (memsOf x)).1.s, .slice A1 n1 c1, .slice A2 n2 c2]) ∧ Below w.heap.size w w'
theorem gt_sets {w W : World} {r t : Nat} {T T' : TypeId} {a0 a1 a2 a3 a4 u0 : Value} (D : Nat) (v0 v1 v2 v3 v4 u : Value) (hr : W.heap[r]? = some (.cells #[a0, a1, a2, a3, a4] T (0, 0))) (ht : W.heap[t]? = some (.cells #[u0] T' (0, 0))) (hrt : r ≠ t) (h1 : w.heap.size ≤ r) (h2 : w.heap.size ≤ t) (hb : Below w.heap.size w W) :
    (((((((W.setCell ⟨r, 0, none⟩ v0).setCell ⟨r, 1, none⟩ v1).setCell ⟨r, 2, none⟩ v2).setCell ⟨r, 3, none⟩ v3).setCell ⟨r, 4, none⟩ v4).setCell ⟨t, 0, none⟩ u).heap[r]? = some (.cells #[v0, v1, v2, v3, v4] T (0, 0)) ∧ ((((((W.setCell ⟨r, 0, none⟩ v0).setCell ⟨r, 1, none⟩ v1).setCell ⟨r, 2, none⟩ v2).setCell ⟨r, 3, none⟩ v3).setCell ⟨r, 4, none⟩ v4).setCell ⟨t, 0, none⟩ u).heap[t]? = some (.cells #[u] T' (0, 0))) ∧
    (Below w.heap.size w ((((((W.setCell ⟨r, 0, none⟩ v0).setCell ⟨r, 1, none⟩ v1).setCell ⟨r, 2, none⟩ v2).setCell ⟨r, 3, none⟩ v3).setCell ⟨r, 4, none⟩ v4).setCell ⟨t, 0, none⟩ u) ∧ KeepsFrom D W ((((((W.setCell ⟨r, 0, none⟩ v0).setCell ⟨r, 1, none⟩ v1).setCell ⟨r, 2, none⟩ v2).setCell ⟨r, 3, none⟩ v3).setCell ⟨r, 4, none⟩ v4).setCell ⟨t, 0, none⟩ u)) ∧ ∀ b, b ≠ r → b ≠ t → ((((((W.setCell ⟨r, 0, none⟩ v0).setCell ⟨r, 1, none⟩ v1).setCell ⟨r, 2, none⟩ v2).setCell ⟨r, 3, none⟩ v3).setCell ⟨r, 4, none⟩ v4).setCell ⟨t, 0, none⟩ u).heap[b]? = W.heap[b]? := by
  have ht5 := (set5_other (w := W) v0 v1 v2 v3 v4 (show t ≠ r from fun e => hrt e.symm)).trans ht
  refine ⟨⟨(Below.heap_setCell _ _ _ _ (show r ≠ t from hrt)).trans (set5 v0 v1 v2 v3 v4 hr), by simpa using heap_setCell_row (i := 0) (v := u) ht5⟩,
    ⟨bel_set (p := ⟨t, 0, none⟩) (bel_set (p := ⟨r, 4, none⟩) (bel_set (p := ⟨r, 3, none⟩) (bel_set (p := ⟨r, 2, none⟩) (bel_set (p := ⟨r, 1, none⟩) (bel_set (p := ⟨r, 0, none⟩) hb h1 v0) h1 v1) h1 v2) h1 v3) h1 v4) h2 u, ?_⟩,
    fun b hb1 hb2 => (Below.heap_setCell _ _ _ _ (show b ≠ t from hb2)).trans (set5_other v0 v1 v2 v3 v4 hb1)⟩
  have k := fun (X : World) (p : Addr) (v : Value) => (KeepsOthers.setCell X p v).from D
  exact (((((k _ _ _).trans (k _ _ _)).trans (k _ _ _)).trans (k _ _ _)).trans (k _ _ _)).trans (k _ _ _)
set_option maxRecDepth 100000 in
set_option maxHeartbeats 16000000 in
theorem get_any (x : JV) (name : ByteArray) (cs : List Value) (F : Nat → Prop) (w : World) (hln : LnJ x) (h : JR w F x cs) :
    Calls Tryz.prog 34 #[.agg cs.toArray, .string name] w (GtRes x name w) := by
  obtain ⟨vl, vm, ⟨rfl, hsz⟩, hl, hm⟩ := JR_iff.1 h
  obtain ⟨A1, c1, rfl⟩ := hl.form
  obtain ⟨A2, c2, rfl⟩ := hm.form
  have HJ := Lib.hid h; have HLN := Lib.hid hln
  clear hl hm h hln hsz
  have HMB := Lib.hid (fun W => members_any x A1 c1 A2 c2 W)
  refine (callsIn_wide (n := 4)).1 (callsIn_of_wp_marks Tryz.func34 rfl trivial ?_ rfl)
  simp only [Tryz.ntmps34, List.size_toArray, List.length_cons, List.length_nil, Nat.reduceAdd, Nat.reduceSub, Array.replicate_succ, Array.replicate_zero, List.push_toArray, List.append_toArray, List.nil_append, List.cons_append]
  refine wpIn_wide.2 ?_
  go_wp2_with fail
  refine Calls.mono (HMB.out _) ?_
  rintro e w1 ⟨rfl, rfl⟩
  go_wp2_with fail
  have q1 := heap_alloc_new (w.alloc (.cells #[.int .i64 x.k, .int .i64 x.n, .string x.s, .slice A1 x.l.length c1, .slice A2 x.m.length c2] 43)) (.cells #[.string name] 9)
  have q2 := heap_alloc_new ((w.alloc (.cells #[.int .i64 x.k, .int .i64 x.n, .string x.s, .slice A1 x.l.length c1, .slice A2 x.m.length c2] 43)).alloc (.cells #[.string name] 9)) (.cells #[.int .i64 0, .int .i64 0, .string ⟨#[]⟩, .slice none 0 0, .slice none 0 0] 43)
  have q3 := heap_alloc_new (((w.alloc (.cells #[.int .i64 x.k, .int .i64 x.n, .string x.s, .slice A1 x.l.length c1, .slice A2 x.m.length c2] 43)).alloc (.cells #[.string name] 9)).alloc (.cells #[.int .i64 0, .int .i64 0, .string ⟨#[]⟩, .slice none 0 0, .slice none 0 0] 43)) (.cells #[.bool false] 4)
  have q4 := heap_alloc_new ((((w.alloc (.cells #[.int .i64 x.k, .int .i64 x.n, .string x.s, .slice A1 x.l.length c1, .slice A2 x.m.length c2] 43)).alloc (.cells #[.string name] 9)).alloc (.cells #[.int .i64 0, .int .i64 0, .string ⟨#[]⟩, .slice none 0 0, .slice none 0 0] 43)).alloc (.cells #[.bool false] 4)) (.cells #[.int .i64 x.k, .int .i64 x.n, .string x.s, .slice A1 x.l.length c1, .slice A2 x.m.length c2] 43)
  have q1' := Below.at (bel_alloc (bel_alloc (bel_alloc (Below.refl _ _) (.cells #[.int .i64 0, .int .i64 0, .string ⟨#[]⟩, .slice none 0 0, .slice none 0 0] 43)) (.cells #[.bool false] 4)) (.cells #[.int .i64 x.k, .int .i64 x.n, .string x.s, .slice A1 x.l.length c1, .slice A2 x.m.length c2] 43)) q1
  have q2' := Below.at (bel_alloc (bel_alloc (Below.refl _ _) (.cells #[.bool false] 4)) (.cells #[.int .i64 x.k, .int .i64 x.n, .string x.s, .slice A1 x.l.length c1, .slice A2 x.m.length c2] 43)) q2
  have q3' := Below.at (bel_alloc (Below.refl _ _) (.cells #[.int .i64 x.k, .int .i64 x.n, .string x.s, .slice A1 x.l.length c1, .slice A2 x.m.length c2] 43)) q3
  have hb0 : Below w.heap.size w (((((w.alloc (.cells #[.int .i64 x.k, .int .i64 x.n, .string x.s, .slice A1 x.l.length c1, .slice A2 x.m.length c2] 43)).alloc (.cells #[.string name] 9)).alloc (.cells #[.int .i64 0, .int .i64 0, .string ⟨#[]⟩, .slice none 0 0, .slice none 0 0] 43)).alloc (.cells #[.bool false] 4)).alloc (.cells #[.int .i64 x.k, .int .i64 x.n, .string x.s, .slice A1 x.l.length c1, .slice A2 x.m.length c2] 43)) := bel_alloc (bel_alloc (bel_alloc (bel_alloc (bel_alloc (Below.refl _ _) _) _) _) _) _
  have hs0 : (((((w.alloc (.cells #[.int .i64 x.k, .int .i64 x.n, .string x.s, .slice A1 x.l.length c1, .slice A2 x.m.length c2] 43)).alloc (.cells #[.string name] 9)).alloc (.cells #[.int .i64 0, .int .i64 0, .string ⟨#[]⟩, .slice none 0 0, .slice none 0 0] 43)).alloc (.cells #[.bool false] 4)).alloc (.cells #[.int .i64 x.k, .int .i64 x.n, .string x.s, .slice A1 x.l.length c1, .slice A2 x.m.length c2] 43)).heap.size = w.heap.size + 1 + 1 + 1 + 1 + 1 := by simp only [World.size_alloc]
  simp only [World.size_alloc] at q1' q2' q3' q4
  clear q1 q2 q3
  generalize (((((w.alloc (.cells #[.int .i64 x.k, .int .i64 x.n, .string x.s, .slice A1 x.l.length c1, .slice A2 x.m.length c2] 43)).alloc (.cells #[.string name] 9)).alloc (.cells #[.int .i64 0, .int .i64 0, .string ⟨#[]⟩, .slice none 0 0, .slice none 0 0] 43)).alloc (.cells #[.bool false] 4)).alloc (.cells #[.int .i64 x.k, .int .i64 x.n, .string x.s, .slice A1 x.l.length c1, .slice A2 x.m.length c2] 43)) = W0 at *
  have hmseq := fun m => members_seq m x A1 c1 A2 c2 (fun b => F b ∧ b < W0.heap.size) _ W0.heap.size W0 (Nat.le_refl _) (fun _ hb => hb.2) q4 (JR_bound _ _ (JR_later HJ.out hb0)) HLN.out
  have HS0 := Lib.hid hs0
  clear hs0
  refine (wpIn_wide (n := 4)).1 (range_members (n := 4) (n₀ := W0.heap.size) (Nat.le_refl _) (by decide) rfl (enters_of Tryz.func100 (by kernel_rfl) rfl) (hmseq _) rfl
    (fun pre W => (∀ q ∈ pre, (q.1.toList == name.toList) = false) ∧ W.heap[w.heap.size + 1]? = some (.cells #[.string name] 9 (0, 0)) ∧ W.heap[w.heap.size + 1 + 1]? = some (.cells #[.int .i64 0, .int .i64 0, .string ⟨#[]⟩, .slice none 0 0, .slice none 0 0] 43 (0, 0)) ∧ W.heap[w.heap.size + 1 + 1 + 1]? = some (.cells #[.bool false] 4 (0, 0)) ∧ Below w.heap.size w W)
    (fun c pre W => c = .ret ∧ ∃ pre0 nm y A3 n3 c3 A4 n4 c4 B, pre = pre0 ++ [(nm, y)] ∧ (∀ q ∈ pre0, (q.1.toList == name.toList) = false) ∧ (nm.toList == name.toList) = true ∧ W0.heap.size + 1 < B ∧ JR W (fun b => B ≤ b) y [.int .i64 y.k, .int .i64 y.n, .string y.s, .slice A3 n3 c3, .slice A4 n4 c4] ∧
      W.heap[w.heap.size + 1 + 1]? = some (.cells #[.int .i64 y.k, .int .i64 y.n, .string y.s, .slice A3 n3 c3, .slice A4 n4 c4] 43 (0, 0)) ∧ W.heap[w.heap.size + 1 + 1 + 1]? = some (.cells #[.bool true] 4 (0, 0)) ∧ Below w.heap.size w W)
    (fun s X Y h hb => ⟨h.1, Below.at hb h.2.1, Below.at hb h.2.2.1, Below.at hb h.2.2.2.1, bel_trans h.2.2.2.2 hb⟩)
    (fun s X o h => ⟨h.1, (World.putObj_heap_other (by have := HS0.out; omega)).trans h.2.1, (World.putObj_heap_other (by have := HS0.out; omega)).trans h.2.2.1, (World.putObj_heap_other (by have := HS0.out; omega)).trans h.2.2.2.1, h.2.2.2.2.trans (below_putObj (by have := HS0.out; omega) _)⟩)
    (fun c s X o h => by
      obtain ⟨rfl, pre0, nm, y, A3, n3, c3, A4, n4, c4, B, h1, h2, h3, h4, h5, h6, h7, h8⟩ := h
      exact ⟨rfl, pre0, nm, y, A3, n3, c3, A4, n4, c4, B, h1, h2, h3, h4, JR_frame (fun b hb => World.putObj_heap_other (by omega)) _ _ h5, (World.putObj_heap_other (by have := HS0.out; omega)).trans h6, (World.putObj_heap_other (by have := HS0.out; omega)).trans h7, h8.trans (below_putObj (by have := HS0.out; omega) _)⟩)
    ⟨fun _ h => (by cases h), q1', q2', q3', hb0⟩
    (fun nm y A3 n3 c3 A4 n4 c4 a' W => ∃ Bx B, W0.heap.size + 1 < Bx ∧ W0.heap.size + 1 < B ∧ W.heap[Bx]? = some (.cells #[.int .i64 y.k, .int .i64 y.n, .string y.s, .slice A3 n3 c3, .slice A4 n4 c4] 43 (0, 0)) ∧ JR W (fun b => B ≤ b) y [.int .i64 y.k, .int .i64 y.n, .string y.s, .slice A3 n3 c3, .slice A4 n4 c4] ∧
      a' = { tmps := #[.agg #[.int .i64 x.k, .int .i64 x.n, .string x.s, .slice A1 x.l.length c1, .slice A2 x.m.length c2], .string name, .pointer (some ⟨w.heap.size, 0, none⟩), .pointer (some ⟨w.heap.size + 1, 0, none⟩), .pointer (some ⟨w.heap.size + 1 + 1, 0, none⟩), .pointer (some ⟨w.heap.size + 1 + 1 + 1, 0, none⟩), .string nm, .pointer (some ⟨Bx, 0, none⟩), .agg #[.int .i64 x.k, .int .i64 x.n, .string x.s, .slice A1 x.l.length c1, .slice A2 x.m.length c2], .func (.func 100) #[] #[.pointer (some ⟨w.heap.size + 1 + 1 + 1 + 1, 0, none⟩)], .string nm, .agg #[.int .i64 y.k, .int .i64 y.n, .string y.s, .slice A3 n3 c3, .slice A4 n4 c4], undef, undef, undef, undef, undef], defers := [] })
    (fun nm y A3 n3 c3 A4 n4 c4 a' X o h => by
      obtain ⟨Bx, B, h1, h2, h3, h4, h5⟩ := h
      exact ⟨Bx, B, h1, h2, (World.putObj_heap_other (by omega)).trans h3, JR_frame (fun b hb => World.putObj_heap_other (by omega)) _ _ h4, h5⟩)
    ?assign ?body ?done ?stop)
  case assign =>
    intro pre nm y A3 n3 c3 A4 n4 c4 B Wp W K hip _ hpb hB hlt hjr hK
    have hsem := Oper.semAt_some (W0.heap.size + 1)
    gi_wp2
    have hba := bel_alloc (Below.refl W.heap.size W) (.cells #[.int .i64 y.k, .int .i64 y.n, .string y.s, .slice A3 n3 c3, .slice A4 n4 c4] 43)
    have hbp := bel_trans hpb hba
    exact hK _ _ ((KeepsOthers.alloc _ _).from _) (hba.mono (by omega)) ⟨hip.1, Below.at hbp hip.2.1, Below.at hbp hip.2.2.1, Below.at hbp hip.2.2.2.1, bel_trans hip.2.2.2.2 hbp⟩ ⟨W.heap.size, B, hlt, hB, heap_alloc_new W _, JR_later hjr hba, rfl⟩
  case body =>
    rintro pre post nm y A3 n3 c3 A4 n4 c4 a' W ⟨hp, hq1, hq2, hq3, hbw⟩ hlt ⟨Bx, B, hBx, hB, hbx, hjr, rfl⟩ hms
    have hsem := Oper.semAt_some (W0.heap.size + 1)
    have n0 : W.cell? ⟨w.heap.size + 1, 0, none⟩ = some (.string name) := by rw [Lib.cell_of_heap hq1]; rfl
    obtain ⟨⟨b0, b1, b2, b3, b4⟩, _, hBw⟩ := cells5 hbx
    obtain ⟨⟨r0, r1, r2, r3, r4⟩, ⟨f0, f1, f2, f3, f4⟩, hRw⟩ := cells5 hq2
    have t0 : W.cell? ⟨w.heap.size + 1 + 1 + 1, 0, none⟩ = some (.bool false) := by rw [Lib.cell_of_heap hq3]; rfl
    have u0 : W.frozen? ⟨w.heap.size + 1 + 1 + 1, 0, none⟩ = false := by simp [World.frozen?, hq3]
    have HQ1 := Lib.hid hq1; have HQ2 := Lib.hid hq2; have HQ3 := Lib.hid hq3; have HBW := Lib.hid hbw; have HJR := Lib.hid hjr; have HP := Lib.hid hp; have HMS := Lib.hid hms
    clear hq1 hq2 hq3 hbw hjr hp hms hbx hmseq q1' q2' q3' q4 hb0
    cases hnm : (nm.toList == name.toList) with
    | true =>
      have hne : nm.toList = name.toList := eq_of_beq hnm
      gi_wp2
      obtain ⟨⟨g1, g2⟩, ⟨g3, g4⟩, g5⟩ := gt_sets (w := w) W0.heap.size (.int .i64 y.k) (.int .i64 y.n) (.string y.s) (.slice A3 n3 c3) (.slice A4 n4 c4) (.bool true) HQ2.out HQ3.out (by omega) (by omega) (by omega) HBW.out
      exact ⟨g4, rfl, pre, nm, y, A3, n3, c3, A4, n4, c4, B, rfl, HP.out, hnm, hB, JR_frame (fun b hb => g5 b (by have := HS0.out; omega) (by have := HS0.out; omega)) _ _ HJR.out, g1, g2, g3⟩
    | false =>
      have hne : ¬ nm.toList = name.toList := by simpa using hnm
      gi_wp2
      refine ⟨KeepsFrom.refl _ _, Below.refl _ _, fun q hq => ?_, HQ1.out, HQ2.out, HQ3.out, HBW.out⟩
      rcases List.mem_append.1 hq with hq | hq
      · exact HP.out q hq
      · obtain rfl := List.mem_singleton.1 hq
        exact hnm
  case done =>
    rintro W ⟨hp, hq1, hq2, hq3, hbw⟩ hK
    have HK := Lib.hid hK; have HP := Lib.hid hp; have HBW := Lib.hid hbw; have HQ2 := Lib.hid hq2; have HQ3 := Lib.hid hq3
    obtain ⟨⟨r0, r1, r2, r3, r4⟩, ⟨f0, f1, f2, f3, f4⟩, hRw⟩ := cells5 hq2
    have t0 : W.cell? ⟨w.heap.size + 1 + 1 + 1, 0, none⟩ = some (.bool false) := by rw [Lib.cell_of_heap hq3]; rfl
    have u0 : W.frozen? ⟨w.heap.size + 1 + 1 + 1, 0, none⟩ = false := by simp [World.frozen?, hq3]
    clear hq1 hq2 hq3 hbw hp hmseq q1' q2' q3' q4 hb0 hK
    go_wp2_with fail
    obtain ⟨⟨g1, g2⟩, ⟨g3, g4⟩, g5⟩ := gt_sets (w := w) W0.heap.size (.int .i64 0) (.int .i64 0) (.string ⟨#[]⟩) (.slice none 0 0) (.slice none 0 0) (.bool false) HQ2.out HQ3.out (by omega) (by omega) (by omega) HBW.out
    have hK' := (g5 W0.heap.size (by have := HS0.out; omega) (by have := HS0.out; omega)).trans HK.out
    have HG := getB_none HP.out
    generalize (((((W.setCell ⟨w.heap.size + 1 + 1, 0, none⟩ (.int .i64 0)).setCell ⟨w.heap.size + 1 + 1, 1, none⟩ (.int .i64 0)).setCell ⟨w.heap.size + 1 + 1, 2, none⟩ (.string ⟨#[]⟩)).setCell ⟨w.heap.size + 1 + 1, 3, none⟩ (.slice none 0 0)).setCell ⟨w.heap.size + 1 + 1, 4, none⟩ (.slice none 0 0)).setCell ⟨w.heap.size + 1 + 1 + 1, 0, none⟩ (.bool false) = W6 at *
    refine ⟨by simp, .inl ⟨_, _, rfl, run_takeDeferred hK', ?_⟩⟩
    have p1 := (World.putObj_heap_other (o := .deferred none) (w := W6) (show w.heap.size + 1 + 1 ≠ W0.heap.size by have := HS0.out; omega)).trans g1
    have p2 := (World.putObj_heap_other (o := .deferred none) (w := W6) (show w.heap.size + 1 + 1 + 1 ≠ W0.heap.size by have := HS0.out; omega)).trans g2
    obtain ⟨⟨r0, r1, r2, r3, r4⟩, _, _⟩ := cells5 p1
    have t0 := (show (W6.putObj W0.heap.size (.deferred none)).cell? ⟨w.heap.size + 1 + 1 + 1, 0, none⟩ = some (.bool false) by rw [Lib.cell_of_heap p2]; rfl)
    refine ⟨.tuple #[.agg #[.int .i64 0, .int .i64 0, .string ⟨#[]⟩, .slice none 0 0, .slice none 0 0], .bool false], ?_, ⟨⟨none, 0, 0, none, 0, 0, by rw [HG]; rfl, by rw [HG]; exact zero_jr _ _⟩, g3.trans (below_putObj (by have := HS0.out; omega) _)⟩⟩
    simp [results, Tryz.f34, go_sem, r0, r1, r2, r3, r4, t0]
  case stop =>
    rintro c pre post W hms ⟨rfl, pre0, nm, y, A3, n3, c3, A4, n4, c4, B, h1, h2, h3, h4, h5, h6, h7, h8⟩ hK
    refine wpIn_ret ?_
    have HG := getB_hit (q := (nm, y)) (post := post) h3 h2
    refine ⟨by simp, .inl ⟨_, _, rfl, run_takeDeferred hK, ?_⟩⟩
    have p1 := (World.putObj_heap_other (o := .deferred none) (w := W) (show w.heap.size + 1 + 1 ≠ W0.heap.size by have := HS0.out; omega)).trans h6
    have p2 := (World.putObj_heap_other (o := .deferred none) (w := W) (show w.heap.size + 1 + 1 + 1 ≠ W0.heap.size by have := HS0.out; omega)).trans h7
    obtain ⟨⟨r0, r1, r2, r3, r4⟩, _, _⟩ := cells5 p1
    have t0 := (show (W.putObj W0.heap.size (.deferred none)).cell? ⟨w.heap.size + 1 + 1 + 1, 0, none⟩ = some (.bool true) by rw [Lib.cell_of_heap p2]; rfl)
    have hms2 : memsOf x = pre0 ++ (nm, y) :: post := by rw [hms, h1, List.append_assoc]; rfl
    refine ⟨.tuple #[.agg #[.int .i64 y.k, .int .i64 y.n, .string y.s, .slice A3 n3 c3, .slice A4 n4 c4], .bool true], ?_, ⟨⟨A3, n3, c3, A4, n4, c4, by rw [hms2, HG], by
      rw [hms2, HG]
      exact JR_mono (fun b (hb : B ≤ b) => by have := HS0.out; omega) _ _ (JR_frame (fun b (hb : B ≤ b) => World.putObj_heap_other (by omega)) _ _ h5)⟩, h8.trans (below_putObj (by have := HS0.out; omega) _)⟩⟩
    simp [results, Tryz.f34, go_sem, r0, r1, r2, r3, r4, t0]
end Go.Proofs.YtlihjmfdnkfmfaaGreatDoor
namespace Go.Proofs.YtlihjmfdnkfmfaaGreatDoor
open Go.RowKit Go.Lib

theorem one_k {x : JV} (h : oneB x = true) : 1 ≤ x.k ∧ x.k ≤ 7 := by
  have : badK x = false := by
    cases hb : badK x with
    | false => rfl
    | true => simp [oneB, hb] at h
  simp only [badK, Bool.or_eq_false_iff, decide_eq_false_iff_not] at this
  omega
theorem one_range {x : JV} (h : oneB x = true) : -9007199254740991 ≤ x.n ∧ x.n ≤ 9007199254740991 ∧ validB x.s = true ∧ x.s.size ≤ 8000 := by
  have : rangeB x = true := by
    cases hb : rangeB x with
    | true => rfl
    | false => simp [oneB, hb] at h
  simp only [rangeB, shortB, Bool.and_eq_true, decide_eq_true_eq] at this
  exact ⟨this.1.1, this.1.2, this.2⟩
theorem members_short : ∀ (p : Option ByteArray) (l : List (ByteArray × JV)), membersB p l = true → ∀ q ∈ l, shortB q.1 = true
  | _, [], _, q, hq => by simp at hq
  | p, (nm, y) :: r, h, q, hq => by
    simp only [membersB, Bool.and_eq_true] at h
    rcases List.mem_cons.1 hq with rfl | hq
    · exact h.1.1
    · exact members_short (some nm) r h.2 q hq
theorem one_members {x : JV} (h : oneB x = true) : ∀ q ∈ x.m, shortB q.1 = true := by
  have : membersB none x.m = true := by
    cases hb : membersB none x.m with
    | true => rfl
    | false => simp [oneB, hb] at h
  exact members_short none x.m this

set_option maxHeartbeats 4000000 in
set_option maxRecDepth 100000 in
theorem print_at : ∀ d, PrintAt d := by
  intro d
  induction d with
  | zero => intro x cs F w0 b bs w hm; simp [mayJ] at hm
  | succ d ih =>
    intro x cs F w0 b bs w hm h hT h0 hs hlen
    obtain ⟨vl, vm, ⟨rfl, hsz⟩, hl, hmm⟩ := JR_iff.1 h
    obtain ⟨A1, c1, rfl⟩ := hl.form
    obtain ⟨A2, c2, rfl⟩ := hmm.form
    simp only [mayJ, Bool.and_eq_true] at hm
    obtain ⟨⟨hone, hml⟩, hmo⟩ := hm
    obtain ⟨hk1, hk7⟩ := one_k hone
    obtain ⟨hn1, hn2, hv, hs8⟩ := one_range hone
    have hns := one_members hone
    have hlist := fun (W : World) (hW : Below w0.heap.size w0 W) (hS : Sb w0.heap.size b bs W) (hL : bs.length + (91 :: (joinFrom (printB d) true x.l ++ [93])).length ≤ 140737488355328) => list_any d ih x.l _ F w0 b bs W hml hl hT hW hS hL
    have hobj := fun (W : World) (hW : Below w0.heap.size w0 W) (hS : Sb w0.heap.size b bs W) (hL : bs.length + (123 :: (joinFrom (fun p => quoteB p.1 ++ 58 :: printB d p.2) true x.m ++ [125])).length ≤ 140737488355328) => object_any d ih x.m _ F w0 b bs W hmo hns hmm hT hW hS hL
    have hbA : Below w.heap.size w (w.alloc (.cells #[.int .i64 x.k, .int .i64 x.n, .string x.s, .slice A1 x.l.length c1, .slice A2 x.m.length c2] 43)) := bel_alloc (Below.refl _ _) _
    have hpa := post_of_below hs h0.size hbA
    have HPA := Lib.hid hpa; have HL := Lib.hid hlist; have HO := Lib.hid hobj; have HLen := Lib.hid hlen; have HT := Lib.hid hT; have H0 := Lib.hid h0; have HV := Lib.hid hv
    have HA := Lib.hid (H0.out.trans hpa.2.1)
    have hz : w.heap.size < (w.alloc (.cells #[.int .i64 x.k, .int .i64 x.n, .string x.s, .slice A1 x.l.length c1, .slice A2 x.m.length c2] 43)).heap.size := World.block_lt_of_cell? _ ⟨w.heap.size, 0, none⟩ (cell_newB w _ _ 0 _ rfl)
    clear h hl hmm hone hml hmo hns hlist hobj hbA hpa hlen hT h0 hs hv hz ih
    have hor : x.k = 1 ∨ x.k = 2 ∨ x.k = 3 ∨ x.k = 4 ∨ x.k = 5 ∨ x.k = 6 ∨ x.k = 7 := by omega
    have HP := Lib.hid (show printB (d + 1) x = _ from printB.eq_2 x d)
    generalize hP : printB (d + 1) x = P at *
    clear hP
    generalize x.k = kk at *
    go_enter Tryz.func71, Tryz.ntmps71
    rcases hor with rfl | rfl | rfl | rfl | rfl | rfl | rfl
    · have hp' : P = [110, 117, 108, 108] := by rw [HP.out]; simp
      have HPP := Lib.hid hp'
      clear hk1 hk7 hp'
      go_wp2_with fail
      refine Calls.mono (writeString_any w0.heap.size b bs _ _ HPA.out.1 (by have := HLen.out; rw [HPP.out] at this; simpa [ByteArray.size] using this) HA.out.size) ?_
      rintro e w2 ⟨rfl, hp⟩
      go_wp2_with fail
      go_end0
      exact ⟨rfl, by rw [HPP.out]; exact post_trans HPA.out hp⟩
    · have hp' : P = [102, 97, 108, 115, 101] := by rw [HP.out]; simp
      have HPP := Lib.hid hp'
      clear hk1 hk7 hp'
      go_wp2_with fail
      refine Calls.mono (writeString_any w0.heap.size b bs _ _ HPA.out.1 (by have := HLen.out; rw [HPP.out] at this; simpa [ByteArray.size] using this) HA.out.size) ?_
      rintro e w2 ⟨rfl, hp⟩
      go_wp2_with fail
      go_end0
      exact ⟨rfl, by rw [HPP.out]; exact post_trans HPA.out hp⟩
    · have hp' : P = [116, 114, 117, 101] := by rw [HP.out]; simp
      have HPP := Lib.hid hp'
      clear hk1 hk7 hp'
      go_wp2_with fail
      refine Calls.mono (writeString_any w0.heap.size b bs _ _ HPA.out.1 (by have := HLen.out; rw [HPP.out] at this; simpa [ByteArray.size] using this) HA.out.size) ?_
      rintro e w2 ⟨rfl, hp⟩
      go_wp2_with fail
      go_end0
      exact ⟨rfl, by rw [HPP.out]; exact post_trans HPA.out hp⟩
    · have hp' : P = Lib.itoa x.n := by rw [HP.out]; simp
      have HPP := Lib.hid hp'
      clear hk1 hk7 hp'
      have hit := Tryz.strconv_Itoa x.n (by omega) (by omega) _ (HT.out.below HA.out).pow
      have HI := Lib.hid hit
      clear hit
      go_wp2_with fail
      refine Calls.mono HI.out ?_
      rintro e w2 ⟨rfl, k, os, hw2⟩
      have hbg := Lib.below_grow _ (w.alloc (.cells #[.int .i64 4, .int .i64 x.n, .string x.s, .slice A1 x.l.length c1, .slice A2 x.m.length c2] 43)) (Nat.le_refl _) k os
      rw [← hw2] at hbg
      have hpg := post_trans HPA.out (post_of_below HPA.out.1 HA.out.size hbg)
      have HPG := Lib.hid hpg
      clear hpg hbg hw2
      go_wp2_with fail
      refine Calls.mono (writeString_any w0.heap.size b bs _ _ HPG.out.1 (by have := HLen.out; rw [HPP.out] at this; simpa [ByteArray.size] using this) (H0.out.trans HPG.out.2.1).size) ?_
      rintro e w3 ⟨rfl, hp⟩
      go_wp2_with fail
      go_end0
      exact ⟨rfl, by rw [HPP.out]; exact post_trans HPG.out hp⟩
    · have hp' : P = quoteB x.s := by rw [HP.out]; simp
      have HPP := Lib.hid hp'
      clear hk1 hk7 hp'
      go_wp2_with fail
      refine Calls.mono (jquote_any w0.heap.size b bs x.s _ (by omega) (HT.out.below HA.out) HV.out HPA.out.1 (by have := HLen.out; rw [HPP.out] at this; exact this) HA.out.size) ?_
      rintro e w2 ⟨rfl, hp⟩
      go_wp2_with fail
      go_end0
      exact ⟨rfl, by rw [HPP.out]; exact post_trans HPA.out hp⟩
    · have hp' : P = 91 :: (joinFrom (printB d) true x.l ++ [93]) := by rw [HP.out]; simp
      have HPP := Lib.hid hp'
      clear hk1 hk7 hp'
      go_wp2_with fail
      refine Calls.mono (HL.out _ HA.out HPA.out.1 (by have := HLen.out; rw [HPP.out] at this; exact this)) ?_
      rintro e w2 ⟨rfl, hp⟩
      go_wp2_with fail
      go_end0
      exact ⟨rfl, by rw [HPP.out]; exact post_trans HPA.out hp⟩
    · have hp' : P = 123 :: (joinFrom (fun p => quoteB p.1 ++ 58 :: printB d p.2) true x.m ++ [125]) := by rw [HP.out]; simp
      have HPP := Lib.hid hp'
      clear hk1 hk7 hp'
      go_wp2_with fail
      refine Calls.mono (HO.out _ HA.out HPA.out.1 (by have := HLen.out; rw [HPP.out] at this; exact this)) ?_
      rintro e w2 ⟨rfl, hp⟩
      go_wp2_with fail
      go_end0
      exact ⟨rfl, by rw [HPP.out]; exact post_trans HPA.out hp⟩
end Go.Proofs.YtlihjmfdnkfmfaaGreatDoor
namespace Go.Proofs.YtlihjmfdnkfmfaaGreatDoor
open Go.RowKit Go.Lib

theorem bytesRow_cell (w : World) (l : List UInt8) (cap : Nat) (e : TypeId) (fz : Nat × Nat) (j : Nat) (hj : j < l.length) : (w.drew.alloc (.cells (bytesRow ⟨l.toArray⟩ cap) e fz)).cell? ((⟨w.heap.size, 0, none⟩ : Addr).add j) = some (.int .u8 (l[j].toNat : Int)) := by
  rw [Addr.add_lit]
  have : (w.drew.alloc (.cells (bytesRow ⟨l.toArray⟩ cap) e fz)).heap[w.heap.size]? = some (.cells (bytesRow ⟨l.toArray⟩ cap) e fz) := heap_alloc_new w.drew (.cells (bytesRow ⟨l.toArray⟩ cap) e fz)
  rw [Lib.cell_of_heap this]
  simp only [bytesRow, Nat.zero_add]
  rw [Array.getElem?_append_left (by simpa using hj)]
  simp [hj]
set_option maxRecDepth 100000 in
set_option maxHeartbeats 4000000 in
theorem Print_bad (x : JV) (cs : List Value) (F : Nat → Prop) (w : World) (h : JR w F x cs) (hT : Tabs w) (hm : mayJ 64 x = false) :
    Calls Tryz.prog 21 #[.agg cs.toArray] w fun e w' => e = .returned (.tuple #[.slice none 0 0, .int .i64 4]) ∧ Below w.heap.size w w' := by
  have hbA : Below w.heap.size w (w.alloc (.cells cs.toArray 43)) := bel_alloc (Below.refl _ _) _
  have hc := May_any x cs F _ (JR_later h hbA) (hT.below hbA)
  rw [hm] at hc
  obtain ⟨A1, n1, c1, A2, n2, c2, rfl⟩ := JR_form h
  have HC := Lib.hid hc; have HB := Lib.hid hbA
  clear hc h hT hbA
  go_enter Tryz.func21, Tryz.ntmps21
  go_wp2_with fail
  refine Calls.mono HC.out ?_
  rintro e w2 ⟨rfl, hb⟩
  go_wp2_with fail
  go_ret2
  exact ⟨rfl, bel_trans HB.out hb⟩

set_option maxRecDepth 100000 in
set_option maxHeartbeats 4000000 in
theorem Print_full (x : JV) (cs : List Value) (F : Nat → Prop) (w : World) (h : JR w F x cs) (hT : Tabs w) (hm : mayJ 64 x = true) (hlen : (printB 64 x).length ≤ 140737488355328) :
    Calls Tryz.prog 21 #[.agg cs.toArray] w fun e w' => (∃ g c, e = .returned (.tuple #[.slice (some ⟨g, 0, none⟩) (printB 64 x).length c, .int .i64 0]) ∧ ((printB 64 x).length ≤ c ∧ c ≤ 9223372036854775807) ∧ ∀ j (hj : j < (printB 64 x).length), w'.cell? ((⟨g, 0, none⟩ : Addr).add j) = some (.int .u8 ((printB 64 x)[j].toNat : Int))) ∧ Below w.heap.size w w' := by
  have hbA : Below w.heap.size w (w.alloc (.cells cs.toArray 43)) := bel_alloc (Below.refl _ _) _
  have hc := May_any x cs F _ (JR_later h hbA) (hT.below hbA)
  rw [hm] at hc
  have hp := fun w0 (h0 : Below w.heap.size w w0) b W => print_at 64 x cs F w0 b [] W hm (JR_later h h0) (hT.below h0)
  obtain ⟨A1, n1, c1, A2, n2, c2, rfl⟩ := JR_form h
  have n0 := cell_newB w #[.int .i64 x.k, .int .i64 x.n, .string x.s, .slice A1 n1 c1, .slice A2 n2 c2] 43 0 _ rfl
  have m1 := cell_newB w #[.int .i64 x.k, .int .i64 x.n, .string x.s, .slice A1 n1 c1, .slice A2 n2 c2] 43 1 _ rfl
  have m2 := cell_newB w #[.int .i64 x.k, .int .i64 x.n, .string x.s, .slice A1 n1 c1, .slice A2 n2 c2] 43 2 _ rfl
  have m3 := cell_newB w #[.int .i64 x.k, .int .i64 x.n, .string x.s, .slice A1 n1 c1, .slice A2 n2 c2] 43 3 _ rfl
  have m4 := cell_newB w #[.int .i64 x.k, .int .i64 x.n, .string x.s, .slice A1 n1 c1, .slice A2 n2 c2] 43 4 _ rfl
  have HC := Lib.hid hc; have HB := Lib.hid hbA; have HP := Lib.hid hp; have HL := Lib.hid hlen
  clear hc h hT hbA hp hlen hm
  generalize printB 64 x = P at *
  go_enter Tryz.func21, Tryz.ntmps21
  go_wp2_with fail
  refine Calls.mono HC.out ?_
  rintro e w2 ⟨rfl, hb⟩
  have l0 := cell_later' hb n0
  have l1 := cell_later' hb m1
  have l2 := cell_later' hb m2
  have l3 := cell_later' hb m3
  have l4 := cell_later' hb m4
  have hz : w.heap.size < w2.heap.size := World.block_lt_of_cell? _ _ l0
  have HB2 := Lib.hid (bel_trans HB.out hb)
  have hbW : Below w2.heap.size w2 (w2.alloc (.cells #[.pointer none, .slice none 0 0] 154)) := bel_alloc (Below.refl _ _) _
  have hfr : Sb w2.heap.size w2.heap.size [] (w2.alloc (.cells #[.pointer none, .slice none 0 0] 154)) := Lib.fresh_isBuilder _ _ w2
  have HW := Lib.hid hbW; have HF := Lib.hid hfr
  clear n0 m1 m2 m3 m4 hb hbW hfr
  go_wp2_with fail
  refine Calls.mono (HP.out w2 HB2.out w2.heap.size _ HW.out HF.out (by simpa using HL.out)) ?_
  rintro e w3 ⟨rfl, hp⟩
  have hsb : Sb w2.heap.size w2.heap.size (Lib.byteCells (P)) w3 := by simpa using hp.1
  have hstr := Tryz.Builder_String_any w2.heap.size w2.heap.size (P) w3 hsb (Nat.le_trans HW.out.size hp.2.1.size)
  have HS := Lib.hid hstr; have HP3 := Lib.hid hp.2.1
  clear hp hsb hstr
  go_wp2_with fail
  refine Calls.mono HS.out ?_
  rintro e w4 ⟨rfl, hb4⟩
  have HB4 := Lib.hid (HB2.out.trans ((HW.out.trans (HP3.out.trans hb4)).mono HB2.out.size))
  clear hb4
  go_wp2_with fail
  rw [run_bytes_of_string w4 _ _ 5 _ Tryz.underlying9 Tryz.underlying22 Tryz.underlying5]
  simp only [Result.andThen]
  rw [Oper.upon_value]
  have hcc := bytesRow_cell w4 P
  have hb5 := fun o => (bel_drew HB4.out).alloc (B := w.heap.size) (by have := HB4.out.size; exact this) o
  have HC5 := Lib.hid hcc; have HB5 := Lib.hid hb5
  clear hcc hb5
  go_wp2_with fail
  go_ret2
  exact ⟨⟨w4.heap.size, grownCap w4 P.length 0 5, rfl, ⟨grownCap_ge _ _ _ _, by have := grownCap_le_maxLen w4 P.length 0 5 (by have := HL.out; simp only [maxLen]; omega); simpa [maxLen] using this⟩, fun j hj => HC5.out _ _ _ j hj⟩, HB5.out _⟩
theorem Print_good (x : JV) (cs : List Value) (F : Nat → Prop) (w : World) (h : JR w F x cs) (hT : Tabs w) (hm : mayJ 64 x = true) (hlen : (printB 64 x).length ≤ 140737488355328) :
    Calls Tryz.prog 21 #[.agg cs.toArray] w fun e w' => (∃ g c, e = .returned (.tuple #[.slice (some ⟨g, 0, none⟩) (printB 64 x).length c, .int .i64 0]) ∧ ∀ j (hj : j < (printB 64 x).length), w'.cell? ((⟨g, 0, none⟩ : Addr).add j) = some (.int .u8 ((printB 64 x)[j].toNat : Int))) ∧ Below w.heap.size w w' :=
  (Print_full x cs F w h hT hm hlen).mono fun _ _ ⟨⟨g, c, e1, _, h2⟩, hb⟩ => ⟨⟨g, c, e1, h2⟩, hb⟩
end Go.Proofs.YtlihjmfdnkfmfaaGreatDoor
namespace Go.Proofs.YtlihjmfdnkfmfaaGreatDoor
open Go.RowKit Go.Lib

theorem bs_string (w : World) (l : List UInt8) (t : TypeId) (c cc : Nat) (fz : Nat × Nat) : BSl (w.drew.alloc (.cells (bytesRow ⟨l.toArray⟩ c) t fz)) (fun _ => True) (.slice (some ⟨w.heap.size, 0, none⟩) (⟨l.toArray⟩ : ByteArray).size cc) ⟨l.toArray⟩ := by
  refine .inl ⟨_, _, _, rfl, trivial, fun i hi => ?_⟩
  have h := bytesRow_cell w l c t fz i (by simpa [ByteArray.size] using hi)
  rw [Addr.add_mid] at h
  exact h
end Go.Proofs.YtlihjmfdnkfmfaaGreatDoor
namespace Go.Proofs.YtlihjmfdnkfmfaaGreatDoor
open Go.RowKit Go.Lib

theorem jr_lensR {w : World} {F : Nat → Prop} {x : JV} {a b c : Value} {d1 d2 : Option Addr} {n1 c1 n2 c2 : Nat} (h : JR w F x [a, b, c, .slice d1 n1 c1, .slice d2 n2 c2]) : x.l.length = n1 ∧ x.m.length = n2 := by
  obtain ⟨vl, vm, ⟨he, _⟩, hl, hm⟩ := JR_iff.1 h
  obtain ⟨A1, c1', rfl⟩ := hl.form
  obtain ⟨A2, c2', rfl⟩ := hm.form
  injection he with _ he; injection he with _ he; injection he with _ he; injection he with h1 he; injection he with h2 _
  injection h1 with _ h1; injection h2 with _ h2
  exact ⟨h1.symm, h2.symm⟩
/-- a row of two cells -/
theorem cells2 {w : World} {B : Nat} {T : TypeId} {a0 a1 : Value} (h : w.heap[B]? = some (.cells #[a0, a1] T (0, 0))) :
    w.cell? ⟨B, 0, none⟩ = some a0 ∧ w.cell? ⟨B, 1, none⟩ = some a1 ∧ w.frozen? ⟨B, 0, none⟩ = false ∧ w.frozen? ⟨B, 1, none⟩ = false := by
  simp [World.cell?, World.frozen?, h]
def GtS (X : Nat) (ca : Array Value) (w : World) : Prop := w.heap[X]? = some (.cells ca 43 (0, 0))
/-- a row in a new block -/
def GtR (cs : Array Value) (T : TypeId) (W : World) (s5 : Value) (wx : World) : Prop := ∃ X, s5 = .pointer (some ⟨X, 0, none⟩) ∧ wx.heap[X]? = some (.cells cs T (0, 0)) ∧ Below W.heap.size W wx
theorem gt2_end {W wq : World} {X : Nat} {T : TypeId} {a0 a1 : Value} (v0 v1 : Value) (h : wq.heap[X]? = some (.cells #[a0, a1] T (0, 0))) (hb : Below W.heap.size W wq) (hX : W.heap.size ≤ X) :
    ((wq.setCell ⟨X, 0, none⟩ v0).setCell ⟨X, 1, none⟩ v1).heap[X]? = some (.cells #[v0, v1] T (0, 0)) ∧ Below W.heap.size W ((wq.setCell ⟨X, 0, none⟩ v0).setCell ⟨X, 1, none⟩ v1) := by
  refine ⟨?_, bel_set (p := ⟨X, 1, none⟩) (bel_set (p := ⟨X, 0, none⟩) hb hX v0) hX v1⟩
  have h1 : (wq.setCell ⟨X, 0, none⟩ v0).heap[X]? = some (.cells #[v0, a1] T (0, 0)) := by simpa using heap_setCell_row (i := 0) (v := v0) h
  simpa using heap_setCell_row (i := 1) (v := v1) h1
theorem get_callR (x : JV) (name : ByteArray) (cs : List Value) (F : Nat → Prop) (w : World) {p : JV} {b : Bool} (hp : getB name (memsOf x) = (p, b)) (hln : LnJ x) (h : JR w F x cs) :
    Calls Tryz.prog 34 #[.agg cs.toArray, .string name] w fun z w' => ∃ (A1 : Option Addr) (n1 c1 : Nat) (A2 : Option Addr) (n2 c2 : Nat),
      z = .returned (.tuple #[.agg #[.int .i64 p.k, .int .i64 p.n, .string p.s, .slice A1 n1 c1, .slice A2 n2 c2], .bool b]) ∧ JR w' (fun _ => True) p [.int .i64 p.k, .int .i64 p.n, .string p.s, .slice A1 n1 c1, .slice A2 n2 c2] ∧ Below w.heap.size w w' := by
  have k := get_any x name cs F w hln h
  unfold GtRes at k
  rw [hp] at k
  exact k.mono fun z w' ⟨⟨A1, n1, c1, A2, n2, c2, h1, h2⟩, hb⟩ => ⟨A1, n1, c1, A2, n2, c2, h1, JR_mono (fun _ _ => trivial) _ _ h2, hb⟩
set_option maxRecDepth 100000 in
set_option maxHeartbeats 16000000 in
theorem rparse_any (l : List UInt8) {V : JV} {ev : Int} (hV : parseB ⟨l.toArray⟩ = (V, ev)) (w : World) (hT : Tabs w) :
    Calls Tryz.prog 90 #[.string ⟨l.toArray⟩] w fun z w' => ∃ (A1 : Option Addr) (n1 c1 : Nat) (A2 : Option Addr) (n2 c2 : Nat),
      z = .returned (.agg #[.int .i64 V.k, .int .i64 V.n, .string V.s, .slice A1 n1 c1, .slice A2 n2 c2]) ∧ JR w' (fun _ => True) V [.int .i64 V.k, .int .i64 V.n, .string V.s, .slice A1 n1 c1, .slice A2 n2 c2] ∧ Below w.heap.size w w' := by
  have hbA : Below w.heap.size w (w.alloc (.cells #[.int .i64 0, .int .i64 0, .string ⟨#[]⟩, .slice none 0 0, .slice none 0 0] 43)) := bel_alloc (Below.refl _ _) _
  have hk := heap_alloc_new w (.cells #[.int .i64 0, .int .i64 0, .string ⟨#[]⟩, .slice none 0 0, .slice none 0 0] 43)
  have hsz : (w.alloc (.cells #[.int .i64 0, .int .i64 0, .string ⟨#[]⟩, .slice none 0 0, .slice none 0 0] 43)).heap.size = w.heap.size + 1 := by show (w.heap.push _).size = _; simp
  have HT := Lib.hid hT; have HV := Lib.hid hV
  clear hT hV
  go_enter Tryz.func90, Tryz.ntmps90
  go_upto_region 1 with (fail)
  generalize w.alloc (.cells #[.int .i64 0, .int .i64 0, .string ⟨#[]⟩, .slice none 0 0, .slice none 0 0] 43) = W0 at *
  have HB := Lib.hid hbA; have HK := Lib.hid hk; have HSZ := Lib.hid hsz
  clear hbA hk hsz
  go_wp2_with fail
  rw [run_bytes_of_string W0 _ _ 5 _ Tryz.underlying9 Tryz.underlying22 Tryz.underlying5]
  simp only [Result.andThen]
  rw [Oper.upon_value]
  have hbs := bs_string W0 l 5
  have hb5 := fun o => (bel_drew HB.out).alloc (B := w.heap.size) (by have := HB.out.size; exact this) o
  have hbl := fun o => bel_alloc (bel_drew (Below.refl W0.heap.size W0)) o
  have HS5 := Lib.hid hbs; have HB5 := Lib.hid hb5; have HL5 := Lib.hid hbl
  clear hbs hb5 hbl
  go_wp2_with fail
  have hpa := fun c cc fz => parse_any ⟨l.toArray⟩ _ (fun _ => True) _ (HT.out.below (HB5.out _)) (HS5.out c cc fz)
  unfold PRes at hpa
  rw [HV.out] at hpa
  simp only at hpa
  refine Calls.mono (hpa _ _ _) ?_
  rintro e u ⟨A1, n1, c1, A2, n2, c2, rfl, hj, hb0⟩
  have hb := bel_trans (HL5.out _) hb0
  have hj1 := JR_mono (F' := fun b => b ≠ w.heap.size) (fun b hb1 => by
    have h2 : W0.heap.size ≤ b := Nat.le_trans (HL5.out _).size hb1
    have := HSZ.out
    omega) _ _ hj
  clear hpa hb0 HS5 HB5 HL5 HV hj
  have hA2 := bel_alloc (Below.refl u.heap.size u) (.cells #[.int .i64 V.k, .int .i64 V.n, .string V.s, .slice A1 n1 c1, .slice A2 n2 c2] 43)
  have hb2 := bel_trans hb hA2
  have hc2 := heap_alloc_new u (.cells #[.int .i64 V.k, .int .i64 V.n, .string V.s, .slice A1 n1 c1, .slice A2 n2 c2] 43)
  have hj2 := JR_later hj1 hA2
  have HB2 := Lib.hid (bel_trans HB.out hb2)
  have HK2 := Lib.hid ((hb2.block w.heap.size (Array.getElem?_eq_some_iff.1 HK.out).1).trans HK.out)
  have HC := Lib.hid hc2; have HJ := Lib.hid hj2
  clear hA2 hb2 hc2 hj2 hj1 hb HB HK
  go_upto_region 2 with (fail)
  generalize u.heap.size = X3 at *
  generalize u.alloc (.cells #[.int .i64 V.k, .int .i64 V.n, .string V.s, .slice A1 n1 c1, .slice A2 n2 c2] 43) = W3 at *
  obtain ⟨⟨v0, v1, v2, v3, v4⟩, _, hV3⟩ := cells5 HC.out
  obtain ⟨⟨u0, u1, u2, u3, u4⟩, ⟨t0, t1, t2, t3, t4⟩, hU3⟩ := cells5 HK2.out
  go_wp2_with fail
  have hf := set5 (.int .i64 V.k) (.int .i64 V.n) (.string V.s) (.slice A1 n1 c1) (.slice A2 n2 c2) HK2.out
  have hjj := JR_mono (F' := fun _ => True) (fun _ _ => trivial) _ _ (JR_frame (fun b hb => set5_other (w := W3) (B := w.heap.size) (.int .i64 V.k) (.int .i64 V.n) (.string V.s) (.slice A1 n1 c1) (.slice A2 n2 c2) hb) _ _ HJ.out)
  exact bodyPost_ret (results_cell_row rfl _ _ w.heap.size 43 #[.int .i64 V.k, .int .i64 V.n, .string V.s, .slice A1 n1 c1, .slice A2 n2 c2] (0, 0) _ rfl hf Tryz.underlying43 rfl (by kernel_rfl)) rfl
    ⟨A1, n1, c1, A2, n2, c2, rfl, hjj, bel_set5 HB2.out (Nat.le_refl _) _ _ _ _ _⟩
set_option maxRecDepth 100000 in
set_option maxHeartbeats 16000000 in
theorem rs_any (x : JV) (nm : ByteArray) (cs : List Value) (F : Nat → Prop) (w : World) (hln : LnJ x) (h : JR w F x cs) :
    Calls Tryz.prog 91 #[.agg cs.toArray, .string nm] w fun e w' => e = .returned (.string (getB nm (memsOf x)).1.s) ∧ Below w.heap.size w w' := by
  obtain ⟨vl, vm, ⟨rfl, hsz⟩, hl, hm⟩ := JR_iff.1 h
  obtain ⟨A1, c1, rfl⟩ := hl.form
  obtain ⟨A2, c2, rfl⟩ := hm.form
  obtain ⟨p, b, hp⟩ : ∃ p b, getB nm (memsOf x) = (p, b) := ⟨_, _, rfl⟩
  rw [hp]
  have hbA : Below w.heap.size w (w.alloc (.cells #[.int .i64 x.k, .int .i64 x.n, .string x.s, .slice A1 x.l.length c1, .slice A2 x.m.length c2] 43)) := bel_alloc (Below.refl _ _) _
  have hk := heap_alloc_new w (.cells #[.int .i64 x.k, .int .i64 x.n, .string x.s, .slice A1 x.l.length c1, .slice A2 x.m.length c2] 43)
  have HJ := Lib.hid (JR_later h hbA); have HP := Lib.hid hp; have HL := Lib.hid hln
  clear h hp hln hl hm hsz
  go_enter Tryz.func91, Tryz.ntmps91
  go_upto_region 1 with (fail)
  generalize w.alloc (.cells #[.int .i64 x.k, .int .i64 x.n, .string x.s, .slice A1 x.l.length c1, .slice A2 x.m.length c2] 43) = W0 at *
  have HB := Lib.hid hbA
  obtain ⟨⟨v0, v1, v2, v3, v4⟩, _, hV3⟩ := cells5 hk
  clear hbA hk
  have hcl := get_callR x nm _ _ W0 HP.out HL.out HJ.out
  have HCL := Lib.hid hcl
  clear hcl
  go_wp2_with fail
  refine Calls.mono HCL.out ?_
  rintro e u ⟨D1, i1, e1, D2, i2, e2, rfl, _, hb⟩
  clear HCL HJ HL HP v0 v1 v2 v3 v4 hV3
  have hA2 := bel_alloc (Below.refl u.heap.size u) (.cells #[.int .i64 p.k, .int .i64 p.n, .string p.s, .slice D1 i1 e1, .slice D2 i2 e2] 43)
  have hb2 := bel_trans (bel_trans HB.out hb) hA2
  have hc2 := heap_alloc_new u (.cells #[.int .i64 p.k, .int .i64 p.n, .string p.s, .slice D1 i1 e1, .slice D2 i2 e2] 43)
  have HB2 := Lib.hid hb2
  clear hA2 hb2 hb HB
  go_upto_region 2 with (fail)
  generalize u.heap.size = X3 at *
  generalize u.alloc (.cells #[.int .i64 p.k, .int .i64 p.n, .string p.s, .slice D1 i1 e1, .slice D2 i2 e2] 43) = W3 at *
  obtain ⟨⟨v0, v1, v2, v3, v4⟩, _, hV3⟩ := cells5 hc2
  clear hc2
  go_wp2_with fail
  go_ret
  exact ⟨rfl, HB2.out⟩
set_option maxRecDepth 100000 in
set_option maxHeartbeats 16000000 in
theorem rn_any (x : JV) (nm : ByteArray) (cs : List Value) (F : Nat → Prop) (w : World) (hln : LnJ x) (h : JR w F x cs) :
    Calls Tryz.prog 92 #[.agg cs.toArray, .string nm] w fun e w' => e = .returned (.int .i64 (getB nm (memsOf x)).1.n) ∧ Below w.heap.size w w' := by
  obtain ⟨vl, vm, ⟨rfl, hsz⟩, hl, hm⟩ := JR_iff.1 h
  obtain ⟨A1, c1, rfl⟩ := hl.form
  obtain ⟨A2, c2, rfl⟩ := hm.form
  obtain ⟨p, b, hp⟩ : ∃ p b, getB nm (memsOf x) = (p, b) := ⟨_, _, rfl⟩
  rw [hp]
  have hbA : Below w.heap.size w (w.alloc (.cells #[.int .i64 x.k, .int .i64 x.n, .string x.s, .slice A1 x.l.length c1, .slice A2 x.m.length c2] 43)) := bel_alloc (Below.refl _ _) _
  have hk := heap_alloc_new w (.cells #[.int .i64 x.k, .int .i64 x.n, .string x.s, .slice A1 x.l.length c1, .slice A2 x.m.length c2] 43)
  have HJ := Lib.hid (JR_later h hbA); have HP := Lib.hid hp; have HL := Lib.hid hln
  clear h hp hln hl hm hsz
  go_enter Tryz.func92, Tryz.ntmps92
  go_upto_region 1 with (fail)
  generalize w.alloc (.cells #[.int .i64 x.k, .int .i64 x.n, .string x.s, .slice A1 x.l.length c1, .slice A2 x.m.length c2] 43) = W0 at *
  have HB := Lib.hid hbA
  obtain ⟨⟨v0, v1, v2, v3, v4⟩, _, hV3⟩ := cells5 hk
  clear hbA hk
  have hcl := get_callR x nm _ _ W0 HP.out HL.out HJ.out
  have HCL := Lib.hid hcl
  clear hcl
  go_wp2_with fail
  refine Calls.mono HCL.out ?_
  rintro e u ⟨D1, i1, e1, D2, i2, e2, rfl, _, hb⟩
  clear HCL HJ HL HP v0 v1 v2 v3 v4 hV3
  have hA2 := bel_alloc (Below.refl u.heap.size u) (.cells #[.int .i64 p.k, .int .i64 p.n, .string p.s, .slice D1 i1 e1, .slice D2 i2 e2] 43)
  have hb2 := bel_trans (bel_trans HB.out hb) hA2
  have hc2 := heap_alloc_new u (.cells #[.int .i64 p.k, .int .i64 p.n, .string p.s, .slice D1 i1 e1, .slice D2 i2 e2] 43)
  have HB2 := Lib.hid hb2
  clear hA2 hb2 hb HB
  go_upto_region 2 with (fail)
  generalize u.heap.size = X3 at *
  generalize u.alloc (.cells #[.int .i64 p.k, .int .i64 p.n, .string p.s, .slice D1 i1 e1, .slice D2 i2 e2] 43) = W3 at *
  obtain ⟨⟨v0, v1, v2, v3, v4⟩, _, hV3⟩ := cells5 hc2
  clear hc2
  go_wp2_with fail
  go_ret
  exact ⟨rfl, HB2.out⟩
end Go.Proofs.YtlihjmfdnkfmfaaGreatDoor
