/- Parts of the proof: Ke, Lk, Kn, Gl, Gs, Cb, Gq, Pa. -/
import Derived.Test.YtjjgbgojlhaapaaGreatDoorZJls20
import Derived.Test.YtjjgbgojlhaapaaGreatDoorZJls17
import Derived.Test.YtjjgbgojlhaapaaGreatDoorZJls4
import Derived.Test.YtjjgbgojlhaapaaGreatDoorZJls16
import Derived.Test.YtjjgbgojlhaapaaGreatDoorZJls3
import Derived.Lib.ValidLaws
import Derived.OwnWalk
import Derived.Laws.BitsLemmas
import Derived.Test.YtjjgbgojlhaapaaGreatDoorZJls15
import Derived.Lib.AppendStr
import Derived.Lib.AppendIntMem
import Derived.Test.YtjjgbgojlhaapaaGreatDoorZJls7
namespace Go.Proofs.YtjjgbgojlhaapaaGreatDoor
open Go.RowKit Go.Lib

/-- the first member of a name -/
def getB (nm : ByteArray) : List (ByteArray × JV) → JV × Bool
  | [] => (zeroV, false)
  | q :: l => if q.1.toList == nm.toList then (q.2, true) else getB nm l
theorem getB_none {nm : ByteArray} : ∀ {l : List (ByteArray × JV)}, (∀ q ∈ l, (q.1.toList == nm.toList) = false) → getB nm l = (zeroV, false)
  | [], _ => rfl
  | q :: l, h => by
    unfold getB
    rw [h q (List.mem_cons_self ..), if_neg Bool.false_ne_true]
    exact getB_none (fun r hr => h r (List.mem_cons_of_mem _ hr))
theorem getB_hit {nm : ByteArray} {q : ByteArray × JV} {post : List (ByteArray × JV)} (hq : (q.1.toList == nm.toList) = true) : ∀ {pre : List (ByteArray × JV)}, (∀ r ∈ pre, (r.1.toList == nm.toList) = false) → getB nm (pre ++ q :: post) = (q.2, true)
  | [], _ => by show getB nm (q :: post) = _; unfold getB; rw [if_pos hq]
  | r :: pre, h => by
    show getB nm (r :: (pre ++ q :: post)) = _
    unfold getB
    rw [h r (List.mem_cons_self ..), if_neg Bool.false_ne_true]
    exact getB_hit hq (fun s hs => h s (List.mem_cons_of_mem _ hs))
set_option maxHeartbeats 2000000 in
theorem members_any (x : JV) (A1 : Option Addr) (c1 : Nat) (A2 : Option Addr) (c2 : Nat) (w : World) :
    Calls Tryz.prog 21 #[.agg #[.int .i64 x.k, .int .i64 x.n, .string x.s, .slice A1 x.l.length c1, .slice A2 x.m.length c2]] w fun e w' => e = .returned (.func (.func 41) #[] #[.pointer (some ⟨w.heap.size, 0, none⟩)]) ∧ w' = w.alloc (.cells #[.int .i64 x.k, .int .i64 x.n, .string x.s, .slice A1 x.l.length c1, .slice A2 x.m.length c2] 28) := by
  go_enter Tryz.func21, Tryz.ntmps21
  go_wp2_with fail
  go_ret
  exact ⟨rfl, rfl⟩
def GtRes (x : JV) (nm : ByteArray) (w : World) (z : Ending) (w' : World) : Prop := (∃ (A1 : Option Addr) (n1 c1 : Nat) (A2 : Option Addr) (n2 c2 : Nat),
  z = .returned (.tuple #[.agg #[.int .i64 (getB nm (memsOf x)).1.k, .int .i64 (getB nm (memsOf x)).1.n, .string (getB nm (memsOf x)).1.s, .slice A1 n1 c1, .slice A2 n2 c2], .bool (getB nm (memsOf x)).2]) ∧
  JR w' (fun b => w.heap.size ≤ b) (getB nm (memsOf x)).1 [.int .i64 (getB nm (memsOf x)).1.k, .int .i64 (getB nm (memsOf x)).1.n, .string (getB nm (memsOf x)).1.s, .slice A1 n1 c1, .slice A2 n2 c2]) ∧ Below w.heap.size w w'
theorem gt_sets {w W : World} {r t : Nat} {T T' : TypeId} {a0 a1 a2 a3 a4 u0 : Value} (D : Nat) (v0 v1 v2 v3 v4 u : Value) (hr : W.heap[r]? = some (.cells #[a0, a1, a2, a3, a4] T (0, 0))) (ht : W.heap[t]? = some (.cells #[u0] T' (0, 0))) (hrt : r ≠ t) (h1 : w.heap.size ≤ r) (h2 : w.heap.size ≤ t) (hb : Below w.heap.size w W) :
    (((((((W.setCell ⟨r, 0, none⟩ v0).setCell ⟨r, 1, none⟩ v1).setCell ⟨r, 2, none⟩ v2).setCell ⟨r, 3, none⟩ v3).setCell ⟨r, 4, none⟩ v4).setCell ⟨t, 0, none⟩ u).heap[r]? = some (.cells #[v0, v1, v2, v3, v4] T (0, 0)) ∧ ((((((W.setCell ⟨r, 0, none⟩ v0).setCell ⟨r, 1, none⟩ v1).setCell ⟨r, 2, none⟩ v2).setCell ⟨r, 3, none⟩ v3).setCell ⟨r, 4, none⟩ v4).setCell ⟨t, 0, none⟩ u).heap[t]? = some (.cells #[u] T' (0, 0))) ∧
    (Below w.heap.size w ((((((W.setCell ⟨r, 0, none⟩ v0).setCell ⟨r, 1, none⟩ v1).setCell ⟨r, 2, none⟩ v2).setCell ⟨r, 3, none⟩ v3).setCell ⟨r, 4, none⟩ v4).setCell ⟨t, 0, none⟩ u) ∧ KeepsFrom D W ((((((W.setCell ⟨r, 0, none⟩ v0).setCell ⟨r, 1, none⟩ v1).setCell ⟨r, 2, none⟩ v2).setCell ⟨r, 3, none⟩ v3).setCell ⟨r, 4, none⟩ v4).setCell ⟨t, 0, none⟩ u)) ∧ ∀ b, b ≠ r → b ≠ t → ((((((W.setCell ⟨r, 0, none⟩ v0).setCell ⟨r, 1, none⟩ v1).setCell ⟨r, 2, none⟩ v2).setCell ⟨r, 3, none⟩ v3).setCell ⟨r, 4, none⟩ v4).setCell ⟨t, 0, none⟩ u).heap[b]? = W.heap[b]? := by
  have ht5 := (set5_other (w := W) v0 v1 v2 v3 v4 (show t ≠ r from fun e => hrt e.symm)).trans ht
  refine ⟨⟨(Below.heap_setCell _ _ _ _ (show r ≠ t from hrt)).trans (set5 v0 v1 v2 v3 v4 hr), by simpa using heap_setCell_row (i := 0) (v := u) ht5⟩,
    ⟨bel_set (p := ⟨t, 0, none⟩) (bel_set (p := ⟨r, 4, none⟩) (bel_set (p := ⟨r, 3, none⟩) (bel_set (p := ⟨r, 2, none⟩) (bel_set (p := ⟨r, 1, none⟩) (bel_set (p := ⟨r, 0, none⟩) hb h1 v0) h1 v1) h1 v2) h1 v3) h1 v4) h2 u, ?_⟩,
    fun b hb1 hb2 => (Below.heap_setCell _ _ _ _ (show b ≠ t from hb2)).trans (set5_other v0 v1 v2 v3 v4 hb1)⟩
  have k := fun (X : World) (p : Addr) (v : Value) => (KeepsOthers.setCell X p v).from D
  exact (((((k _ _ _).trans (k _ _ _)).trans (k _ _ _)).trans (k _ _ _)).trans (k _ _ _)).trans (k _ _ _)
set_option maxRecDepth 100000 in
set_option maxHeartbeats 16000000 in
theorem get_any (x : JV) (name : ByteArray) (cs : List Value) (F : Nat → Prop) (w : World) (hln : LnJ x) (h : JR w F x cs) :
    Calls Tryz.prog 16 #[.agg cs.toArray, .string name] w (GtRes x name w) := by
  obtain ⟨vl, vm, ⟨rfl, hsz⟩, hl, hm⟩ := JR_iff.1 h
  obtain ⟨A1, c1, rfl⟩ := hl.form
  obtain ⟨A2, c2, rfl⟩ := hm.form
  have HJ := Lib.hid h; have HLN := Lib.hid hln
  clear hl hm h hln hsz
  have HMB := Lib.hid (fun W => members_any x A1 c1 A2 c2 W)
  refine (callsIn_wide (n := 4)).1 (callsIn_of_wp_marks Tryz.func16 rfl trivial ?_ rfl)
  simp only [Tryz.ntmps16, List.size_toArray, List.length_cons, List.length_nil, Nat.reduceAdd, Nat.reduceSub, Array.replicate_succ, Array.replicate_zero, List.push_toArray, List.append_toArray, List.nil_append, List.cons_append]
  refine wpIn_wide.2 ?_
  go_wp2_with fail
  refine Calls.mono (HMB.out _) ?_
  rintro e w1 ⟨rfl, rfl⟩
  go_wp2_with fail
  have q1 := heap_alloc_new (w.alloc (.cells #[.int .i64 x.k, .int .i64 x.n, .string x.s, .slice A1 x.l.length c1, .slice A2 x.m.length c2] 28)) (.cells #[.string name] 9)
  have q2 := heap_alloc_new ((w.alloc (.cells #[.int .i64 x.k, .int .i64 x.n, .string x.s, .slice A1 x.l.length c1, .slice A2 x.m.length c2] 28)).alloc (.cells #[.string name] 9)) (.cells #[.int .i64 0, .int .i64 0, .string ⟨#[]⟩, .slice none 0 0, .slice none 0 0] 28)
  have q3 := heap_alloc_new (((w.alloc (.cells #[.int .i64 x.k, .int .i64 x.n, .string x.s, .slice A1 x.l.length c1, .slice A2 x.m.length c2] 28)).alloc (.cells #[.string name] 9)).alloc (.cells #[.int .i64 0, .int .i64 0, .string ⟨#[]⟩, .slice none 0 0, .slice none 0 0] 28)) (.cells #[.bool false] 4)
  have q4 := heap_alloc_new ((((w.alloc (.cells #[.int .i64 x.k, .int .i64 x.n, .string x.s, .slice A1 x.l.length c1, .slice A2 x.m.length c2] 28)).alloc (.cells #[.string name] 9)).alloc (.cells #[.int .i64 0, .int .i64 0, .string ⟨#[]⟩, .slice none 0 0, .slice none 0 0] 28)).alloc (.cells #[.bool false] 4)) (.cells #[.int .i64 x.k, .int .i64 x.n, .string x.s, .slice A1 x.l.length c1, .slice A2 x.m.length c2] 28)
  have q1' := Below.at (bel_alloc (bel_alloc (bel_alloc (Below.refl _ _) (.cells #[.int .i64 0, .int .i64 0, .string ⟨#[]⟩, .slice none 0 0, .slice none 0 0] 28)) (.cells #[.bool false] 4)) (.cells #[.int .i64 x.k, .int .i64 x.n, .string x.s, .slice A1 x.l.length c1, .slice A2 x.m.length c2] 28)) q1
  have q2' := Below.at (bel_alloc (bel_alloc (Below.refl _ _) (.cells #[.bool false] 4)) (.cells #[.int .i64 x.k, .int .i64 x.n, .string x.s, .slice A1 x.l.length c1, .slice A2 x.m.length c2] 28)) q2
  have q3' := Below.at (bel_alloc (Below.refl _ _) (.cells #[.int .i64 x.k, .int .i64 x.n, .string x.s, .slice A1 x.l.length c1, .slice A2 x.m.length c2] 28)) q3
  have hb0 : Below w.heap.size w (((((w.alloc (.cells #[.int .i64 x.k, .int .i64 x.n, .string x.s, .slice A1 x.l.length c1, .slice A2 x.m.length c2] 28)).alloc (.cells #[.string name] 9)).alloc (.cells #[.int .i64 0, .int .i64 0, .string ⟨#[]⟩, .slice none 0 0, .slice none 0 0] 28)).alloc (.cells #[.bool false] 4)).alloc (.cells #[.int .i64 x.k, .int .i64 x.n, .string x.s, .slice A1 x.l.length c1, .slice A2 x.m.length c2] 28)) := bel_alloc (bel_alloc (bel_alloc (bel_alloc (bel_alloc (Below.refl _ _) _) _) _) _) _
  have hs0 : (((((w.alloc (.cells #[.int .i64 x.k, .int .i64 x.n, .string x.s, .slice A1 x.l.length c1, .slice A2 x.m.length c2] 28)).alloc (.cells #[.string name] 9)).alloc (.cells #[.int .i64 0, .int .i64 0, .string ⟨#[]⟩, .slice none 0 0, .slice none 0 0] 28)).alloc (.cells #[.bool false] 4)).alloc (.cells #[.int .i64 x.k, .int .i64 x.n, .string x.s, .slice A1 x.l.length c1, .slice A2 x.m.length c2] 28)).heap.size = w.heap.size + 1 + 1 + 1 + 1 + 1 := by simp only [World.size_alloc]
  simp only [World.size_alloc] at q1' q2' q3' q4
  clear q1 q2 q3
  generalize (((((w.alloc (.cells #[.int .i64 x.k, .int .i64 x.n, .string x.s, .slice A1 x.l.length c1, .slice A2 x.m.length c2] 28)).alloc (.cells #[.string name] 9)).alloc (.cells #[.int .i64 0, .int .i64 0, .string ⟨#[]⟩, .slice none 0 0, .slice none 0 0] 28)).alloc (.cells #[.bool false] 4)).alloc (.cells #[.int .i64 x.k, .int .i64 x.n, .string x.s, .slice A1 x.l.length c1, .slice A2 x.m.length c2] 28)) = W0 at *
  have hmseq := fun m => members_seq m x A1 c1 A2 c2 (fun b => F b ∧ b < W0.heap.size) _ W0.heap.size W0 (Nat.le_refl _) (fun _ hb => hb.2) q4 (JR_bound _ _ (JR_later HJ.out hb0)) HLN.out
  have HS0 := Lib.hid hs0
  clear hs0
  refine (wpIn_wide (n := 4)).1 (range_members (n := 4) (n₀ := W0.heap.size) (Nat.le_refl _) (by decide) rfl (enters_of Tryz.func41 (by kernel_rfl) rfl) (hmseq _) rfl
    (fun pre W => (∀ q ∈ pre, (q.1.toList == name.toList) = false) ∧ W.heap[w.heap.size + 1]? = some (.cells #[.string name] 9 (0, 0)) ∧ W.heap[w.heap.size + 1 + 1]? = some (.cells #[.int .i64 0, .int .i64 0, .string ⟨#[]⟩, .slice none 0 0, .slice none 0 0] 28 (0, 0)) ∧ W.heap[w.heap.size + 1 + 1 + 1]? = some (.cells #[.bool false] 4 (0, 0)) ∧ Below w.heap.size w W)
    (fun c pre W => c = .ret ∧ ∃ pre0 nm y A3 n3 c3 A4 n4 c4 B, pre = pre0 ++ [(nm, y)] ∧ (∀ q ∈ pre0, (q.1.toList == name.toList) = false) ∧ (nm.toList == name.toList) = true ∧ W0.heap.size + 1 < B ∧ JR W (fun b => B ≤ b) y [.int .i64 y.k, .int .i64 y.n, .string y.s, .slice A3 n3 c3, .slice A4 n4 c4] ∧
      W.heap[w.heap.size + 1 + 1]? = some (.cells #[.int .i64 y.k, .int .i64 y.n, .string y.s, .slice A3 n3 c3, .slice A4 n4 c4] 28 (0, 0)) ∧ W.heap[w.heap.size + 1 + 1 + 1]? = some (.cells #[.bool true] 4 (0, 0)) ∧ Below w.heap.size w W)
    (fun s X Y h hb => ⟨h.1, Below.at hb h.2.1, Below.at hb h.2.2.1, Below.at hb h.2.2.2.1, bel_trans h.2.2.2.2 hb⟩)
    (fun s X o h => ⟨h.1, (World.putObj_heap_other (by have := HS0.out; omega)).trans h.2.1, (World.putObj_heap_other (by have := HS0.out; omega)).trans h.2.2.1, (World.putObj_heap_other (by have := HS0.out; omega)).trans h.2.2.2.1, h.2.2.2.2.trans (below_putObj (by have := HS0.out; omega) _)⟩)
    (fun c s X o h => by
      obtain ⟨rfl, pre0, nm, y, A3, n3, c3, A4, n4, c4, B, h1, h2, h3, h4, h5, h6, h7, h8⟩ := h
      exact ⟨rfl, pre0, nm, y, A3, n3, c3, A4, n4, c4, B, h1, h2, h3, h4, JR_frame (fun b hb => World.putObj_heap_other (by omega)) _ _ h5, (World.putObj_heap_other (by have := HS0.out; omega)).trans h6, (World.putObj_heap_other (by have := HS0.out; omega)).trans h7, h8.trans (below_putObj (by have := HS0.out; omega) _)⟩)
    ⟨fun _ h => (by cases h), q1', q2', q3', hb0⟩
    (fun nm y A3 n3 c3 A4 n4 c4 a' W => ∃ Bx B, W0.heap.size + 1 < Bx ∧ W0.heap.size + 1 < B ∧ W.heap[Bx]? = some (.cells #[.int .i64 y.k, .int .i64 y.n, .string y.s, .slice A3 n3 c3, .slice A4 n4 c4] 28 (0, 0)) ∧ JR W (fun b => B ≤ b) y [.int .i64 y.k, .int .i64 y.n, .string y.s, .slice A3 n3 c3, .slice A4 n4 c4] ∧
      a' = { tmps := #[.agg #[.int .i64 x.k, .int .i64 x.n, .string x.s, .slice A1 x.l.length c1, .slice A2 x.m.length c2], .string name, .pointer (some ⟨w.heap.size, 0, none⟩), .pointer (some ⟨w.heap.size + 1, 0, none⟩), .pointer (some ⟨w.heap.size + 1 + 1, 0, none⟩), .pointer (some ⟨w.heap.size + 1 + 1 + 1, 0, none⟩), .string nm, .pointer (some ⟨Bx, 0, none⟩), .agg #[.int .i64 x.k, .int .i64 x.n, .string x.s, .slice A1 x.l.length c1, .slice A2 x.m.length c2], .func (.func 41) #[] #[.pointer (some ⟨w.heap.size + 1 + 1 + 1 + 1, 0, none⟩)], .string nm, .agg #[.int .i64 y.k, .int .i64 y.n, .string y.s, .slice A3 n3 c3, .slice A4 n4 c4], undef, undef, undef, undef, undef], defers := [] })
    (fun nm y A3 n3 c3 A4 n4 c4 a' X o h => by
      obtain ⟨Bx, B, h1, h2, h3, h4, h5⟩ := h
      exact ⟨Bx, B, h1, h2, (World.putObj_heap_other (by omega)).trans h3, JR_frame (fun b hb => World.putObj_heap_other (by omega)) _ _ h4, h5⟩)
    ?assign ?body ?done ?stop)
  case assign =>
    intro pre nm y A3 n3 c3 A4 n4 c4 B Wp W K hip _ hpb hB hlt hjr hK
    have hsem := Oper.semAt_some (W0.heap.size + 1)
    gi_wp2
    have hba := bel_alloc (Below.refl W.heap.size W) (.cells #[.int .i64 y.k, .int .i64 y.n, .string y.s, .slice A3 n3 c3, .slice A4 n4 c4] 28)
    have hbp := bel_trans hpb hba
    exact hK _ _ ((KeepsOthers.alloc _ _).from _) (hba.mono (by omega)) ⟨hip.1, Below.at hbp hip.2.1, Below.at hbp hip.2.2.1, Below.at hbp hip.2.2.2.1, bel_trans hip.2.2.2.2 hbp⟩ ⟨W.heap.size, B, hlt, hB, heap_alloc_new W _, JR_later hjr hba, rfl⟩
  case body =>
    rintro pre post nm y A3 n3 c3 A4 n4 c4 a' W ⟨hp, hq1, hq2, hq3, hbw⟩ hlt ⟨Bx, B, hBx, hB, hbx, hjr, rfl⟩ hms
    have hsem := Oper.semAt_some (W0.heap.size + 1)
    have n0 : W.cell? ⟨w.heap.size + 1, 0, none⟩ = some (.string name) := by rw [Lib.cell_of_heap hq1]; rfl
    obtain ⟨⟨b0, b1, b2, b3, b4⟩, _, hBw⟩ := cells5 hbx
    obtain ⟨⟨r0, r1, r2, r3, r4⟩, ⟨f0, f1, f2, f3, f4⟩, hRw⟩ := cells5 hq2
    have t0 : W.cell? ⟨w.heap.size + 1 + 1 + 1, 0, none⟩ = some (.bool false) := by rw [Lib.cell_of_heap hq3]; rfl
    have u0 : W.frozen? ⟨w.heap.size + 1 + 1 + 1, 0, none⟩ = false := by simp [World.frozen?, hq3]
    have HQ1 := Lib.hid hq1; have HQ2 := Lib.hid hq2; have HQ3 := Lib.hid hq3; have HBW := Lib.hid hbw; have HJR := Lib.hid hjr; have HP := Lib.hid hp; have HMS := Lib.hid hms
    clear hq1 hq2 hq3 hbw hjr hp hms hbx hmseq q1' q2' q3' q4 hb0
    cases hnm : (nm.toList == name.toList) with
    | true =>
      have hne : nm.toList = name.toList := eq_of_beq hnm
      gi_wp2
      obtain ⟨⟨g1, g2⟩, ⟨g3, g4⟩, g5⟩ := gt_sets (w := w) W0.heap.size (.int .i64 y.k) (.int .i64 y.n) (.string y.s) (.slice A3 n3 c3) (.slice A4 n4 c4) (.bool true) HQ2.out HQ3.out (by omega) (by omega) (by omega) HBW.out
      exact ⟨g4, rfl, pre, nm, y, A3, n3, c3, A4, n4, c4, B, rfl, HP.out, hnm, hB, JR_frame (fun b hb => g5 b (by have := HS0.out; omega) (by have := HS0.out; omega)) _ _ HJR.out, g1, g2, g3⟩
    | false =>
      have hne : ¬ nm.toList = name.toList := by simpa using hnm
      gi_wp2
      refine ⟨KeepsFrom.refl _ _, Below.refl _ _, fun q hq => ?_, HQ1.out, HQ2.out, HQ3.out, HBW.out⟩
      rcases List.mem_append.1 hq with hq | hq
      · exact HP.out q hq
      · obtain rfl := List.mem_singleton.1 hq
        exact hnm
  case done =>
    rintro W ⟨hp, hq1, hq2, hq3, hbw⟩ hK
    have HK := Lib.hid hK; have HP := Lib.hid hp; have HBW := Lib.hid hbw; have HQ2 := Lib.hid hq2; have HQ3 := Lib.hid hq3
    obtain ⟨⟨r0, r1, r2, r3, r4⟩, ⟨f0, f1, f2, f3, f4⟩, hRw⟩ := cells5 hq2
    have t0 : W.cell? ⟨w.heap.size + 1 + 1 + 1, 0, none⟩ = some (.bool false) := by rw [Lib.cell_of_heap hq3]; rfl
    have u0 : W.frozen? ⟨w.heap.size + 1 + 1 + 1, 0, none⟩ = false := by simp [World.frozen?, hq3]
    clear hq1 hq2 hq3 hbw hp hmseq q1' q2' q3' q4 hb0 hK
    go_wp2_with fail
    obtain ⟨⟨g1, g2⟩, ⟨g3, g4⟩, g5⟩ := gt_sets (w := w) W0.heap.size (.int .i64 0) (.int .i64 0) (.string ⟨#[]⟩) (.slice none 0 0) (.slice none 0 0) (.bool false) HQ2.out HQ3.out (by omega) (by omega) (by omega) HBW.out
    have hK' := (g5 W0.heap.size (by have := HS0.out; omega) (by have := HS0.out; omega)).trans HK.out
    have HG := getB_none HP.out
    generalize (((((W.setCell ⟨w.heap.size + 1 + 1, 0, none⟩ (.int .i64 0)).setCell ⟨w.heap.size + 1 + 1, 1, none⟩ (.int .i64 0)).setCell ⟨w.heap.size + 1 + 1, 2, none⟩ (.string ⟨#[]⟩)).setCell ⟨w.heap.size + 1 + 1, 3, none⟩ (.slice none 0 0)).setCell ⟨w.heap.size + 1 + 1, 4, none⟩ (.slice none 0 0)).setCell ⟨w.heap.size + 1 + 1 + 1, 0, none⟩ (.bool false) = W6 at *
    refine ⟨by simp, .inl ⟨_, _, rfl, run_takeDeferred hK', ?_⟩⟩
    have p1 := (World.putObj_heap_other (o := .deferred none) (w := W6) (show w.heap.size + 1 + 1 ≠ W0.heap.size by have := HS0.out; omega)).trans g1
    have p2 := (World.putObj_heap_other (o := .deferred none) (w := W6) (show w.heap.size + 1 + 1 + 1 ≠ W0.heap.size by have := HS0.out; omega)).trans g2
    obtain ⟨⟨r0, r1, r2, r3, r4⟩, _, _⟩ := cells5 p1
    have t0 := (show (W6.putObj W0.heap.size (.deferred none)).cell? ⟨w.heap.size + 1 + 1 + 1, 0, none⟩ = some (.bool false) by rw [Lib.cell_of_heap p2]; rfl)
    refine ⟨.tuple #[.agg #[.int .i64 0, .int .i64 0, .string ⟨#[]⟩, .slice none 0 0, .slice none 0 0], .bool false], ?_, ⟨⟨none, 0, 0, none, 0, 0, by rw [HG]; rfl, by rw [HG]; exact zero_jr _ _⟩, g3.trans (below_putObj (by have := HS0.out; omega) _)⟩⟩
    simp [results, Tryz.f16, go_sem, r0, r1, r2, r3, r4, t0]
  case stop =>
    rintro c pre post W hms ⟨rfl, pre0, nm, y, A3, n3, c3, A4, n4, c4, B, h1, h2, h3, h4, h5, h6, h7, h8⟩ hK
    refine wpIn_ret ?_
    have HG := getB_hit (q := (nm, y)) (post := post) h3 h2
    refine ⟨by simp, .inl ⟨_, _, rfl, run_takeDeferred hK, ?_⟩⟩
    have p1 := (World.putObj_heap_other (o := .deferred none) (w := W) (show w.heap.size + 1 + 1 ≠ W0.heap.size by have := HS0.out; omega)).trans h6
    have p2 := (World.putObj_heap_other (o := .deferred none) (w := W) (show w.heap.size + 1 + 1 + 1 ≠ W0.heap.size by have := HS0.out; omega)).trans h7
    obtain ⟨⟨r0, r1, r2, r3, r4⟩, _, _⟩ := cells5 p1
    have t0 := (show (W.putObj W0.heap.size (.deferred none)).cell? ⟨w.heap.size + 1 + 1 + 1, 0, none⟩ = some (.bool true) by rw [Lib.cell_of_heap p2]; rfl)
    have hms2 : memsOf x = pre0 ++ (nm, y) :: post := by rw [hms, h1, List.append_assoc]; rfl
    refine ⟨.tuple #[.agg #[.int .i64 y.k, .int .i64 y.n, .string y.s, .slice A3 n3 c3, .slice A4 n4 c4], .bool true], ?_, ⟨⟨A3, n3, c3, A4, n4, c4, by rw [hms2, HG], by
      rw [hms2, HG]
      exact JR_mono (fun b (hb : B ≤ b) => by have := HS0.out; omega) _ _ (JR_frame (fun b (hb : B ≤ b) => World.putObj_heap_other (by omega)) _ _ h5)⟩, h8.trans (below_putObj (by have := HS0.out; omega) _)⟩⟩
    simp [results, Tryz.f16, go_sem, r0, r1, r2, r3, r4, t0]
end Go.Proofs.YtjjgbgojlhaapaaGreatDoor
namespace Go.Proofs.YtjjgbgojlhaapaaGreatDoor
open Go.RowKit Go.Lib

theorem ba_inj {a b : ByteArray} (h : a.toList = b.toList) : a = b := by
  rw [ByteArray.toList_eq, ByteArray.toList_eq] at h
  cases a; cases b
  exact congrArg ByteArray.mk (Array.toList_inj.1 h)
theorem getB_mem {q : ByteArray × JV} : ∀ {l : List (ByteArray × JV)}, l.Pairwise NmNe → q ∈ l → getB q.1 l = (q.2, true)
  | [], _, h => by cases h
  | r :: l, hp, h => by
    unfold getB
    rcases List.mem_cons.1 h with rfl | h
    · rw [if_pos (by simp)]
    · rw [if_neg (by have h2 : r.1.toList ≠ q.1.toList := (List.pairwise_cons.1 hp).1 q h; simpa using h2)]
      exact getB_mem (List.pairwise_cons.1 hp).2 h
/-- found in the sorted members -/
theorem getB_sorted {q : ByteArray × JV} {l : List (ByteArray × JV)} (hp : l.Pairwise NmNe) (h : q ∈ l) : getB q.1 (memsOf (objV (sortNames l))) = (q.2, true) := by
  have hm : memsOf (objV (sortNames l)) = sortNames l := by unfold memsOf; rw [if_pos (show (objV (sortNames l)).k = 7 from rfl)]; rfl
  rw [hm]
  exact getB_mem ((sort_names l hp).imp fun hab => lt_ne hab) ((sort_mem q l).2 h)
/-! a turned row -/
def rotB {α : Type} (P : List α) (turn : Nat) : List α := P.drop (turn % P.length) ++ P.take (turn % P.length)
theorem rot_length {α : Type} (P : List α) (turn : Nat) : (rotB P turn).length = P.length := by
  unfold rotB
  rw [List.length_append, List.length_drop, List.length_take]
  rcases Nat.eq_zero_or_pos P.length with h | h
  · omega
  · have := Nat.mod_lt turn h; omega
theorem rot_get {α : Type} (P : List α) (turn i : Nat) (hi : i < P.length) : (rotB P turn)[i]? = P[(i + turn) % P.length]? := by
  have hk := Nat.mod_lt turn (show P.length > 0 by omega)
  unfold rotB
  have e : (i + turn) % P.length = (i + turn % P.length) % P.length := by rw [Nat.add_mod_mod]
  rw [e]
  generalize turn % P.length = k at *
  by_cases h : i < P.length - k
  · rw [List.getElem?_append_left (by rw [List.length_drop]; exact h), List.getElem?_drop, Nat.mod_eq_of_lt (by omega), Nat.add_comm]
  · rw [List.getElem?_append_right (by rw [List.length_drop]; omega), List.length_drop, List.getElem?_take_of_lt (by omega)]
    have e2 : (i + k) % P.length = i + k - P.length := by rw [Nat.mod_eq_sub_mod (by omega), Nat.mod_eq_of_lt (by omega)]
    rw [e2]; congr 1; omega
theorem rot_perm {α : Type} (P : List α) (turn : Nat) : (rotB P turn).Perm P := by
  unfold rotB
  exact (List.perm_append_comm).trans (List.Perm.of_eq (List.take_append_drop _ _))
theorem rot_pairwise (P : List (ByteArray × JV)) (turn : Nat) : (rotB P turn).Pairwise NmNe ↔ P.Pairwise NmNe :=
  (rot_perm P turn).pairwise_iff fun h e => h e.symm
theorem joinS_snoc {α : Type} (a b : List UInt8) (f : α → List UInt8) (x : α) : ∀ (l : List α), l ≠ [] → joinS a b f true (l ++ [x]) = joinS a b f true l ++ (a ++ 44 :: (b ++ f x))
  | [], h => absurd rfl h
  | [y], _ => by simp [joinS]
  | y :: z :: l, _ => by
    have ih := joinS_snoc a b f x (z :: l) (by simp)
    have e1 : joinS a b f true (y :: z :: l ++ [x]) = f y ++ joinS a b f false (z :: l ++ [x]) := rfl
    have e2 : joinS a b f false (z :: l ++ [x]) = a ++ 44 :: (b ++ joinS a b f true (z :: l ++ [x])) := joinS_false a b f z (l ++ [x])
    rw [e1, e2, ih, joinS_cons a b f y (z :: l), joinS_false a b f z l]
    simp
theorem joinF_snoc {α : Type} (f : α → List UInt8) (x : α) (l : List α) (h : l ≠ []) : joinFrom f true (l ++ [x]) = joinFrom f true l ++ 44 :: f x := by
  have := joinS_snoc [] [] f x l h
  simpa [joinS_nil] using this
theorem joinS_len {α : Type} (a b : List UInt8) (f : α → List UInt8) : ∀ (l : List α) (first : Bool), (joinS a b f first l).length ≤ (l.map fun x => (f x).length + (a.length + b.length + 1)).sum
  | [], _ => by simp [joinS]
  | x :: l, first => by
    have ih := joinS_len a b f l false
    cases first <;> simp [joinS] <;> omega
/-! Unique -/
def BAsc (l : List ByteArray) : Prop := l.Pairwise fun a b => a.toList < b.toList
/-- how many stand ahead of x -/
def uK (out : List ByteArray) (x : ByteArray) : Nat → Nat
  | 0 => 0
  | k + 1 => if Op.bytesLess (out.getD k x).toList x.toList then k + 1 else uK out x k
def uniqStep (out : List ByteArray) (x : ByteArray) : List ByteArray :=
  if out[uK out x out.length]? = some x then out else out.take (uK out x out.length) ++ x :: out.drop (uK out x out.length)
def uniqB (l : List ByteArray) : List ByteArray := l.foldl uniqStep []
theorem uK_le (out : List ByteArray) (x : ByteArray) : ∀ n, uK out x n ≤ n
  | 0 => Nat.le_refl _
  | n + 1 => by
    unfold uK
    split
    · exact Nat.le_refl _
    · exact Nat.le_succ_of_le (uK_le out x n)
theorem uK_below (out : List ByteArray) (x : ByteArray) : ∀ n, 0 < uK out x n → (out.getD (uK out x n - 1) x).toList < x.toList
  | 0, h => absurd h (by simp [uK])
  | n + 1, h => by
    unfold uK at h ⊢
    split at h
    · rename_i hl
      rw [if_pos hl]
      exact (less_iff _ _).1 hl
    · rename_i hl
      rw [if_neg hl]
      exact uK_below out x n h
theorem uK_above (out : List ByteArray) (x : ByteArray) : ∀ n j, uK out x n ≤ j → j < n → ¬ (out.getD j x).toList < x.toList
  | 0, _, _, h => by omega
  | n + 1, j, h, hj => by
    unfold uK at h
    split at h
    · omega
    · rename_i hl
      by_cases e : j = n
      · subst e; exact fun h2 => hl ((less_iff _ _).2 h2)
      · exact uK_above out x n j h (by omega)
theorem uniq_step {out : List ByteArray} (x : ByteArray) (h : BAsc out) : BAsc (uniqStep out x) ∧ (∀ y, y ∈ uniqStep out x ↔ y ∈ out ∨ y = x) ∧ (x ∈ out → (uniqStep out x).length = out.length) ∧ (x ∉ out → (uniqStep out x).length = out.length + 1) := by
  have hle := uK_le out x out.length
  have hb := uK_below out x out.length
  have ha := uK_above out x out.length
  unfold uniqStep
  generalize uK out x out.length = k at *
  have hget : ∀ j (hj : j < out.length), out.getD j x = out[j] := fun j hj => by simp [List.getD_eq_getElem?_getD, List.getElem?_eq_getElem hj]
  have hasc : ∀ i j (hi : i < out.length) (hj : j < out.length), i < j → out[i].toList < out[j].toList := fun i j hi hj hij => List.pairwise_iff_getElem.1 h i j hi hj hij
  by_cases hx : out[k]? = some x
  · rw [if_pos hx]
    have hm : x ∈ out := List.mem_of_getElem? hx
    exact ⟨h, fun y => ⟨.inl, fun hy => hy.elim id (fun e => e ▸ hm)⟩, fun _ => rfl, fun hn => absurd hm hn⟩
  · rw [if_neg hx]
    have hnm : x ∉ out := fun hm => by
      obtain ⟨j, hj, e⟩ := List.getElem_of_mem hm
      rcases Nat.lt_or_ge j k with hjk | hjk
      · have h1 := hb (by omega)
        rw [hget (k - 1) (by omega)] at h1
        have h2 : out[j].toList = x.toList := by rw [e]
        rcases Nat.lt_or_ge j (k - 1) with h3 | h3
        · have h4 := hasc j (k - 1) hj (by omega) h3
          rw [h2] at h4
          exact List.lt_irrefl _ (List.lt_trans h4 h1)
        · have e2 : j = k - 1 := by omega
          subst e2
          rw [h2] at h1
          exact List.lt_irrefl _ h1
      · have hk : k < out.length := by omega
        have h1 := ha k (Nat.le_refl _) hk
        rw [hget k hk] at h1
        rcases Nat.lt_or_ge k j with h3 | h3
        · have h4 := hasc k j hk hj h3
          rw [e] at h4
          exact h1 h4
        · have e2 : j = k := by omega
          subst e2
          exact hx (by rw [List.getElem?_eq_getElem hj, e])
    refine ⟨?_, fun y => ?_, fun hm => absurd hm hnm, fun _ => ?_⟩
    · have h1 : (out.take k ++ out.drop k).Pairwise fun a b => a.toList < b.toList := by rw [List.take_append_drop]; exact h
      obtain ⟨p1, p2, p3⟩ := List.pairwise_append.1 h1
      refine List.pairwise_append.2 ⟨p1, List.pairwise_cons.2 ⟨fun y hy => ?_, p2⟩, fun y hy z hz => ?_⟩
      · obtain ⟨j, hj, e⟩ := List.getElem_of_mem hy
        rw [List.length_drop] at hj
        rw [List.getElem_drop] at e
        have h2 := ha (k + j) (by omega) (by omega)
        rw [hget (k + j) (by omega), e] at h2
        rcases List.le_iff_lt_or_eq.1 (List.not_lt.1 h2) with h3 | h3
        · exact h3
        · exact absurd (List.mem_of_mem_drop hy) (by rw [← ba_inj h3]; exact hnm)
      · rcases List.mem_cons.1 hz with rfl | hz
        · obtain ⟨j, hj, e⟩ := List.getElem_of_mem hy
          rw [List.length_take] at hj
          rw [List.getElem_take] at e
          have h2 := hb (by omega)
          rw [hget (k - 1) (by omega)] at h2
          rcases Nat.lt_or_ge j (k - 1) with h3 | h3
          · have h4 := hasc j (k - 1) (by omega) (by omega) h3
            rw [e] at h4
            exact List.lt_trans h4 h2
          · have e2 : j = k - 1 := by omega
            subst e2
            rw [e] at h2
            exact h2
        · exact p3 y hy z hz
    · rw [List.mem_append, List.mem_cons]
      constructor
      · rintro (hy | rfl | hy)
        · exact .inl (List.mem_of_mem_take hy)
        · exact .inr rfl
        · exact .inl (List.mem_of_mem_drop hy)
      · rintro (hy | rfl)
        · rw [← List.take_append_drop k out, List.mem_append] at hy
          exact hy.elim .inl fun hy => .inr (.inr hy)
        · exact .inr (.inl rfl)
    · rw [List.length_append, List.length_cons, List.length_take, List.length_drop]; omega
theorem uniq_fold : ∀ (l out : List ByteArray), BAsc out → (l.foldl uniqStep out).length ≤ out.length + l.length ∧ ((l.foldl uniqStep out).length = out.length + l.length ↔ (l.Pairwise (· ≠ ·) ∧ ∀ x ∈ l, x ∉ out))
  | [], out, _ => ⟨Nat.le_refl _, by simp⟩
  | x :: l, out, h => by
    obtain ⟨h1, h2, h3, h4⟩ := uniq_step x h
    obtain ⟨ih1, ih2⟩ := uniq_fold l (uniqStep out x) h1
    simp only [List.foldl_cons, List.length_cons]
    by_cases hx : x ∈ out
    · have hl := h3 hx
      refine ⟨by omega, ⟨fun e => by omega, fun e => absurd hx (e.2 x (List.mem_cons_self ..))⟩⟩
    · have hl := h4 hx
      refine ⟨by omega, ?_⟩
      have e1 : ((l.foldl uniqStep (uniqStep out x)).length = out.length + (l.length + 1)) ↔ ((l.foldl uniqStep (uniqStep out x)).length = (uniqStep out x).length + l.length) := by omega
      rw [e1, ih2, List.pairwise_cons]
      constructor
      · rintro ⟨k1, k2⟩
        refine ⟨⟨fun y hy e => k2 y hy ((h2 y).2 (.inr e.symm)), k1⟩, fun y hy => ?_⟩
        rcases List.mem_cons.1 hy with rfl | hy
        · exact hx
        · exact fun hm => k2 y hy ((h2 y).2 (.inl hm))
      · rintro ⟨⟨k1, k2⟩, k3⟩
        refine ⟨k2, fun y hy hm => ?_⟩
        rcases (h2 y).1 hm with hm | rfl
        · exact k3 y (List.mem_cons_of_mem _ hy) hm
        · exact k1 y hy rfl
/-- as many as there were: each once -/
theorem uniq_len (l : List ByteArray) : (uniqB l).length ≤ l.length ∧ ((uniqB l).length = l.length ↔ l.Pairwise (· ≠ ·)) := by
  have h := uniq_fold l [] List.Pairwise.nil
  simp only [List.length_nil, Nat.zero_add] at h
  exact ⟨h.1, h.2.trans ⟨fun h => h.1, fun h => ⟨h, by simp⟩⟩⟩
theorem zip_names : ∀ (ns : List ByteArray) (l : List JV), ns.length = l.length → ((ns.zip l).Pairwise NmNe ↔ ns.Pairwise (· ≠ ·))
  | [], [], _ => by simp
  | a :: ns, x :: l, h => by
    have ih := zip_names ns l (by simpa using h)
    rw [List.zip_cons_cons, List.pairwise_cons, List.pairwise_cons, ih]
    refine and_congr_left fun _ => ⟨fun k b hb e => ?_, fun k q hq e => ?_⟩
    · obtain ⟨j, hj, rfl⟩ := List.getElem_of_mem hb
      have hjl : j < l.length := by simp at h; omega
      have hm : (ns[j], l[j]) ∈ ns.zip l := List.mem_iff_getElem.2 ⟨j, by rw [List.length_zip]; omega, by simp⟩
      exact k _ hm (by show a.toList = _; rw [e])
    · exact k q.1 (List.of_mem_zip hq).1 (ba_inj e)
  | [], _ :: _, h => by simp at h
  | _ :: _, [], h => by simp at h
end Go.Proofs.YtjjgbgojlhaapaaGreatDoor
namespace Go.Proofs.YtjjgbgojlhaapaaGreatDoor
open Go.RowKit Go.Lib

/-- a list of texts in memory -/
def strTy : Ty ByteArray where
  sz := 1
  pos := by decide
  R := fun _ _ s cs => cs = [.string s]
  len := by rintro w F x cs rfl; rfl
  one := by rintro w F x cs rfl u hu; rw [List.mem_singleton.1 hu]; rfl
  mono := fun _ h => h
  frame := fun _ h => h
  bound := fun h => h
theorem str_chunks {w : World} {F : Nat → Prop} : ∀ (xs : List ByteArray), Chunks strTy w F xs (xs.map Value.string)
  | [] => rfl
  | x :: xs => ⟨[.string x], xs.map Value.string, rfl, rfl, str_chunks xs⟩
section
variable {P : Program} {ops : Array Oper} {Q : Exit → Act → World → Prop}
end
def NmS (a b X : Nat) (va vb : Value) (cx : Array Value) (w : World) : Prop := w.heap[a]? = some (.cells #[va] 54 (0, 0)) ∧ w.heap[b]? = some (.cells #[vb] 32 (0, 0)) ∧ w.heap[X]? = some (.cells cx 28 (0, 0))
theorem NmS.later {a b X : Nat} {va vb : Value} {cx : Array Value} {w W : World} (h : NmS a b X va vb cx w) (hb : Below w.heap.size w W) : NmS a b X va vb cx W := ⟨Below.at hb h.1, Below.at hb h.2.1, Below.at hb h.2.2⟩
theorem NmS.cells {a b X : Nat} {va vb a0 a1 a2 a3 a4 : Value} {w : World} (h : NmS a b X va vb #[a0, a1, a2, a3, a4] w) : w.cell? ⟨a, 0, none⟩ = some va ∧ w.cell? ⟨b, 0, none⟩ = some vb ∧
    w.cell? ⟨X, 0, none⟩ = some a0 ∧ w.cell? ⟨X, 1, none⟩ = some a1 ∧ w.cell? ⟨X, 2, none⟩ = some a2 ∧ w.cell? ⟨X, 3, none⟩ = some a3 ∧ w.cell? ⟨X, 4, none⟩ = some a4 :=
  ⟨by rw [Lib.cell_of_heap h.1]; rfl, by rw [Lib.cell_of_heap h.2.1]; rfl, (cells5 h.2.2).1.1, (cells5 h.2.2).1.2.1, (cells5 h.2.2).1.2.2.1, (cells5 h.2.2).1.2.2.2.1, (cells5 h.2.2).1.2.2.2.2⟩
theorem strInfo : (Tryz.prog.info? 9).map (fun i => (i.zero, i.size, i.bytes)) = some (some (.string ⟨#[]⟩), 1, 16) := by kernel_rfl
def NmI (w : World) (n : Int) (B0 : Nat) (pre : List (ByteArray × JV)) (W : World) : Prop := ∃ va vb csb, ((W.heap[w.heap.size]? = some (.cells #[.int .i64 n] 3 (0, 0)) ∧ W.heap[w.heap.size + 1]? = some (.cells #[va] 54 (0, 0)) ∧ W.heap[w.heap.size + 1 + 1]? = some (.cells #[vb] 32 (0, 0))) ∧
  (W.ownsRow B0 9 1 va pre.length (pre.map fun q => Value.string q.1) ∧ W.ownsRow B0 35 5 vb pre.length csb) ∧ Chunks jvTy W (fun b => B0 ≤ b ∧ some b ≠ va.ownBlock ∧ some b ≠ vb.ownBlock) (pre.map (·.2)) csb) ∧ (∀ j, va.ownBlock = some j → vb.ownBlock ≠ some j) ∧ Below w.heap.size w W
theorem NmI.later {w : World} {n : Int} {B0 : Nat} {pre : List (ByteArray × JV)} {X Y : World} (h : NmI w n B0 pre X) (hb : Below X.heap.size X Y) : NmI w n B0 pre Y := by
  obtain ⟨va, vb, csb, ⟨⟨h1, h2, h3⟩, ⟨h4, h5⟩, h6⟩, h7, h8⟩ := h
  exact ⟨va, vb, csb, ⟨⟨Below.at hb h1, Below.at hb h2, Below.at hb h3⟩, ⟨own_laterB h4 hb, own_laterB h5 hb⟩, h6.later hb⟩, h7, bel_trans h8 hb⟩
theorem own_putObj {w : World} {base l : Nat} {e : TypeId} {size n : Nat} {v : Value} {xs : List Value} (h : w.ownsRow base e size v n xs) (hl : l < base) (o : Obj) : (w.putObj l o).ownsRow base e size v n xs := by
  refine World.ownsRow.kept h (grownBy_putObj' w l o) ?_
  rcases hv : v.ownBlock with _ | j
  · exact .inl rfl
  · exact .inr (fun e' => by have := (h.lt j hv).1; have := Option.some.inj e'; omega)
theorem NmI.put {w : World} {n : Int} {B0 l : Nat} {pre : List (ByteArray × JV)} {X : World} (h : NmI w n B0 pre X) (hl : l < B0) (h3l : w.heap.size + 2 < l) (o : Obj) : NmI w n B0 pre (X.putObj l o) := by
  obtain ⟨va, vb, csb, ⟨⟨h1, h2, h3⟩, ⟨h4, h5⟩, h6⟩, h7, h8⟩ := h
  exact ⟨va, vb, csb, ⟨⟨(World.putObj_heap_other (by omega)).trans h1, (World.putObj_heap_other (by omega)).trans h2, (World.putObj_heap_other (by omega)).trans h3⟩, ⟨own_putObj h4 hl o, own_putObj h5 hl o⟩,
    h6.frame (fun b hb => World.putObj_heap_other (by have := hb.1; omega))⟩, h7, h8.trans (below_putObj (by omega) o)⟩
theorem NmI.out {w : World} {n : Int} {B0 : Nat} {pre : List (ByteArray × JV)} {X : World} (h : NmI w n B0 pre X) : ∃ va vb, X.heap[w.heap.size + 1]? = some (.cells #[va] 54 (0, 0)) ∧ X.heap[w.heap.size + 1 + 1]? = some (.cells #[vb] 32 (0, 0)) ∧
    Sl strTy X (fun b => B0 ≤ b) va (pre.map (·.1)) ∧ Sl jvTy X (fun b => B0 ≤ b) vb (pre.map (·.2)) := by
  obtain ⟨va, vb, csb, ⟨⟨h1, h2, h3⟩, ⟨h4, h5⟩, h6⟩, h7, h8⟩ := h
  have ha : X.ownsRow B0 9 strTy.sz va (pre.map (·.1)).length ((pre.map (·.1)).map Value.string) := by
    rw [List.length_map, List.map_map]; exact h4
  have hb : X.ownsRow B0 35 jvTy.sz vb (pre.map (·.2)).length csb := by rw [List.length_map]; exact h5
  refine ⟨va, vb, h2, h3, (own_to_sl ha (F := fun _ => False) (str_chunks _)).mono (fun b hb' => ?_), (own_to_sl hb h6).mono (fun b hb' => ?_)⟩
  · rcases hb' with hb' | hb'
    · exact hb'.elim
    · exact (h4.lt b hb'.symm).1
  · rcases hb' with hb' | hb'
    · exact hb'.1
    · exact (h5.lt b hb'.symm).1
end Go.Proofs.YtjjgbgojlhaapaaGreatDoor
namespace Go.Proofs.YtjjgbgojlhaapaaGreatDoor
open Go.RowKit Go.Lib

end Go.Proofs.YtjjgbgojlhaapaaGreatDoor
namespace Go.Proofs.YtjjgbgojlhaapaaGreatDoor
open Go.RowKit Go.Lib

end Go.Proofs.YtjjgbgojlhaapaaGreatDoor
namespace Go.Proofs.YtjjgbgojlhaapaaGreatDoor
open Go.RowKit Go.Lib

end Go.Proofs.YtjjgbgojlhaapaaGreatDoor
namespace Go.Proofs.YtjjgbgojlhaapaaGreatDoor
open Go.RowKit Go.Lib

end Go.Proofs.YtjjgbgojlhaapaaGreatDoor
namespace Go.Proofs.YtjjgbgojlhaapaaGreatDoor
open Go.RowKit Go.Lib

theorem one_k {x : JV} (h : oneB x = true) : 1 ≤ x.k ∧ x.k ≤ 7 := by
  have : badK x = false := by
    cases hb : badK x with
    | false => rfl
    | true => simp [oneB, hb] at h
  simp only [badK, Bool.or_eq_false_iff, decide_eq_false_iff_not] at this
  omega
theorem one_range {x : JV} (h : oneB x = true) : -9007199254740991 ≤ x.n ∧ x.n ≤ 9007199254740991 ∧ validB x.s = true ∧ x.s.size ≤ 8000 := by
  have : rangeB x = true := by
    cases hb : rangeB x with
    | true => rfl
    | false => simp [oneB, hb] at h
  simp only [rangeB, shortB, Bool.and_eq_true, decide_eq_true_eq] at this
  exact ⟨this.1.1, this.1.2, this.2⟩
theorem members_short : ∀ (p : Option ByteArray) (l : List (ByteArray × JV)), membersB p l = true → ∀ q ∈ l, shortB q.1 = true
  | _, [], _, q, hq => by simp at hq
  | p, (nm, y) :: r, h, q, hq => by
    simp only [membersB, Bool.and_eq_true] at h
    rcases List.mem_cons.1 hq with rfl | hq
    · exact h.1.1
    · exact members_short (some nm) r h.2 q hq
theorem one_members {x : JV} (h : oneB x = true) : ∀ q ∈ x.m, shortB q.1 = true := by
  have : membersB none x.m = true := by
    cases hb : membersB none x.m with
    | true => rfl
    | false => simp [oneB, hb] at h
  exact members_short none x.m this

set_option maxHeartbeats 4000000 in
set_option maxRecDepth 100000 in
theorem print_at : ∀ d, PrintAt d := by
  intro d
  induction d with
  | zero => intro x cs F w0 b bs w hm; simp [mayJ] at hm
  | succ d ih =>
    intro x cs F w0 b bs w hm h hT h0 hs hlen
    obtain ⟨vl, vm, ⟨rfl, hsz⟩, hl, hmm⟩ := JR_iff.1 h
    obtain ⟨A1, c1, rfl⟩ := hl.form
    obtain ⟨A2, c2, rfl⟩ := hmm.form
    simp only [mayJ, Bool.and_eq_true] at hm
    obtain ⟨⟨hone, hml⟩, hmo⟩ := hm
    obtain ⟨hk1, hk7⟩ := one_k hone
    obtain ⟨hn1, hn2, hv, hs8⟩ := one_range hone
    have hns := one_members hone
    have hlist := fun (W : World) (hW : Below w0.heap.size w0 W) (hS : Sb w0.heap.size b bs W) (hL : bs.length + (91 :: (joinFrom (printB d) true x.l ++ [93])).length ≤ 140737488355328) => list_any d ih x.l _ F w0 b bs W hml hl hT hW hS hL
    have hobj := fun (W : World) (hW : Below w0.heap.size w0 W) (hS : Sb w0.heap.size b bs W) (hL : bs.length + (123 :: (joinFrom (fun p => quoteB p.1 ++ 58 :: printB d p.2) true x.m ++ [125])).length ≤ 140737488355328) => object_any d ih x.m _ F w0 b bs W hmo hns hmm hT hW hS hL
    have hbA : Below w.heap.size w (w.alloc (.cells #[.int .i64 x.k, .int .i64 x.n, .string x.s, .slice A1 x.l.length c1, .slice A2 x.m.length c2] 28)) := bel_alloc (Below.refl _ _) _
    have hpa := post_of_below hs h0.size hbA
    have HPA := Lib.hid hpa; have HL := Lib.hid hlist; have HO := Lib.hid hobj; have HLen := Lib.hid hlen; have HT := Lib.hid hT; have H0 := Lib.hid h0; have HV := Lib.hid hv
    have HA := Lib.hid (H0.out.trans hpa.2.1)
    have hz : w.heap.size < (w.alloc (.cells #[.int .i64 x.k, .int .i64 x.n, .string x.s, .slice A1 x.l.length c1, .slice A2 x.m.length c2] 28)).heap.size := World.block_lt_of_cell? _ ⟨w.heap.size, 0, none⟩ (cell_newB w _ _ 0 _ rfl)
    clear h hl hmm hone hml hmo hns hlist hobj hbA hpa hlen hT h0 hs hv hz ih
    have hor : x.k = 1 ∨ x.k = 2 ∨ x.k = 3 ∨ x.k = 4 ∨ x.k = 5 ∨ x.k = 6 ∨ x.k = 7 := by omega
    have HP := Lib.hid (show printB (d + 1) x = _ from printB.eq_2 x d)
    generalize hP : printB (d + 1) x = P at *
    clear hP
    generalize x.k = kk at *
    go_enter Tryz.func33, Tryz.ntmps33
    rcases hor with rfl | rfl | rfl | rfl | rfl | rfl | rfl
    · have hp' : P = [110, 117, 108, 108] := by rw [HP.out]; simp
      have HPP := Lib.hid hp'
      clear hk1 hk7 hp'
      go_wp2_with fail
      refine Calls.mono (writeString_any w0.heap.size b bs _ _ HPA.out.1 (by have := HLen.out; rw [HPP.out] at this; simpa [ByteArray.size] using this) HA.out.size) ?_
      rintro e w2 ⟨rfl, hp⟩
      go_wp2_with fail
      go_end0
      exact ⟨rfl, by rw [HPP.out]; exact post_trans HPA.out hp⟩
    · have hp' : P = [102, 97, 108, 115, 101] := by rw [HP.out]; simp
      have HPP := Lib.hid hp'
      clear hk1 hk7 hp'
      go_wp2_with fail
      refine Calls.mono (writeString_any w0.heap.size b bs _ _ HPA.out.1 (by have := HLen.out; rw [HPP.out] at this; simpa [ByteArray.size] using this) HA.out.size) ?_
      rintro e w2 ⟨rfl, hp⟩
      go_wp2_with fail
      go_end0
      exact ⟨rfl, by rw [HPP.out]; exact post_trans HPA.out hp⟩
    · have hp' : P = [116, 114, 117, 101] := by rw [HP.out]; simp
      have HPP := Lib.hid hp'
      clear hk1 hk7 hp'
      go_wp2_with fail
      refine Calls.mono (writeString_any w0.heap.size b bs _ _ HPA.out.1 (by have := HLen.out; rw [HPP.out] at this; simpa [ByteArray.size] using this) HA.out.size) ?_
      rintro e w2 ⟨rfl, hp⟩
      go_wp2_with fail
      go_end0
      exact ⟨rfl, by rw [HPP.out]; exact post_trans HPA.out hp⟩
    · have hp' : P = Lib.itoa x.n := by rw [HP.out]; simp
      have HPP := Lib.hid hp'
      clear hk1 hk7 hp'
      have hit := Tryz.strconv_Itoa x.n (by omega) (by omega) _ (HT.out.below HA.out).pow
      have HI := Lib.hid hit
      clear hit
      go_wp2_with fail
      refine Calls.mono HI.out ?_
      rintro e w2 ⟨rfl, k, os, hw2⟩
      have hbg := Lib.below_grow _ (w.alloc (.cells #[.int .i64 4, .int .i64 x.n, .string x.s, .slice A1 x.l.length c1, .slice A2 x.m.length c2] 28)) (Nat.le_refl _) k os
      rw [← hw2] at hbg
      have hpg := post_trans HPA.out (post_of_below HPA.out.1 HA.out.size hbg)
      have HPG := Lib.hid hpg
      clear hpg hbg hw2
      go_wp2_with fail
      refine Calls.mono (writeString_any w0.heap.size b bs _ _ HPG.out.1 (by have := HLen.out; rw [HPP.out] at this; simpa [ByteArray.size] using this) (H0.out.trans HPG.out.2.1).size) ?_
      rintro e w3 ⟨rfl, hp⟩
      go_wp2_with fail
      go_end0
      exact ⟨rfl, by rw [HPP.out]; exact post_trans HPG.out hp⟩
    · have hp' : P = quoteB x.s := by rw [HP.out]; simp
      have HPP := Lib.hid hp'
      clear hk1 hk7 hp'
      go_wp2_with fail
      refine Calls.mono (jquote_any w0.heap.size b bs x.s _ (by omega) (HT.out.below HA.out) HV.out HPA.out.1 (by have := HLen.out; rw [HPP.out] at this; exact this) HA.out.size) ?_
      rintro e w2 ⟨rfl, hp⟩
      go_wp2_with fail
      go_end0
      exact ⟨rfl, by rw [HPP.out]; exact post_trans HPA.out hp⟩
    · have hp' : P = 91 :: (joinFrom (printB d) true x.l ++ [93]) := by rw [HP.out]; simp
      have HPP := Lib.hid hp'
      clear hk1 hk7 hp'
      go_wp2_with fail
      refine Calls.mono (HL.out _ HA.out HPA.out.1 (by have := HLen.out; rw [HPP.out] at this; exact this)) ?_
      rintro e w2 ⟨rfl, hp⟩
      go_wp2_with fail
      go_end0
      exact ⟨rfl, by rw [HPP.out]; exact post_trans HPA.out hp⟩
    · have hp' : P = 123 :: (joinFrom (fun p => quoteB p.1 ++ 58 :: printB d p.2) true x.m ++ [125]) := by rw [HP.out]; simp
      have HPP := Lib.hid hp'
      clear hk1 hk7 hp'
      go_wp2_with fail
      refine Calls.mono (HO.out _ HA.out HPA.out.1 (by have := HLen.out; rw [HPP.out] at this; exact this)) ?_
      rintro e w2 ⟨rfl, hp⟩
      go_wp2_with fail
      go_end0
      exact ⟨rfl, by rw [HPP.out]; exact post_trans HPA.out hp⟩
end Go.Proofs.YtjjgbgojlhaapaaGreatDoor
