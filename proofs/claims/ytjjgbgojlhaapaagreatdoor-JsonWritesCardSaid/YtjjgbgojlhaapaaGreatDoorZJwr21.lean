/- Parts of the proof: Ke. -/
import Derived.Test.YtjjgbgojlhaapaaGreatDoorZJwr20
namespace Go.Proofs.YtjjgbgojlhaapaaGreatDoor
open Go.RowKit Go.Lib

/-- the first member of a name -/
def getB (nm : ByteArray) : List (ByteArray × JV) → JV × Bool
  | [] => (zeroV, false)
  | q :: l => if q.1.toList == nm.toList then (q.2, true) else getB nm l
theorem getB_none {nm : ByteArray} : ∀ {l : List (ByteArray × JV)}, (∀ q ∈ l, (q.1.toList == nm.toList) = false) → getB nm l = (zeroV, false)
  | [], _ => rfl
  | q :: l, h => by
    unfold getB
    rw [h q (List.mem_cons_self ..), if_neg Bool.false_ne_true]
    exact getB_none (fun r hr => h r (List.mem_cons_of_mem _ hr))
theorem getB_hit {nm : ByteArray} {q : ByteArray × JV} {post : List (ByteArray × JV)} (hq : (q.1.toList == nm.toList) = true) : ∀ {pre : List (ByteArray × JV)}, (∀ r ∈ pre, (r.1.toList == nm.toList) = false) → getB nm (pre ++ q :: post) = (q.2, true)
  | [], _ => by show getB nm (q :: post) = _; unfold getB; rw [if_pos hq]
  | r :: pre, h => by
    show getB nm (r :: (pre ++ q :: post)) = _
    unfold getB
    rw [h r (List.mem_cons_self ..), if_neg Bool.false_ne_true]
    exact getB_hit hq (fun s hs => h s (List.mem_cons_of_mem _ hs))
set_option maxHeartbeats 2000000 in
theorem members_any (x : JV) (A1 : Option Addr) (c1 : Nat) (A2 : Option Addr) (c2 : Nat) (w : World) :
    Calls Tryz.prog 21 #[.agg #[.int .i64 x.k, .int .i64 x.n, .string x.s, .slice A1 x.l.length c1, .slice A2 x.m.length c2]] w fun e w' => e = .returned (.func (.func 41) #[] #[.pointer (some ⟨w.heap.size, 0, none⟩)]) ∧ w' = w.alloc (.cells #[.int .i64 x.k, .int .i64 x.n, .string x.s, .slice A1 x.l.length c1, .slice A2 x.m.length c2] 28) := by
  go_enter Tryz.func21, Tryz.ntmps21
  go_wp2_with fail
  go_ret
  exact ⟨rfl, rfl⟩
def GtRes (x : JV) (nm : ByteArray) (w : World) (z : Ending) (w' : World) : Prop := (∃ (A1 : Option Addr) (n1 c1 : Nat) (A2 : Option Addr) (n2 c2 : Nat),
  z = .returned (.tuple #[.agg #[.int .i64 (getB nm (memsOf x)).1.k, .int .i64 (getB nm (memsOf x)).1.n, .string (getB nm (memsOf x)).1.s, .slice A1 n1 c1, .slice A2 n2 c2], .bool (getB nm (memsOf x)).2]) ∧
  JR w' (fun b => w.heap.size ≤ b) (getB nm (memsOf x)).1 [.int .i64 (getB nm (memsOf x)).1.k, .int .i64 (getB nm (memsOf x)).1.n, .string (getB nm (memsOf x)).1.s, .slice A1 n1 c1, .slice A2 n2 c2]) ∧ Below w.heap.size w w'
theorem gt_sets {w W : World} {r t : Nat} {T T' : TypeId} {a0 a1 a2 a3 a4 u0 : Value} (D : Nat) (v0 v1 v2 v3 v4 u : Value) (hr : W.heap[r]? = some (.cells #[a0, a1, a2, a3, a4] T (0, 0))) (ht : W.heap[t]? = some (.cells #[u0] T' (0, 0))) (hrt : r ≠ t) (h1 : w.heap.size ≤ r) (h2 : w.heap.size ≤ t) (hb : Below w.heap.size w W) :
    (((((((W.setCell ⟨r, 0, none⟩ v0).setCell ⟨r, 1, none⟩ v1).setCell ⟨r, 2, none⟩ v2).setCell ⟨r, 3, none⟩ v3).setCell ⟨r, 4, none⟩ v4).setCell ⟨t, 0, none⟩ u).heap[r]? = some (.cells #[v0, v1, v2, v3, v4] T (0, 0)) ∧ ((((((W.setCell ⟨r, 0, none⟩ v0).setCell ⟨r, 1, none⟩ v1).setCell ⟨r, 2, none⟩ v2).setCell ⟨r, 3, none⟩ v3).setCell ⟨r, 4, none⟩ v4).setCell ⟨t, 0, none⟩ u).heap[t]? = some (.cells #[u] T' (0, 0))) ∧
    (Below w.heap.size w ((((((W.setCell ⟨r, 0, none⟩ v0).setCell ⟨r, 1, none⟩ v1).setCell ⟨r, 2, none⟩ v2).setCell ⟨r, 3, none⟩ v3).setCell ⟨r, 4, none⟩ v4).setCell ⟨t, 0, none⟩ u) ∧ KeepsFrom D W ((((((W.setCell ⟨r, 0, none⟩ v0).setCell ⟨r, 1, none⟩ v1).setCell ⟨r, 2, none⟩ v2).setCell ⟨r, 3, none⟩ v3).setCell ⟨r, 4, none⟩ v4).setCell ⟨t, 0, none⟩ u)) ∧ ∀ b, b ≠ r → b ≠ t → ((((((W.setCell ⟨r, 0, none⟩ v0).setCell ⟨r, 1, none⟩ v1).setCell ⟨r, 2, none⟩ v2).setCell ⟨r, 3, none⟩ v3).setCell ⟨r, 4, none⟩ v4).setCell ⟨t, 0, none⟩ u).heap[b]? = W.heap[b]? := by
  have ht5 := (set5_other (w := W) v0 v1 v2 v3 v4 (show t ≠ r from fun e => hrt e.symm)).trans ht
  refine ⟨⟨(Below.heap_setCell _ _ _ _ (show r ≠ t from hrt)).trans (set5 v0 v1 v2 v3 v4 hr), by simpa using heap_setCell_row (i := 0) (v := u) ht5⟩,
    ⟨bel_set (p := ⟨t, 0, none⟩) (bel_set (p := ⟨r, 4, none⟩) (bel_set (p := ⟨r, 3, none⟩) (bel_set (p := ⟨r, 2, none⟩) (bel_set (p := ⟨r, 1, none⟩) (bel_set (p := ⟨r, 0, none⟩) hb h1 v0) h1 v1) h1 v2) h1 v3) h1 v4) h2 u, ?_⟩,
    fun b hb1 hb2 => (Below.heap_setCell _ _ _ _ (show b ≠ t from hb2)).trans (set5_other v0 v1 v2 v3 v4 hb1)⟩
  have k := fun (X : World) (p : Addr) (v : Value) => (KeepsOthers.setCell X p v).from D
  exact (((((k _ _ _).trans (k _ _ _)).trans (k _ _ _)).trans (k _ _ _)).trans (k _ _ _)).trans (k _ _ _)
set_option maxRecDepth 100000 in
set_option maxHeartbeats 16000000 in
theorem get_any (x : JV) (name : ByteArray) (cs : List Value) (F : Nat → Prop) (w : World) (hln : LnJ x) (h : JR w F x cs) :
    Calls Tryz.prog 16 #[.agg cs.toArray, .string name] w (GtRes x name w) := by
  obtain ⟨vl, vm, ⟨rfl, hsz⟩, hl, hm⟩ := JR_iff.1 h
  obtain ⟨A1, c1, rfl⟩ := hl.form
  obtain ⟨A2, c2, rfl⟩ := hm.form
  have HJ := Lib.hid h; have HLN := Lib.hid hln
  clear hl hm h hln hsz
  have HMB := Lib.hid (fun W => members_any x A1 c1 A2 c2 W)
  refine (callsIn_wide (n := 4)).1 (callsIn_of_wp_marks Tryz.func16 rfl trivial ?_ rfl)
  simp only [Tryz.ntmps16, List.size_toArray, List.length_cons, List.length_nil, Nat.reduceAdd, Nat.reduceSub, Array.replicate_succ, Array.replicate_zero, List.push_toArray, List.append_toArray, List.nil_append, List.cons_append]
  refine wpIn_wide.2 ?_
  go_wp2_with fail
  refine Calls.mono (HMB.out _) ?_
  rintro e w1 ⟨rfl, rfl⟩
  go_wp2_with fail
  have q1 := heap_alloc_new (w.alloc (.cells #[.int .i64 x.k, .int .i64 x.n, .string x.s, .slice A1 x.l.length c1, .slice A2 x.m.length c2] 28)) (.cells #[.string name] 9)
  have q2 := heap_alloc_new ((w.alloc (.cells #[.int .i64 x.k, .int .i64 x.n, .string x.s, .slice A1 x.l.length c1, .slice A2 x.m.length c2] 28)).alloc (.cells #[.string name] 9)) (.cells #[.int .i64 0, .int .i64 0, .string ⟨#[]⟩, .slice none 0 0, .slice none 0 0] 28)
  have q3 := heap_alloc_new (((w.alloc (.cells #[.int .i64 x.k, .int .i64 x.n, .string x.s, .slice A1 x.l.length c1, .slice A2 x.m.length c2] 28)).alloc (.cells #[.string name] 9)).alloc (.cells #[.int .i64 0, .int .i64 0, .string ⟨#[]⟩, .slice none 0 0, .slice none 0 0] 28)) (.cells #[.bool false] 4)
  have q4 := heap_alloc_new ((((w.alloc (.cells #[.int .i64 x.k, .int .i64 x.n, .string x.s, .slice A1 x.l.length c1, .slice A2 x.m.length c2] 28)).alloc (.cells #[.string name] 9)).alloc (.cells #[.int .i64 0, .int .i64 0, .string ⟨#[]⟩, .slice none 0 0, .slice none 0 0] 28)).alloc (.cells #[.bool false] 4)) (.cells #[.int .i64 x.k, .int .i64 x.n, .string x.s, .slice A1 x.l.length c1, .slice A2 x.m.length c2] 28)
  have q1' := Below.at (bel_alloc (bel_alloc (bel_alloc (Below.refl _ _) (.cells #[.int .i64 0, .int .i64 0, .string ⟨#[]⟩, .slice none 0 0, .slice none 0 0] 28)) (.cells #[.bool false] 4)) (.cells #[.int .i64 x.k, .int .i64 x.n, .string x.s, .slice A1 x.l.length c1, .slice A2 x.m.length c2] 28)) q1
  have q2' := Below.at (bel_alloc (bel_alloc (Below.refl _ _) (.cells #[.bool false] 4)) (.cells #[.int .i64 x.k, .int .i64 x.n, .string x.s, .slice A1 x.l.length c1, .slice A2 x.m.length c2] 28)) q2
  have q3' := Below.at (bel_alloc (Below.refl _ _) (.cells #[.int .i64 x.k, .int .i64 x.n, .string x.s, .slice A1 x.l.length c1, .slice A2 x.m.length c2] 28)) q3
  have hb0 : Below w.heap.size w (((((w.alloc (.cells #[.int .i64 x.k, .int .i64 x.n, .string x.s, .slice A1 x.l.length c1, .slice A2 x.m.length c2] 28)).alloc (.cells #[.string name] 9)).alloc (.cells #[.int .i64 0, .int .i64 0, .string ⟨#[]⟩, .slice none 0 0, .slice none 0 0] 28)).alloc (.cells #[.bool false] 4)).alloc (.cells #[.int .i64 x.k, .int .i64 x.n, .string x.s, .slice A1 x.l.length c1, .slice A2 x.m.length c2] 28)) := bel_alloc (bel_alloc (bel_alloc (bel_alloc (bel_alloc (Below.refl _ _) _) _) _) _) _
  have hs0 : (((((w.alloc (.cells #[.int .i64 x.k, .int .i64 x.n, .string x.s, .slice A1 x.l.length c1, .slice A2 x.m.length c2] 28)).alloc (.cells #[.string name] 9)).alloc (.cells #[.int .i64 0, .int .i64 0, .string ⟨#[]⟩, .slice none 0 0, .slice none 0 0] 28)).alloc (.cells #[.bool false] 4)).alloc (.cells #[.int .i64 x.k, .int .i64 x.n, .string x.s, .slice A1 x.l.length c1, .slice A2 x.m.length c2] 28)).heap.size = w.heap.size + 1 + 1 + 1 + 1 + 1 := by simp only [World.size_alloc]
  simp only [World.size_alloc] at q1' q2' q3' q4
  clear q1 q2 q3
  generalize (((((w.alloc (.cells #[.int .i64 x.k, .int .i64 x.n, .string x.s, .slice A1 x.l.length c1, .slice A2 x.m.length c2] 28)).alloc (.cells #[.string name] 9)).alloc (.cells #[.int .i64 0, .int .i64 0, .string ⟨#[]⟩, .slice none 0 0, .slice none 0 0] 28)).alloc (.cells #[.bool false] 4)).alloc (.cells #[.int .i64 x.k, .int .i64 x.n, .string x.s, .slice A1 x.l.length c1, .slice A2 x.m.length c2] 28)) = W0 at *
  have hmseq := fun m => members_seq m x A1 c1 A2 c2 (fun b => F b ∧ b < W0.heap.size) _ W0.heap.size W0 (Nat.le_refl _) (fun _ hb => hb.2) q4 (JR_bound _ _ (JR_later HJ.out hb0)) HLN.out
  have HS0 := Lib.hid hs0
  clear hs0
  refine (wpIn_wide (n := 4)).1 (range_members (n := 4) (n₀ := W0.heap.size) (Nat.le_refl _) (by decide) rfl (enters_of Tryz.func41 (by kernel_rfl) rfl) (hmseq _) rfl
    (fun pre W => (∀ q ∈ pre, (q.1.toList == name.toList) = false) ∧ W.heap[w.heap.size + 1]? = some (.cells #[.string name] 9 (0, 0)) ∧ W.heap[w.heap.size + 1 + 1]? = some (.cells #[.int .i64 0, .int .i64 0, .string ⟨#[]⟩, .slice none 0 0, .slice none 0 0] 28 (0, 0)) ∧ W.heap[w.heap.size + 1 + 1 + 1]? = some (.cells #[.bool false] 4 (0, 0)) ∧ Below w.heap.size w W)
    (fun c pre W => c = .ret ∧ ∃ pre0 nm y A3 n3 c3 A4 n4 c4 B, pre = pre0 ++ [(nm, y)] ∧ (∀ q ∈ pre0, (q.1.toList == name.toList) = false) ∧ (nm.toList == name.toList) = true ∧ W0.heap.size + 1 < B ∧ JR W (fun b => B ≤ b) y [.int .i64 y.k, .int .i64 y.n, .string y.s, .slice A3 n3 c3, .slice A4 n4 c4] ∧
      W.heap[w.heap.size + 1 + 1]? = some (.cells #[.int .i64 y.k, .int .i64 y.n, .string y.s, .slice A3 n3 c3, .slice A4 n4 c4] 28 (0, 0)) ∧ W.heap[w.heap.size + 1 + 1 + 1]? = some (.cells #[.bool true] 4 (0, 0)) ∧ Below w.heap.size w W)
    (fun s X Y h hb => ⟨h.1, Below.at hb h.2.1, Below.at hb h.2.2.1, Below.at hb h.2.2.2.1, bel_trans h.2.2.2.2 hb⟩)
    (fun s X o h => ⟨h.1, (World.putObj_heap_other (by have := HS0.out; omega)).trans h.2.1, (World.putObj_heap_other (by have := HS0.out; omega)).trans h.2.2.1, (World.putObj_heap_other (by have := HS0.out; omega)).trans h.2.2.2.1, h.2.2.2.2.trans (below_putObj (by have := HS0.out; omega) _)⟩)
    (fun c s X o h => by
      obtain ⟨rfl, pre0, nm, y, A3, n3, c3, A4, n4, c4, B, h1, h2, h3, h4, h5, h6, h7, h8⟩ := h
      exact ⟨rfl, pre0, nm, y, A3, n3, c3, A4, n4, c4, B, h1, h2, h3, h4, JR_frame (fun b hb => World.putObj_heap_other (by omega)) _ _ h5, (World.putObj_heap_other (by have := HS0.out; omega)).trans h6, (World.putObj_heap_other (by have := HS0.out; omega)).trans h7, h8.trans (below_putObj (by have := HS0.out; omega) _)⟩)
    ⟨fun _ h => (by cases h), q1', q2', q3', hb0⟩
    (fun nm y A3 n3 c3 A4 n4 c4 a' W => ∃ Bx B, W0.heap.size + 1 < Bx ∧ W0.heap.size + 1 < B ∧ W.heap[Bx]? = some (.cells #[.int .i64 y.k, .int .i64 y.n, .string y.s, .slice A3 n3 c3, .slice A4 n4 c4] 28 (0, 0)) ∧ JR W (fun b => B ≤ b) y [.int .i64 y.k, .int .i64 y.n, .string y.s, .slice A3 n3 c3, .slice A4 n4 c4] ∧
      a' = { tmps := #[.agg #[.int .i64 x.k, .int .i64 x.n, .string x.s, .slice A1 x.l.length c1, .slice A2 x.m.length c2], .string name, .pointer (some ⟨w.heap.size, 0, none⟩), .pointer (some ⟨w.heap.size + 1, 0, none⟩), .pointer (some ⟨w.heap.size + 1 + 1, 0, none⟩), .pointer (some ⟨w.heap.size + 1 + 1 + 1, 0, none⟩), .string nm, .pointer (some ⟨Bx, 0, none⟩), .agg #[.int .i64 x.k, .int .i64 x.n, .string x.s, .slice A1 x.l.length c1, .slice A2 x.m.length c2], .func (.func 41) #[] #[.pointer (some ⟨w.heap.size + 1 + 1 + 1 + 1, 0, none⟩)], .string nm, .agg #[.int .i64 y.k, .int .i64 y.n, .string y.s, .slice A3 n3 c3, .slice A4 n4 c4], undef, undef, undef, undef, undef], defers := [] })
    (fun nm y A3 n3 c3 A4 n4 c4 a' X o h => by
      obtain ⟨Bx, B, h1, h2, h3, h4, h5⟩ := h
      exact ⟨Bx, B, h1, h2, (World.putObj_heap_other (by omega)).trans h3, JR_frame (fun b hb => World.putObj_heap_other (by omega)) _ _ h4, h5⟩)
    ?assign ?body ?done ?stop)
  case assign =>
    intro pre nm y A3 n3 c3 A4 n4 c4 B Wp W K hip _ hpb hB hlt hjr hK
    have hsem := Oper.semAt_some (W0.heap.size + 1)
    gi_wp2
    have hba := bel_alloc (Below.refl W.heap.size W) (.cells #[.int .i64 y.k, .int .i64 y.n, .string y.s, .slice A3 n3 c3, .slice A4 n4 c4] 28)
    have hbp := bel_trans hpb hba
    exact hK _ _ ((KeepsOthers.alloc _ _).from _) (hba.mono (by omega)) ⟨hip.1, Below.at hbp hip.2.1, Below.at hbp hip.2.2.1, Below.at hbp hip.2.2.2.1, bel_trans hip.2.2.2.2 hbp⟩ ⟨W.heap.size, B, hlt, hB, heap_alloc_new W _, JR_later hjr hba, rfl⟩
  case body =>
    rintro pre post nm y A3 n3 c3 A4 n4 c4 a' W ⟨hp, hq1, hq2, hq3, hbw⟩ hlt ⟨Bx, B, hBx, hB, hbx, hjr, rfl⟩ hms
    have hsem := Oper.semAt_some (W0.heap.size + 1)
    have n0 : W.cell? ⟨w.heap.size + 1, 0, none⟩ = some (.string name) := by rw [Lib.cell_of_heap hq1]; rfl
    obtain ⟨⟨b0, b1, b2, b3, b4⟩, _, hBw⟩ := cells5 hbx
    obtain ⟨⟨r0, r1, r2, r3, r4⟩, ⟨f0, f1, f2, f3, f4⟩, hRw⟩ := cells5 hq2
    have t0 : W.cell? ⟨w.heap.size + 1 + 1 + 1, 0, none⟩ = some (.bool false) := by rw [Lib.cell_of_heap hq3]; rfl
    have u0 : W.frozen? ⟨w.heap.size + 1 + 1 + 1, 0, none⟩ = false := by simp [World.frozen?, hq3]
    have HQ1 := Lib.hid hq1; have HQ2 := Lib.hid hq2; have HQ3 := Lib.hid hq3; have HBW := Lib.hid hbw; have HJR := Lib.hid hjr; have HP := Lib.hid hp; have HMS := Lib.hid hms
    clear hq1 hq2 hq3 hbw hjr hp hms hbx hmseq q1' q2' q3' q4 hb0
    cases hnm : (nm.toList == name.toList) with
    | true =>
      have hne : nm.toList = name.toList := eq_of_beq hnm
      gi_wp2
      obtain ⟨⟨g1, g2⟩, ⟨g3, g4⟩, g5⟩ := gt_sets (w := w) W0.heap.size (.int .i64 y.k) (.int .i64 y.n) (.string y.s) (.slice A3 n3 c3) (.slice A4 n4 c4) (.bool true) HQ2.out HQ3.out (by omega) (by omega) (by omega) HBW.out
      exact ⟨g4, rfl, pre, nm, y, A3, n3, c3, A4, n4, c4, B, rfl, HP.out, hnm, hB, JR_frame (fun b hb => g5 b (by have := HS0.out; omega) (by have := HS0.out; omega)) _ _ HJR.out, g1, g2, g3⟩
    | false =>
      have hne : ¬ nm.toList = name.toList := by simpa using hnm
      gi_wp2
      refine ⟨KeepsFrom.refl _ _, Below.refl _ _, fun q hq => ?_, HQ1.out, HQ2.out, HQ3.out, HBW.out⟩
      rcases List.mem_append.1 hq with hq | hq
      · exact HP.out q hq
      · obtain rfl := List.mem_singleton.1 hq
        exact hnm
  case done =>
    rintro W ⟨hp, hq1, hq2, hq3, hbw⟩ hK
    have HK := Lib.hid hK; have HP := Lib.hid hp; have HBW := Lib.hid hbw; have HQ2 := Lib.hid hq2; have HQ3 := Lib.hid hq3
    obtain ⟨⟨r0, r1, r2, r3, r4⟩, ⟨f0, f1, f2, f3, f4⟩, hRw⟩ := cells5 hq2
    have t0 : W.cell? ⟨w.heap.size + 1 + 1 + 1, 0, none⟩ = some (.bool false) := by rw [Lib.cell_of_heap hq3]; rfl
    have u0 : W.frozen? ⟨w.heap.size + 1 + 1 + 1, 0, none⟩ = false := by simp [World.frozen?, hq3]
    clear hq1 hq2 hq3 hbw hp hmseq q1' q2' q3' q4 hb0 hK
    go_wp2_with fail
    obtain ⟨⟨g1, g2⟩, ⟨g3, g4⟩, g5⟩ := gt_sets (w := w) W0.heap.size (.int .i64 0) (.int .i64 0) (.string ⟨#[]⟩) (.slice none 0 0) (.slice none 0 0) (.bool false) HQ2.out HQ3.out (by omega) (by omega) (by omega) HBW.out
    have hK' := (g5 W0.heap.size (by have := HS0.out; omega) (by have := HS0.out; omega)).trans HK.out
    have HG := getB_none HP.out
    generalize (((((W.setCell ⟨w.heap.size + 1 + 1, 0, none⟩ (.int .i64 0)).setCell ⟨w.heap.size + 1 + 1, 1, none⟩ (.int .i64 0)).setCell ⟨w.heap.size + 1 + 1, 2, none⟩ (.string ⟨#[]⟩)).setCell ⟨w.heap.size + 1 + 1, 3, none⟩ (.slice none 0 0)).setCell ⟨w.heap.size + 1 + 1, 4, none⟩ (.slice none 0 0)).setCell ⟨w.heap.size + 1 + 1 + 1, 0, none⟩ (.bool false) = W6 at *
    refine ⟨by simp, .inl ⟨_, _, rfl, run_takeDeferred hK', ?_⟩⟩
    have p1 := (World.putObj_heap_other (o := .deferred none) (w := W6) (show w.heap.size + 1 + 1 ≠ W0.heap.size by have := HS0.out; omega)).trans g1
    have p2 := (World.putObj_heap_other (o := .deferred none) (w := W6) (show w.heap.size + 1 + 1 + 1 ≠ W0.heap.size by have := HS0.out; omega)).trans g2
    obtain ⟨⟨r0, r1, r2, r3, r4⟩, _, _⟩ := cells5 p1
    have t0 := (show (W6.putObj W0.heap.size (.deferred none)).cell? ⟨w.heap.size + 1 + 1 + 1, 0, none⟩ = some (.bool false) by rw [Lib.cell_of_heap p2]; rfl)
    refine ⟨.tuple #[.agg #[.int .i64 0, .int .i64 0, .string ⟨#[]⟩, .slice none 0 0, .slice none 0 0], .bool false], ?_, ⟨⟨none, 0, 0, none, 0, 0, by rw [HG]; rfl, by rw [HG]; exact zero_jr _ _⟩, g3.trans (below_putObj (by have := HS0.out; omega) _)⟩⟩
    simp [results, Tryz.f16, go_sem, r0, r1, r2, r3, r4, t0]
  case stop =>
    rintro c pre post W hms ⟨rfl, pre0, nm, y, A3, n3, c3, A4, n4, c4, B, h1, h2, h3, h4, h5, h6, h7, h8⟩ hK
    refine wpIn_ret ?_
    have HG := getB_hit (q := (nm, y)) (post := post) h3 h2
    refine ⟨by simp, .inl ⟨_, _, rfl, run_takeDeferred hK, ?_⟩⟩
    have p1 := (World.putObj_heap_other (o := .deferred none) (w := W) (show w.heap.size + 1 + 1 ≠ W0.heap.size by have := HS0.out; omega)).trans h6
    have p2 := (World.putObj_heap_other (o := .deferred none) (w := W) (show w.heap.size + 1 + 1 + 1 ≠ W0.heap.size by have := HS0.out; omega)).trans h7
    obtain ⟨⟨r0, r1, r2, r3, r4⟩, _, _⟩ := cells5 p1
    have t0 := (show (W.putObj W0.heap.size (.deferred none)).cell? ⟨w.heap.size + 1 + 1 + 1, 0, none⟩ = some (.bool true) by rw [Lib.cell_of_heap p2]; rfl)
    have hms2 : memsOf x = pre0 ++ (nm, y) :: post := by rw [hms, h1, List.append_assoc]; rfl
    refine ⟨.tuple #[.agg #[.int .i64 y.k, .int .i64 y.n, .string y.s, .slice A3 n3 c3, .slice A4 n4 c4], .bool true], ?_, ⟨⟨A3, n3, c3, A4, n4, c4, by rw [hms2, HG], by
      rw [hms2, HG]
      exact JR_mono (fun b (hb : B ≤ b) => by have := HS0.out; omega) _ _ (JR_frame (fun b (hb : B ≤ b) => World.putObj_heap_other (by omega)) _ _ h5)⟩, h8.trans (below_putObj (by have := HS0.out; omega) _)⟩⟩
    simp [results, Tryz.f16, go_sem, r0, r1, r2, r3, r4, t0]
end Go.Proofs.YtjjgbgojlhaapaaGreatDoor
