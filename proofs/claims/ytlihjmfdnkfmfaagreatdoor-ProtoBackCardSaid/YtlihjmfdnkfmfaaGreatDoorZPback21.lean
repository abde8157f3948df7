/- Parts of the proof: Ke, Rc, Rm, Sq. -/
import Derived.Test.YtlihjmfdnkfmfaaGreatDoorZPback20
import Derived.Test.YtlihjmfdnkfmfaaGreatDoorZPback17
import Derived.Test.YtlihjmfdnkfmfaaGreatDoorZPback18
namespace Go.Proofs.YtlihjmfdnkfmfaaGreatDoor
open Go.RowKit Go.Lib

/-- the first member of a name -/
def getB (nm : ByteArray) : List (ByteArray × JV) → JV × Bool
  | [] => (zeroV, false)
  | q :: l => if q.1.toList == nm.toList then (q.2, true) else getB nm l
theorem getB_none {nm : ByteArray} : ∀ {l : List (ByteArray × JV)}, (∀ q ∈ l, (q.1.toList == nm.toList) = false) → getB nm l = (zeroV, false)
  | [], _ => rfl
  | q :: l, h => by
    unfold getB
    rw [h q (List.mem_cons_self ..), if_neg Bool.false_ne_true]
    exact getB_none (fun r hr => h r (List.mem_cons_of_mem _ hr))
theorem getB_hit {nm : ByteArray} {q : ByteArray × JV} {post : List (ByteArray × JV)} (hq : (q.1.toList == nm.toList) = true) : ∀ {pre : List (ByteArray × JV)}, (∀ r ∈ pre, (r.1.toList == nm.toList) = false) → getB nm (pre ++ q :: post) = (q.2, true)
  | [], _ => by show getB nm (q :: post) = _; unfold getB; rw [if_pos hq]
  | r :: pre, h => by
    show getB nm (r :: (pre ++ q :: post)) = _
    unfold getB
    rw [h r (List.mem_cons_self ..), if_neg Bool.false_ne_true]
    exact getB_hit hq (fun s hs => h s (List.mem_cons_of_mem _ hs))
set_option maxHeartbeats 2000000 in
theorem members_any (x : JV) (A1 : Option Addr) (c1 : Nat) (A2 : Option Addr) (c2 : Nat) (w : World) :
    Calls Tryz.prog 54 #[.agg #[.int .i64 x.k, .int .i64 x.n, .string x.s, .slice A1 x.l.length c1, .slice A2 x.m.length c2]] w fun e w' => e = .returned (.func (.func 100) #[] #[.pointer (some ⟨w.heap.size, 0, none⟩)]) ∧ w' = w.alloc (.cells #[.int .i64 x.k, .int .i64 x.n, .string x.s, .slice A1 x.l.length c1, .slice A2 x.m.length c2] 43) := by
  go_enter Tryz.func54, Tryz.ntmps54
  go_wp2_with fail
  go_ret
  exact ⟨rfl, rfl⟩
def GtRes (x : JV) (nm : ByteArray) (w : World) (z : Ending) (w' : World) : Prop := (∃ (A1 : Option Addr) (n1 c1 : Nat) (A2 : Option Addr) (n2 c2 : Nat),
  z = .returned (.tuple #[.agg #[.int .i64 (getB nm (memsOf x)).1.k, .int .i64 (getB nm (memsOf x)).1.n, .string (getB nm (memsOf x)).1.s, .slice A1 n1 c1, .slice A2 n2 c2], .bool (getB nm (memsOf x)).2]) ∧
  JR w' (fun b => w.heap.size ≤ b) (getB nm (memsOf x)).1 [.int .i64 (getB nm (memsOf x)).1.k, .int .i64 (getB nm (memsOf x)).1.n, .string (getB nm (memsOf x)).1.s, .slice A1 n1 c1, .slice A2 n2 c2]) ∧ Below w.heap.size w w'
theorem gt_sets {w W : World} {r t : Nat} {T T' : TypeId} {a0 a1 a2 a3 a4 u0 : Value} (D : Nat) (v0 v1 v2 v3 v4 u : Value) (hr : W.heap[r]? = some (.cells #[a0, a1, a2, a3, a4] T (0, 0))) (ht : W.heap[t]? = some (.cells #[u0] T' (0, 0))) (hrt : r ≠ t) (h1 : w.heap.size ≤ r) (h2 : w.heap.size ≤ t) (hb : Below w.heap.size w W) :
    (((((((W.setCell ⟨r, 0, none⟩ v0).setCell ⟨r, 1, none⟩ v1).setCell ⟨r, 2, none⟩ v2).setCell ⟨r, 3, none⟩ v3).setCell ⟨r, 4, none⟩ v4).setCell ⟨t, 0, none⟩ u).heap[r]? = some (.cells #[v0, v1, v2, v3, v4] T (0, 0)) ∧ ((((((W.setCell ⟨r, 0, none⟩ v0).setCell ⟨r, 1, none⟩ v1).setCell ⟨r, 2, none⟩ v2).setCell ⟨r, 3, none⟩ v3).setCell ⟨r, 4, none⟩ v4).setCell ⟨t, 0, none⟩ u).heap[t]? = some (.cells #[u] T' (0, 0))) ∧
    (Below w.heap.size w ((((((W.setCell ⟨r, 0, none⟩ v0).setCell ⟨r, 1, none⟩ v1).setCell ⟨r, 2, none⟩ v2).setCell ⟨r, 3, none⟩ v3).setCell ⟨r, 4, none⟩ v4).setCell ⟨t, 0, none⟩ u) ∧ KeepsFrom D W ((((((W.setCell ⟨r, 0, none⟩ v0).setCell ⟨r, 1, none⟩ v1).setCell ⟨r, 2, none⟩ v2).setCell ⟨r, 3, none⟩ v3).setCell ⟨r, 4, none⟩ v4).setCell ⟨t, 0, none⟩ u)) ∧ ∀ b, b ≠ r → b ≠ t → ((((((W.setCell ⟨r, 0, none⟩ v0).setCell ⟨r, 1, none⟩ v1).setCell ⟨r, 2, none⟩ v2).setCell ⟨r, 3, none⟩ v3).setCell ⟨r, 4, none⟩ v4).setCell ⟨t, 0, none⟩ u).heap[b]? = W.heap[b]? := by
  have ht5 := (set5_other (w := W) v0 v1 v2 v3 v4 (show t ≠ r from fun e => hrt e.symm)).trans ht
  refine ⟨⟨(Below.heap_setCell _ _ _ _ (show r ≠ t from hrt)).trans (set5 v0 v1 v2 v3 v4 hr), by simpa using heap_setCell_row (i := 0) (v := u) ht5⟩,
    ⟨bel_set (p := ⟨t, 0, none⟩) (bel_set (p := ⟨r, 4, none⟩) (bel_set (p := ⟨r, 3, none⟩) (bel_set (p := ⟨r, 2, none⟩) (bel_set (p := ⟨r, 1, none⟩) (bel_set (p := ⟨r, 0, none⟩) hb h1 v0) h1 v1) h1 v2) h1 v3) h1 v4) h2 u, ?_⟩,
    fun b hb1 hb2 => (Below.heap_setCell _ _ _ _ (show b ≠ t from hb2)).trans (set5_other v0 v1 v2 v3 v4 hb1)⟩
  have k := fun (X : World) (p : Addr) (v : Value) => (KeepsOthers.setCell X p v).from D
  exact (((((k _ _ _).trans (k _ _ _)).trans (k _ _ _)).trans (k _ _ _)).trans (k _ _ _)).trans (k _ _ _)
set_option maxRecDepth 100000 in
set_option maxHeartbeats 16000000 in
theorem get_any (x : JV) (name : ByteArray) (cs : List Value) (F : Nat → Prop) (w : World) (hln : LnJ x) (h : JR w F x cs) :
    Calls Tryz.prog 34 #[.agg cs.toArray, .string name] w (GtRes x name w) := by
  obtain ⟨vl, vm, ⟨rfl, hsz⟩, hl, hm⟩ := JR_iff.1 h
  obtain ⟨A1, c1, rfl⟩ := hl.form
  obtain ⟨A2, c2, rfl⟩ := hm.form
  have HJ := Lib.hid h; have HLN := Lib.hid hln
  clear hl hm h hln hsz
  have HMB := Lib.hid (fun W => members_any x A1 c1 A2 c2 W)
  refine (callsIn_wide (n := 4)).1 (callsIn_of_wp_marks Tryz.func34 rfl trivial ?_ rfl)
  simp only [Tryz.ntmps34, List.size_toArray, List.length_cons, List.length_nil, Nat.reduceAdd, Nat.reduceSub, Array.replicate_succ, Array.replicate_zero, List.push_toArray, List.append_toArray, List.nil_append, List.cons_append]
  refine wpIn_wide.2 ?_
  go_wp2_with fail
  refine Calls.mono (HMB.out _) ?_
  rintro e w1 ⟨rfl, rfl⟩
  go_wp2_with fail
  have q1 := heap_alloc_new (w.alloc (.cells #[.int .i64 x.k, .int .i64 x.n, .string x.s, .slice A1 x.l.length c1, .slice A2 x.m.length c2] 43)) (.cells #[.string name] 9)
  have q2 := heap_alloc_new ((w.alloc (.cells #[.int .i64 x.k, .int .i64 x.n, .string x.s, .slice A1 x.l.length c1, .slice A2 x.m.length c2] 43)).alloc (.cells #[.string name] 9)) (.cells #[.int .i64 0, .int .i64 0, .string ⟨#[]⟩, .slice none 0 0, .slice none 0 0] 43)
  have q3 := heap_alloc_new (((w.alloc (.cells #[.int .i64 x.k, .int .i64 x.n, .string x.s, .slice A1 x.l.length c1, .slice A2 x.m.length c2] 43)).alloc (.cells #[.string name] 9)).alloc (.cells #[.int .i64 0, .int .i64 0, .string ⟨#[]⟩, .slice none 0 0, .slice none 0 0] 43)) (.cells #[.bool false] 4)
  have q4 := heap_alloc_new ((((w.alloc (.cells #[.int .i64 x.k, .int .i64 x.n, .string x.s, .slice A1 x.l.length c1, .slice A2 x.m.length c2] 43)).alloc (.cells #[.string name] 9)).alloc (.cells #[.int .i64 0, .int .i64 0, .string ⟨#[]⟩, .slice none 0 0, .slice none 0 0] 43)).alloc (.cells #[.bool false] 4)) (.cells #[.int .i64 x.k, .int .i64 x.n, .string x.s, .slice A1 x.l.length c1, .slice A2 x.m.length c2] 43)
  have q1' := Below.at (bel_alloc (bel_alloc (bel_alloc (Below.refl _ _) (.cells #[.int .i64 0, .int .i64 0, .string ⟨#[]⟩, .slice none 0 0, .slice none 0 0] 43)) (.cells #[.bool false] 4)) (.cells #[.int .i64 x.k, .int .i64 x.n, .string x.s, .slice A1 x.l.length c1, .slice A2 x.m.length c2] 43)) q1
  have q2' := Below.at (bel_alloc (bel_alloc (Below.refl _ _) (.cells #[.bool false] 4)) (.cells #[.int .i64 x.k, .int .i64 x.n, .string x.s, .slice A1 x.l.length c1, .slice A2 x.m.length c2] 43)) q2
  have q3' := Below.at (bel_alloc (Below.refl _ _) (.cells #[.int .i64 x.k, .int .i64 x.n, .string x.s, .slice A1 x.l.length c1, .slice A2 x.m.length c2] 43)) q3
  have hb0 : Below w.heap.size w (((((w.alloc (.cells #[.int .i64 x.k, .int .i64 x.n, .string x.s, .slice A1 x.l.length c1, .slice A2 x.m.length c2] 43)).alloc (.cells #[.string name] 9)).alloc (.cells #[.int .i64 0, .int .i64 0, .string ⟨#[]⟩, .slice none 0 0, .slice none 0 0] 43)).alloc (.cells #[.bool false] 4)).alloc (.cells #[.int .i64 x.k, .int .i64 x.n, .string x.s, .slice A1 x.l.length c1, .slice A2 x.m.length c2] 43)) := bel_alloc (bel_alloc (bel_alloc (bel_alloc (bel_alloc (Below.refl _ _) _) _) _) _) _
  have hs0 : (((((w.alloc (.cells #[.int .i64 x.k, .int .i64 x.n, .string x.s, .slice A1 x.l.length c1, .slice A2 x.m.length c2] 43)).alloc (.cells #[.string name] 9)).alloc (.cells #[.int .i64 0, .int .i64 0, .string ⟨#[]⟩, .slice none 0 0, .slice none 0 0] 43)).alloc (.cells #[.bool false] 4)).alloc (.cells #[.int .i64 x.k, .int .i64 x.n, .string x.s, .slice A1 x.l.length c1, .slice A2 x.m.length c2] 43)).heap.size = w.heap.size + 1 + 1 + 1 + 1 + 1 := by simp only [World.size_alloc]
  simp only [World.size_alloc] at q1' q2' q3' q4
  clear q1 q2 q3
  generalize (((((w.alloc (.cells #[.int .i64 x.k, .int .i64 x.n, .string x.s, .slice A1 x.l.length c1, .slice A2 x.m.length c2] 43)).alloc (.cells #[.string name] 9)).alloc (.cells #[.int .i64 0, .int .i64 0, .string ⟨#[]⟩, .slice none 0 0, .slice none 0 0] 43)).alloc (.cells #[.bool false] 4)).alloc (.cells #[.int .i64 x.k, .int .i64 x.n, .string x.s, .slice A1 x.l.length c1, .slice A2 x.m.length c2] 43)) = W0 at *
  have hmseq := fun m => members_seq m x A1 c1 A2 c2 (fun b => F b ∧ b < W0.heap.size) _ W0.heap.size W0 (Nat.le_refl _) (fun _ hb => hb.2) q4 (JR_bound _ _ (JR_later HJ.out hb0)) HLN.out
  have HS0 := Lib.hid hs0
  clear hs0
  refine (wpIn_wide (n := 4)).1 (range_members (n := 4) (n₀ := W0.heap.size) (Nat.le_refl _) (by decide) rfl (enters_of Tryz.func100 (by kernel_rfl) rfl) (hmseq _) rfl
    (fun pre W => (∀ q ∈ pre, (q.1.toList == name.toList) = false) ∧ W.heap[w.heap.size + 1]? = some (.cells #[.string name] 9 (0, 0)) ∧ W.heap[w.heap.size + 1 + 1]? = some (.cells #[.int .i64 0, .int .i64 0, .string ⟨#[]⟩, .slice none 0 0, .slice none 0 0] 43 (0, 0)) ∧ W.heap[w.heap.size + 1 + 1 + 1]? = some (.cells #[.bool false] 4 (0, 0)) ∧ Below w.heap.size w W)
    (fun c pre W => c = .ret ∧ ∃ pre0 nm y A3 n3 c3 A4 n4 c4 B, pre = pre0 ++ [(nm, y)] ∧ (∀ q ∈ pre0, (q.1.toList == name.toList) = false) ∧ (nm.toList == name.toList) = true ∧ W0.heap.size + 1 < B ∧ JR W (fun b => B ≤ b) y [.int .i64 y.k, .int .i64 y.n, .string y.s, .slice A3 n3 c3, .slice A4 n4 c4] ∧
      W.heap[w.heap.size + 1 + 1]? = some (.cells #[.int .i64 y.k, .int .i64 y.n, .string y.s, .slice A3 n3 c3, .slice A4 n4 c4] 43 (0, 0)) ∧ W.heap[w.heap.size + 1 + 1 + 1]? = some (.cells #[.bool true] 4 (0, 0)) ∧ Below w.heap.size w W)
    (fun s X Y h hb => ⟨h.1, Below.at hb h.2.1, Below.at hb h.2.2.1, Below.at hb h.2.2.2.1, bel_trans h.2.2.2.2 hb⟩)
    (fun s X o h => ⟨h.1, (World.putObj_heap_other (by have := HS0.out; omega)).trans h.2.1, (World.putObj_heap_other (by have := HS0.out; omega)).trans h.2.2.1, (World.putObj_heap_other (by have := HS0.out; omega)).trans h.2.2.2.1, h.2.2.2.2.trans (below_putObj (by have := HS0.out; omega) _)⟩)
    (fun c s X o h => by
      obtain ⟨rfl, pre0, nm, y, A3, n3, c3, A4, n4, c4, B, h1, h2, h3, h4, h5, h6, h7, h8⟩ := h
      exact ⟨rfl, pre0, nm, y, A3, n3, c3, A4, n4, c4, B, h1, h2, h3, h4, JR_frame (fun b hb => World.putObj_heap_other (by omega)) _ _ h5, (World.putObj_heap_other (by have := HS0.out; omega)).trans h6, (World.putObj_heap_other (by have := HS0.out; omega)).trans h7, h8.trans (below_putObj (by have := HS0.out; omega) _)⟩)
    ⟨fun _ h => (by cases h), q1', q2', q3', hb0⟩
    (fun nm y A3 n3 c3 A4 n4 c4 a' W => ∃ Bx B, W0.heap.size + 1 < Bx ∧ W0.heap.size + 1 < B ∧ W.heap[Bx]? = some (.cells #[.int .i64 y.k, .int .i64 y.n, .string y.s, .slice A3 n3 c3, .slice A4 n4 c4] 43 (0, 0)) ∧ JR W (fun b => B ≤ b) y [.int .i64 y.k, .int .i64 y.n, .string y.s, .slice A3 n3 c3, .slice A4 n4 c4] ∧
      a' = { tmps := #[.agg #[.int .i64 x.k, .int .i64 x.n, .string x.s, .slice A1 x.l.length c1, .slice A2 x.m.length c2], .string name, .pointer (some ⟨w.heap.size, 0, none⟩), .pointer (some ⟨w.heap.size + 1, 0, none⟩), .pointer (some ⟨w.heap.size + 1 + 1, 0, none⟩), .pointer (some ⟨w.heap.size + 1 + 1 + 1, 0, none⟩), .string nm, .pointer (some ⟨Bx, 0, none⟩), .agg #[.int .i64 x.k, .int .i64 x.n, .string x.s, .slice A1 x.l.length c1, .slice A2 x.m.length c2], .func (.func 100) #[] #[.pointer (some ⟨w.heap.size + 1 + 1 + 1 + 1, 0, none⟩)], .string nm, .agg #[.int .i64 y.k, .int .i64 y.n, .string y.s, .slice A3 n3 c3, .slice A4 n4 c4], undef, undef, undef, undef, undef], defers := [] })
    (fun nm y A3 n3 c3 A4 n4 c4 a' X o h => by
      obtain ⟨Bx, B, h1, h2, h3, h4, h5⟩ := h
      exact ⟨Bx, B, h1, h2, (World.putObj_heap_other (by omega)).trans h3, JR_frame (fun b hb => World.putObj_heap_other (by omega)) _ _ h4, h5⟩)
    ?assign ?body ?done ?stop)
  case assign =>
    intro pre nm y A3 n3 c3 A4 n4 c4 B Wp W K hip _ hpb hB hlt hjr hK
    have hsem := Oper.semAt_some (W0.heap.size + 1)
    gi_wp2
    have hba := bel_alloc (Below.refl W.heap.size W) (.cells #[.int .i64 y.k, .int .i64 y.n, .string y.s, .slice A3 n3 c3, .slice A4 n4 c4] 43)
    have hbp := bel_trans hpb hba
    exact hK _ _ ((KeepsOthers.alloc _ _).from _) (hba.mono (by omega)) ⟨hip.1, Below.at hbp hip.2.1, Below.at hbp hip.2.2.1, Below.at hbp hip.2.2.2.1, bel_trans hip.2.2.2.2 hbp⟩ ⟨W.heap.size, B, hlt, hB, heap_alloc_new W _, JR_later hjr hba, rfl⟩
  case body =>
    rintro pre post nm y A3 n3 c3 A4 n4 c4 a' W ⟨hp, hq1, hq2, hq3, hbw⟩ hlt ⟨Bx, B, hBx, hB, hbx, hjr, rfl⟩ hms
    have hsem := Oper.semAt_some (W0.heap.size + 1)
    have n0 : W.cell? ⟨w.heap.size + 1, 0, none⟩ = some (.string name) := by rw [Lib.cell_of_heap hq1]; rfl
    obtain ⟨⟨b0, b1, b2, b3, b4⟩, _, hBw⟩ := cells5 hbx
    obtain ⟨⟨r0, r1, r2, r3, r4⟩, ⟨f0, f1, f2, f3, f4⟩, hRw⟩ := cells5 hq2
    have t0 : W.cell? ⟨w.heap.size + 1 + 1 + 1, 0, none⟩ = some (.bool false) := by rw [Lib.cell_of_heap hq3]; rfl
    have u0 : W.frozen? ⟨w.heap.size + 1 + 1 + 1, 0, none⟩ = false := by simp [World.frozen?, hq3]
    have HQ1 := Lib.hid hq1; have HQ2 := Lib.hid hq2; have HQ3 := Lib.hid hq3; have HBW := Lib.hid hbw; have HJR := Lib.hid hjr; have HP := Lib.hid hp; have HMS := Lib.hid hms
    clear hq1 hq2 hq3 hbw hjr hp hms hbx hmseq q1' q2' q3' q4 hb0
    cases hnm : (nm.toList == name.toList) with
    | true =>
      have hne : nm.toList = name.toList := eq_of_beq hnm
      gi_wp2
      obtain ⟨⟨g1, g2⟩, ⟨g3, g4⟩, g5⟩ := gt_sets (w := w) W0.heap.size (.int .i64 y.k) (.int .i64 y.n) (.string y.s) (.slice A3 n3 c3) (.slice A4 n4 c4) (.bool true) HQ2.out HQ3.out (by omega) (by omega) (by omega) HBW.out
      exact ⟨g4, rfl, pre, nm, y, A3, n3, c3, A4, n4, c4, B, rfl, HP.out, hnm, hB, JR_frame (fun b hb => g5 b (by have := HS0.out; omega) (by have := HS0.out; omega)) _ _ HJR.out, g1, g2, g3⟩
    | false =>
      have hne : ¬ nm.toList = name.toList := by simpa using hnm
      gi_wp2
      refine ⟨KeepsFrom.refl _ _, Below.refl _ _, fun q hq => ?_, HQ1.out, HQ2.out, HQ3.out, HBW.out⟩
      rcases List.mem_append.1 hq with hq | hq
      · exact HP.out q hq
      · obtain rfl := List.mem_singleton.1 hq
        exact hnm
  case done =>
    rintro W ⟨hp, hq1, hq2, hq3, hbw⟩ hK
    have HK := Lib.hid hK; have HP := Lib.hid hp; have HBW := Lib.hid hbw; have HQ2 := Lib.hid hq2; have HQ3 := Lib.hid hq3
    obtain ⟨⟨r0, r1, r2, r3, r4⟩, ⟨f0, f1, f2, f3, f4⟩, hRw⟩ := cells5 hq2
    have t0 : W.cell? ⟨w.heap.size + 1 + 1 + 1, 0, none⟩ = some (.bool false) := by rw [Lib.cell_of_heap hq3]; rfl
    have u0 : W.frozen? ⟨w.heap.size + 1 + 1 + 1, 0, none⟩ = false := by simp [World.frozen?, hq3]
    clear hq1 hq2 hq3 hbw hp hmseq q1' q2' q3' q4 hb0 hK
    go_wp2_with fail
    obtain ⟨⟨g1, g2⟩, ⟨g3, g4⟩, g5⟩ := gt_sets (w := w) W0.heap.size (.int .i64 0) (.int .i64 0) (.string ⟨#[]⟩) (.slice none 0 0) (.slice none 0 0) (.bool false) HQ2.out HQ3.out (by omega) (by omega) (by omega) HBW.out
    have hK' := (g5 W0.heap.size (by have := HS0.out; omega) (by have := HS0.out; omega)).trans HK.out
    have HG := getB_none HP.out
    generalize (((((W.setCell ⟨w.heap.size + 1 + 1, 0, none⟩ (.int .i64 0)).setCell ⟨w.heap.size + 1 + 1, 1, none⟩ (.int .i64 0)).setCell ⟨w.heap.size + 1 + 1, 2, none⟩ (.string ⟨#[]⟩)).setCell ⟨w.heap.size + 1 + 1, 3, none⟩ (.slice none 0 0)).setCell ⟨w.heap.size + 1 + 1, 4, none⟩ (.slice none 0 0)).setCell ⟨w.heap.size + 1 + 1 + 1, 0, none⟩ (.bool false) = W6 at *
    refine ⟨by simp, .inl ⟨_, _, rfl, run_takeDeferred hK', ?_⟩⟩
    have p1 := (World.putObj_heap_other (o := .deferred none) (w := W6) (show w.heap.size + 1 + 1 ≠ W0.heap.size by have := HS0.out; omega)).trans g1
    have p2 := (World.putObj_heap_other (o := .deferred none) (w := W6) (show w.heap.size + 1 + 1 + 1 ≠ W0.heap.size by have := HS0.out; omega)).trans g2
    obtain ⟨⟨r0, r1, r2, r3, r4⟩, _, _⟩ := cells5 p1
    have t0 := (show (W6.putObj W0.heap.size (.deferred none)).cell? ⟨w.heap.size + 1 + 1 + 1, 0, none⟩ = some (.bool false) by rw [Lib.cell_of_heap p2]; rfl)
    refine ⟨.tuple #[.agg #[.int .i64 0, .int .i64 0, .string ⟨#[]⟩, .slice none 0 0, .slice none 0 0], .bool false], ?_, ⟨⟨none, 0, 0, none, 0, 0, by rw [HG]; rfl, by rw [HG]; exact zero_jr _ _⟩, g3.trans (below_putObj (by have := HS0.out; omega) _)⟩⟩
    simp [results, Tryz.f34, go_sem, r0, r1, r2, r3, r4, t0]
  case stop =>
    rintro c pre post W hms ⟨rfl, pre0, nm, y, A3, n3, c3, A4, n4, c4, B, h1, h2, h3, h4, h5, h6, h7, h8⟩ hK
    refine wpIn_ret ?_
    have HG := getB_hit (q := (nm, y)) (post := post) h3 h2
    refine ⟨by simp, .inl ⟨_, _, rfl, run_takeDeferred hK, ?_⟩⟩
    have p1 := (World.putObj_heap_other (o := .deferred none) (w := W) (show w.heap.size + 1 + 1 ≠ W0.heap.size by have := HS0.out; omega)).trans h6
    have p2 := (World.putObj_heap_other (o := .deferred none) (w := W) (show w.heap.size + 1 + 1 + 1 ≠ W0.heap.size by have := HS0.out; omega)).trans h7
    obtain ⟨⟨r0, r1, r2, r3, r4⟩, _, _⟩ := cells5 p1
    have t0 := (show (W.putObj W0.heap.size (.deferred none)).cell? ⟨w.heap.size + 1 + 1 + 1, 0, none⟩ = some (.bool true) by rw [Lib.cell_of_heap p2]; rfl)
    have hms2 : memsOf x = pre0 ++ (nm, y) :: post := by rw [hms, h1, List.append_assoc]; rfl
    refine ⟨.tuple #[.agg #[.int .i64 y.k, .int .i64 y.n, .string y.s, .slice A3 n3 c3, .slice A4 n4 c4], .bool true], ?_, ⟨⟨A3, n3, c3, A4, n4, c4, by rw [hms2, HG], by
      rw [hms2, HG]
      exact JR_mono (fun b (hb : B ≤ b) => by have := HS0.out; omega) _ _ (JR_frame (fun b (hb : B ≤ b) => World.putObj_heap_other (by omega)) _ _ h5)⟩, h8.trans (below_putObj (by have := HS0.out; omega) _)⟩⟩
    simp [results, Tryz.f34, go_sem, r0, r1, r2, r3, r4, t0]
end Go.Proofs.YtlihjmfdnkfmfaaGreatDoor
namespace Go.Proofs.YtlihjmfdnkfmfaaGreatDoor
open Go.RowKit Go.Lib

theorem ne2 : (2 : Int) ≠ 0 := by decide
theorem ne4 : (4 : Int) ≠ 0 := by decide
/-! blanks -/
theorem skip_pre {s : ByteArray} : ∀ (pre : List UInt8) (p : Nat) (r : List UInt8), (∀ b ∈ pre, isBlank b = true) → rest s p = pre ++ r → skipB s (s.size - p) p = skipB s (s.size - (p + pre.length)) (p + pre.length)
  | [], _, _, _, _ => rfl
  | b :: pre, p, r, hb, h => by
    have hl := rest_lt h
    rw [skip_step hl (by rw [rest_byte h]; exact hb b (List.mem_cons_self ..)), skip_pre pre (p + 1) r (fun c hc => hb c (List.mem_cons_of_mem _ hc)) (rest_next h)]
    rw [show p + 1 + pre.length = p + (b :: pre).length by simp only [List.length_cons]; omega]
theorem blanks_pre {s : ByteArray} {pre r : List UInt8} {p : Nat} (e : Int) (hb : ∀ b ∈ pre, isBlank b = true) (h : rest s p = pre ++ r) : St.blanks s ⟨p, e⟩ = St.blanks s ⟨p + pre.length, e⟩ := by
  unfold St.blanks
  simp only
  rw [skip_pre pre p r hb h]
theorem see_pre {s : ByteArray} {pre r : List UInt8} {p : Nat} (e : Int) (hb : ∀ b ∈ pre, isBlank b = true) (h : rest s p = pre ++ r) : St.see s ⟨p, e⟩ = St.see s ⟨p + pre.length, e⟩ := by
  unfold St.see
  rw [blanks_pre e hb h]
theorem value_see {s : ByteArray} {x y : St} (h : x.see s = y.see s) : ∀ d, valueB s d x = valueB s d y
  | 0 => by simp only [valueB, h]
  | d + 1 => by simp only [valueB, h]
theorem blank_end {c : UInt8} (h : isBlank c = true) : isDigit c = false ∧ [46, 101, 69].contains c = false := by
  simp only [isBlank, List.contains_iff_mem, List.mem_cons, List.not_mem_nil, or_false] at h
  rcases h with rfl | rfl | rfl | rfl <;> decide
theorem rest_le {s : ByteArray} {p : Nat} {l r : List UInt8} (hp : p ≤ s.size) (h : rest s p = l ++ r) : p + l.length ≤ s.size := by
  have hz : s.data.size = s.size := rfl
  have := congrArg List.length h
  unfold rest at this
  simp only [List.length_drop, Array.length_toList, hz, List.length_append] at this
  omega
theorem endB_blank {s : ByteArray} {q : Nat} {post : List UInt8} (_hq : q ≤ s.size) (hb : ∀ b ∈ post, isBlank b = true) (h : rest s q = post) : (endB s ⟨q, 0⟩).e = 0 := by
  have h' : rest s q = post ++ [] := by rw [h, List.append_nil]
  have h1 := blanks_pre 0 hb h'
  have h2 : rest s (q + post.length) = [] := drop_rest h'
  rw [see_end h2] at h1
  have := rest_nil h2
  unfold endB
  rw [h1, if_neg (by simp only; omega)]
/-- a printed value with blanks around it -/
theorem parse_around {x : JV} {pre post : List UInt8} (hpre : ∀ b ∈ pre, isBlank b = true) (hpost : ∀ b ∈ post, isBlank b = true) (hm : mayJ 64 x = true) (hlen : (pre ++ (printB 64 x ++ post)).length ≤ 20000) :
    parseB ⟨(pre ++ (printB 64 x ++ post)).toArray⟩ = (x, 0) := by
  have hz := list_size (pre ++ (printB 64 x ++ post))
  have hr := rest_zero (pre ++ (printB 64 x ++ post))
  generalize (⟨(pre ++ (printB 64 x ++ post)).toArray⟩ : ByteArray) = s at *
  have h1 := drop_rest hr
  have hsee := see_pre 0 hpre hr
  have hv := value_reads s 64 x _ post hm h1 (fun _ c r e => blank_end (hpost c (by rw [e]; exact List.mem_cons_self ..)))
  have h2 := drop_rest h1
  have hq := rest_le (Nat.zero_le _) hr
  have he := endB_blank (rest_le hq h1) hpost h2
  unfold parseB
  rw [if_neg (by omega), value_see hsee, hv]
  simp only
  rw [if_neg (by rw [he]; decide)]
theorem parse_print {x : JV} (hm : mayJ 64 x = true) (hlen : (printB 64 x).length ≤ 20000) : parseB ⟨(printB 64 x).toArray⟩ = (x, 0) := by
  have h := parse_around (x := x) (pre := []) (post := []) (by simp) (by simp) hm (by simpa using hlen)
  simpa using h
theorem numEnd_p (s : ByteArray) (neg : Bool) (x : St) : (numEnd s neg x).2.p = (numLoop s (anyB s [48] x.p) x.p (s.size - x.p) 0 x.p).2 := by
  unfold numEnd
  simp only
  split
  · exact fail_p _ _
  · split
    · exact fail_p _ _
    · rfl
theorem fail_ne {x : St} {e : Int} (h : x.e ≠ 0) : (x.fail e).e ≠ 0 := by unfold St.fail; rw [if_neg h]; exact h
theorem member_text {s : ByteArray} {pv : St → JV × St} {acc : List (ByteArray × JV)} {x : St} (h : (textB s (if (x.see s).1 ≠ 34 then (x.see s).2.fail 4 else (x.see s).2)).2.e ≠ 0) : (memberB s pv acc x).2.e ≠ 0 := by
  have hz : ∀ b : Bool, (if b = true then (textB s (if (x.see s).1 ≠ 34 then (x.see s).2.fail 4 else (x.see s).2)).2.fail 4 else (textB s (if (x.see s).1 ≠ 34 then (x.see s).2.fail 4 else (x.see s).2)).2).e ≠ 0 := fun b => by
    cases b
    · exact h
    · exact fail_ne h
  unfold memberB
  simp only
  rw [if_neg (hz _), if_neg (hz _)]
  exact hz _
end Go.Proofs.YtlihjmfdnkfmfaaGreatDoor
namespace Go.Proofs.YtlihjmfdnkfmfaaGreatDoor
open Go.RowKit Go.Lib

theorem fail_not {x : St} {e : Int} (he : e ≠ 0) : (x.fail e).e ≠ 0 := by
  unfold St.fail
  split
  · exact he
  · assumption
theorem ne1 : (1 : Int) ≠ 0 := by decide
theorem number_may {s : ByteArray} {x : St} (h : (numberB s x).2.e = 0) (d : Nat) : mayJ (d + 1) (numberB s x).1 = true := by
  unfold numberB at h ⊢
  generalize anyB s [45] x.p = neg at *
  generalize numStart s _ = y at *
  have hr := numLoop_range s (anyB s [48] y.p) y.p (s.size - y.p) 0 y.p (by omega) (by omega)
  unfold numEnd at h ⊢
  simp only at h ⊢
  split at h
  · exact absurd h (fail_not ne4)
  · split at h
    · exact absurd h (fail_not ne1)
    · refine may_numV ?_ ?_ <;> split <;> omega
theorem see_good {s : ByteArray} {x : St} (h : (x.see s).2.e = 0) : (x.see s).2.p < s.size ∧ byteAt s (x.see s).2.p = (x.see s).1 := by
  unfold St.see at *
  simp only at *
  split at h
  · exact absurd h (fail_not ne2)
  · rename_i h1
    rw [if_neg h1]
    exact ⟨Nat.lt_of_not_le h1, rfl⟩
theorem digit_opens {c : UInt8} (h : c = 45 ∨ isDigit c = true) : opens.contains c = true := by
  have h1 := digit_heads h
  simp only [heads, List.mem_cons, List.not_mem_nil, or_false] at h1
  rcases h1 with rfl | rfl | rfl | rfl | rfl | rfl | rfl | rfl | rfl | rfl | rfl | rfl | rfl | rfl | rfl | rfl | rfl <;> decide
theorem number_none {s : ByteArray} {y : St} (hp : y.p < s.size) (hc : opens.contains (byteAt s y.p) = false) : (numberB s y).2.e ≠ 0 := by
  have h1 : anyB s [45] y.p = false := by
    unfold anyB
    rw [decide_eq_true hp]
    by_cases h : byteAt s y.p = 45
    · rw [digit_opens (.inl h)] at hc; exact absurd hc (by decide)
    · simpa using h
  have h2 : digitB s y.p = false := by
    unfold digitB
    rcases hd : isDigit (byteAt s y.p) with _ | _
    · simp
    · rw [digit_opens (.inr hd)] at hc; exact absurd hc (by decide)
  unfold numberB
  rw [h1, if_neg (show ¬ ((false : Bool) = true) by decide)]
  have hns : numStart s y = y := by
    unfold numStart
    rw [if_neg (by omega)]
  rw [hns]
  unfold numEnd
  simp only [numLoop_stop (s := s) (z := anyB s [48] y.p) (fr := y.p) (p := y.p) (n := 0) (.inl h2)]
  rw [if_pos (.inl trivial)]
  exact fail_not ne4
theorem word_may {s : ByteArray} {l : List UInt8} {k : Int} (hk : k = 1 ∨ k = 2 ∨ k = 3) : ∀ {x : St}, (wordB s l k x).2.e = 0 → ∀ d, mayJ (d + 1) (wordB s l k x).1 = true := fun {x} h d => by
  have key : ∀ (l : List UInt8) (x : St), (wordIn s l x).2.e = 0 → (wordIn s l x).1 = true := fun l => by
    induction l with
    | nil => intro x _; rfl
    | cons c l ih =>
      intro x h
      simp only [wordIn] at h ⊢
      split at h
      · exact absurd h (fail_not ne2)
      · rename_i h1
        rw [if_neg h1]
        split at h
        · exact absurd h (fail_not ne4)
        · rename_i h2
          rw [if_neg h2]
          exact ih _ h
  unfold wordB at h ⊢
  simp only at h ⊢
  rw [if_pos (key l x h)]
  rcases hk with rfl | rfl | rfl <;> (rw [may_succ]; simp [oneB, badK, membersB, rangeB, JV.k, JV.n, JV.s, JV.l, JV.m, short_nil, ByteArray.toList_eq])
theorem list_may {s : ByteArray} {pv : St → JV × St} {d : Nat} (hpv : ∀ x, (pv x).2.e = 0 → mayJ d (pv x).1 = true) : ∀ (f : Nat) (acc : List JV) (x : St), (∀ y ∈ acc, mayJ d y = true) → (listLoop s pv f acc x).2.e = 0 → ∀ y ∈ (listLoop s pv f acc x).1, mayJ d y = true
  | 0, acc, x, ha, _ => ha
  | f + 1, acc, x, ha, h => by
    have more : (pv x).2.e = 0 → ∀ y ∈ acc ++ [(pv x).1], mayJ d y = true := fun h0 y hy => by
      rcases List.mem_append.1 hy with hy | hy
      · exact ha y hy
      · rw [List.mem_singleton.1 hy]; exact hpv x h0
    simp only [listLoop] at h ⊢
    split at h
    · rename_i h1; rw [if_pos h1]; exact ha
    · rename_i h1
      rw [if_neg h1]
      split at h
      · rename_i h2; exact absurd h h2
      · rename_i h2
        have h2' : (pv x).2.e = 0 := Decidable.of_not_not h2
        rw [if_neg h2]
        split at h
        · rename_i h3; rw [if_pos h3]; exact more h2'
        · rename_i h3
          rw [if_neg h3]
          split at h
          · rename_i h4; exact absurd h h4
          · rename_i h4
            rw [if_neg h4]
            exact list_may hpv f _ _ (more h2') h
theorem member_may {s : ByteArray} {pv : St → JV × St} {d : Nat} (hpv : ∀ x, (pv x).2.e = 0 → mayJ d (pv x).1 = true) {l : List (ByteArray × JV)} {x : St} (h : (memberB s pv l x).2.e = 0) :
    shortB (memberB s pv l x).1.1 = true ∧ mayJ d (memberB s pv l x).1.2 = true ∧ ∀ q ∈ l, q.1.toList ≠ (memberB s pv l x).1.1.toList := by
  have ht : (textB s (if (x.see s).1 ≠ 34 then (x.see s).2.fail 4 else (x.see s).2)).2.e = 0 := Decidable.of_not_not fun h1 => member_text h1 h
  have hv := text_valid s _ ht
  unfold memberB at h ⊢
  simp only at h ⊢
  generalize textB s (if (x.see s).1 ≠ 34 then (x.see s).2.fail 4 else (x.see s).2) = t at *
  cases ha : (l.any fun m => m.1.toList == (⟨t.1.toArray⟩ : ByteArray).toList) with
  | true =>
    rw [ha] at h
    simp only [if_true] at h
    have h4 : (t.2.fail 4).e ≠ 0 := fail_not ne4
    rw [if_neg h4, if_neg h4] at h
    exact absurd h h4
  | false =>
    rw [ha] at h
    simp only [Bool.false_eq_true, if_false] at h ⊢
    rw [if_pos ht] at h ⊢
    have hd : ∀ q ∈ l, q.1.toList ≠ (⟨t.1.toArray⟩ : ByteArray).toList := fun q hq e => by
      have := List.any_eq_false.1 ha q hq
      simp [e] at this
    split at h
    · rename_i h1
      rw [if_pos h1]
      exact ⟨hv, hpv _ h, hd⟩
    · rename_i h1
      exact absurd h h1
/-- names that are apart -/
def NmNe (a b : ByteArray × JV) : Prop := a.1.toList ≠ b.1.toList
theorem obj_may {s : ByteArray} {pv : St → JV × St} {d : Nat} (hpv : ∀ x, (pv x).2.e = 0 → mayJ d (pv x).1 = true) : ∀ (f : Nat) (acc : List (ByteArray × JV)) (x : St), (∀ y ∈ acc, shortB y.1 = true ∧ mayJ d y.2 = true) → acc.Pairwise NmNe → (objLoop s pv f acc x).2.e = 0 →
    (∀ y ∈ (objLoop s pv f acc x).1, shortB y.1 = true ∧ mayJ d y.2 = true) ∧ (objLoop s pv f acc x).1.Pairwise NmNe
  | 0, acc, x, ha, hp, _ => ⟨ha, hp⟩
  | f + 1, acc, x, ha, hp, h => by
    have more : (memberB s pv acc x).2.e = 0 → (∀ y ∈ acc ++ [(memberB s pv acc x).1], shortB y.1 = true ∧ mayJ d y.2 = true) ∧ (acc ++ [(memberB s pv acc x).1]).Pairwise NmNe := fun h0 => by
      have hm := member_may hpv h0
      refine ⟨fun y hy => ?_, ?_⟩
      · rcases List.mem_append.1 hy with hy | hy
        · exact ha y hy
        · rw [List.mem_singleton.1 hy]; exact ⟨hm.1, hm.2.1⟩
      · rw [List.pairwise_append]
        refine ⟨hp, List.pairwise_singleton .., fun a ha b hb => ?_⟩
        rw [List.mem_singleton.1 hb]
        exact hm.2.2 a ha
    simp only [objLoop] at h ⊢
    split at h
    · rename_i h1; rw [if_pos h1]; exact ⟨ha, hp⟩
    · rename_i h1
      rw [if_neg h1]
      split at h
      · rename_i h2; exact absurd h h2
      · rename_i h2
        have h2' : (memberB s pv acc x).2.e = 0 := Decidable.of_not_not h2
        rw [if_neg h2]
        split at h
        · rename_i h3; rw [if_pos h3]; exact more h2'
        · rename_i h3
          rw [if_neg h3]
          split at h
          · rename_i h4; exact absurd h h4
          · rename_i h4
            rw [if_neg h4]
            exact obj_may hpv f _ _ (more h2').1 (more h2').2 h
theorem ins_mem (m q : ByteArray × JV) : ∀ l, q ∈ insName m l ↔ q = m ∨ q ∈ l
  | [] => by simp [insName]
  | x :: r => by
    simp only [insName]
    split
    · simp
    · simp only [List.mem_cons, ins_mem m q r]
      constructor
      · rintro (h | h | h)
        · exact .inr (.inl h)
        · exact .inl h
        · exact .inr (.inr h)
      · rintro (h | h | h)
        · exact .inr (.inl h)
        · exact .inl h
        · exact .inr (.inr h)
theorem sort_mem (q : ByteArray × JV) : ∀ l, q ∈ sortNames l ↔ q ∈ l
  | [] => by simp [sortNames]
  | x :: r => by
    have ih := sort_mem q r
    unfold sortNames at ih ⊢
    rw [List.foldr_cons, ins_mem, ih, List.mem_cons]
theorem lt_of_ne {a b : List UInt8} (h : ¬ a < b) (hn : a ≠ b) : b < a := by
  rcases List.le_iff_lt_or_eq.1 (List.not_lt.1 h) with h1 | h1
  · exact h1
  · exact absurd h1.symm hn
theorem ins_rising (m : ByteArray × JV) : ∀ l : List (ByteArray × JV), l.Pairwise NmLt → (∀ q ∈ l, NmNe m q) → (insName m l).Pairwise NmLt
  | [], _, _ => by simp [insName]
  | x :: r, hp, hn => by
    have hp' := List.pairwise_cons.1 hp
    simp only [insName]
    by_cases hlt : Op.bytesLess m.1.toList x.1.toList = true
    · rw [if_pos hlt]
      have h1 := (less_iff _ _).1 hlt
      refine List.Pairwise.cons (fun q hq => ?_) hp
      rcases List.mem_cons.1 hq with rfl | hq
      · exact h1
      · exact List.lt_trans h1 (hp'.1 q hq)
    · rw [if_neg hlt]
      have h1 : x.1.toList < m.1.toList := lt_of_ne (fun h => hlt ((less_iff _ _).2 h)) (hn x (List.mem_cons_self ..))
      refine List.Pairwise.cons (fun q hq => ?_) (ins_rising m r hp'.2 (fun q hq => hn q (List.mem_cons_of_mem _ hq)))
      rcases (ins_mem m q r).1 hq with rfl | hq
      · exact h1
      · exact hp'.1 q hq
theorem sort_names : ∀ l : List (ByteArray × JV), l.Pairwise NmNe → (sortNames l).Pairwise NmLt
  | [], _ => by simp [sortNames]
  | x :: r, hp => by
    have hp' := List.pairwise_cons.1 hp
    have ih := sort_names r hp'.2
    have hm : ∀ q, q ∈ sortNames r → NmNe x q := fun q hq => hp'.1 q ((sort_mem q r).1 hq)
    unfold sortNames at ih hm ⊢
    rw [List.foldr_cons]
    exact ins_rising x _ ih hm
theorem list_out {d : Nat} {l : List JV} (h : ∀ y ∈ l, mayJ d y = true) : mayJ (d + 1) (listV l) = true := by
  unfold listV
  rw [may_list, List.all_eq_true]
  exact h
theorem obj_out {d : Nat} {m : List (ByteArray × JV)} (h : ∀ y ∈ m, shortB y.1 = true ∧ mayJ d y.2 = true) (hp : m.Pairwise NmNe) : mayJ (d + 1) (objV (sortNames m)) = true := by
  have hmem : ∀ y ∈ sortNames m, shortB y.1 = true ∧ mayJ d y.2 = true := fun y hy => h y ((sort_mem y m).1 hy)
  unfold objV
  rw [may_obj ((members_iff none _).2 ⟨fun q hq => (hmem q hq).1, fun a ha => (by cases ha), sort_names m hp⟩), List.all_eq_true]
  exact fun q hq => (hmem q hq).2
/-- a value that is read may be -/
theorem value_may (s : ByteArray) : ∀ (d : Nat) (x : St), (valueB s d x).2.e = 0 → mayJ d (valueB s d x).1 = true
  | 0, x, h => by
    exfalso
    simp only [valueB] at h
    split at h
    · rename_i h1; exact h1 h
    · rename_i h1
      have h1' : (x.see s).2.e = 0 := Decidable.of_not_not h1
      split at h
      · exact absurd h (fail_not (by decide))
      · rename_i h2
        have hg := see_good h1'
        exact number_none hg.1 (by rw [hg.2]; simpa using h2) h
  | d + 1, x, h => by
    have ih := value_may s d
    simp only [valueB] at h ⊢
    split at h
    · rename_i h1; exact absurd h h1
    · rename_i h1
      rw [if_neg h1]
      split at h
      · rename_i h2
        rw [if_pos h2]
        unfold listB at h ⊢
        simp only at h ⊢
        split at h
        · rename_i h3; rw [if_pos h3]; exact list_out (by simp)
        · rename_i h3; rw [if_neg h3]; exact list_out (list_may ih _ _ _ (by simp) h)
      · rename_i h2
        rw [if_neg h2]
        split at h
        · rename_i h3
          rw [if_pos h3]
          unfold objectB at h ⊢
          simp only at h ⊢
          split at h
          · rename_i h4; rw [if_pos h4]; exact obj_out (m := []) (by simp) (by simp)
          · rename_i h4
            rw [if_neg h4]
            have hm := obj_may ih _ _ _ (by simp) (by simp) h
            exact obj_out hm.1 hm.2
        · rename_i h3
          rw [if_neg h3]
          split at h
          · rename_i h4; rw [if_pos h4]; exact may_wordV (text_valid s _ h)
          · rename_i h4
            rw [if_neg h4]
            split at h
            · rename_i h5; rw [if_pos h5]; exact word_may (by decide) h d
            · rename_i h5
              rw [if_neg h5]
              split at h
              · rename_i h6; rw [if_pos h6]; exact word_may (by decide) h d
              · rename_i h6
                rw [if_neg h6]
                split at h
                · rename_i h7; rw [if_pos h7]; exact word_may (by decide) h d
                · rename_i h7; rw [if_neg h7]; exact number_may h d
theorem endB_zero {s : ByteArray} {y : St} (h : (endB s y).e = 0) : y.e = 0 := Decidable.of_not_not fun h1 => by rw [endB_err h1] at h; exact h1 h
/-- what Parse leaves -/
theorem parse_may {s : ByteArray} (h : (parseB s).2 = 0) : mayJ 64 (parseB s).1 = true := by
  unfold parseB at h ⊢
  split at h
  · exact absurd h (by decide)
  · rename_i h1
    rw [if_neg h1]
    split at h
    · rename_i h2; exact absurd h h2
    · rename_i h2
      rw [if_neg h2]
      exact value_may s 64 _ (endB_zero (Decidable.of_not_not h2))
theorem parse_zeroV {s : ByteArray} (h : (parseB s).2 ≠ 0) : (parseB s).1 = zeroV := by
  unfold parseB at h ⊢
  split at h
  · rename_i h1; rw [if_pos h1]
  · rename_i h1
    rw [if_neg h1]
    split at h
    · rename_i h2; rw [if_pos h2]
    · exact absurd rfl h
end Go.Proofs.YtlihjmfdnkfmfaaGreatDoor
namespace Go.Proofs.YtlihjmfdnkfmfaaGreatDoor
open Go.RowKit Go.Lib

theorem may_text : ∀ {d : Nat} {x : JV}, mayJ d x = true → x.s.size ≤ 8000
  | 0, _, h => absurd h (by simp [mayJ])
  | d + 1, x, h => by
    cases shape_of h with
    | word k hk => exact Nat.zero_le _
    | num m hmr => exact Nat.zero_le _
    | text u hu => exact (short_len hu).2
    | list l hl => exact Nat.zero_le _
    | obj m hmm hl => exact Nat.zero_le _
theorem may_mem {d : Nat} {x : JV} (h : mayJ (d + 1) x = true) : ∀ q ∈ memsOf x, mayJ d q.2 = true := by
  intro q hq
  unfold memsOf at hq
  split at hq
  case isFalse => cases hq
  rename_i hk
  cases shape_of h with
  | word k hk' => exact absurd hq (by simp [JV.m])
  | num m hmr => exact absurd hk (by simp [numV, JV.k])
  | text u hu => exact absurd hk (by simp [wordV, JV.k])
  | list l hl => exact absurd hk (by simp [listV, JV.k])
  | obj m hmm hl => exact hl q hq
theorem getB_or (nm : ByteArray) : ∀ l : List (ByteArray × JV), (getB nm l).1 = zeroV ∨ ∃ q ∈ l, (getB nm l).1 = q.2
  | [] => .inl rfl
  | q :: l => by
    unfold getB
    split
    · exact .inr ⟨q, List.mem_cons_self .., rfl⟩
    · rcases getB_or nm l with h | ⟨r, hr, h⟩
      · exact .inl h
      · exact .inr ⟨r, List.mem_cons_of_mem _ hr, h⟩
/-- an object's text begins with a brace and ends with one -/
theorem obj_text {x : JV} (hk : x.k = 7) : ∃ l, printB 64 x = 123 :: (l ++ [125]) := by
  obtain ⟨k, n, s, l, m⟩ := x
  simp only [JV.k] at hk
  subst hk
  exact ⟨_, rfl⟩
end Go.Proofs.YtlihjmfdnkfmfaaGreatDoor
