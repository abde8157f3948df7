/- Parts of the proof: Px. -/
import Derived.Test.YtlihjmfdnkfmfaaGreatDoorZPback23
import Derived.Test.YtlihjmfdnkfmfaaGreatDoorZPback24
import Derived.Test.YtlihjmfdnkfmfaaGreatDoorZPback20
namespace Go.Proofs.YtlihjmfdnkfmfaaGreatDoor
open Go.RowKit Go.Lib

theorem sm_op (nm : ByteArray) : sm nm nm_op = (nm.toList == [111, 112]) := by unfold sm nm_op; rw [ByteArray.toList_eq (⟨#[111, 112]⟩ : ByteArray)]
theorem w64_p {x : Int} (h0 : 0 ≤ x) (h1 : x ≤ 2000000) : wrap64 x = x := by unfold wrap64; omega
theorem bel_setP {n : Nat} {w W : World} {X i : Nat} (hb : Below n w W) (hX : n ≤ X) (v : Value) : Below n w (W.setCell ⟨X, i, none⟩ v) :=
  hb.trans ⟨rfl, rfl, rfl, by simp [World.setCell], fun k hk => Below.heap_setCell _ _ _ _ (show k ≠ X by omega)⟩
/-- the members read, where the operation is known -/
def progAns (op : ByteArray) (ms : List (ByteArray × JV)) : Rq × Int :=
  if fieldsB op = [] then (zeroR, 16)
  else match progR (fieldsB op) ms { zeroR with op := op } with
    | some r => (r, 0)
    | none => (zeroR, 4)
/-- what a text is read as, and just why it is not -/
def preqB (s : ByteArray) : Rq × Int :=
  if (parseB s).2 ≠ 0 then (zeroR, (parseB s).2)
  else if (getB nm_op (memsOf (parseB s).1)).2 = false ∨ (getB nm_op (memsOf (parseB s).1)).1.k ≠ 5 then (zeroR, 4)
  else progAns (getB nm_op (memsOf (parseB s).1)).1.s (memsOf (parseB s).1)
/-- a prefix of the members read -/
theorem prog_step (f : List ByteArray) (q : ByteArray × JV) : ∀ (m : List (ByteArray × JV)) (r : Rq) (n : Nat), progLoop f (m ++ [q]) r n = match progLoop f m r n with
    | some (r', n') => progLoop f [q] r' n'
    | none => none
  | [], r, n => rfl
  | p :: m, r, n => by
    simp only [List.cons_append, progLoop]
    split
    · exact prog_step f q m r n
    · split
      · exact prog_step f q m _ _
      · rfl
theorem prog_none (f : List ByteArray) {m : List (ByteArray × JV)} {r : Rq} {n : Nat} (h : progLoop f m r n = none) : ∀ (post : List (ByteArray × JV)), progLoop f (m ++ post) r n = none
  | [] => by rw [List.append_nil]; exact h
  | q :: post => by
    have e : m ++ q :: post = (m ++ [q]) ++ post := by simp
    rw [e]
    refine prog_none f ?_ post
    rw [prog_step, h]
theorem cell1 {w : World} {B : Nat} {T : TypeId} {a0 : Value} (h : w.heap[B]? = some (.cells #[a0] T (0, 0))) : w.cell? ⟨B, 0, none⟩ = some a0 ∧ w.frozen? ⟨B, 0, none⟩ = false := by
  simp [World.cell?, World.frozen?, h]
theorem run_equalIn_func_nilP {P : Program} (w : World) (d : Nat) (t : TypeId) {ps rs : Array TypeId} {v : Bool} (f : Fn) (a b : Array Value) (h : P.underlying t = some (.func ps rs v)) : (Op.equalIn (d + 1) t (.func f a b) .nilFunc).run P w = .ok false w := by
  simp [Op.equalIn, run_underlying h]
theorem run_eql_func_nilP (w : World) (f : Fn) (a b : Array Value) : (binOp .eql 124 (.func f a b) .nilFunc).run Tryz.prog w = .ok (.bool false) w := by
  simp only [binOp]
  simp [Op.equal, Op.maxDepth, run_equalIn_func_nilP w _ 124 f a b Tryz.underlying124]
theorem two_newP (w : World) (o0 o1 : Obj) : Below w.heap.size w ((w.alloc o0).alloc o1) ∧ ((w.alloc o0).alloc o1).heap[w.heap.size]? = some o0 ∧ ((w.alloc o0).alloc o1).heap[w.heap.size + 1]? = some o1 := by
  have e0 : (w.alloc o0).heap.size = w.heap.size + 1 := Array.size_push _
  have h0 := heap_alloc_new w o0
  have h1 := heap_alloc_new (w.alloc o0) o1
  rw [e0] at h1
  have b1 := bel_alloc (Below.refl _ (w.alloc o0)) o1
  exact ⟨bel_alloc (bel_alloc (Below.refl _ _) _) _, Below.at b1 h0, h1⟩
theorem bslB {w w' : World} {F : Nat → Prop} {v : Value} {s : ByteArray} (h : BSl w F v s) (hb : Below w.heap.size w w') : BSl w' F v s := by
  rcases h with ⟨b, o, c, rfl, hF, hc⟩ | h
  · exact .inl ⟨b, o, c, rfl, hF, fun i hi => cell_later' hb (hc i hi)⟩
  · exact .inr h
set_option maxHeartbeats 4000000 in
/-- both results written -/
theorem fin_heap {w W : World} {X E : Nat} {T T' : TypeId} {b0 b1 b2 b3 b4 b5 b6 b7 b8 b9 b10 u0 : Value} (a0 a1 a2 a3 a4 a5 a6 a7 a8 a9 a10 ev : Value) (hX : W.heap[X]? = some (.cells #[b0, b1, b2, b3, b4, b5, b6, b7, b8, b9, b10] T (0, 0))) (hE : W.heap[E]? = some (.cells #[u0] T' (0, 0))) (hne : X ≠ E) (h1 : w.heap.size ≤ X) (h2 : w.heap.size ≤ E) (hb : Below w.heap.size w W) :
    ((((((((((((W.setCell ⟨X, 0, none⟩ (a0)).setCell ⟨X, 1, none⟩ (a1)).setCell ⟨X, 2, none⟩ (a2)).setCell ⟨X, 3, none⟩ (a3)).setCell ⟨X, 4, none⟩ (a4)).setCell ⟨X, 5, none⟩ (a5)).setCell ⟨X, 6, none⟩ (a6)).setCell ⟨X, 7, none⟩ (a7)).setCell ⟨X, 8, none⟩ (a8)).setCell ⟨X, 9, none⟩ (a9)).setCell ⟨X, 10, none⟩ (a10)).setCell ⟨E, 0, none⟩ (ev)).heap[X]? = some (.cells #[a0, a1, a2, a3, a4, a5, a6, a7, a8, a9, a10] T (0, 0)) ∧ ((((((((((((W.setCell ⟨X, 0, none⟩ (a0)).setCell ⟨X, 1, none⟩ (a1)).setCell ⟨X, 2, none⟩ (a2)).setCell ⟨X, 3, none⟩ (a3)).setCell ⟨X, 4, none⟩ (a4)).setCell ⟨X, 5, none⟩ (a5)).setCell ⟨X, 6, none⟩ (a6)).setCell ⟨X, 7, none⟩ (a7)).setCell ⟨X, 8, none⟩ (a8)).setCell ⟨X, 9, none⟩ (a9)).setCell ⟨X, 10, none⟩ (a10)).setCell ⟨E, 0, none⟩ (ev)).heap[E]? = some (.cells #[ev] T' (0, 0)) ∧ Below w.heap.size w ((((((((((((W.setCell ⟨X, 0, none⟩ (a0)).setCell ⟨X, 1, none⟩ (a1)).setCell ⟨X, 2, none⟩ (a2)).setCell ⟨X, 3, none⟩ (a3)).setCell ⟨X, 4, none⟩ (a4)).setCell ⟨X, 5, none⟩ (a5)).setCell ⟨X, 6, none⟩ (a6)).setCell ⟨X, 7, none⟩ (a7)).setCell ⟨X, 8, none⟩ (a8)).setCell ⟨X, 9, none⟩ (a9)).setCell ⟨X, 10, none⟩ (a10)).setCell ⟨E, 0, none⟩ (ev)) ∧ ∀ D, KeepsFrom D W ((((((((((((W.setCell ⟨X, 0, none⟩ (a0)).setCell ⟨X, 1, none⟩ (a1)).setCell ⟨X, 2, none⟩ (a2)).setCell ⟨X, 3, none⟩ (a3)).setCell ⟨X, 4, none⟩ (a4)).setCell ⟨X, 5, none⟩ (a5)).setCell ⟨X, 6, none⟩ (a6)).setCell ⟨X, 7, none⟩ (a7)).setCell ⟨X, 8, none⟩ (a8)).setCell ⟨X, 9, none⟩ (a9)).setCell ⟨X, 10, none⟩ (a10)).setCell ⟨E, 0, none⟩ (ev)) := by
  have kp : ∀ (Y : World) (i : Nat) (v : Value), (∀ D, KeepsFrom D W Y) → ∀ D, KeepsFrom D W (Y.setCell ⟨X, i, none⟩ v) := fun Y i v h D => (h D).trans ((KeepsOthers.setCell Y _ v).from D)
  have st : ∀ (Y : World) (cs : Array Value) (i : Nat) (v : Value), Y.heap[X]? = some (.cells cs T (0, 0)) → (Y.setCell ⟨X, i, none⟩ v).heap[X]? = some (.cells (cs.setIfInBounds i v) T (0, 0)) := fun Y cs i v h => heap_setCell_row h
  have ke : ∀ (Y : World) (i : Nat) (v : Value), Y.heap[E]? = some (.cells #[u0] T' (0, 0)) → (Y.setCell ⟨X, i, none⟩ v).heap[E]? = some (.cells #[u0] T' (0, 0)) := fun Y i v h => (Below.heap_setCell Y ⟨X, i, none⟩ v E (Ne.symm hne)).trans h
  have sb : ∀ (Y : World) (i : Nat) (v : Value), Below w.heap.size w Y → Below w.heap.size w (Y.setCell ⟨X, i, none⟩ v) := fun Y i v h => bel_set (p := ⟨X, i, none⟩) h h1 v
  have x0 := st W _ 0 a0 hX
  have y0 := ke W 0 a0 hE
  have z0 := sb W 0 a0 hb
  have m0 := kp W 0 a0 (fun D => KeepsFrom.refl D W)
  generalize W.setCell ⟨X, 0, none⟩ a0 = Y0 at *
  have x1 := st Y0 _ 1 a1 x0
  have y1 := ke Y0 1 a1 y0
  have z1 := sb Y0 1 a1 z0
  have m1 := kp Y0 1 a1 m0
  generalize Y0.setCell ⟨X, 1, none⟩ a1 = Y1 at *
  have x2 := st Y1 _ 2 a2 x1
  have y2 := ke Y1 2 a2 y1
  have z2 := sb Y1 2 a2 z1
  have m2 := kp Y1 2 a2 m1
  generalize Y1.setCell ⟨X, 2, none⟩ a2 = Y2 at *
  have x3 := st Y2 _ 3 a3 x2
  have y3 := ke Y2 3 a3 y2
  have z3 := sb Y2 3 a3 z2
  have m3 := kp Y2 3 a3 m2
  generalize Y2.setCell ⟨X, 3, none⟩ a3 = Y3 at *
  have x4 := st Y3 _ 4 a4 x3
  have y4 := ke Y3 4 a4 y3
  have z4 := sb Y3 4 a4 z3
  have m4 := kp Y3 4 a4 m3
  generalize Y3.setCell ⟨X, 4, none⟩ a4 = Y4 at *
  have x5 := st Y4 _ 5 a5 x4
  have y5 := ke Y4 5 a5 y4
  have z5 := sb Y4 5 a5 z4
  have m5 := kp Y4 5 a5 m4
  generalize Y4.setCell ⟨X, 5, none⟩ a5 = Y5 at *
  have x6 := st Y5 _ 6 a6 x5
  have y6 := ke Y5 6 a6 y5
  have z6 := sb Y5 6 a6 z5
  have m6 := kp Y5 6 a6 m5
  generalize Y5.setCell ⟨X, 6, none⟩ a6 = Y6 at *
  have x7 := st Y6 _ 7 a7 x6
  have y7 := ke Y6 7 a7 y6
  have z7 := sb Y6 7 a7 z6
  have m7 := kp Y6 7 a7 m6
  generalize Y6.setCell ⟨X, 7, none⟩ a7 = Y7 at *
  have x8 := st Y7 _ 8 a8 x7
  have y8 := ke Y7 8 a8 y7
  have z8 := sb Y7 8 a8 z7
  have m8 := kp Y7 8 a8 m7
  generalize Y7.setCell ⟨X, 8, none⟩ a8 = Y8 at *
  have x9 := st Y8 _ 9 a9 x8
  have y9 := ke Y8 9 a9 y8
  have z9 := sb Y8 9 a9 z8
  have m9 := kp Y8 9 a9 m8
  generalize Y8.setCell ⟨X, 9, none⟩ a9 = Y9 at *
  have x10 := st Y9 _ 10 a10 x9
  have y10 := ke Y9 10 a10 y9
  have z10 := sb Y9 10 a10 z9
  have m10 := kp Y9 10 a10 m9
  generalize Y9.setCell ⟨X, 10, none⟩ a10 = Y10 at *
  refine ⟨(Below.heap_setCell _ _ _ _ (show X ≠ E from hne)).trans (by simpa using x10), by simpa using heap_setCell_row (i := 0) (v := ev) y10, bel_set (p := ⟨E, 0, none⟩) z10 h2 ev, fun D => (m10 D).trans ((KeepsOthers.setCell Y10 _ ev).from D)⟩
theorem res_both {W : World} {X E : Nat} {r : Rq} {ev : Int} {tmps : Array Value} (hX : W.heap[X]? = some (.cells (rqC r) 24 (0, 0))) (hE : W.heap[E]? = some (.cells #[.int .i64 ev] 27 (0, 0))) (h2 : tmps.getD 2 undef = .pointer (some ⟨X, 0, none⟩)) (h3 : tmps.getD 3 undef = .pointer (some ⟨E, 0, none⟩)) :
    (results Tryz.f13 tmps).run Tryz.prog W = .ok (.tuple #[.agg (rqC r), .int .i64 ev]) W := by
  have h2' : tmps[2]?.getD undef = .pointer (some ⟨X, 0, none⟩) := by simpa using h2
  have h3' : tmps[3]?.getD undef = .pointer (some ⟨E, 0, none⟩) := by simpa using h3
  obtain ⟨⟨r0, r1, r2, r3, r4, r5, r6, r7, r8, r9, r10⟩, _⟩ := RqAt.cells (show RqAt X r W from hX)
  obtain ⟨h5, _⟩ := cell1 hE
  simp [results, Tryz.f13, h2', h3', asAddr, r0, r1, r2, r3, r4, r5, r6, r7, r8, r9, r10, h5, rqC, go_sem]
/-- how far the members are read -/
def PxI (op : ByteArray) (w : World) (X8 X9 : Nat) (vs : Value) (pre : List (ByteArray × JV)) (W : World) : Prop := ∃ (r : Rq) (k : Nat), progLoop (fieldsB op) pre { zeroR with op := op } 0 = some (r, k) ∧ k ≤ pre.length ∧
  W.heap[w.heap.size]? = some (.cells #[.string ⟨#[]⟩, .string ⟨#[]⟩, .string ⟨#[]⟩, .string ⟨#[]⟩, .string ⟨#[]⟩, .int .i64 0, .int .i64 0, .int .i64 0, .int .i64 0, .int .i64 0, .bool false] 24 (0, 0)) ∧ W.heap[w.heap.size + 1]? = some (.cells #[.int .i64 0] 27 (0, 0)) ∧ W.heap[X8]? = some (.cells #[vs] 37 (0, 0)) ∧ Sl strTy W (fun b => b < X9) vs (fieldsB op) ∧ RqAt X9 r W ∧
  W.heap[X9 + 1]? = some (.cells #[.int .i64 (k : Int)] 3 (0, 0)) ∧ Below w.heap.size w W
def PxX (op : ByteArray) (w : World) (pre : List (ByteArray × JV)) (W : World) : Prop := progLoop (fieldsB op) pre { zeroR with op := op } 0 = none ∧ W.heap[w.heap.size]? = some (.cells #[.string ⟨#[]⟩, .string ⟨#[]⟩, .string ⟨#[]⟩, .string ⟨#[]⟩, .string ⟨#[]⟩, .int .i64 0, .int .i64 0, .int .i64 0, .int .i64 0, .int .i64 0, .bool false] 24 (0, 0)) ∧ W.heap[w.heap.size + 1]? = some (.cells #[.int .i64 4] 27 (0, 0)) ∧ Below w.heap.size w W
theorem PxI.later {op : ByteArray} {w X Y : World} {X8 X9 : Nat} {vs : Value} {pre : List (ByteArray × JV)} (h : PxI op w X8 X9 vs pre X) (hb : Below X.heap.size X Y) : PxI op w X8 X9 vs pre Y := by
  obtain ⟨r, k, h1, h2, h3, h4, h5, h6, h7, h8, h9⟩ := h
  exact ⟨r, k, h1, h2, Below.at hb h3, Below.at hb h4, Below.at hb h5, h6.below hb, RqAt.later h7 hb, Below.at hb h8, bel_trans h9 hb⟩
theorem PxI.put {op : ByteArray} {w X : World} {X8 X9 l : Nat} {vs : Value} {pre : List (ByteArray × JV)} (h : PxI op w X8 X9 vs pre X) (h0 : w.heap.size + 1 < X8) (h1 : X8 < X9) (h2 : X9 + 1 < l) (o : Obj) : PxI op w X8 X9 vs pre (X.putObj l o) := by
  obtain ⟨r, k, q1, q2, q3, q4, q5, q6, q7, q8, q9⟩ := h
  exact ⟨r, k, q1, q2, (World.putObj_heap_other (by omega)).trans q3, (World.putObj_heap_other (by omega)).trans q4, (World.putObj_heap_other (by omega)).trans q5, q6.frame (fun b hb => World.putObj_heap_other (by omega)), (World.putObj_heap_other (by omega)).trans q7, (World.putObj_heap_other (by omega)).trans q8, q9.trans (below_putObj (by omega) _)⟩
theorem PxX.put {op : ByteArray} {w X : World} {l : Nat} {pre : List (ByteArray × JV)} (h : PxX op w pre X) (h2 : w.heap.size + 1 < l) (o : Obj) : PxX op w pre (X.putObj l o) :=
  ⟨h.1, (World.putObj_heap_other (by omega)).trans h.2.1, (World.putObj_heap_other (by omega)).trans h.2.2.1, h.2.2.2.trans (below_putObj (by omega) _)⟩
/-- what is read is read -/
def PqRes (s : ByteArray) (w : World) (e : Ending) (w' : World) : Prop := e = .returned (.tuple #[.agg (rqC (preqB s).1), .int .i64 (preqB s).2]) ∧ Below w.heap.size w w'
set_option maxRecDepth 100000 in
set_option maxHeartbeats 16000000 in
theorem pparse_any (s : ByteArray) (v : Value) (F : Nat → Prop) (w : World) (hT : Tabs w) (hs : BSl w F v s) :
    Calls Tryz.prog 13 #[v] w (PqRes s w) := by
  obtain ⟨V, ev, hV⟩ : ∃ V ev, parseB s = (V, ev) := ⟨_, _, rfl⟩
  have hln : LnJ V := by have := parse_lnR s; rw [hV] at this; exact this
  obtain ⟨o, bo, ho⟩ : ∃ o b, getB nm_op (memsOf V) = (o, b) := ⟨_, _, rfl⟩
  have hpr : preqB s = if ev ≠ 0 then (zeroR, ev) else if bo = false ∨ o.k ≠ 5 then (zeroR, 4) else progAns o.s (memsOf V) := by unfold preqB; rw [hV]; simp only [ho]
  have hp := fun W (hW : Below w.heap.size w W) => parse_any s v F W (hT.below hW) (bslB hs hW)
  unfold PRes at hp
  simp only [hV] at hp
  have H2 := Lib.hid (two_newP w (.cells #[.string ⟨#[]⟩, .string ⟨#[]⟩, .string ⟨#[]⟩, .string ⟨#[]⟩, .string ⟨#[]⟩, .int .i64 0, .int .i64 0, .int .i64 0, .int .i64 0, .int .i64 0, .bool false] 24) (.cells #[.int .i64 0] 27))
  obtain ⟨Av, cv, rfl⟩ := hs.form
  have HP := Lib.hid hp; have HPR := Lib.hid hpr; have HL := Lib.hid hln; have HO := Lib.hid ho; have HT := Lib.hid hT; have HV := Lib.hid hV
  clear hp hpr hln ho hT hV hs
  unfold PqRes
  generalize preqB s = R at *
  refine (callsIn_wide (n := 4)).1 (callsIn_of_wp_marks Tryz.func13 rfl trivial ?_ rfl)
  simp only [Tryz.ntmps13, List.size_toArray, List.length_cons, List.length_nil, Nat.reduceAdd, Nat.reduceSub, Array.replicate_succ, Array.replicate_zero, List.push_toArray, List.append_toArray, List.nil_append, List.cons_append]
  refine wpIn_wide.2 ?_
  have hnil := fun W a b => run_eql_func_nilP W (.func 100) a b
  go_upto_region 1 with (fail)
  generalize (w.alloc (.cells #[.string ⟨#[]⟩, .string ⟨#[]⟩, .string ⟨#[]⟩, .string ⟨#[]⟩, .string ⟨#[]⟩, .int .i64 0, .int .i64 0, .int .i64 0, .int .i64 0, .int .i64 0, .bool false] 24)).alloc (.cells #[.int .i64 0] 27) = W0 at *
  have HB := Lib.hid H2.out.1; have HR := Lib.hid H2.out.2.1; have HE := Lib.hid H2.out.2.2
  clear H2
  go_wp2_with fail
  refine Calls.mono (HP.out _ HB.out) ?_
  rintro e u ⟨A1, n1, c1, A2, n2, c2, rfl, hj, hb⟩
  obtain ⟨rfl, rfl⟩ := jr_lensR hj
  have hA2 := bel_alloc (Below.refl u.heap.size u) (.cells #[.int .i64 V.k, .int .i64 V.n, .string V.s, .slice A1 V.l.length c1, .slice A2 V.m.length c2] 43)
  have hb2 := bel_trans hb hA2
  have HB2 := Lib.hid (bel_trans HB.out hb2); have HR2 := Lib.hid (Below.at hb2 HR.out); have HE2 := Lib.hid (Below.at hb2 HE.out)
  have HC := Lib.hid (heap_alloc_new u (.cells #[.int .i64 V.k, .int .i64 V.n, .string V.s, .slice A1 V.l.length c1, .slice A2 V.m.length c2] 43)); have HJ := Lib.hid (JR_mono (fun _ _ => trivial) _ _ (JR_later hj hA2))
  have HX4 := Lib.hid (show w.heap.size + 1 < u.heap.size from (Array.getElem?_eq_some_iff.1 (Below.at hb HE.out)).1)
  clear hA2 hb2 hb hj HB HR HE HP
  go_upto_region 2 with (fail)
  generalize u.heap.size = X4 at *
  generalize u.alloc (.cells #[.int .i64 V.k, .int .i64 V.n, .string V.s, .slice A1 V.l.length c1, .slice A2 V.m.length c2] 43) = W4 at *
  by_cases hev : ev = 0
  case neg =>
    have hne : (ev != 0) = true := by simpa using hev
    obtain rfl : R = (zeroR, ev) := by rw [HPR.out, if_pos hev]
    have hf := fun e => fin_heap (w := w) (.string ⟨#[]⟩) (.string ⟨#[]⟩) (.string ⟨#[]⟩) (.string ⟨#[]⟩) (.string ⟨#[]⟩) (.int .i64 0) (.int .i64 0) (.int .i64 0) (.int .i64 0) (.int .i64 0) (.bool false) (.int .i64 e) HR2.out HE2.out (by omega) (Nat.le_refl _) (Nat.le_succ _) HB2.out
    have HF := Lib.hid hf
    obtain ⟨⟨r0, r1, r2, r3, r4, r5, r6, r7, r8, r9, r10⟩, ⟨f0, f1, f2, f3, f4, f5, f6, f7, f8, f9, f10⟩, _⟩ := RqAt.cells (r := zeroR) HR2.out
    obtain ⟨e0, ef⟩ := cell1 HE2.out
    clear hf hev HPR
    go_wp2_with fail
    exact ⟨.tuple #[.agg (rqC zeroR), .int .i64 ev], res_both (r := zeroR) (HF.out ev).1 (HF.out ev).2.1 rfl rfl, rfl, (HF.out ev).2.2.1⟩
  case pos =>
    subst hev
    obtain ⟨⟨v0, v1, v2, v3, v4⟩, _, hV3⟩ := cells5 HC.out
    have hcl := get_callR V nm_op _ _ W4 HO.out HL.out HJ.out
    have HCL := Lib.hid hcl
    clear hcl
    go_wp2_with fail
    refine Calls.mono HCL.out ?_
    rintro e y ⟨D1, i1, e1, D2, i2, e2, rfl, _, hb⟩
    have hA2 := bel_alloc (Below.refl y.heap.size y) (.cells #[.int .i64 o.k, .int .i64 o.n, .string o.s, .slice D1 i1 e1, .slice D2 i2 e2] 43)
    have hb2 := bel_trans hb hA2
    have HB3 := Lib.hid (bel_trans HB2.out hb2); have HR3 := Lib.hid (Below.at hb2 HR2.out); have HE3 := Lib.hid (Below.at hb2 HE2.out); have HC3 := Lib.hid (Below.at hb2 HC.out); have HJ3 := Lib.hid (JR_later HJ.out hb2)
    have HO3 := Lib.hid (heap_alloc_new y (.cells #[.int .i64 o.k, .int .i64 o.n, .string o.s, .slice D1 i1 e1, .slice D2 i2 e2] 43))
    have HX6 := Lib.hid (show X4 < y.heap.size from Nat.lt_of_lt_of_le hV3 hb.size)
    clear hA2 hb2 hb HB2 HR2 HE2 HC HJ HCL v0 v1 v2 v3 v4 hV3
    go_upto_region 5 with (fail)
    generalize y.heap.size = X6 at *
    generalize y.alloc (.cells #[.int .i64 o.k, .int .i64 o.n, .string o.s, .slice D1 i1 e1, .slice D2 i2 e2] 43) = W6 at *
    obtain ⟨⟨v0, v1, v2, v3, v4⟩, _, hV3⟩ := cells5 HO3.out
    have hf := fun e => fin_heap (w := w) (.string ⟨#[]⟩) (.string ⟨#[]⟩) (.string ⟨#[]⟩) (.string ⟨#[]⟩) (.string ⟨#[]⟩) (.int .i64 0) (.int .i64 0) (.int .i64 0) (.int .i64 0) (.int .i64 0) (.bool false) (.int .i64 e) HR3.out HE3.out (by omega) (Nat.le_refl _) (Nat.le_succ _) HB3.out
    have HF := Lib.hid hf
    clear hf
    by_cases hbad : bo = false ∨ o.k ≠ 5
    case pos =>
      obtain rfl : R = (zeroR, 4) := by rw [HPR.out, if_neg (by simp), if_pos hbad]
      obtain ⟨⟨r0, r1, r2, r3, r4, r5, r6, r7, r8, r9, r10⟩, ⟨f0, f1, f2, f3, f4, f5, f6, f7, f8, f9, f10⟩, _⟩ := RqAt.cells (r := zeroR) HR3.out
      obtain ⟨e0, ef⟩ := cell1 HE3.out
      clear HPR
      cases bo with
      | false =>
        clear hbad
        go_wp2_with fail
        exact ⟨.tuple #[.agg (rqC zeroR), .int .i64 4], res_both (r := zeroR) (HF.out 4).1 (HF.out 4).2.1 rfl rfl, rfl, (HF.out 4).2.2.1⟩
      | true =>
        have hne : (o.k != 5) = true := by rcases hbad with h | h; cases h; simpa using h
        clear hbad
        go_wp2_with fail
        exact ⟨.tuple #[.agg (rqC zeroR), .int .i64 4], res_both (r := zeroR) (HF.out 4).1 (HF.out 4).2.1 rfl rfl, rfl, (HF.out 4).2.2.1⟩
    case neg =>
      obtain rfl : bo = true := by cases bo; exact absurd (.inl rfl) hbad; rfl
      have hk5 : o.k = 5 := by by_cases h : o.k = 5; exact h; exact absurd (.inr h) hbad
      have hne : (o.k != 5) = false := by rw [hk5]; rfl
      have hpr2 : R = progAns o.s (memsOf V) := by rw [HPR.out, if_neg (by simp), if_neg hbad]
      have HPR2 := Lib.hid hpr2
      clear hpr2 HPR hbad hk5
      go_wp2_with fail
      refine Calls.mono (fields_any _ _) ?_
      rintro e q ⟨⟨vf, rfl, hsl⟩, hb⟩
      obtain ⟨Af, cf, rfl⟩ := hsl.form
      have hln2 := hsl
      have HX8 := Lib.hid (Nat.lt_of_lt_of_le hV3 hb.size)
      have hA2 := bel_alloc (Below.refl q.heap.size q) (.cells #[.slice Af (fieldsB o.s).length cf] 37)
      have hb2 := bel_trans hb hA2
      have HB4 := Lib.hid (bel_trans HB3.out hb2); have HR4 := Lib.hid (Below.at hb2 HR3.out); have HE4 := Lib.hid (Below.at hb2 HE3.out); have HC4 := Lib.hid (Below.at hb2 HC3.out); have HJ4 := Lib.hid (JR_later HJ3.out hb2); have HO4 := Lib.hid (Below.at hb2 HO3.out)
      have HS4 := Lib.hid (heap_alloc_new q (.cells #[.slice Af (fieldsB o.s).length cf] 37)); have HSL := Lib.hid (hsl.below hA2)
      clear hln2 hA2 hb2 hb HB3 HR3 HE3 HC3 HJ3 HO3 hsl HF v0 v1 v2 v3 v4 hV3
      go_upto_region 8 with (fail)
      generalize q.heap.size = X8 at *
      generalize q.alloc (.cells #[.slice Af (fieldsB o.s).length cf] 37) = W8 at *
      obtain ⟨g0, _⟩ := cell1 HS4.out
      obtain ⟨nf, hnf⟩ : ∃ nf, (fieldsB o.s).length = nf := ⟨_, rfl⟩
      have hs4 := HS4.out
      rw [hnf] at g0 HSL hs4
      have HS4 := Lib.hid hs4
      clear hs4
      have HNF := Lib.hid hnf
      clear hnf
      cases hz : decide (nf = 0) with
      | true =>
        have hz0 : nf = 0 := of_decide_eq_true hz
        obtain rfl : R = (zeroR, 16) := by rw [HPR2.out]; unfold progAns; rw [if_pos (List.eq_nil_of_length_eq_zero (HNF.out.trans hz0))]
        have hz1 : ((nf : Int) == 0) = true := by rw [hz0]; rfl
        have hf := fun e => fin_heap (w := w) (.string ⟨#[]⟩) (.string ⟨#[]⟩) (.string ⟨#[]⟩) (.string ⟨#[]⟩) (.string ⟨#[]⟩) (.int .i64 0) (.int .i64 0) (.int .i64 0) (.int .i64 0) (.int .i64 0) (.bool false) (.int .i64 e) HR4.out HE4.out (by omega) (Nat.le_refl _) (Nat.le_succ _) HB4.out
        have HF := Lib.hid hf
        obtain ⟨⟨r0, r1, r2, r3, r4, r5, r6, r7, r8, r9, r10⟩, ⟨f0, f1, f2, f3, f4, f5, f6, f7, f8, f9, f10⟩, _⟩ := RqAt.cells (r := zeroR) HR4.out
        obtain ⟨e0, ef⟩ := cell1 HE4.out
        clear hf HPR2 hz hz0
        go_wp2_with fail
        exact ⟨.tuple #[.agg (rqC zeroR), .int .i64 16], res_both (r := zeroR) (HF.out 16).1 (HF.out 16).2.1 rfl rfl, rfl, (HF.out 16).2.2.1⟩
      | false =>
        have hz0 : nf ≠ 0 := of_decide_eq_false hz
        have hz1 : ((nf : Int) == 0) = false := by simpa using hz0
        have hpr2 : R = match progR (fieldsB o.s) (memsOf V) { zeroR with op := o.s } with
            | some r => (r, 0)
            | none => (zeroR, 4) := by rw [HPR2.out]; unfold progAns; rw [if_neg (fun h => hz0 (by rw [← HNF.out, h]; rfl))]
        have HPR3 := Lib.hid hpr2
        have HZ := Lib.hid hz0
        obtain ⟨⟨v0, v1, v2, v3, v4⟩, _, hV3⟩ := cells5 HO4.out
        clear hz hz0 hpr2 HPR2 v0 v1 v3 v4
        have H10 := Lib.hid (two_newP W8 (.cells #[.string o.s, .string ⟨#[]⟩, .string ⟨#[]⟩, .string ⟨#[]⟩, .string ⟨#[]⟩, .int .i64 0, .int .i64 0, .int .i64 0, .int .i64 0, .int .i64 0, .bool false] 24) (.cells #[.int .i64 0] 3))
        go_upto_region 12 with (fail)
        have hz8 := (Array.getElem?_eq_some_iff.1 HS4.out).1
        have HB5 := Lib.hid (bel_trans HB4.out H10.out.1); have HR5 := Lib.hid (Below.at H10.out.1 HR4.out); have HE5 := Lib.hid (Below.at H10.out.1 HE4.out); have HC5 := Lib.hid (Below.at H10.out.1 HC4.out); have HJ5 := Lib.hid (JR_later HJ4.out H10.out.1); have HS5 := Lib.hid (Below.at H10.out.1 HS4.out); have HSL5 := Lib.hid (HSL.out.below H10.out.1)
        have HQ5 := Lib.hid (show RqAt W8.heap.size { zeroR with op := o.s } _ from H10.out.2.1); have HN5 := Lib.hid H10.out.2.2
        have HX9 := Lib.hid hz8
        have HSB := Lib.hid ((HSL.out.bound).mono (F' := fun b => b < W8.heap.size) (fun _ h => h.2)); have HJB := Lib.hid (JR_mono (F' := fun b => b < W8.heap.size) (fun _ h => h.2) _ _ (JR_bound _ _ HJ4.out)); have HSBn := Lib.hid (HSB.out.below H10.out.1); have HJBn := Lib.hid (JR_later HJB.out H10.out.1)
        clear H10 HB4 HR4 HE4 HC4 HJ4 HS4 HSL hV3 hz8 g0 v2
        generalize (W8.alloc (.cells #[.string o.s, .string ⟨#[]⟩, .string ⟨#[]⟩, .string ⟨#[]⟩, .string ⟨#[]⟩, .int .i64 0, .int .i64 0, .int .i64 0, .int .i64 0, .int .i64 0, .bool false] 24)).alloc (.cells #[.int .i64 0] 3) = W10 at *
        generalize W8.heap.size = X9 at *
        obtain ⟨⟨v0, v1, v2, v3, v4⟩, _, hV3⟩ := cells5 HC5.out
        go_wp2_with fail
        refine Calls.mono (members_any V A1 c1 A2 c2 _) ?_
        rintro e w1 ⟨rfl, rfl⟩
        have hbB := bel_alloc (Below.refl W10.heap.size W10) (.cells #[.int .i64 V.k, .int .i64 V.n, .string V.s, .slice A1 V.l.length c1, .slice A2 V.m.length c2] 43)
        have hbx := heap_alloc_new W10 (.cells #[.int .i64 V.k, .int .i64 V.n, .string V.s, .slice A1 V.l.length c1, .slice A2 V.m.length c2] 43)
        have hs9 := (Array.getElem?_eq_some_iff.1 HN5.out).1
        have h0 : PxI o.s w X8 X9 (.slice Af nf cf) [] (W10.alloc (.cells #[.int .i64 V.k, .int .i64 V.n, .string V.s, .slice A1 V.l.length c1, .slice A2 V.m.length c2] 43)) := ⟨_, 0, rfl, Nat.le_refl _, Below.at hbB HR5.out, Below.at hbB HE5.out, Below.at hbB HS5.out, HSBn.out.below hbB, HQ5.out.later hbB, Below.at hbB HN5.out, bel_trans HB5.out hbB⟩
        have hbnd := JR_later HJBn.out hbB
        have hsz : (W10.alloc (.cells #[.int .i64 V.k, .int .i64 V.n, .string V.s, .slice A1 V.l.length c1, .slice A2 V.m.length c2] 43)).heap.size = W10.heap.size + 1 := World.size_alloc _ _
        have hmseq := fun m => members_seq m V A1 c1 A2 c2 (fun b => b < X9) _ X9 (W10.alloc (.cells #[.int .i64 V.k, .int .i64 V.n, .string V.s, .slice A1 V.l.length c1, .slice A2 V.m.length c2] 43)) (by omega) (fun _ hb => hb) hbx hbnd HL.out
        have hs10 : X9 + 1 < W10.heap.size := hs9
        clear hs9
        have hs9 := hs10
        generalize W10.alloc (.cells #[.int .i64 V.k, .int .i64 V.n, .string V.s, .slice A1 V.l.length c1, .slice A2 V.m.length c2] 43) = W11 at *
        generalize W10.heap.size = Bv at *
        have H0 := Lib.hid h0; have HSZ := Lib.hid hsz; have HS9 := Lib.hid hs9; have HMS := Lib.hid hmseq
        have HLM := Lib.hid (show (memsOf V).length ≤ 1000000 by
          unfold memsOf
          split
          · exact ((LnJ_iff V).1 HL.out).1.2
          · simp)
        clear hbB hbx h0 hbnd hsz hs9 hs10 hmseq v0 v1 v2 v3 v4 hV3
        go_wp2_with fail
        refine (wpIn_wide (n := 4)).1 (range_members (n := 4) (n₀ := X9) (by have := HSZ.out; have := HS9.out; omega) (by decide) rfl (enters_of Tryz.func100 (by kernel_rfl) rfl) (HMS.out _) rfl
          (fun pre W => PxI o.s w X8 X9 (.slice Af nf cf) pre W) (fun c pre W => c = .ret ∧ PxX o.s w pre W)
          (fun s X Y h hb => h.later hb) (fun s X ob h => h.put (by have := HX4.out; have := HX6.out; have := HX8.out; omega) HX9.out (by have := HSZ.out; have := HS9.out; omega) ob)
          (fun c s X ob h => ⟨h.1, h.2.put (by have := HX4.out; have := HX6.out; have := HX8.out; have := HX9.out; have := HSZ.out; have := HS9.out; omega) ob⟩) H0.out
          (fun nm y A3 n3 c3 A4 n4 c4 a' W => ∃ Bx, Bv + 2 < Bx ∧ W.heap[Bx]? = some (.cells #[.int .i64 y.k, .int .i64 y.n, .string y.s, .slice A3 n3 c3, .slice A4 n4 c4] 43 (0, 0)) ∧
            a' = { tmps := #[.slice Av s.size cv, undef, .pointer (some ⟨w.heap.size, 0, none⟩), .pointer (some ⟨w.heap.size + 1, 0, none⟩), .pointer (some ⟨X4, 0, none⟩), .int .i64 0, .pointer (some ⟨X6, 0, none⟩), .bool true, .pointer (some ⟨X8, 0, none⟩), .pointer (some ⟨X9, 0, none⟩), .pointer (some ⟨X9 + 1, 0, none⟩), .string nm, .pointer (some ⟨Bx, 0, none⟩), .tuple #[.agg #[.int .i64 V.k, .int .i64 V.n, .string V.s, .slice A1 V.l.length c1, .slice A2 V.m.length c2], .int .i64 0], .slice Av s.size cv, .tuple #[.agg #[.int .i64 V.k, .int .i64 V.n, .string V.s, .slice A1 V.l.length c1, .slice A2 V.m.length c2], .int .i64 0], .agg #[.int .i64 V.k, .int .i64 V.n, .string V.s, .slice A1 V.l.length c1, .slice A2 V.m.length c2], .int .i64 0, .int .i64 0, .bool false, undef, undef, .tuple #[.agg #[.int .i64 o.k, .int .i64 o.n, .string o.s, .slice D1 i1 e1, .slice D2 i2 e2], .bool true], .agg #[.int .i64 V.k, .int .i64 V.n, .string V.s, .slice A1 V.l.length c1, .slice A2 V.m.length c2], .tuple #[.agg #[.int .i64 o.k, .int .i64 o.n, .string o.s, .slice D1 i1 e1, .slice D2 i2 e2], .bool true], .agg #[.int .i64 o.k, .int .i64 o.n, .string o.s, .slice D1 i1 e1, .slice D2 i2 e2], .bool true, .bool true, .bool false, .bool false, .pointer (some ⟨X6, 0, none⟩), .int .i64 o.k, .bool false, .bool false, undef, .pointer (some ⟨X6, 2, none⟩), .string o.s, .slice Af (fieldsB o.s).length cf, .slice Af nf cf, .int .i64 nf, .bool false, undef, .pointer (some ⟨X6, 2, none⟩), .string o.s, .agg #[.string o.s, .string ⟨#[]⟩, .string ⟨#[]⟩, .string ⟨#[]⟩, .string ⟨#[]⟩, .int .i64 0, .int .i64 0, .int .i64 0, .int .i64 0, .int .i64 0, .bool false], .agg #[.int .i64 V.k, .int .i64 V.n, .string V.s, .slice A1 V.l.length c1, .slice A2 V.m.length c2], .func (.func 100) #[] #[.pointer (some ⟨Bv, 0, none⟩)], .string nm, .agg #[.int .i64 y.k, .int .i64 y.n, .string y.s, .slice A3 n3 c3, .slice A4 n4 c4], undef, undef, undef, undef, undef, undef, undef, undef, undef, undef, undef, undef, undef, undef, undef, undef, undef, undef, undef, undef, undef], defers := [] })
          (fun nm y A3 n3 c3 A4 n4 c4 a' X ob h => by
            obtain ⟨Bx, h1, h2, h3⟩ := h
            exact ⟨Bx, h1, (World.putObj_heap_other (by have := HSZ.out; omega)).trans h2, h3⟩)
          ?assign ?body ?done ?stop)
        case assign =>
          intro pre nm y A3 n3 c3 A4 n4 c4 B Wp W K hip _ hpb hB hlt hjr hK
          have hsem := Oper.semAt_some (W11.heap.size + 1)
          gi_wp2
          have hba := bel_alloc (Below.refl W.heap.size W) (.cells #[.int .i64 y.k, .int .i64 y.n, .string y.s, .slice A3 n3 c3, .slice A4 n4 c4] 43)
          have hbp := bel_trans hpb hba
          exact hK _ _ ((KeepsOthers.alloc _ _).from _) (hba.mono (by have := HSZ.out; have := HS9.out; omega)) (hip.later hbp) ⟨W.heap.size, by have := HSZ.out; omega, heap_alloc_new W _, rfl⟩
        case body =>
          rintro pre post nm y A3 n3 c3 A4 n4 c4 a' W hi hlt ⟨Bx, hBx, hbx, rfl⟩ hms
          obtain ⟨r, k, q1, q2, q3, q4, q5, q6, q7, q8, q9⟩ := hi
          have hsem := Oper.semAt_some (W11.heap.size + 1)
          have HI := Lib.hid (show PxI o.s w X8 X9 (.slice Af nf cf) pre W from ⟨r, k, q1, q2, q3, q4, q5, q6, q7, q8, q9⟩)
          have hk1 : k + 1 ≤ 1000000 := by
            have e := congrArg List.length hms
            simp only [List.length_append, List.length_cons] at e
            have := HLM.out; omega
          have Q1 := Lib.hid q1; have Q2 := Lib.hid q2; have Q3 := Lib.hid q3; have Q4 := Lib.hid q4; have Q5 := Lib.hid q5; have Q6 := Lib.hid q6; have Q7 := Lib.hid q7; have Q8 := Lib.hid q8; have Q9 := Lib.hid q9; have QB := Lib.hid hbx
          clear q1 q2 q3 q4 q5 q6 q7 q8 q9 hbx hms
          cases hop : sm nm nm_op with
          | true =>
            have ho2 : (nm.toList == [111, 112]) = true := by rw [← sm_op]; exact hop
            have HOP := Lib.hid hop
            clear hop
            gi_wp2
            refine ⟨KeepsFrom.refl _ _, Below.refl _ _, r, k, ?_, ?_, Q3.out, Q4.out, Q5.out, Q6.out, Q7.out, Q8.out, Q9.out⟩
            · rw [prog_step, Q1.out]
              simp only [progLoop]
              rw [if_pos HOP.out]
            · rw [List.length_append]; have := Q2.out; omega
          | false =>
            have ho2 : (nm.toList == [111, 112]) = false := by rw [← sm_op]; exact hop
            have HOP := Lib.hid hop
            clear hop
            obtain ⟨g0, _⟩ := cell1 Q5.out
            gi_wp2
            refine ⟨trivial, CallsIn.inRound _ ((callsIn_wide (n := 1)).2 (Calls.mono (contains_any _ _ (fieldsB o.s) nm W Q6.out (fields_len o.s)) ?_))⟩
            rintro e W2 ⟨rfl, hw2⟩
            replace hw2 := hw2.symm
            subst hw2
            cases hbc : (fieldsB o.s).any (fun x => nm.toList == x.toList) with
            | false =>
              have HBCF := Lib.hid hbc
              clear hbc
              have hf := fin_heap (w := w) (.string ⟨#[]⟩) (.string ⟨#[]⟩) (.string ⟨#[]⟩) (.string ⟨#[]⟩) (.string ⟨#[]⟩) (.int .i64 0) (.int .i64 0) (.int .i64 0) (.int .i64 0) (.int .i64 0) (.bool false) (.int .i64 4) Q3.out Q4.out (by omega) (Nat.le_refl _) (Nat.le_succ _) Q9.out
              have HF := Lib.hid hf
              obtain ⟨⟨r0, r1, r2, r3, r4, r5, r6, r7, r8, r9, r10⟩, ⟨f0, f1, f2, f3, f4, f5, f6, f7, f8, f9, f10⟩, _⟩ := RqAt.cells (r := zeroR) Q3.out
              obtain ⟨e0, ef⟩ := cell1 Q4.out
              clear hf
              gi_wp2
              refine ⟨trivial, ?_⟩
              gi_wp2
              refine ⟨HF.out.2.2.2 _, rfl, ?_, HF.out.1, HF.out.2.1, HF.out.2.2.1⟩
              rw [prog_step, Q1.out]
              simp only [progLoop]
              rw [if_neg (by rw [HOP.out]; decide), if_neg (by rw [show (fieldsB o.s).any (sm nm) = false from HBCF.out]; simp)]
            | true =>
              have HBCF := Lib.hid hbc
              clear hbc
              obtain ⟨⟨y0, y1, y2, y3, y4⟩, _, _⟩ := cells5 QB.out
              gi_wp2
              refine ⟨trivial, CallsIn.inRound _ ((callsIn_wide (n := 1)).2 (Calls.mono (setF_any X9 r nm y A3 n3 c3 A4 n4 c4 W Q7.out) ?_))⟩
              rintro e W2 ⟨rfl, hq7, hg⟩
              have hk := fun (b : Nat) (ob : Obj) (h : W.heap[b]? = some ob) (hne : b ≠ X9) => (hg.block b (Array.getElem?_eq_some_iff.1 h).1 (fun e => hne (Option.some.inj e))).trans h
              have h89 : X8 < X9 := HX9.out
              have h08 : w.heap.size + 1 < X8 := by have := HX4.out; have := HX6.out; have := HX8.out; omega
              have z3 := hk _ _ Q3.out (by omega)
              have z4 := hk _ _ Q4.out (by omega)
              have z5 := hk _ _ Q5.out (by omega)
              have z8 := hk _ _ Q8.out (by omega)
              have z6 := Q6.out.frame (w' := W2) (fun b hb => hg.block b (Nat.lt_trans hb (RqAt.cells Q7.out).2.2) (fun e => by have := Option.some.inj e; omega))
              have z9 : Below w.heap.size w W2 := bel_grown Q9.out hg (fun b hb => by injection hb with hb; omega)
              have zk : KeepsFrom W11.heap.size W W2 := ⟨hg.size, fun b ob hb h0 _ => hk _ _ h0 (by have := HSZ.out; have := HS9.out; omega)⟩
              have zb : Below X9 W W2 := ⟨hg.os, hg.tape, hg.output, hg.size, fun b hb => hg.block b (Nat.lt_trans hb (RqAt.cells Q7.out).2.2) (fun e => by have := Option.some.inj e; omega)⟩
              have Z3 := Lib.hid z3; have Z4 := Lib.hid z4; have Z5 := Lib.hid z5; have Z6 := Lib.hid z6; have Z7 := Lib.hid hq7; have Z8 := Lib.hid z8; have Z9 := Lib.hid z9; have ZK := Lib.hid zk; have ZB := Lib.hid zb; have H89 := Lib.hid h89; have H08 := Lib.hid h08
              clear hk hg hq7 z3 z4 z5 z6 z8 z9 zk zb h89 h08 y0 y1 y2 y3 y4 g0
              cases hkf : kindF nm y with
              | false =>
                have HKF := Lib.hid hkf
                clear hkf
                have hf := fin_heap (w := w) (.string ⟨#[]⟩) (.string ⟨#[]⟩) (.string ⟨#[]⟩) (.string ⟨#[]⟩) (.string ⟨#[]⟩) (.int .i64 0) (.int .i64 0) (.int .i64 0) (.int .i64 0) (.int .i64 0) (.bool false) (.int .i64 4) Z3.out Z4.out (by omega) (Nat.le_refl _) (Nat.le_succ _) Z9.out
                have HF := Lib.hid hf
                obtain ⟨⟨r0, r1, r2, r3, r4, r5, r6, r7, r8, r9, r10⟩, ⟨f0, f1, f2, f3, f4, f5, f6, f7, f8, f9, f10⟩, _⟩ := RqAt.cells (r := zeroR) Z3.out
                obtain ⟨e0, ef⟩ := cell1 Z4.out
                clear hf
                gi_wp2
                refine ⟨ZK.out.trans (HF.out.2.2.2 _), rfl, ?_, HF.out.1, HF.out.2.1, HF.out.2.2.1⟩
                rw [prog_step, Q1.out]
                simp only [progLoop]
                rw [if_neg (by rw [HOP.out]; decide), if_neg (by rw [HKF.out, Bool.and_false]; simp)]
              | true =>
                have HKF := Lib.hid hkf
                obtain ⟨x0, xf⟩ := cell1 Z8.out
                have HK1 := Lib.hid hk1
                have hset := heap_setCell_row (i := 0) (v := .int .i64 ((k : Int) + 1)) Z8.out
                have HSET := Lib.hid hset
                have hwr : wrap64 ((k : Int) + 1) = (k : Int) + 1 := w64_p (by omega) (by omega)
                clear hkf hset hk1
                gi_wp2
                have h89 := H89.out
                have h08 := H08.out
                have ho := fun (b : Nat) (hne : b ≠ X9 + 1) => Below.heap_setCell W2 ⟨X9 + 1, 0, none⟩ (.int .i64 ((k : Int) + 1)) b hne
                refine ⟨ZK.out.trans ((KeepsOthers.setCell _ _ _).from _), bel_setP ZB.out (Nat.le_succ _) _, putF r nm y, k + 1, ?_, ?_, (ho _ (by omega)).trans Z3.out, (ho _ (by omega)).trans Z4.out, (ho _ (by omega)).trans Z5.out, Z6.out.frame (fun b hb => ho b (by omega)), (ho _ (by omega)).trans Z7.out, by simpa using HSET.out, bel_setP Z9.out (by omega) _⟩
                · rw [prog_step, Q1.out]
                  simp only [progLoop]
                  rw [if_neg (by rw [HOP.out]; decide), if_pos (by rw [show (fieldsB o.s).any (sm nm) = true from HBCF.out, HKF.out]; rfl)]
                · rw [List.length_append]; have := Q2.out; simp only [List.length_cons, List.length_nil]; omega
        case done =>
          rintro W hi hK
          obtain ⟨r, k, q1, q2, q3, q4, q5, q6, q7, q8, q9⟩ := hi
          have HK := Lib.hid hK
          have Q1 := Lib.hid q1; have Q2 := Lib.hid q2; have Q3 := Lib.hid q3; have Q4 := Lib.hid q4; have Q5 := Lib.hid q5; have Q7 := Lib.hid q7; have Q8 := Lib.hid q8; have Q9 := Lib.hid q9
          clear q1 q2 q3 q4 q5 q6 q7 q8 q9 hK
          obtain ⟨g0, _⟩ := cell1 Q5.out
          obtain ⟨x0, _⟩ := cell1 Q8.out
          obtain ⟨⟨r0, r1, r2, r3, r4, r5, r6, r7, r8, r9, r10⟩, ⟨f0, f1, f2, f3, f4, f5, f6, f7, f8, f9, f10⟩, _⟩ := RqAt.cells (r := zeroR) Q3.out
          obtain ⟨e0, ef⟩ := cell1 Q4.out
          by_cases hkn : k < nf
          case pos =>
            have hd : decide ((k : Int) < (nf : Int)) = true := decide_eq_true (by omega)
            have hdn : decide (k < nf) = true := decide_eq_true hkn
            obtain rfl : R = (zeroR, 4) := by
              rw [HPR3.out]
              unfold progR
              rw [Q1.out]
              simp only
              rw [if_pos (by rw [HNF.out]; exact hkn)]
            clear hkn HPR3
            have hf := fin_heap (w := w) (.string ⟨#[]⟩) (.string ⟨#[]⟩) (.string ⟨#[]⟩) (.string ⟨#[]⟩) (.string ⟨#[]⟩) (.int .i64 0) (.int .i64 0) (.int .i64 0) (.int .i64 0) (.int .i64 0) (.bool false) (.int .i64 4) Q3.out Q4.out (by omega) (Nat.le_refl _) (Nat.le_succ _) Q9.out
            have hk2 := (hf.2.2.2 W11.heap.size).same _ _ (Nat.le_refl _) HK.out rfl
            have HF := Lib.hid hf; have HK2 := Lib.hid hk2
            clear hf hk2
            go_wp2_with fail
            have hf := HF.out
            have hk2 := HK2.out
            generalize ((((((((((((W.setCell ⟨w.heap.size, 0, none⟩ (.string ⟨#[]⟩)).setCell ⟨w.heap.size, 1, none⟩ (.string ⟨#[]⟩)).setCell ⟨w.heap.size, 2, none⟩ (.string ⟨#[]⟩)).setCell ⟨w.heap.size, 3, none⟩ (.string ⟨#[]⟩)).setCell ⟨w.heap.size, 4, none⟩ (.string ⟨#[]⟩)).setCell ⟨w.heap.size, 5, none⟩ (.int .i64 0)).setCell ⟨w.heap.size, 6, none⟩ (.int .i64 0)).setCell ⟨w.heap.size, 7, none⟩ (.int .i64 0)).setCell ⟨w.heap.size, 8, none⟩ (.int .i64 0)).setCell ⟨w.heap.size, 9, none⟩ (.int .i64 0)).setCell ⟨w.heap.size, 10, none⟩ (.bool false)).setCell ⟨w.heap.size + 1, 0, none⟩ (.int .i64 4)) = W6 at *
            have hlt : w.heap.size + 1 < W11.heap.size := by have := HX4.out; have := HX6.out; have := HX8.out; have := HX9.out; have := HSZ.out; have := HS9.out; omega
            refine ⟨by simp, .inl ⟨_, _, rfl, run_takeDeferred hk2, ?_⟩⟩
            exact ⟨.tuple #[.agg (rqC (zeroR)), .int .i64 4], res_both (r := zeroR) ((World.putObj_heap_other (by omega)).trans hf.1) ((World.putObj_heap_other (by omega)).trans hf.2.1) rfl rfl, rfl, hf.2.2.1.trans (below_putObj (by omega) _)⟩
          case neg =>
            have hd : decide ((k : Int) < (nf : Int)) = false := decide_eq_false (by omega)
            have hdn : decide (k < nf) = false := decide_eq_false hkn
            obtain rfl : R = (r, 0) := by
              rw [HPR3.out]
              unfold progR
              rw [Q1.out]
              simp only
              rw [if_neg (by rw [HNF.out]; exact hkn)]
            obtain ⟨⟨s0, s1, s2, s3, s4, s5, s6, s7, s8, s9, s10⟩, _, _⟩ := RqAt.cells Q7.out
            clear hkn HPR3
            have hf := fin_heap (w := w) (.string r.op) (.string r.user) (.string r.feed) (.string r.name) (.string r.token) (.int .i64 r.tx) (.int .i64 r.entry) (.int .i64 r.after) (.int .i64 r.limit) (.int .i64 r.before) (.bool r.on) (.int .i64 0) Q3.out Q4.out (by omega) (Nat.le_refl _) (Nat.le_succ _) Q9.out
            have hk2 := (hf.2.2.2 W11.heap.size).same _ _ (Nat.le_refl _) HK.out rfl
            have HF := Lib.hid hf; have HK2 := Lib.hid hk2
            clear hf hk2
            go_wp2_with fail
            have hf := HF.out
            have hk2 := HK2.out
            generalize ((((((((((((W.setCell ⟨w.heap.size, 0, none⟩ (.string r.op)).setCell ⟨w.heap.size, 1, none⟩ (.string r.user)).setCell ⟨w.heap.size, 2, none⟩ (.string r.feed)).setCell ⟨w.heap.size, 3, none⟩ (.string r.name)).setCell ⟨w.heap.size, 4, none⟩ (.string r.token)).setCell ⟨w.heap.size, 5, none⟩ (.int .i64 r.tx)).setCell ⟨w.heap.size, 6, none⟩ (.int .i64 r.entry)).setCell ⟨w.heap.size, 7, none⟩ (.int .i64 r.after)).setCell ⟨w.heap.size, 8, none⟩ (.int .i64 r.limit)).setCell ⟨w.heap.size, 9, none⟩ (.int .i64 r.before)).setCell ⟨w.heap.size, 10, none⟩ (.bool r.on)).setCell ⟨w.heap.size + 1, 0, none⟩ (.int .i64 0)) = W6 at *
            have hlt : w.heap.size + 1 < W11.heap.size := by have := HX4.out; have := HX6.out; have := HX8.out; have := HX9.out; have := HSZ.out; have := HS9.out; omega
            refine ⟨by simp, .inl ⟨_, _, rfl, run_takeDeferred hk2, ?_⟩⟩
            exact ⟨.tuple #[.agg (rqC (r)), .int .i64 0], res_both (r := r) ((World.putObj_heap_other (by omega)).trans hf.1) ((World.putObj_heap_other (by omega)).trans hf.2.1) rfl rfl, rfl, hf.2.2.1.trans (below_putObj (by omega) _)⟩
        case stop =>
          rintro c pre post W hms ⟨rfl, q1, q2, q3, q4⟩ hK
          refine wpIn_ret ?_
          obtain rfl : R = (zeroR, 4) := by
            rw [HPR3.out]
            unfold progR
            rw [hms, prog_none _ q1 post]
          have hlt : w.heap.size + 1 < W11.heap.size := by have := HX4.out; have := HX6.out; have := HX8.out; have := HX9.out; have := HSZ.out; have := HS9.out; omega
          refine ⟨by simp, .inl ⟨_, _, rfl, run_takeDeferred hK, ?_⟩⟩
          exact ⟨.tuple #[.agg (rqC zeroR), .int .i64 4], res_both (r := zeroR) ((World.putObj_heap_other (by omega)).trans q2) ((World.putObj_heap_other (by omega)).trans q3) rfl rfl, rfl, q4.trans (below_putObj (by omega) _)⟩
end Go.Proofs.YtlihjmfdnkfmfaaGreatDoor
