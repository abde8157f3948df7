/- Parts of the proof: Pn, Qs, Qt, Qu, Cb, Pl. -/
import Derived.Test.YtlihjmfdnkfmfaaGreatDoorZPback25
import Derived.Test.YtlihjmfdnkfmfaaGreatDoorZPback26
import Derived.Lib.SlBytesConst
import Derived.Test.YtlihjmfdnkfmfaaGreatDoorZPback18
import Derived.Test.YtlihjmfdnkfmfaaGreatDoorZPback21
import Derived.Test.YtlihjmfdnkfmfaaGreatDoorZPback16
namespace Go.Proofs.YtlihjmfdnkfmfaaGreatDoor
open Go.RowKit Go.Lib

theorem row11 {w : World} {R : Nat} {r : Rq} {T : TypeId} (h : w.heap[R]? = some (.cells (rqC r) T (0, 0))) : (w.cell? ⟨R, 0, none⟩ = some (.string r.op) ∧ w.cell? ⟨R, 1, none⟩ = some (.string r.user) ∧ w.cell? ⟨R, 2, none⟩ = some (.string r.feed) ∧ w.cell? ⟨R, 3, none⟩ = some (.string r.name) ∧ w.cell? ⟨R, 4, none⟩ = some (.string r.token) ∧ w.cell? ⟨R, 5, none⟩ = some (.int .i64 r.tx) ∧ w.cell? ⟨R, 6, none⟩ = some (.int .i64 r.entry) ∧ w.cell? ⟨R, 7, none⟩ = some (.int .i64 r.after) ∧ w.cell? ⟨R, 8, none⟩ = some (.int .i64 r.limit) ∧ w.cell? ⟨R, 9, none⟩ = some (.int .i64 r.before) ∧ w.cell? ⟨R, 10, none⟩ = some (.bool r.on)) ∧
    (w.frozen? ⟨R, 0, none⟩ = false ∧ w.frozen? ⟨R, 1, none⟩ = false ∧ w.frozen? ⟨R, 2, none⟩ = false ∧ w.frozen? ⟨R, 3, none⟩ = false ∧ w.frozen? ⟨R, 4, none⟩ = false ∧ w.frozen? ⟨R, 5, none⟩ = false ∧ w.frozen? ⟨R, 6, none⟩ = false ∧ w.frozen? ⟨R, 7, none⟩ = false ∧ w.frozen? ⟨R, 8, none⟩ = false ∧ w.frozen? ⟨R, 9, none⟩ = false ∧ w.frozen? ⟨R, 10, none⟩ = false) := by
  unfold rqC at h
  exact ⟨⟨by rw [Lib.cell_of_heap h]; rfl, by rw [Lib.cell_of_heap h]; rfl, by rw [Lib.cell_of_heap h]; rfl, by rw [Lib.cell_of_heap h]; rfl, by rw [Lib.cell_of_heap h]; rfl, by rw [Lib.cell_of_heap h]; rfl, by rw [Lib.cell_of_heap h]; rfl, by rw [Lib.cell_of_heap h]; rfl, by rw [Lib.cell_of_heap h]; rfl, by rw [Lib.cell_of_heap h]; rfl, by rw [Lib.cell_of_heap h]; rfl⟩, ⟨by simp [World.frozen?, h], by simp [World.frozen?, h], by simp [World.frozen?, h], by simp [World.frozen?, h], by simp [World.frozen?, h], by simp [World.frozen?, h], by simp [World.frozen?, h], by simp [World.frozen?, h], by simp [World.frozen?, h], by simp [World.frozen?, h], by simp [World.frozen?, h]⟩⟩
set_option maxRecDepth 100000 in
set_option maxHeartbeats 16000000 in
theorem plainR_any (r : Rq) (w : World) : Calls Tryz.prog 17 #[.agg #[.string r.op, .string r.user, .string r.feed, .string r.name, .string r.token, .int .i64 r.tx, .int .i64 r.entry, .int .i64 r.after, .int .i64 r.limit, .int .i64 r.before, .bool r.on]] w fun e w' => e = .returned (.agg #[.string r.op, .string r.user, .string r.feed, .string r.name, .string r.token, .int .i64 r.tx, .int .i64 r.entry, .int .i64 r.after, .int .i64 r.limit, .int .i64 r.before, .bool r.on]) ∧ Below w.heap.size w w' := by
  have H2 := Lib.hid (two_newR w (.cells #[.string r.op, .string r.user, .string r.feed, .string r.name, .string r.token, .int .i64 r.tx, .int .i64 r.entry, .int .i64 r.after, .int .i64 r.limit, .int .i64 r.before, .bool r.on] 24) (.cells #[.string ⟨#[]⟩, .string ⟨#[]⟩, .string ⟨#[]⟩, .string ⟨#[]⟩, .string ⟨#[]⟩, .int .i64 0, .int .i64 0, .int .i64 0, .int .i64 0, .int .i64 0, .bool false] 30))
  go_enter Tryz.func17, Tryz.ntmps17
  go_upto_region 1 with (fail)
  generalize (w.alloc (.cells #[.string r.op, .string r.user, .string r.feed, .string r.name, .string r.token, .int .i64 r.tx, .int .i64 r.entry, .int .i64 r.after, .int .i64 r.limit, .int .i64 r.before, .bool r.on] 24)).alloc (.cells #[.string ⟨#[]⟩, .string ⟨#[]⟩, .string ⟨#[]⟩, .string ⟨#[]⟩, .string ⟨#[]⟩, .int .i64 0, .int .i64 0, .int .i64 0, .int .i64 0, .int .i64 0, .bool false] 30) = W at *
  obtain ⟨⟨a0, a1, a2, a3, a4, a5, a6, a7, a8, a9, a10⟩, _⟩ := row11 (r := r) H2.out.2.1
  obtain ⟨⟨b0, b1, b2, b3, b4, b5, b6, b7, b8, b9, b10⟩, ⟨f0, f1, f2, f3, f4, f5, f6, f7, f8, f9, f10⟩⟩ := row11 (r := zeroR) H2.out.2.2
  have st : ∀ (Y : World) (cs : Array Value) (i : Nat) (v : Value), Y.heap[w.heap.size + 1]? = some (.cells cs 30 (0, 0)) → (Y.setCell ⟨w.heap.size + 1, i, none⟩ v).heap[w.heap.size + 1]? = some (.cells (cs.setIfInBounds i v) 30 (0, 0)) := fun Y cs i v h => heap_setCell_row h
  have HST := Lib.hid st
  clear st
  go_wp2_with fail
  have x0 := HST.out W _ 0 (.string r.op) H2.out.2.2
  have z0 := bel_setR (X := w.heap.size + 1) (i := 0) H2.out.1 (Nat.le_succ _) (.string r.op)
  generalize W.setCell ⟨w.heap.size + 1, 0, none⟩ (.string r.op) = Y0 at *
  have x1 := HST.out Y0 _ 1 (.string r.user) x0
  have z1 := bel_setR (X := w.heap.size + 1) (i := 1) z0 (Nat.le_succ _) (.string r.user)
  generalize Y0.setCell ⟨w.heap.size + 1, 1, none⟩ (.string r.user) = Y1 at *
  have x2 := HST.out Y1 _ 2 (.string r.feed) x1
  have z2 := bel_setR (X := w.heap.size + 1) (i := 2) z1 (Nat.le_succ _) (.string r.feed)
  generalize Y1.setCell ⟨w.heap.size + 1, 2, none⟩ (.string r.feed) = Y2 at *
  have x3 := HST.out Y2 _ 3 (.string r.name) x2
  have z3 := bel_setR (X := w.heap.size + 1) (i := 3) z2 (Nat.le_succ _) (.string r.name)
  generalize Y2.setCell ⟨w.heap.size + 1, 3, none⟩ (.string r.name) = Y3 at *
  have x4 := HST.out Y3 _ 4 (.string r.token) x3
  have z4 := bel_setR (X := w.heap.size + 1) (i := 4) z3 (Nat.le_succ _) (.string r.token)
  generalize Y3.setCell ⟨w.heap.size + 1, 4, none⟩ (.string r.token) = Y4 at *
  have x5 := HST.out Y4 _ 5 (.int .i64 r.tx) x4
  have z5 := bel_setR (X := w.heap.size + 1) (i := 5) z4 (Nat.le_succ _) (.int .i64 r.tx)
  generalize Y4.setCell ⟨w.heap.size + 1, 5, none⟩ (.int .i64 r.tx) = Y5 at *
  have x6 := HST.out Y5 _ 6 (.int .i64 r.entry) x5
  have z6 := bel_setR (X := w.heap.size + 1) (i := 6) z5 (Nat.le_succ _) (.int .i64 r.entry)
  generalize Y5.setCell ⟨w.heap.size + 1, 6, none⟩ (.int .i64 r.entry) = Y6 at *
  have x7 := HST.out Y6 _ 7 (.int .i64 r.after) x6
  have z7 := bel_setR (X := w.heap.size + 1) (i := 7) z6 (Nat.le_succ _) (.int .i64 r.after)
  generalize Y6.setCell ⟨w.heap.size + 1, 7, none⟩ (.int .i64 r.after) = Y7 at *
  have x8 := HST.out Y7 _ 8 (.int .i64 r.limit) x7
  have z8 := bel_setR (X := w.heap.size + 1) (i := 8) z7 (Nat.le_succ _) (.int .i64 r.limit)
  generalize Y7.setCell ⟨w.heap.size + 1, 8, none⟩ (.int .i64 r.limit) = Y8 at *
  have x9 := HST.out Y8 _ 9 (.int .i64 r.before) x8
  have z9 := bel_setR (X := w.heap.size + 1) (i := 9) z8 (Nat.le_succ _) (.int .i64 r.before)
  generalize Y8.setCell ⟨w.heap.size + 1, 9, none⟩ (.int .i64 r.before) = Y9 at *
  have x10 := HST.out Y9 _ 10 (.bool r.on) x9
  have z10 := bel_setR (X := w.heap.size + 1) (i := 10) z9 (Nat.le_succ _) (.bool r.on)
  generalize Y9.setCell ⟨w.heap.size + 1, 10, none⟩ (.bool r.on) = Y10 at *
  have hf : Y10.heap[w.heap.size + 1]? = some (.cells #[.string r.op, .string r.user, .string r.feed, .string r.name, .string r.token, .int .i64 r.tx, .int .i64 r.entry, .int .i64 r.after, .int .i64 r.limit, .int .i64 r.before, .bool r.on] 30 (0, 0)) := by simpa using x10
  exact bodyPost_ret (results_cell_row rfl _ _ (w.heap.size + 1) 30 #[.string r.op, .string r.user, .string r.feed, .string r.name, .string r.token, .int .i64 r.tx, .int .i64 r.entry, .int .i64 r.after, .int .i64 r.limit, .int .i64 r.before, .bool r.on] (0, 0) _ rfl hf Tryz.underlying30 rfl (by kernel_rfl)) rfl ⟨rfl, z10⟩
def shortRq (r : Rq) : Bool := decide (r.op.size ≤ 9000) && decide (r.user.size ≤ 9000) && decide (r.feed.size ≤ 9000) && decide (r.name.size ≤ 9000) && decide (r.token.size ≤ 9000)
theorem short_sm {r : Rq} (h : shortRq r = true) : SmR r := by
  simp only [shortRq, Bool.and_eq_true, decide_eq_true_eq] at h
  obtain ⟨⟨⟨⟨h0, h1⟩, h2⟩, h3⟩, h4⟩ := h
  exact ⟨by omega, by omega, by omega, by omega, by omega⟩
set_option maxRecDepth 100000 in
set_option maxHeartbeats 16000000 in
theorem shortR_any (r : Rq) (w : World) : Calls Tryz.prog 12 #[.agg #[.string r.op, .string r.user, .string r.feed, .string r.name, .string r.token, .int .i64 r.tx, .int .i64 r.entry, .int .i64 r.after, .int .i64 r.limit, .int .i64 r.before, .bool r.on]] w fun e w' => e = .returned (.bool (shortRq r)) ∧ Below w.heap.size w w' := by
  have hA := heap_alloc_new w (.cells #[.string r.op, .string r.user, .string r.feed, .string r.name, .string r.token, .int .i64 r.tx, .int .i64 r.entry, .int .i64 r.after, .int .i64 r.limit, .int .i64 r.before, .bool r.on] 24)
  have hbA : Below w.heap.size w (w.alloc (.cells #[.string r.op, .string r.user, .string r.feed, .string r.name, .string r.token, .int .i64 r.tx, .int .i64 r.entry, .int .i64 r.after, .int .i64 r.limit, .int .i64 r.before, .bool r.on] 24)) := bel_alloc (Below.refl _ _) _
  obtain ⟨⟨a0, a1, a2, a3, a4, a5, a6, a7, a8, a9, a10⟩, _⟩ := row11 (r := r) hA
  have HB := Lib.hid hbA
  clear hA hbA a5 a6 a7 a8 a9 a10
  obtain ⟨b0, hb0⟩ : ∃ b, decide (r.op.size ≤ 9000) = b := ⟨_, rfl⟩
  obtain ⟨b1, hb1⟩ : ∃ b, decide (r.user.size ≤ 9000) = b := ⟨_, rfl⟩
  obtain ⟨b2, hb2⟩ : ∃ b, decide (r.feed.size ≤ 9000) = b := ⟨_, rfl⟩
  obtain ⟨b3, hb3⟩ : ∃ b, decide (r.name.size ≤ 9000) = b := ⟨_, rfl⟩
  obtain ⟨b4, hb4⟩ : ∃ b, decide (r.token.size ≤ 9000) = b := ⟨_, rfl⟩
  obtain ⟨q, hq⟩ : ∃ q, shortRq r = q := ⟨_, rfl⟩
  have hs : (b0 && b1 && b2 && b3 && b4) = q := by rw [← hq]; unfold shortRq; rw [hb0, hb1, hb2, hb3, hb4]
  rw [hq]
  have c0 : decide ((r.op.size : Int) ≤ 9000) = b0 := by rw [← hb0]; exact decide_eq_decide.2 (by omega)
  have c1 : decide ((r.user.size : Int) ≤ 9000) = b1 := by rw [← hb1]; exact decide_eq_decide.2 (by omega)
  have c2 : decide ((r.feed.size : Int) ≤ 9000) = b2 := by rw [← hb2]; exact decide_eq_decide.2 (by omega)
  have c3 : decide ((r.name.size : Int) ≤ 9000) = b3 := by rw [← hb3]; exact decide_eq_decide.2 (by omega)
  have c4 : decide ((r.token.size : Int) ≤ 9000) = b4 := by rw [← hb4]; exact decide_eq_decide.2 (by omega)
  clear hq hb0 hb1 hb2 hb3 hb4
  cases b0
  case' true => cases b1
  case' true.true => cases b2
  case' true.true.true => cases b3
  case' true.true.true.true => cases b4
  all_goals
    obtain rfl := hs
    go_enter Tryz.func12, Tryz.ntmps12
    go_upto_region 1 with (fail)
    generalize w.alloc (.cells #[.string r.op, .string r.user, .string r.feed, .string r.name, .string r.token, .int .i64 r.tx, .int .i64 r.entry, .int .i64 r.after, .int .i64 r.limit, .int .i64 r.before, .bool r.on] 24) = W at *
    go_wp2_with fail
    go_ret
    exact ⟨rfl, HB.out⟩
def firstR : Rq := { zeroR with op := ⟨#[98, 101, 103, 105, 110]⟩, user := ⟨#[117]⟩ }
def firstRS : ByteArray := ⟨#[123, 34, 111, 112, 34, 58, 34, 98, 101, 103, 105, 110, 34, 44, 34, 117, 115, 101, 114, 34, 58, 34, 117, 34, 125]⟩
theorem firstR_parse : preqB firstRS = (firstR, 0) := by kernel_rfl
theorem fail13_may : mayJ 64 (failO 13) = true := by kernel_rfl
theorem fail13_print : printB 64 (failO 13) = [123, 34, 101, 114, 114, 111, 114, 34, 58, 49, 51, 44, 34, 111, 107, 34, 58, 102, 97, 108, 115, 101, 125] := by kernel_rfl
theorem fail13 : prB (failO 13) = [123, 34, 101, 114, 114, 111, 114, 34, 58, 49, 51, 44, 34, 111, 107, 34, 58, 102, 97, 108, 115, 101, 125] := by unfold prB; rw [fail13_may, if_pos rfl, fail13_print]
def cellsP (s : ByteArray) : Array Value := (s.data.toList.map fun x => Value.int .u8 (x.toNat : Int)).toArray
theorem bsl_allocP (w : World) (s : ByteArray) (t : TypeId) (n c : Nat) (cs : Array Value) (fz : Nat × Nat) (hn : n = s.size) (hc : cs = cellsP s) : BSl (w.alloc (.cells cs t fz)) (fun _ => True) (.slice (some ⟨w.heap.size, 0, none⟩) n c) s := by
  subst hn; subst hc
  refine .inl ⟨_, _, _, rfl, trivial, fun i hi => ?_⟩
  rw [Lib.cell_of_heap (heap_alloc_new w (.cells (cellsP s) t fz))]
  unfold cellsP
  simp [hi]
  rfl
set_option maxRecDepth 100000 in
set_option maxHeartbeats 16000000 in
theorem pfirst_any (w : World) (hT : Tabs w) : Calls Tryz.prog 11 #[] w fun z w' => z = .returned (.bool true) ∧ Below w.heap.size w w' := by
  have kc := fun (w : World) (C : Array Value) (n c : Nat) => Lib.run_convert_bytes_const (P := Tryz.prog) w 22 5 C n c Tryz.underlying22 Tryz.underlying5
  have HT := Lib.hid hT
  clear hT
  go_enter Tryz.func11, Tryz.ntmps11
  go_wp2_with fail
  have hbA := bel_alloc (Below.refl w.heap.size w) (.cells (cellsP firstRS) 5 (25, 26))
  have hpa := pparse_any firstRS (.slice (some ⟨w.heap.size, 0, none⟩) 25 25) _ (w.alloc (.cells (cellsP firstRS) 5 (25, 26))) (HT.out.below hbA) (bsl_allocP _ _ _ _ _ _ _ rfl rfl)
  refine Calls.mono hpa ?_
  rintro e w1 ⟨he, hb⟩
  rw [firstR_parse] at he
  replace he : e = .returned (.tuple #[.agg #[.string ⟨#[98, 101, 103, 105, 110]⟩, .string ⟨#[117]⟩, .string ⟨#[]⟩, .string ⟨#[]⟩, .string ⟨#[]⟩, .int .i64 0, .int .i64 0, .int .i64 0, .int .i64 0, .int .i64 0, .bool false], .int .i64 0]) := he
  subst he
  have hA2 := bel_alloc (Below.refl w1.heap.size w1) (.cells #[.string ⟨#[98, 101, 103, 105, 110]⟩, .string ⟨#[117]⟩, .string ⟨#[]⟩, .string ⟨#[]⟩, .string ⟨#[]⟩, .int .i64 0, .int .i64 0, .int .i64 0, .int .i64 0, .int .i64 0, .bool false] 24)
  have HB2 := Lib.hid (bel_trans (bel_trans hbA hb) hA2)
  have HQ2 := Lib.hid (heap_alloc_new w1 (.cells #[.string ⟨#[98, 101, 103, 105, 110]⟩, .string ⟨#[117]⟩, .string ⟨#[]⟩, .string ⟨#[]⟩, .string ⟨#[]⟩, .int .i64 0, .int .i64 0, .int .i64 0, .int .i64 0, .int .i64 0, .bool false] 24))
  clear hbA hpa hb hA2
  go_upto_region 2 with (fail)
  generalize w1.alloc (.cells #[.string ⟨#[98, 101, 103, 105, 110]⟩, .string ⟨#[117]⟩, .string ⟨#[]⟩, .string ⟨#[]⟩, .string ⟨#[]⟩, .int .i64 0, .int .i64 0, .int .i64 0, .int .i64 0, .int .i64 0, .bool false] 24) = w2 at *
  generalize w1.heap.size = X1 at *
  obtain ⟨⟨a0, a1, a2, a3, a4, a5, a6, a7, a8, a9, a10⟩, _⟩ := row11 (r := firstR) HQ2.out
  simp only [firstR, zeroR, e0] at a0 a1
  clear a2 a3 a4 a5 a6 a7 a8 a9 a10
  have hf := pfail_any 13 w2 (HT.out.below HB2.out)
  rw [fail13] at hf
  have HF := Lib.hid hf
  clear hf
  go_wp2_with fail
  refine Calls.mono HF.out ?_
  rintro e w3 ⟨⟨v3, rfl, hbs⟩, hb⟩
  have HB3 := Lib.hid (bel_trans HB2.out hb)
  obtain ⟨A3, c3, rfl⟩ := hbs.form
  have HC3 := Lib.hid (show (convert 22 9 (.slice A3 23 c3)).run Tryz.prog w3 = .ok (.string ⟨#[123, 34, 101, 114, 114, 111, 114, 34, 58, 49, 51, 44, 34, 111, 107, 34, 58, 102, 97, 108, 115, 101, 125]⟩) w3 from hbs.conv)
  clear hb hbs HF a0 a1 HQ2
  have q1 : (([123, 34, 101, 114, 114, 111, 114, 34, 58, 49, 51, 44, 34, 111, 107, 34, 58, 102, 97, 108, 115, 101, 125] : List UInt8) == [123, 34, 101, 114, 114, 111, 114, 34, 58, 49, 51, 44, 34, 111, 107, 34, 58, 102, 97, 108, 115, 101, 125]) = true := by decide
  go_wp2_with fail
  rw [HC3.out]
  simp only [Result.andThen]
  rw [Oper.upon_value]
  go_wp2_with fail
  refine Calls.mono (pdone_any w3 (HT.out.below HB3.out)) ?_
  rintro e w4 ⟨⟨v4, rfl, hbs⟩, hb⟩
  have HB4 := Lib.hid (bel_trans HB3.out hb)
  obtain ⟨A4, c4, rfl⟩ := hbs.form
  have HC4 := Lib.hid (show (convert 22 9 (.slice A4 11 c4)).run Tryz.prog w4 = .ok (.string ⟨#[123, 34, 111, 107, 34, 58, 116, 114, 117, 101, 125]⟩) w4 from hbs.conv)
  clear hb hbs HC3 HB3
  go_wp2_with fail
  rw [HC4.out]
  simp only [Result.andThen]
  rw [Oper.upon_value]
  go_wp2_with fail
  go_ret
  exact ⟨rfl, HB4.out⟩
end Go.Proofs.YtlihjmfdnkfmfaaGreatDoor
namespace Go.Proofs.YtlihjmfdnkfmfaaGreatDoor
open Go.RowKit Go.Lib

theorem obj_parts {m : List (ByteArray × JV)} (h : mayJ 64 (.mk 7 0 ⟨#[]⟩ [] m) = true) : (∀ q ∈ m, shortB q.1 = true) ∧ m.Pairwise NmLt ∧ ∀ q ∈ m, mayJ 63 q.2 = true := by
  have hs := shape_of (d := 63) h
  generalize hx : JV.mk 7 0 ⟨#[]⟩ [] m = x at hs
  cases hs with
  | word k hk => injection hx with h1; omega
  | num n hn => unfold numV at hx; injection hx with h1; exact absurd h1 (by decide)
  | text s hs => unfold wordV at hx; injection hx with h1; exact absurd h1 (by decide)
  | list l hl => unfold listV at hx; injection hx with h1; exact absurd h1 (by decide)
  | obj m' hm hq =>
    unfold objV at hx
    injection hx with _ _ _ _ h1
    subst h1
    have := (members_iff none m).1 hm
    exact ⟨this.1, this.2.2, hq⟩
theorem obj_mk {m : List (ByteArray × JV)} (h1 : ∀ q ∈ m, shortB q.1 = true) (h2 : m.Pairwise NmLt) (h3 : ∀ q ∈ m, mayJ 63 q.2 = true) : mayJ 64 (.mk 7 0 ⟨#[]⟩ [] m) = true := by
  rw [may_obj ((members_iff none m).2 ⟨h1, fun a ha => (by cases ha), h2⟩), List.all_eq_true]
  exact h3
theorem asc_of {m : List (ByteArray × JV)} (h : m.Pairwise NmLt) : BAsc' (m.map (·.1)) := by
  unfold BAsc'
  rw [List.pairwise_map]
  exact h
theorem req_ne (r : Rq) (op : ByteArray) : (reqMem r (fieldsB op)).Pairwise NmNe := by
  have := reqMem_nodup r op
  rw [List.Nodup, List.pairwise_map] at this
  exact this
theorem req_rise (r : Rq) (op : ByteArray) : (sortNames (reqMem r (fieldsB op))).Pairwise NmLt := sort_names _ (req_ne r op)
theorem kind_get (r : Rq) (nm : ByteArray) : kindF nm (getF r nm) = true := by
  rcases name_ways nm with q | q | q | q | q | q | q | q | q | q
  all_goals
    have h := q 0 r (getF r nm)
    first
      | (rw [h.2.2.1]; rw [h.2.1]; rfl)
      | (rw [h.2.2.2.1]; rw [h.2.2.1]; first | rfl | (cases r.on <;> rfl))
theorem pp_ok {r : Rq} (h : (pprintB r).2 = 0) : fieldsB r.op ≠ [] ∧ justB r = r ∧ mayJ 64 (objR r) = true ∧ (pprintB r).1 = printB 64 (objR r) := by
  unfold pprintB at h ⊢
  split at h
  · exact absurd h (by decide)
  · rename_i h1
    split at h
    · exact absurd h (by decide)
    · rename_i h2
      simp only at h
      split at h
      · rename_i h3
        rw [if_neg h1, if_neg h2]
        exact ⟨h1, Decidable.of_not_not h2, h3, by unfold prB; rw [if_pos h3]⟩
      · exact absurd h (by decide)
/-- the members that a request's fields are read from -/
theorem req_read {r : Rq} {f : List ByteArray} (hf : fieldsB r.op = f) (hj : justB r = r) : progR f (sortNames (reqMem r f)) { zeroR with op := r.op } = some r := by
  have hfr := fields_rise r.op
  rw [hf] at hfr
  have hr := req_rise r r.op
  rw [hf] at hr
  have has := asc_of hr
  have hin : ∀ q ∈ reqMem r f, q ∈ sortNames (reqMem r f) := fun q hq => (sort_mem q _).2 hq
  have hop : nm_op ∈ (sortNames (reqMem r f)).map (·.1) := List.mem_map.2 ⟨(nm_op, wordV r.op), hin _ (List.mem_cons_self ..), rfl⟩
  have hg : ∀ nm ∈ f, getB nm (sortNames (reqMem r f)) = (getF r nm, true) := fun nm hnm => get_of_mem has (q := (nm, getF r nm)) (hin _ (List.mem_cons_of_mem _ (List.mem_map.2 ⟨nm, hnm, rfl⟩)))
  rw [prog_ref _ has hfr.1 hop hfr.2]
  unfold refR
  rw [if_pos (by rw [(sortNames_perm _).length_eq]; simp [reqMem]), ref_good (fun nm hnm => by rw [hg nm hnm]; exact ⟨rfl, kind_get r nm⟩)]
  have hfold : ∀ (l : List ByteArray) (j : Rq), (∀ nm ∈ l, nm ∈ f) → l.foldl (fun r' nm => putF r' nm (getB nm (sortNames (reqMem r f))).1) j = l.foldl (fun r' nm => putF r' nm (getF r nm)) j := fun l => by
    induction l with
    | nil => intro j _; rfl
    | cons nm l ih =>
      intro j hl
      simp only [List.foldl_cons]
      rw [hg nm (hl nm (List.mem_cons_self ..)), ih _ (fun x hx => hl x (List.mem_cons_of_mem _ hx))]
  rw [hfold f _ (fun _ h => h)]
  unfold justB at hj
  rw [hf] at hj
  rw [hj]
theorem op_get (r : Rq) (f : List ByteArray) (hf : fieldsB r.op = f) : getB nm_op (sortNames (reqMem r f)) = (wordV r.op, true) := by
  have hr := req_rise r r.op
  rw [hf] at hr
  exact get_of_mem (asc_of hr) (q := (nm_op, wordV r.op)) ((sort_mem _ _).2 (List.mem_cons_self ..))
/-- there and back -/
theorem read_print {r : Rq} (h : (pprintB r).2 = 0) (hl : (pprintB r).1.length ≤ 20000) : preqB ⟨(pprintB r).1.toArray⟩ = (r, 0) := by
  obtain ⟨h1, h2, h3, h4⟩ := pp_ok h
  rw [h4] at hl ⊢
  have hp := parse_print h3 hl
  obtain ⟨f, hf⟩ : ∃ f, fieldsB r.op = f := ⟨_, rfl⟩
  have hm : memsOf (objR r) = sortNames (reqMem r f) := by unfold memsOf objR; rw [hf]; rfl
  unfold preqB
  rw [hp]
  simp only
  rw [hm, op_get r f hf, if_neg (by simp), if_neg (by simp [wordV, JV.k])]
  show progAns r.op _ = _
  unfold progAns
  rw [if_neg h1, hf, req_read hf h2]
/-! a member more, one less -/
theorem join_snoc {α : Type} (g : α → List UInt8) (q : α) : ∀ (m : List α) (b : Bool), (m ≠ [] ∨ b = false) → joinFrom g b (m ++ [q]) = joinFrom g b m ++ (44 :: g q)
  | [], b, h => by
    obtain rfl : b = false := h.resolve_left (fun h => h rfl)
    simp [joinFrom]
  | x :: m, b, _ => by
    have ih := join_snoc g q m false (.inr rfl)
    simp only [List.cons_append, joinFrom]
    rw [ih, List.append_assoc]
theorem obj_snoc (m : List (ByteArray × JV)) (q : ByteArray × JV) (h : m ≠ []) : printB 64 (.mk 7 0 ⟨#[]⟩ [] (m ++ [q])) = (printB 64 (.mk 7 0 ⟨#[]⟩ [] m)).dropLast ++ (44 :: (quoteB q.1 ++ 58 :: printB 63 q.2)) ++ [125] := by
  rw [print_obj, print_obj, join_snoc _ _ _ _ (.inl h)]
  rw [show (123 :: (joinFrom (fun p => quoteB p.1 ++ 58 :: printB 63 p.2) true m ++ [125])) = (123 :: joinFrom (fun p => quoteB p.1 ++ 58 :: printB 63 p.2) true m) ++ [125] from rfl, List.dropLast_concat]
  simp
def nm_zz : ByteArray := ⟨#[122, 122]⟩
theorem zz_text : (44 :: (quoteB nm_zz ++ 58 :: printB 63 (numV 1))) ++ [125] = [44, 34, 122, 122, 34, 58, 49, 125] := by kernel_rfl
theorem allNames_zz (op : ByteArray) : (∀ nm ∈ fieldsB op, nm.toList < nm_zz.toList) ∧ nm_zz ∉ fieldsB op := by
  rcases fields_cases op with e | e | e | e | e | e | e | e | e | e
  all_goals
    rw [e]
    exact ⟨by decide +kernel, fun h => absurd (any_iff.2 h) (by decide +kernel)⟩
theorem read_more {r : Rq} (h : (pprintB r).2 = 0) (hl : (pprintB r).1.length ≤ 19980) : preqB ⟨((pprintB r).1.dropLast ++ [44, 34, 122, 122, 34, 58, 49, 125]).toArray⟩ = (zeroR, 4) := by
  obtain ⟨h1, h2, h3, h4⟩ := pp_ok h
  rw [h4] at hl ⊢
  obtain ⟨f, hf⟩ : ∃ f, fieldsB r.op = f := ⟨_, rfl⟩
  have hz := allNames_zz r.op
  rw [hf] at hz
  have ho : objR r = .mk 7 0 ⟨#[]⟩ [] (sortNames (reqMem r f)) := by unfold objR; rw [hf]
  rw [ho] at h3 hl ⊢
  obtain ⟨p1, p2, p3⟩ := obj_parts h3
  have hmem : ∀ q ∈ sortNames (reqMem r f), q.1.toList < nm_zz.toList := fun q hq => by
    rcases List.mem_cons.1 ((sort_mem q _).1 hq) with rfl | hq
    · show nm_op.toList < nm_zz.toList; decide +kernel
    · obtain ⟨nm, hnm, rfl⟩ := List.mem_map.1 hq
      exact hz.1 nm hnm
  have hne : sortNames (reqMem r f) ≠ [] := fun e => by
    have := (sortNames_perm (reqMem r f)).length_eq
    rw [e] at this
    simp [reqMem] at this
  have hm : mayJ 64 (.mk 7 0 ⟨#[]⟩ [] (sortNames (reqMem r f) ++ [(nm_zz, numV 1)])) = true := by
    refine obj_mk (fun q hq => ?_) ?_ (fun q hq => ?_)
    · rcases List.mem_append.1 hq with hq | hq
      · exact p1 q hq
      · obtain rfl := List.mem_singleton.1 hq
        show shortB nm_zz = true; kernel_rfl
    · refine List.pairwise_append.2 ⟨p2, List.pairwise_singleton _ _, fun a ha b hb => ?_⟩
      obtain rfl := List.mem_singleton.1 hb
      exact hmem a ha
    · rcases List.mem_append.1 hq with hq | hq
      · exact p3 q hq
      · obtain rfl := List.mem_singleton.1 hq
        exact may_numV (by decide) (by decide)
  have hpr := obj_snoc (sortNames (reqMem r f)) (nm_zz, numV 1) hne
  rw [List.append_assoc, zz_text] at hpr
  have hpp := parse_print hm (by rw [hpr, List.length_append, List.length_dropLast]; simp only [List.length_cons, List.length_nil]; omega)
  rw [hpr] at hpp
  have hmo : memsOf (.mk 7 0 ⟨#[]⟩ [] (sortNames (reqMem r f) ++ [(nm_zz, numV 1)])) = sortNames (reqMem r f) ++ [(nm_zz, numV 1)] := rfl
  have hgo : getB nm_op (sortNames (reqMem r f) ++ [(nm_zz, numV 1)]) = (wordV r.op, true) := by
    have hr := (obj_parts hm).2.1
    exact get_of_mem (asc_of hr) (q := (nm_op, wordV r.op)) (List.mem_append_left _ ((sort_mem _ _).2 (List.mem_cons_self ..)))
  unfold preqB
  rw [hpp]
  simp only
  rw [hmo, hgo, if_neg (by simp), if_neg (by simp [wordV, JV.k])]
  show progAns r.op _ = _
  unfold progAns
  rw [if_neg h1, hf]
  have hn : progR f (sortNames (reqMem r f) ++ [(nm_zz, numV 1)]) { zeroR with op := r.op } = none := by
    unfold progR
    rw [prog_step]
    cases hq : progLoop f (sortNames (reqMem r f)) { zeroR with op := r.op } 0 with
    | none => rfl
    | some p =>
      obtain ⟨r', n'⟩ := p
      have e : progLoop f [(nm_zz, numV 1)] r' n' = none := by
        simp only [progLoop]
        rw [if_neg (by show ¬ sm nm_zz nm_op = true; decide +kernel), if_neg (fun hh => hz.2 (any_iff.1 (Bool.and_eq_true _ _ ▸ hh).1))]
      simp only [e]
  rw [hn]
end Go.Proofs.YtlihjmfdnkfmfaaGreatDoor
namespace Go.Proofs.YtlihjmfdnkfmfaaGreatDoor
open Go.RowKit Go.Lib

theorem pre_zero {s : ByteArray} (h : (preqB s).2 ≠ 0) : (preqB s).1 = zeroR := by
  unfold preqB at h ⊢
  split
  · rfl
  · rename_i h1
    rw [if_neg h1] at h
    split
    · rfl
    · rename_i h2
      rw [if_neg h2] at h
      unfold progAns at h ⊢
      split
      · rfl
      · rename_i h3
        rw [if_neg h3] at h
        split
        · rename_i h4
          simp only [h4] at h
          exact absurd rfl h
        · rfl
/-- the last member left out -/
theorem read_less {r : Rq} (h : (pprintB r).2 = 0) (hl : (pprintB r).1.length ≤ 19980) : ∃ m q, sortNames (reqMem r (fieldsB r.op)) = m ++ [q] ∧ m ≠ [] ∧ mayJ 64 (.mk 7 0 ⟨#[]⟩ [] m) = true ∧ (printB 64 (.mk 7 0 ⟨#[]⟩ [] m)).length ≤ 20000 ∧ (preqB ⟨(printB 64 (.mk 7 0 ⟨#[]⟩ [] m)).toArray⟩).2 = 4 := by
  obtain ⟨h1, h2, h3, h4⟩ := pp_ok h
  rw [h4] at hl
  obtain ⟨f, hf⟩ : ∃ f, fieldsB r.op = f := ⟨_, rfl⟩
  rw [hf] at h1 ⊢
  have ho : objR r = .mk 7 0 ⟨#[]⟩ [] (sortNames (reqMem r f)) := by unfold objR; rw [hf]
  rw [ho] at h3 hl
  have hlen : (sortNames (reqMem r f)).length = f.length + 1 := by rw [(sortNames_perm _).length_eq]; simp [reqMem]
  have hfl : 0 < f.length := by cases f with
    | nil => exact absurd rfl h1
    | cons a b => simp
  have hr := req_rise r r.op
  have hnd := req_ne r r.op
  have hfr := fields_rise r.op
  rw [hf] at hr hnd hfr
  have hop : (nm_op, wordV r.op) ∈ sortNames (reqMem r f) := (sort_mem _ _).2 (List.mem_cons_self ..)
  generalize hM : sortNames (reqMem r f) = M at *
  have hMn : M ≠ [] := fun e => by rw [e] at hlen; simp at hlen
  obtain ⟨m, q, rfl⟩ : ∃ m q, M = m ++ [q] := ⟨M.dropLast, M.getLast hMn, (List.dropLast_concat_getLast hMn).symm⟩
  have hml : m.length = f.length := by simpa using hlen
  have hmn : m ≠ [] := fun e => by rw [e] at hml; simp at hml; omega
  obtain ⟨p1, p2, p3⟩ := obj_parts h3
  have hm : mayJ 64 (.mk 7 0 ⟨#[]⟩ [] m) = true := obj_mk (fun x hx => p1 x (List.mem_append_left _ hx)) (List.pairwise_append.1 p2).1 (fun x hx => p3 x (List.mem_append_left _ hx))
  have hpl : (printB 64 (.mk 7 0 ⟨#[]⟩ [] m)).length ≤ 20000 := by
    rw [obj_snoc m q hmn] at hl
    simp only [List.length_append, List.length_dropLast, List.length_cons, List.length_nil] at hl
    omega
  refine ⟨m, q, rfl, hmn, hm, hpl, ?_⟩
  have hpp := parse_print hm hpl
  have hmo : memsOf (.mk 7 0 ⟨#[]⟩ [] m) = m := rfl
  unfold preqB
  rw [hpp]
  simp only
  rw [hmo, if_neg (by simp)]
  have has := asc_of (List.pairwise_append.1 p2).1
  split
  · rfl
  · rename_i hb
    cases hg : (getB nm_op m).2 with
    | false => exact absurd (.inl hg) hb
    | true =>
      have hmem := mem_of_get hg
      obtain ⟨p, hp, hpn⟩ := List.mem_map.1 hmem
      have hpe : p = (nm_op, wordV r.op) := by
        have h1 := get_of_mem has hp
        have h2 := get_of_mem (asc_of p2) (List.mem_append_left [q] hp)
        have h3 := get_of_mem (asc_of p2) hop
        rw [hpn] at h2
        have h4 : (p.2, true) = (wordV r.op, true) := h2.symm.trans h3
        have h5 : p.2 = wordV r.op := congrArg Prod.fst h4
        rw [← hpn, ← h5]
      have hge : getB nm_op m = (wordV r.op, true) := by
        have := get_of_mem has hp
        rw [hpe] at this
        exact this
      rw [hge]
      show (progAns r.op m).2 = 4
      unfold progAns
      rw [hf, if_neg h1, prog_ref _ has hfr.1 hmem hfr.2]
      unfold refR
      rw [if_neg (by omega)]
/-! what is read is printed -/
theorem truth_may (b : Bool) : mayJ 63 (truthV b) = true := by cases b <;> kernel_rfl
/-- a field is put as its own value tells -/
theorem put_get (r j : Rq) (nm : ByteArray) (x : JV) (h : getF r nm = getF (putF zeroR nm x) nm) : putF j nm (getF r nm) = putF j nm x := by
  rw [h]
  rcases name_ways nm with q | q | q | q | q | q | q | q | q | q
  all_goals
    first
      | (rw [(q 0 (putF zeroR nm x) zeroV).2.1, (q 0 j x).2.2.2, (q 0 zeroR x).2.2.2, (q 0 j (wordV _)).2.2.2]; rfl)
      | (rw [(q 0 (putF zeroR nm x) zeroV).2.2.1, (q 0 j x).2.2.2.2, (q 0 zeroR x).2.2.2.2]; first | (rw [(q 0 j (numV _)).2.2.2.2]; rfl) | (rw [(q 0 j (truthV _)).2.2.2.2]; cases (x.k == 3) <;> rfl))
set_option maxHeartbeats 4000000 in
/-- a field's value, where what it is read from may be -/
theorem field_may (nm : ByteArray) (x : JV) (hx : mayJ 63 x = true) (hk : kindF nm x = true) : mayJ 63 (getF (putF zeroR nm x) nm) = true := by
  have hs := shape_of (d := 62) hx
  rcases name_ways nm with q | q | q | q | q | q | q | q | q | q
  all_goals
    first
      | (rw [(q 0 (putF zeroR nm x) zeroV).2.1, (q 0 zeroR x).2.2.2]; rw [(q 0 zeroR x).2.2.1] at hk
         cases hs with
         | word k h => simp only [JV.k, beq_iff_eq] at hk; omega
         | num n h => exact absurd hk (by simp [numV, JV.k])
         | text s h => exact may_wordV h
         | list l h => exact absurd hk (by simp [listV, JV.k])
         | obj m h1 h2 => exact absurd hk (by simp [objV, JV.k]))
      | (rw [(q 0 (putF zeroR nm x) zeroV).2.2.1, (q 0 zeroR x).2.2.2.2]; rw [(q 0 zeroR x).2.2.2.1] at hk
         first
           | (cases hs with
              | word k h => exact absurd hk (by rcases h with rfl | rfl | rfl <;> decide)
              | num n h => exact may_numV h.1 h.2
              | text s h => exact absurd hk (by simp [wordV, JV.k])
              | list l h => exact absurd hk (by simp [listV, JV.k])
              | obj m h1 h2 => exact absurd hk (by simp [objV, JV.k]))
           | exact truth_may _)
end Go.Proofs.YtlihjmfdnkfmfaaGreatDoor
namespace Go.Proofs.YtlihjmfdnkfmfaaGreatDoor
open Go.RowKit Go.Lib

theorem fold_get (op : ByteArray) (x : ByteArray → JV) (j : Rq) : ∀ nm ∈ fieldsB op, getF ((fieldsB op).foldl (fun r nm => putF r nm (x nm)) j) nm = getF (putF zeroR nm (x nm)) nm := by
  rcases fields_cases op with e | e | e | e | e | e | e | e | e | e
  all_goals
    rw [e]
    intro nm h
    simp only [List.mem_cons, List.not_mem_nil, or_false] at h
  all_goals
    try (rcases h with rfl | rfl | rfl | rfl)
    try (rcases h with rfl | rfl | rfl)
    try (rcases h with rfl | rfl)
    try subst h
    all_goals kernel_rfl
theorem put_op (r : Rq) (nm : ByteArray) (x : JV) : (putF r nm x).op = r.op := by
  rcases name_ways nm with q | q | q | q | q | q | q | q | q | q
  all_goals first | rw [(q 0 r x).2.2.2] | rw [(q 0 r x).2.2.2.2]
theorem fold_op (x : ByteArray → JV) : ∀ (l : List ByteArray) (r : Rq), (l.foldl (fun r nm => putF r nm (x nm)) r).op = r.op
  | [], _ => rfl
  | nm :: l, r => by rw [List.foldl_cons, fold_op x l, put_op]
def SmT (r : Rq) : Prop := r.op.size ≤ 8000 ∧ r.user.size ≤ 8000 ∧ r.feed.size ≤ 8000 ∧ r.name.size ≤ 8000 ∧ r.token.size ≤ 8000
theorem put_small {r : Rq} (h : SmT r) (nm : ByteArray) {x : JV} (hx : x.s.size ≤ 8000) : SmT (putF r nm x) := by
  obtain ⟨h0, h1, h2, h3, h4⟩ := h
  rcases name_ways nm with q | q | q | q | q | q | q | q | q | q
  all_goals first | rw [(q 0 r x).2.2.2] | rw [(q 0 r x).2.2.2.2]
  all_goals first | exact ⟨h0, hx, h2, h3, h4⟩ | exact ⟨h0, h1, hx, h3, h4⟩ | exact ⟨h0, h1, h2, hx, h4⟩ | exact ⟨h0, h1, h2, h3, hx⟩ | exact ⟨h0, h1, h2, h3, h4⟩
theorem fold_small (x : ByteArray → JV) : ∀ (l : List ByteArray) (r : Rq), (∀ nm ∈ l, (x nm).s.size ≤ 8000) → SmT r → SmT (l.foldl (fun r nm => putF r nm (x nm)) r)
  | [], _, _, h => h
  | nm :: l, r, hl, h => by
    rw [List.foldl_cons]
    exact fold_small x l _ (fun y hy => hl y (List.mem_cons_of_mem _ hy)) (put_small h nm (hl nm (List.mem_cons_self ..)))
theorem kind_zero (nm : ByteArray) : kindF nm zeroV = false := by
  rcases name_ways nm with q | q | q | q | q | q | q | q | q | q
  all_goals first | (rw [(q 0 zeroR zeroV).2.2.1]; rfl) | (rw [(q 0 zeroR zeroV).2.2.2.1]; rfl)
theorem mems_asc {V : JV} (h : mayJ 64 V = true) : BAsc' ((memsOf V).map (·.1)) := by
  have hs := shape_of (d := 63) h
  unfold memsOf
  split
  · rename_i hk
    cases hs with
    | word k hk' => exact List.Pairwise.nil
    | num n hn => exact List.Pairwise.nil
    | text s hs => exact List.Pairwise.nil
    | list l hl => exact List.Pairwise.nil
    | obj m hm hq => exact asc_of ((members_iff none m).1 hm).2.2
  · exact List.Pairwise.nil
theorem names_short (op : ByteArray) : ∀ nm ∈ fieldsB op, shortB nm = true := by
  rcases fields_cases op with e | e | e | e | e | e | e | e | e | e
  all_goals
    rw [e]
    intro nm h
    simp only [List.mem_cons, List.not_mem_nil, or_false] at h
  all_goals
    try (rcases h with rfl | rfl | rfl | rfl)
    try (rcases h with rfl | rfl | rfl)
    try (rcases h with rfl | rfl)
    try subst h
    all_goals kernel_rfl
theorem read_back {s : ByteArray} (h : (preqB s).2 = 0) : (pprintB (preqB s).1).2 = 0 ∧ SmR (preqB s).1 := by
  unfold preqB at h ⊢
  split at h
  · rename_i h1; exact absurd h h1
  rename_i h1
  rw [if_neg h1]
  have hpz : (parseB s).2 = 0 := Decidable.of_not_not h1
  have hV := parse_may hpz
  split at h
  · exact absurd h (by decide)
  rename_i h2
  rw [if_neg h2]
  have ho2 : (getB nm_op (memsOf (parseB s).1)).2 = true := by
    cases hg : (getB nm_op (memsOf (parseB s).1)).2 with
    | true => rfl
    | false => exact absurd (.inl hg) h2
  have hok : (getB nm_op (memsOf (parseB s).1)).1.k = 5 := by
    by_cases hg : (getB nm_op (memsOf (parseB s).1)).1.k = 5
    · exact hg
    · exact absurd (.inr hg) h2
  have has := mems_asc hV
  have hmm := may_mem (d := 63) hV
  generalize memsOf (parseB s).1 = m at *
  clear hV hpz h1 h2
  have hxm : ∀ nm, (getB nm m).1 = zeroV ∨ mayJ 63 (getB nm m).1 = true := fun nm => by
    rcases getB_or nm m with e | ⟨q, hq, e⟩
    · exact .inl e
    · exact .inr (by rw [e]; exact hmm q hq)
  obtain ⟨op, hop⟩ : ∃ op, (getB nm_op m).1.s = op := ⟨_, rfl⟩
  rw [hop] at h ⊢
  have hos : shortB op = true := by
    rcases hxm nm_op with e | e
    · rw [e] at hok; exact absurd hok (by decide)
    · have hs := shape_of (d := 62) e
      generalize hx : (getB nm_op m).1 = x at *
      cases hs with
      | word k hk => simp only [JV.k] at hok; omega
      | num n hn => exact absurd hok (by simp [numV, JV.k])
      | text t ht => rw [← hop]; exact ht
      | list l hl => exact absurd hok (by simp [listV, JV.k])
      | obj m' h1 h2 => exact absurd hok (by simp [objV, JV.k])
  unfold progAns at h ⊢
  split at h
  · exact absurd h (by decide)
  rename_i h3
  rw [if_neg h3]
  have hfr := fields_rise op
  rw [prog_ref _ has hfr.1 (mem_of_get ho2) hfr.2] at h ⊢
  cases hq : refR (fieldsB op) m { zeroR with op := op } with
  | none => rw [hq] at h; exact absurd h (by decide)
  | some r =>
    simp only
    unfold refR at hq
    split at hq
    case isFalse => cases hq
    obtain ⟨hall, hr⟩ := ref_some hq
    have hro : r.op = op := by rw [hr]; exact fold_op (fun nm => (getB nm m).1) _ _
    have hget : ∀ nm ∈ fieldsB op, getF r nm = getF (putF zeroR nm (getB nm m).1) nm := fun nm hnm => by
      have := fold_get op (fun nm => (getB nm m).1) { zeroR with op := op } nm hnm
      rw [← hr] at this
      exact this
    have hmay : ∀ nm ∈ fieldsB op, mayJ 63 (getB nm m).1 = true := fun nm hnm => by
      rcases hxm nm with e | e
      · have := (hall nm hnm).2
        rw [e, kind_zero] at this
        cases this
      · exact e
    have hjust : justB r = r := by
      unfold justB
      rw [hro]
      have hfold : ∀ (l : List ByteArray) (j : Rq), (∀ nm ∈ l, nm ∈ fieldsB op) → l.foldl (fun j nm => putF j nm (getF r nm)) j = l.foldl (fun j nm => putF j nm (getB nm m).1) j := fun l => by
        induction l with
        | nil => intro j _; rfl
        | cons nm l ih =>
          intro j hl
          simp only [List.foldl_cons]
          rw [put_get r j nm _ (hget nm (hl nm (List.mem_cons_self ..))), ih _ (fun x hx => hl x (List.mem_cons_of_mem _ hx))]
      rw [hfold _ _ (fun _ h => h)]
      exact hr.symm
    have hobj : mayJ 64 (objR r) = true := by
      have := obj_out (d := 63) (m := reqMem r (fieldsB op)) (fun y hy => by
        rcases List.mem_cons.1 hy with rfl | hy
        · exact ⟨by show shortB nm_op = true; kernel_rfl, by show mayJ 63 (wordV r.op) = true; rw [hro]; exact may_wordV hos⟩
        · obtain ⟨nm, hnm, rfl⟩ := List.mem_map.1 hy
          exact ⟨names_short op nm hnm, by show mayJ 63 (getF r nm) = true; rw [hget nm hnm]; exact field_may nm _ (hmay nm hnm) (hall nm hnm).2⟩) (req_ne r op)
      unfold objR
      rw [hro]
      exact this
    refine ⟨?_, ?_⟩
    · unfold pprintB
      rw [hro, if_neg h3, if_neg (fun hh => hh hjust)]
      show (if mayJ 64 (objR r) = true then (0 : Int) else 4) = 0
      rw [if_pos hobj]
    · have hsm : SmT r := by
        rw [hr]
        exact fold_small (fun nm => (getB nm m).1) _ _ (fun nm hnm => may_text (hmay nm hnm)) ⟨(short_len hos).2, Nat.zero_le _, Nat.zero_le _, Nat.zero_le _, Nat.zero_le _⟩
      obtain ⟨a, b, c, d, e⟩ := hsm
      exact ⟨by omega, by omega, by omega, by omega, by omega⟩
end Go.Proofs.YtlihjmfdnkfmfaaGreatDoor
namespace Go.Proofs.YtlihjmfdnkfmfaaGreatDoor
open Go.RowKit Go.Lib

/-- the head of a slice of bytes -/
theorem bsl_take {w : World} {F : Nat → Prop} {A : Option Addr} {n c k : Nat} {l : List UInt8} (h : BSl w F (.slice A n c) ⟨l.toArray⟩) (hk : k ≤ l.length) : BSl w F (.slice A k c) ⟨(l.take k).toArray⟩ := by
  have hz : (⟨l.toArray⟩ : ByteArray).size = l.length := by simp [ByteArray.size]
  have hzk : (⟨(l.take k).toArray⟩ : ByteArray).size = k := by simp [ByteArray.size]; omega
  rcases h with ⟨b, o, c', e, hF, hc⟩ | ⟨h0, A', c', e⟩
  · injection e with e1 e2 e3
    subst e1; subst e3
    refine .inl ⟨b, o, c, by rw [hzk], hF, fun i hi => ?_⟩
    rw [hzk] at hi
    have := hc i (by rw [hz]; omega)
    exact this.trans (by show some (Value.int .u8 (l[i].toNat : Int)) = some (Value.int .u8 ((l.take k)[i].toNat : Int)); rw [List.getElem_take])
  · injection e with e1 e2 e3
    subst e1; subst e3
    rw [hz] at h0
    obtain rfl : k = 0 := by omega
    exact .inr ⟨by rw [hzk], A, c, rfl⟩
end Go.Proofs.YtlihjmfdnkfmfaaGreatDoor
namespace Go.Proofs.YtlihjmfdnkfmfaaGreatDoor
open Go.RowKit Go.Lib

theorem sl_cap {α : Type} {T : Ty α} {w : World} {F : Nat → Prop} {A : Option Addr} {n c : Nat} {xs : List α} (h : Sl T w F (.slice A n c) xs) (hx : xs ≠ []) : n ≤ c ∧ n = xs.length := by
  rcases h with ⟨e, _⟩ | ⟨b, o, c', e, _, h3, _⟩
  · exact absurd e hx
  · injection e with e1 e2 e3
    exact ⟨by omega, e2⟩
theorem sl_take {α : Type} {T : Ty α} {w : World} {F : Nat → Prop} {A : Option Addr} {n c : Nat} {xs ys : List α} (h : Sl T w F (.slice A n c) (xs ++ ys)) (hx : xs ≠ []) : Sl T w F (.slice A xs.length c) xs := by
  rcases h with ⟨e, _⟩ | ⟨b, o, c', e, hb, h3, h4, cs, h1, h2⟩
  · exact absurd (List.append_eq_nil_iff.1 e).1 hx
  · injection e with e1 e2 e3
    subst e1; subst e3
    have k1 := h1.take xs.length
    rw [List.take_left' rfl] at k1
    refine .inr ⟨b, o, c, rfl, hb, by rw [List.length_append] at h3; omega, h4, _, k1, fun j u hj => h2 j u ?_⟩
    rw [List.getElem?_take] at hj
    split at hj
    · exact hj
    · cases hj
end Go.Proofs.YtlihjmfdnkfmfaaGreatDoor
