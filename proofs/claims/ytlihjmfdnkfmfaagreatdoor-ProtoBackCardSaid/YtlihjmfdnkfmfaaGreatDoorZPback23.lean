/- Parts of the proof: Pg, Po, Nl. -/
import Derived.Test.YtlihjmfdnkfmfaaGreatDoorZPback22
import Derived.Test.YtlihjmfdnkfmfaaGreatDoorZPback8
import Derived.Test.YtlihjmfdnkfmfaaGreatDoorZPback16
import Derived.Test.YtlihjmfdnkfmfaaGreatDoorZPback9
import Derived.Lib.SlBytesConst
namespace Go.Proofs.YtlihjmfdnkfmfaaGreatDoor
open Go.RowKit Go.Lib

def rqC (r : Rq) : Array Value := #[.string r.op, .string r.user, .string r.feed, .string r.name, .string r.token, .int .i64 r.tx, .int .i64 r.entry, .int .i64 r.after, .int .i64 r.limit, .int .i64 r.before, .bool r.on]
def RqAt (R : Nat) (r : Rq) (w : World) : Prop := w.heap[R]? = some (.cells (rqC r) 24 (0, 0))
theorem RqAt.later {R : Nat} {r : Rq} {w W : World} (h : RqAt R r w) (hb : Below w.heap.size w W) : RqAt R r W := Below.at hb h
theorem RqAt.cells {R : Nat} {r : Rq} {w : World} (h : RqAt R r w) : (w.cell? ⟨R, 0, none⟩ = some (.string r.op) ∧ w.cell? ⟨R, 1, none⟩ = some (.string r.user) ∧ w.cell? ⟨R, 2, none⟩ = some (.string r.feed) ∧ w.cell? ⟨R, 3, none⟩ = some (.string r.name) ∧ w.cell? ⟨R, 4, none⟩ = some (.string r.token) ∧ w.cell? ⟨R, 5, none⟩ = some (.int .i64 r.tx) ∧ w.cell? ⟨R, 6, none⟩ = some (.int .i64 r.entry) ∧ w.cell? ⟨R, 7, none⟩ = some (.int .i64 r.after) ∧ w.cell? ⟨R, 8, none⟩ = some (.int .i64 r.limit) ∧ w.cell? ⟨R, 9, none⟩ = some (.int .i64 r.before) ∧ w.cell? ⟨R, 10, none⟩ = some (.bool r.on)) ∧
    (w.frozen? ⟨R, 0, none⟩ = false ∧ w.frozen? ⟨R, 1, none⟩ = false ∧ w.frozen? ⟨R, 2, none⟩ = false ∧ w.frozen? ⟨R, 3, none⟩ = false ∧ w.frozen? ⟨R, 4, none⟩ = false ∧ w.frozen? ⟨R, 5, none⟩ = false ∧ w.frozen? ⟨R, 6, none⟩ = false ∧ w.frozen? ⟨R, 7, none⟩ = false ∧ w.frozen? ⟨R, 8, none⟩ = false ∧ w.frozen? ⟨R, 9, none⟩ = false ∧ w.frozen? ⟨R, 10, none⟩ = false) ∧ R < w.heap.size := by
  unfold RqAt rqC at h
  refine ⟨⟨by rw [Lib.cell_of_heap h]; rfl, by rw [Lib.cell_of_heap h]; rfl, by rw [Lib.cell_of_heap h]; rfl, by rw [Lib.cell_of_heap h]; rfl, by rw [Lib.cell_of_heap h]; rfl, by rw [Lib.cell_of_heap h]; rfl, by rw [Lib.cell_of_heap h]; rfl, by rw [Lib.cell_of_heap h]; rfl, by rw [Lib.cell_of_heap h]; rfl, by rw [Lib.cell_of_heap h]; rfl, by rw [Lib.cell_of_heap h]; rfl⟩, ⟨by simp [World.frozen?, h], by simp [World.frozen?, h], by simp [World.frozen?, h], by simp [World.frozen?, h], by simp [World.frozen?, h], by simp [World.frozen?, h], by simp [World.frozen?, h], by simp [World.frozen?, h], by simp [World.frozen?, h], by simp [World.frozen?, h], by simp [World.frozen?, h]⟩, (Array.getElem?_eq_some_iff.1 h).1⟩
/-- the ways that a field's name goes -/
theorem name_ways (nm : ByteArray) :
    (∀ R r x, wordP R nm = some ⟨R, 1, none⟩ ∧ getF r nm = wordV r.user ∧ kindF nm x = (x.k == 5) ∧ putF r nm x = { r with user := x.s }) ∨
    (∀ R r x, wordP R nm = some ⟨R, 2, none⟩ ∧ getF r nm = wordV r.feed ∧ kindF nm x = (x.k == 5) ∧ putF r nm x = { r with feed := x.s }) ∨
    (∀ R r x, wordP R nm = some ⟨R, 3, none⟩ ∧ getF r nm = wordV r.name ∧ kindF nm x = (x.k == 5) ∧ putF r nm x = { r with name := x.s }) ∨
    (∀ R r x, wordP R nm = some ⟨R, 4, none⟩ ∧ getF r nm = wordV r.token ∧ kindF nm x = (x.k == 5) ∧ putF r nm x = { r with token := x.s }) ∨
    (∀ R r x, wordP R nm = none ∧ numP R nm = some ⟨R, 5, none⟩ ∧ getF r nm = numV r.tx ∧ kindF nm x = (x.k == 4) ∧ putF r nm x = { r with tx := x.n }) ∨
    (∀ R r x, wordP R nm = none ∧ numP R nm = some ⟨R, 6, none⟩ ∧ getF r nm = numV r.entry ∧ kindF nm x = (x.k == 4) ∧ putF r nm x = { r with entry := x.n }) ∨
    (∀ R r x, wordP R nm = none ∧ numP R nm = some ⟨R, 7, none⟩ ∧ getF r nm = numV r.after ∧ kindF nm x = (x.k == 4) ∧ putF r nm x = { r with after := x.n }) ∨
    (∀ R r x, wordP R nm = none ∧ numP R nm = some ⟨R, 8, none⟩ ∧ getF r nm = numV r.limit ∧ kindF nm x = (x.k == 4) ∧ putF r nm x = { r with limit := x.n }) ∨
    (∀ R r x, wordP R nm = none ∧ numP R nm = some ⟨R, 9, none⟩ ∧ getF r nm = numV r.before ∧ kindF nm x = (x.k == 4) ∧ putF r nm x = { r with before := x.n }) ∨
    (∀ R r x, wordP R nm = none ∧ numP R nm = none ∧ getF r nm = truthV r.on ∧ kindF nm x = (x.k == 2 || x.k == 3) ∧ putF r nm x = { r with on := x.k == 3 }) := by
  by_cases h0 : sm nm nm_user = true
  · exact .inl (fun R r x => ⟨by simp [wordP, h0], by simp [getF, h0], by simp [kindF, isWordF, isNumF, h0], by simp [putF, h0]⟩)
  by_cases h1 : sm nm nm_feed = true
  · exact .inr (.inl (fun R r x => ⟨by simp [wordP, h0, h1], by simp [getF, h0, h1], by simp [kindF, isWordF, isNumF, h0, h1], by simp [putF, h0, h1]⟩))
  by_cases h2 : sm nm nm_name = true
  · exact .inr (.inr (.inl (fun R r x => ⟨by simp [wordP, h0, h1, h2], by simp [getF, h0, h1, h2], by simp [kindF, isWordF, isNumF, h0, h1, h2], by simp [putF, h0, h1, h2]⟩)))
  by_cases h3 : sm nm nm_token = true
  · exact .inr (.inr (.inr (.inl (fun R r x => ⟨by simp [wordP, h0, h1, h2, h3], by simp [getF, h0, h1, h2, h3], by simp [kindF, isWordF, isNumF, h0, h1, h2, h3], by simp [putF, h0, h1, h2, h3]⟩))))
  by_cases h4 : sm nm nm_tx = true
  · exact .inr (.inr (.inr (.inr (.inl (fun R r x => ⟨by simp [wordP, h0, h1, h2, h3, h4], by simp [numP, h0, h1, h2, h3, h4], by simp [getF, h0, h1, h2, h3, h4], by simp [kindF, isWordF, isNumF, h0, h1, h2, h3, h4], by simp [putF, h0, h1, h2, h3, h4]⟩)))))
  by_cases h5 : sm nm nm_entry = true
  · exact .inr (.inr (.inr (.inr (.inr (.inl (fun R r x => ⟨by simp [wordP, h0, h1, h2, h3, h4, h5], by simp [numP, h0, h1, h2, h3, h4, h5], by simp [getF, h0, h1, h2, h3, h4, h5], by simp [kindF, isWordF, isNumF, h0, h1, h2, h3, h4, h5], by simp [putF, h0, h1, h2, h3, h4, h5]⟩))))))
  by_cases h6 : sm nm nm_after = true
  · exact .inr (.inr (.inr (.inr (.inr (.inr (.inl (fun R r x => ⟨by simp [wordP, h0, h1, h2, h3, h4, h5, h6], by simp [numP, h0, h1, h2, h3, h4, h5, h6], by simp [getF, h0, h1, h2, h3, h4, h5, h6], by simp [kindF, isWordF, isNumF, h0, h1, h2, h3, h4, h5, h6], by simp [putF, h0, h1, h2, h3, h4, h5, h6]⟩)))))))
  by_cases h7 : sm nm nm_limit = true
  · exact .inr (.inr (.inr (.inr (.inr (.inr (.inr (.inl (fun R r x => ⟨by simp [wordP, h0, h1, h2, h3, h4, h5, h6, h7], by simp [numP, h0, h1, h2, h3, h4, h5, h6, h7], by simp [getF, h0, h1, h2, h3, h4, h5, h6, h7], by simp [kindF, isWordF, isNumF, h0, h1, h2, h3, h4, h5, h6, h7], by simp [putF, h0, h1, h2, h3, h4, h5, h6, h7]⟩))))))))
  by_cases h8 : sm nm nm_before = true
  · exact .inr (.inr (.inr (.inr (.inr (.inr (.inr (.inr (.inl (fun R r x => ⟨by simp [wordP, h0, h1, h2, h3, h4, h5, h6, h7, h8], by simp [numP, h0, h1, h2, h3, h4, h5, h6, h7, h8], by simp [getF, h0, h1, h2, h3, h4, h5, h6, h7, h8], by simp [kindF, isWordF, isNumF, h0, h1, h2, h3, h4, h5, h6, h7, h8], by simp [putF, h0, h1, h2, h3, h4, h5, h6, h7, h8]⟩)))))))))
  exact .inr (.inr (.inr (.inr (.inr (.inr (.inr (.inr (.inr (fun R r x => ⟨by simp [wordP, h0, h1, h2, h3, h4, h5, h6, h7, h8], by simp [numP, h0, h1, h2, h3, h4, h5, h6, h7, h8], by simp [getF, h0, h1, h2, h3, h4, h5, h6, h7, h8], by simp [kindF, isWordF, isNumF, h0, h1, h2, h3, h4, h5, h6, h7, h8], by simp [putF, h0, h1, h2, h3, h4, h5, h6, h7, h8]⟩)))))))))
def plainC (x : JV) : Array Value := #[.int .i64 x.k, .int .i64 x.n, .string x.s, .slice none 0 0, .slice none 0 0]
theorem set5_bel {W wq : World} {X : Nat} {T : TypeId} {a0 a1 a2 a3 a4 : Value} (v0 v1 v2 v3 v4 : Value) (h : wq.heap[X]? = some (.cells #[a0, a1, a2, a3, a4] T (0, 0))) (hb : Below W.heap.size W wq) (hX : W.heap.size ≤ X) :
    (((((wq.setCell ⟨X, 0, none⟩ v0).setCell ⟨X, 1, none⟩ v1).setCell ⟨X, 2, none⟩ v2).setCell ⟨X, 3, none⟩ v3).setCell ⟨X, 4, none⟩ v4).heap[X]? = some (.cells #[v0, v1, v2, v3, v4] T (0, 0)) ∧ Below W.heap.size W (((((wq.setCell ⟨X, 0, none⟩ v0).setCell ⟨X, 1, none⟩ v1).setCell ⟨X, 2, none⟩ v2).setCell ⟨X, 3, none⟩ v3).setCell ⟨X, 4, none⟩ v4) :=
  ⟨set5 v0 v1 v2 v3 v4 h, bel_set (p := ⟨X, 4, none⟩) (bel_set (p := ⟨X, 3, none⟩) (bel_set (p := ⟨X, 2, none⟩) (bel_set (p := ⟨X, 1, none⟩) (bel_set (p := ⟨X, 0, none⟩) hb hX v0) hX v1) hX v2) hX v3) hX v4⟩
set_option maxRecDepth 100000 in
set_option maxHeartbeats 16000000 in
theorem getF_any (R : Nat) (r : Rq) (nm : ByteArray) (w : World) (h : RqAt R r w) :
    Calls Tryz.prog 62 #[.pointer (some ⟨R, 0, none⟩), .string nm] w fun e w' => e = .returned (.agg (plainC (getF r nm))) ∧ Below w.heap.size w w' := by
  have hw := wordP_any R nm
  have hn := numP_any R nm
  have hbA : Below w.heap.size w (w.alloc (.cells #[.int .i64 0, .int .i64 0, .string ⟨#[]⟩, .slice none 0 0, .slice none 0 0] 43)) := bel_alloc (Below.refl _ _) _
  have hA := heap_alloc_new w (.cells #[.int .i64 0, .int .i64 0, .string ⟨#[]⟩, .slice none 0 0, .slice none 0 0] 43)
  obtain ⟨⟨c0, c1, c2, c3, c4, c5, c6, c7, c8, c9, c10⟩, _, hR⟩ := (h.later hbA).cells
  have HB := Lib.hid hbA; have HA := Lib.hid hA
  clear h hbA hA
  rcases name_ways nm with q | q | q | q | q | q | q | q | q | q
  · obtain ⟨e1, e2, _, _⟩ := q R r zeroV
    rw [e2]; rw [e1] at hw
    clear q e1 e2 hn
    go_enter Tryz.func62, Tryz.ntmps62
    go_upto_region 1 with (fail)
    generalize w.alloc (.cells #[.int .i64 0, .int .i64 0, .string ⟨#[]⟩, .slice none 0 0, .slice none 0 0] 43) = W at *
    go_wp2_with fail
    refine Calls.mono (hw _) ?_
    rintro e w1 ⟨rfl, hb⟩
    replace hb := hb.symm
    subst hb
    go_wp2_with fail
    refine Calls.mono (ptext_any _ _) ?_
    rintro e w2 ⟨rfl, hb⟩
    have HB2 := Lib.hid (bel_trans HB.out hb); have HA2 := Lib.hid (Below.at hb HA.out)
    clear hb HB HA c0 c1 c2 c3 c4 c5 c6 c7 c8 c9 c10
    obtain ⟨⟨p0, p1, p2, p3, p4⟩, ⟨z0, z1, z2, z3, z4⟩, _⟩ := cells5 HA2.out
    have hf := set5_bel (.int .i64 5) (.int .i64 0) (.string r.user) (.slice none 0 0) (.slice none 0 0) HA2.out HB2.out (Nat.le_refl _)
    go_wp2_with fail
    exact bodyPost_ret (results_cell_row rfl _ _ w.heap.size 43 (plainC (wordV r.user)) (0, 0) _ rfl hf.1 Tryz.underlying43 rfl (by kernel_rfl)) rfl ⟨rfl, hf.2⟩
  · obtain ⟨e1, e2, _, _⟩ := q R r zeroV
    rw [e2]; rw [e1] at hw
    clear q e1 e2 hn
    go_enter Tryz.func62, Tryz.ntmps62
    go_upto_region 1 with (fail)
    generalize w.alloc (.cells #[.int .i64 0, .int .i64 0, .string ⟨#[]⟩, .slice none 0 0, .slice none 0 0] 43) = W at *
    go_wp2_with fail
    refine Calls.mono (hw _) ?_
    rintro e w1 ⟨rfl, hb⟩
    replace hb := hb.symm
    subst hb
    go_wp2_with fail
    refine Calls.mono (ptext_any _ _) ?_
    rintro e w2 ⟨rfl, hb⟩
    have HB2 := Lib.hid (bel_trans HB.out hb); have HA2 := Lib.hid (Below.at hb HA.out)
    clear hb HB HA c0 c1 c2 c3 c4 c5 c6 c7 c8 c9 c10
    obtain ⟨⟨p0, p1, p2, p3, p4⟩, ⟨z0, z1, z2, z3, z4⟩, _⟩ := cells5 HA2.out
    have hf := set5_bel (.int .i64 5) (.int .i64 0) (.string r.feed) (.slice none 0 0) (.slice none 0 0) HA2.out HB2.out (Nat.le_refl _)
    go_wp2_with fail
    exact bodyPost_ret (results_cell_row rfl _ _ w.heap.size 43 (plainC (wordV r.feed)) (0, 0) _ rfl hf.1 Tryz.underlying43 rfl (by kernel_rfl)) rfl ⟨rfl, hf.2⟩
  · obtain ⟨e1, e2, _, _⟩ := q R r zeroV
    rw [e2]; rw [e1] at hw
    clear q e1 e2 hn
    go_enter Tryz.func62, Tryz.ntmps62
    go_upto_region 1 with (fail)
    generalize w.alloc (.cells #[.int .i64 0, .int .i64 0, .string ⟨#[]⟩, .slice none 0 0, .slice none 0 0] 43) = W at *
    go_wp2_with fail
    refine Calls.mono (hw _) ?_
    rintro e w1 ⟨rfl, hb⟩
    replace hb := hb.symm
    subst hb
    go_wp2_with fail
    refine Calls.mono (ptext_any _ _) ?_
    rintro e w2 ⟨rfl, hb⟩
    have HB2 := Lib.hid (bel_trans HB.out hb); have HA2 := Lib.hid (Below.at hb HA.out)
    clear hb HB HA c0 c1 c2 c3 c4 c5 c6 c7 c8 c9 c10
    obtain ⟨⟨p0, p1, p2, p3, p4⟩, ⟨z0, z1, z2, z3, z4⟩, _⟩ := cells5 HA2.out
    have hf := set5_bel (.int .i64 5) (.int .i64 0) (.string r.name) (.slice none 0 0) (.slice none 0 0) HA2.out HB2.out (Nat.le_refl _)
    go_wp2_with fail
    exact bodyPost_ret (results_cell_row rfl _ _ w.heap.size 43 (plainC (wordV r.name)) (0, 0) _ rfl hf.1 Tryz.underlying43 rfl (by kernel_rfl)) rfl ⟨rfl, hf.2⟩
  · obtain ⟨e1, e2, _, _⟩ := q R r zeroV
    rw [e2]; rw [e1] at hw
    clear q e1 e2 hn
    go_enter Tryz.func62, Tryz.ntmps62
    go_upto_region 1 with (fail)
    generalize w.alloc (.cells #[.int .i64 0, .int .i64 0, .string ⟨#[]⟩, .slice none 0 0, .slice none 0 0] 43) = W at *
    go_wp2_with fail
    refine Calls.mono (hw _) ?_
    rintro e w1 ⟨rfl, hb⟩
    replace hb := hb.symm
    subst hb
    go_wp2_with fail
    refine Calls.mono (ptext_any _ _) ?_
    rintro e w2 ⟨rfl, hb⟩
    have HB2 := Lib.hid (bel_trans HB.out hb); have HA2 := Lib.hid (Below.at hb HA.out)
    clear hb HB HA c0 c1 c2 c3 c4 c5 c6 c7 c8 c9 c10
    obtain ⟨⟨p0, p1, p2, p3, p4⟩, ⟨z0, z1, z2, z3, z4⟩, _⟩ := cells5 HA2.out
    have hf := set5_bel (.int .i64 5) (.int .i64 0) (.string r.token) (.slice none 0 0) (.slice none 0 0) HA2.out HB2.out (Nat.le_refl _)
    go_wp2_with fail
    exact bodyPost_ret (results_cell_row rfl _ _ w.heap.size 43 (plainC (wordV r.token)) (0, 0) _ rfl hf.1 Tryz.underlying43 rfl (by kernel_rfl)) rfl ⟨rfl, hf.2⟩
  · obtain ⟨e1, e2, e3, _, _⟩ := q R r zeroV
    rw [e3]; rw [e1] at hw; rw [e2] at hn
    clear q e1 e2 e3
    go_enter Tryz.func62, Tryz.ntmps62
    go_upto_region 1 with (fail)
    generalize w.alloc (.cells #[.int .i64 0, .int .i64 0, .string ⟨#[]⟩, .slice none 0 0, .slice none 0 0] 43) = W at *
    go_wp2_with fail
    refine Calls.mono (hw _) ?_
    rintro e w1 ⟨rfl, hb⟩
    replace hb := hb.symm
    subst hb
    go_wp2_with fail
    refine Calls.mono (hn _) ?_
    rintro e w1 ⟨rfl, hb⟩
    replace hb := hb.symm
    subst hb
    go_wp2_with fail
    refine Calls.mono (pnumber_any _ _) ?_
    rintro e w2 ⟨rfl, hb⟩
    have HB2 := Lib.hid (bel_trans HB.out hb); have HA2 := Lib.hid (Below.at hb HA.out)
    clear hb HB HA c0 c1 c2 c3 c4 c5 c6 c7 c8 c9 c10
    obtain ⟨⟨p0, p1, p2, p3, p4⟩, ⟨z0, z1, z2, z3, z4⟩, _⟩ := cells5 HA2.out
    have hf := set5_bel (.int .i64 4) (.int .i64 r.tx) (.string ⟨#[]⟩) (.slice none 0 0) (.slice none 0 0) HA2.out HB2.out (Nat.le_refl _)
    go_wp2_with fail
    exact bodyPost_ret (results_cell_row rfl _ _ w.heap.size 43 (plainC (numV r.tx)) (0, 0) _ rfl hf.1 Tryz.underlying43 rfl (by kernel_rfl)) rfl ⟨rfl, hf.2⟩
  · obtain ⟨e1, e2, e3, _, _⟩ := q R r zeroV
    rw [e3]; rw [e1] at hw; rw [e2] at hn
    clear q e1 e2 e3
    go_enter Tryz.func62, Tryz.ntmps62
    go_upto_region 1 with (fail)
    generalize w.alloc (.cells #[.int .i64 0, .int .i64 0, .string ⟨#[]⟩, .slice none 0 0, .slice none 0 0] 43) = W at *
    go_wp2_with fail
    refine Calls.mono (hw _) ?_
    rintro e w1 ⟨rfl, hb⟩
    replace hb := hb.symm
    subst hb
    go_wp2_with fail
    refine Calls.mono (hn _) ?_
    rintro e w1 ⟨rfl, hb⟩
    replace hb := hb.symm
    subst hb
    go_wp2_with fail
    refine Calls.mono (pnumber_any _ _) ?_
    rintro e w2 ⟨rfl, hb⟩
    have HB2 := Lib.hid (bel_trans HB.out hb); have HA2 := Lib.hid (Below.at hb HA.out)
    clear hb HB HA c0 c1 c2 c3 c4 c5 c6 c7 c8 c9 c10
    obtain ⟨⟨p0, p1, p2, p3, p4⟩, ⟨z0, z1, z2, z3, z4⟩, _⟩ := cells5 HA2.out
    have hf := set5_bel (.int .i64 4) (.int .i64 r.entry) (.string ⟨#[]⟩) (.slice none 0 0) (.slice none 0 0) HA2.out HB2.out (Nat.le_refl _)
    go_wp2_with fail
    exact bodyPost_ret (results_cell_row rfl _ _ w.heap.size 43 (plainC (numV r.entry)) (0, 0) _ rfl hf.1 Tryz.underlying43 rfl (by kernel_rfl)) rfl ⟨rfl, hf.2⟩
  · obtain ⟨e1, e2, e3, _, _⟩ := q R r zeroV
    rw [e3]; rw [e1] at hw; rw [e2] at hn
    clear q e1 e2 e3
    go_enter Tryz.func62, Tryz.ntmps62
    go_upto_region 1 with (fail)
    generalize w.alloc (.cells #[.int .i64 0, .int .i64 0, .string ⟨#[]⟩, .slice none 0 0, .slice none 0 0] 43) = W at *
    go_wp2_with fail
    refine Calls.mono (hw _) ?_
    rintro e w1 ⟨rfl, hb⟩
    replace hb := hb.symm
    subst hb
    go_wp2_with fail
    refine Calls.mono (hn _) ?_
    rintro e w1 ⟨rfl, hb⟩
    replace hb := hb.symm
    subst hb
    go_wp2_with fail
    refine Calls.mono (pnumber_any _ _) ?_
    rintro e w2 ⟨rfl, hb⟩
    have HB2 := Lib.hid (bel_trans HB.out hb); have HA2 := Lib.hid (Below.at hb HA.out)
    clear hb HB HA c0 c1 c2 c3 c4 c5 c6 c7 c8 c9 c10
    obtain ⟨⟨p0, p1, p2, p3, p4⟩, ⟨z0, z1, z2, z3, z4⟩, _⟩ := cells5 HA2.out
    have hf := set5_bel (.int .i64 4) (.int .i64 r.after) (.string ⟨#[]⟩) (.slice none 0 0) (.slice none 0 0) HA2.out HB2.out (Nat.le_refl _)
    go_wp2_with fail
    exact bodyPost_ret (results_cell_row rfl _ _ w.heap.size 43 (plainC (numV r.after)) (0, 0) _ rfl hf.1 Tryz.underlying43 rfl (by kernel_rfl)) rfl ⟨rfl, hf.2⟩
  · obtain ⟨e1, e2, e3, _, _⟩ := q R r zeroV
    rw [e3]; rw [e1] at hw; rw [e2] at hn
    clear q e1 e2 e3
    go_enter Tryz.func62, Tryz.ntmps62
    go_upto_region 1 with (fail)
    generalize w.alloc (.cells #[.int .i64 0, .int .i64 0, .string ⟨#[]⟩, .slice none 0 0, .slice none 0 0] 43) = W at *
    go_wp2_with fail
    refine Calls.mono (hw _) ?_
    rintro e w1 ⟨rfl, hb⟩
    replace hb := hb.symm
    subst hb
    go_wp2_with fail
    refine Calls.mono (hn _) ?_
    rintro e w1 ⟨rfl, hb⟩
    replace hb := hb.symm
    subst hb
    go_wp2_with fail
    refine Calls.mono (pnumber_any _ _) ?_
    rintro e w2 ⟨rfl, hb⟩
    have HB2 := Lib.hid (bel_trans HB.out hb); have HA2 := Lib.hid (Below.at hb HA.out)
    clear hb HB HA c0 c1 c2 c3 c4 c5 c6 c7 c8 c9 c10
    obtain ⟨⟨p0, p1, p2, p3, p4⟩, ⟨z0, z1, z2, z3, z4⟩, _⟩ := cells5 HA2.out
    have hf := set5_bel (.int .i64 4) (.int .i64 r.limit) (.string ⟨#[]⟩) (.slice none 0 0) (.slice none 0 0) HA2.out HB2.out (Nat.le_refl _)
    go_wp2_with fail
    exact bodyPost_ret (results_cell_row rfl _ _ w.heap.size 43 (plainC (numV r.limit)) (0, 0) _ rfl hf.1 Tryz.underlying43 rfl (by kernel_rfl)) rfl ⟨rfl, hf.2⟩
  · obtain ⟨e1, e2, e3, _, _⟩ := q R r zeroV
    rw [e3]; rw [e1] at hw; rw [e2] at hn
    clear q e1 e2 e3
    go_enter Tryz.func62, Tryz.ntmps62
    go_upto_region 1 with (fail)
    generalize w.alloc (.cells #[.int .i64 0, .int .i64 0, .string ⟨#[]⟩, .slice none 0 0, .slice none 0 0] 43) = W at *
    go_wp2_with fail
    refine Calls.mono (hw _) ?_
    rintro e w1 ⟨rfl, hb⟩
    replace hb := hb.symm
    subst hb
    go_wp2_with fail
    refine Calls.mono (hn _) ?_
    rintro e w1 ⟨rfl, hb⟩
    replace hb := hb.symm
    subst hb
    go_wp2_with fail
    refine Calls.mono (pnumber_any _ _) ?_
    rintro e w2 ⟨rfl, hb⟩
    have HB2 := Lib.hid (bel_trans HB.out hb); have HA2 := Lib.hid (Below.at hb HA.out)
    clear hb HB HA c0 c1 c2 c3 c4 c5 c6 c7 c8 c9 c10
    obtain ⟨⟨p0, p1, p2, p3, p4⟩, ⟨z0, z1, z2, z3, z4⟩, _⟩ := cells5 HA2.out
    have hf := set5_bel (.int .i64 4) (.int .i64 r.before) (.string ⟨#[]⟩) (.slice none 0 0) (.slice none 0 0) HA2.out HB2.out (Nat.le_refl _)
    go_wp2_with fail
    exact bodyPost_ret (results_cell_row rfl _ _ w.heap.size 43 (plainC (numV r.before)) (0, 0) _ rfl hf.1 Tryz.underlying43 rfl (by kernel_rfl)) rfl ⟨rfl, hf.2⟩
  · obtain ⟨e1, e2, e3, _, _⟩ := q R r zeroV
    rw [e3]; rw [e1] at hw; rw [e2] at hn
    clear q e1 e2 e3
    generalize r.on = bo at *
    cases bo with
    | false =>
      go_enter Tryz.func62, Tryz.ntmps62
      go_upto_region 1 with (fail)
      generalize w.alloc (.cells #[.int .i64 0, .int .i64 0, .string ⟨#[]⟩, .slice none 0 0, .slice none 0 0] 43) = W at *
      go_wp2_with fail
      refine Calls.mono (hw _) ?_
      rintro e w1 ⟨rfl, hb⟩
      replace hb := hb.symm
      subst hb
      go_wp2_with fail
      refine Calls.mono (hn _) ?_
      rintro e w1 ⟨rfl, hb⟩
      replace hb := hb.symm
      subst hb
      go_wp2_with fail
      refine Calls.mono (ptruth_f _) ?_
      rintro e w2 ⟨rfl, hb⟩
      have HB2 := Lib.hid (bel_trans HB.out hb); have HA2 := Lib.hid (Below.at hb HA.out)
      clear hb HB HA c0 c1 c2 c3 c4 c5 c6 c7 c8 c9 c10
      obtain ⟨⟨p0, p1, p2, p3, p4⟩, ⟨z0, z1, z2, z3, z4⟩, _⟩ := cells5 HA2.out
      have hf := set5_bel (.int .i64 2) (.int .i64 0) (.string ⟨#[]⟩) (.slice none 0 0) (.slice none 0 0) HA2.out HB2.out (Nat.le_refl _)
      go_wp2_with fail
      exact bodyPost_ret (results_cell_row rfl _ _ w.heap.size 43 (plainC (truthV false)) (0, 0) _ rfl hf.1 Tryz.underlying43 rfl (by kernel_rfl)) rfl ⟨rfl, hf.2⟩
    | true =>
      go_enter Tryz.func62, Tryz.ntmps62
      go_upto_region 1 with (fail)
      generalize w.alloc (.cells #[.int .i64 0, .int .i64 0, .string ⟨#[]⟩, .slice none 0 0, .slice none 0 0] 43) = W at *
      go_wp2_with fail
      refine Calls.mono (hw _) ?_
      rintro e w1 ⟨rfl, hb⟩
      replace hb := hb.symm
      subst hb
      go_wp2_with fail
      refine Calls.mono (hn _) ?_
      rintro e w1 ⟨rfl, hb⟩
      replace hb := hb.symm
      subst hb
      go_wp2_with fail
      refine Calls.mono (ptruth_t _) ?_
      rintro e w2 ⟨rfl, hb⟩
      have HB2 := Lib.hid (bel_trans HB.out hb); have HA2 := Lib.hid (Below.at hb HA.out)
      clear hb HB HA c0 c1 c2 c3 c4 c5 c6 c7 c8 c9 c10
      obtain ⟨⟨p0, p1, p2, p3, p4⟩, ⟨z0, z1, z2, z3, z4⟩, _⟩ := cells5 HA2.out
      have hf := set5_bel (.int .i64 3) (.int .i64 0) (.string ⟨#[]⟩) (.slice none 0 0) (.slice none 0 0) HA2.out HB2.out (Nat.le_refl _)
      go_wp2_with fail
      exact bodyPost_ret (results_cell_row rfl _ _ w.heap.size 43 (plainC (truthV true)) (0, 0) _ rfl hf.1 Tryz.underlying43 rfl (by kernel_rfl)) rfl ⟨rfl, hf.2⟩
/-- one field written -/
theorem RqAt.put {R : Nat} {r : Rq} {w W : World} (hb : Below w.heap.size w W) (h : RqAt R r W) (hR : R < w.heap.size) (i : Nat) (u : Value) (r' : Rq) (hr : (rqC r).setIfInBounds i u = rqC r') : RqAt R r' (W.setCell ⟨R, i, none⟩ u) ∧ w.grownBy (W.setCell ⟨R, i, none⟩ u) (some R) := by
  refine ⟨?_, grown_trans (grown_of_bel hb _) (grown_set u)⟩
  unfold RqAt
  rw [← hr]
  exact heap_setCell_row h
set_option maxRecDepth 100000 in
set_option maxHeartbeats 16000000 in
theorem setF_any (R : Nat) (r : Rq) (nm : ByteArray) (x : JV) (A1 : Option Addr) (n1 c1 : Nat) (A2 : Option Addr) (n2 c2 : Nat) (w : World) (h : RqAt R r w) :
    Calls Tryz.prog 56 #[.pointer (some ⟨R, 0, none⟩), .string nm, .agg #[.int .i64 x.k, .int .i64 x.n, .string x.s, .slice A1 n1 c1, .slice A2 n2 c2]] w fun e w' => e = .returned (.bool (kindF nm x)) ∧ RqAt R (putF r nm x) w' ∧ w.grownBy w' (some R) := by
  have hw := wordP_any R nm
  have hn := numP_any R nm
  have hbA : Below w.heap.size w (w.alloc (.cells #[.int .i64 x.k, .int .i64 x.n, .string x.s, .slice A1 n1 c1, .slice A2 n2 c2] 43)) := bel_alloc (Below.refl _ _) _
  have hA := heap_alloc_new w (.cells #[.int .i64 x.k, .int .i64 x.n, .string x.s, .slice A1 n1 c1, .slice A2 n2 c2] 43)
  have hq := h.later hbA
  have hR0 : R < w.heap.size := h.cells.2.2
  have hne : w.heap.size ≠ R := by omega
  obtain ⟨⟨p0, p1, p2, p3, p4⟩, _, _⟩ := cells5 hA
  obtain ⟨⟨c0, c1', c2', c3', c4', c5, c6, c7, c8, c9, c10⟩, ⟨f0, f1, f2, f3, f4, f5, f6, f7, f8, f9, f10⟩, hR⟩ := hq.cells
  have HB := Lib.hid hbA; have HQ := Lib.hid hq
  clear h hbA hA hq
  rcases name_ways nm with q | q | q | q | q | q | q | q | q | q
  · obtain ⟨e1, _, e3, e4⟩ := q R r x
    rw [e3, e4]; rw [e1] at hw
    have hp := RqAt.put HB.out HQ.out hR0 1 (.string x.s) { r with user := x.s } rfl
    have HP := Lib.hid hp
    clear q e1 e3 e4 hn hp
    go_enter Tryz.func56, Tryz.ntmps56
    go_upto_region 1 with (fail)
    generalize w.alloc (.cells #[.int .i64 x.k, .int .i64 x.n, .string x.s, .slice A1 n1 c1, .slice A2 n2 c2] 43) = W0 at *
    go_wp2_with fail
    refine Calls.mono (hw _) ?_
    rintro e w1 ⟨rfl, hb⟩
    replace hb := hb.symm
    subst hb
    go_wp2_with fail
    go_ret
    exact ⟨rfl, HP.out⟩
  · obtain ⟨e1, _, e3, e4⟩ := q R r x
    rw [e3, e4]; rw [e1] at hw
    have hp := RqAt.put HB.out HQ.out hR0 2 (.string x.s) { r with feed := x.s } rfl
    have HP := Lib.hid hp
    clear q e1 e3 e4 hn hp
    go_enter Tryz.func56, Tryz.ntmps56
    go_upto_region 1 with (fail)
    generalize w.alloc (.cells #[.int .i64 x.k, .int .i64 x.n, .string x.s, .slice A1 n1 c1, .slice A2 n2 c2] 43) = W0 at *
    go_wp2_with fail
    refine Calls.mono (hw _) ?_
    rintro e w1 ⟨rfl, hb⟩
    replace hb := hb.symm
    subst hb
    go_wp2_with fail
    go_ret
    exact ⟨rfl, HP.out⟩
  · obtain ⟨e1, _, e3, e4⟩ := q R r x
    rw [e3, e4]; rw [e1] at hw
    have hp := RqAt.put HB.out HQ.out hR0 3 (.string x.s) { r with name := x.s } rfl
    have HP := Lib.hid hp
    clear q e1 e3 e4 hn hp
    go_enter Tryz.func56, Tryz.ntmps56
    go_upto_region 1 with (fail)
    generalize w.alloc (.cells #[.int .i64 x.k, .int .i64 x.n, .string x.s, .slice A1 n1 c1, .slice A2 n2 c2] 43) = W0 at *
    go_wp2_with fail
    refine Calls.mono (hw _) ?_
    rintro e w1 ⟨rfl, hb⟩
    replace hb := hb.symm
    subst hb
    go_wp2_with fail
    go_ret
    exact ⟨rfl, HP.out⟩
  · obtain ⟨e1, _, e3, e4⟩ := q R r x
    rw [e3, e4]; rw [e1] at hw
    have hp := RqAt.put HB.out HQ.out hR0 4 (.string x.s) { r with token := x.s } rfl
    have HP := Lib.hid hp
    clear q e1 e3 e4 hn hp
    go_enter Tryz.func56, Tryz.ntmps56
    go_upto_region 1 with (fail)
    generalize w.alloc (.cells #[.int .i64 x.k, .int .i64 x.n, .string x.s, .slice A1 n1 c1, .slice A2 n2 c2] 43) = W0 at *
    go_wp2_with fail
    refine Calls.mono (hw _) ?_
    rintro e w1 ⟨rfl, hb⟩
    replace hb := hb.symm
    subst hb
    go_wp2_with fail
    go_ret
    exact ⟨rfl, HP.out⟩
  · obtain ⟨e1, e2, _, e3, e4⟩ := q R r x
    rw [e3, e4]; rw [e1] at hw; rw [e2] at hn
    have hp := RqAt.put HB.out HQ.out hR0 5 (.int .i64 x.n) { r with tx := x.n } rfl
    have HP := Lib.hid hp
    clear q e1 e2 e3 e4 hp
    go_enter Tryz.func56, Tryz.ntmps56
    go_upto_region 1 with (fail)
    generalize w.alloc (.cells #[.int .i64 x.k, .int .i64 x.n, .string x.s, .slice A1 n1 c1, .slice A2 n2 c2] 43) = W0 at *
    go_wp2_with fail
    refine Calls.mono (hw _) ?_
    rintro e w1 ⟨rfl, hb⟩
    replace hb := hb.symm
    subst hb
    go_wp2_with fail
    refine Calls.mono (hn _) ?_
    rintro e w1 ⟨rfl, hb⟩
    replace hb := hb.symm
    subst hb
    go_wp2_with fail
    go_ret
    exact ⟨rfl, HP.out⟩
  · obtain ⟨e1, e2, _, e3, e4⟩ := q R r x
    rw [e3, e4]; rw [e1] at hw; rw [e2] at hn
    have hp := RqAt.put HB.out HQ.out hR0 6 (.int .i64 x.n) { r with entry := x.n } rfl
    have HP := Lib.hid hp
    clear q e1 e2 e3 e4 hp
    go_enter Tryz.func56, Tryz.ntmps56
    go_upto_region 1 with (fail)
    generalize w.alloc (.cells #[.int .i64 x.k, .int .i64 x.n, .string x.s, .slice A1 n1 c1, .slice A2 n2 c2] 43) = W0 at *
    go_wp2_with fail
    refine Calls.mono (hw _) ?_
    rintro e w1 ⟨rfl, hb⟩
    replace hb := hb.symm
    subst hb
    go_wp2_with fail
    refine Calls.mono (hn _) ?_
    rintro e w1 ⟨rfl, hb⟩
    replace hb := hb.symm
    subst hb
    go_wp2_with fail
    go_ret
    exact ⟨rfl, HP.out⟩
  · obtain ⟨e1, e2, _, e3, e4⟩ := q R r x
    rw [e3, e4]; rw [e1] at hw; rw [e2] at hn
    have hp := RqAt.put HB.out HQ.out hR0 7 (.int .i64 x.n) { r with after := x.n } rfl
    have HP := Lib.hid hp
    clear q e1 e2 e3 e4 hp
    go_enter Tryz.func56, Tryz.ntmps56
    go_upto_region 1 with (fail)
    generalize w.alloc (.cells #[.int .i64 x.k, .int .i64 x.n, .string x.s, .slice A1 n1 c1, .slice A2 n2 c2] 43) = W0 at *
    go_wp2_with fail
    refine Calls.mono (hw _) ?_
    rintro e w1 ⟨rfl, hb⟩
    replace hb := hb.symm
    subst hb
    go_wp2_with fail
    refine Calls.mono (hn _) ?_
    rintro e w1 ⟨rfl, hb⟩
    replace hb := hb.symm
    subst hb
    go_wp2_with fail
    go_ret
    exact ⟨rfl, HP.out⟩
  · obtain ⟨e1, e2, _, e3, e4⟩ := q R r x
    rw [e3, e4]; rw [e1] at hw; rw [e2] at hn
    have hp := RqAt.put HB.out HQ.out hR0 8 (.int .i64 x.n) { r with limit := x.n } rfl
    have HP := Lib.hid hp
    clear q e1 e2 e3 e4 hp
    go_enter Tryz.func56, Tryz.ntmps56
    go_upto_region 1 with (fail)
    generalize w.alloc (.cells #[.int .i64 x.k, .int .i64 x.n, .string x.s, .slice A1 n1 c1, .slice A2 n2 c2] 43) = W0 at *
    go_wp2_with fail
    refine Calls.mono (hw _) ?_
    rintro e w1 ⟨rfl, hb⟩
    replace hb := hb.symm
    subst hb
    go_wp2_with fail
    refine Calls.mono (hn _) ?_
    rintro e w1 ⟨rfl, hb⟩
    replace hb := hb.symm
    subst hb
    go_wp2_with fail
    go_ret
    exact ⟨rfl, HP.out⟩
  · obtain ⟨e1, e2, _, e3, e4⟩ := q R r x
    rw [e3, e4]; rw [e1] at hw; rw [e2] at hn
    have hp := RqAt.put HB.out HQ.out hR0 9 (.int .i64 x.n) { r with before := x.n } rfl
    have HP := Lib.hid hp
    clear q e1 e2 e3 e4 hp
    go_enter Tryz.func56, Tryz.ntmps56
    go_upto_region 1 with (fail)
    generalize w.alloc (.cells #[.int .i64 x.k, .int .i64 x.n, .string x.s, .slice A1 n1 c1, .slice A2 n2 c2] 43) = W0 at *
    go_wp2_with fail
    refine Calls.mono (hw _) ?_
    rintro e w1 ⟨rfl, hb⟩
    replace hb := hb.symm
    subst hb
    go_wp2_with fail
    refine Calls.mono (hn _) ?_
    rintro e w1 ⟨rfl, hb⟩
    replace hb := hb.symm
    subst hb
    go_wp2_with fail
    go_ret
    exact ⟨rfl, HP.out⟩
  · obtain ⟨e1, e2, _, e3, e4⟩ := q R r x
    rw [e3, e4]; rw [e1] at hw; rw [e2] at hn
    have hp := RqAt.put HB.out HQ.out hR0 10 (.bool (x.k == 3)) { r with on := x.k == 3 } rfl
    have HP := Lib.hid hp
    clear q e1 e2 e3 e4 hp
    obtain ⟨b2, h2⟩ : ∃ b, (x.k == 2) = b := ⟨_, rfl⟩
    obtain ⟨b3, h3⟩ : ∃ b, (x.k == 3) = b := ⟨_, rfl⟩
    rw [h2, h3]
    rw [h3] at HP
    cases b3
    all_goals
      go_enter Tryz.func56, Tryz.ntmps56
      go_upto_region 1 with (fail)
      generalize w.alloc (.cells #[.int .i64 x.k, .int .i64 x.n, .string x.s, .slice A1 n1 c1, .slice A2 n2 c2] 43) = W0 at *
      go_wp2_with fail
      refine Calls.mono (hw _) ?_
      rintro e w1 ⟨rfl, hb⟩
      replace hb := hb.symm
      subst hb
      go_wp2_with fail
      refine Calls.mono (hn _) ?_
      rintro e w1 ⟨rfl, hb⟩
      replace hb := hb.symm
      subst hb
      go_wp2_with fail
      go_ret
      exact ⟨by simp, HP.out⟩
end Go.Proofs.YtlihjmfdnkfmfaaGreatDoor
namespace Go.Proofs.YtlihjmfdnkfmfaaGreatDoor
open Go.RowKit Go.Lib Go.Sort Go.Shelf

set_option maxHeartbeats 1000000 in
theorem psortBy_any (x y : MC) (W : World) : Calls Tryz.prog 109 #[.agg x.cells.toArray, .agg y.cells.toArray] W fun e w' => e = .returned (.int .i64 (cmpS x.nm y.nm)) ∧ ∃ q os', w' = grow (W.drewN q) os' := by
  have hc := fun W' => compare_any x.nm y.nm W'
  generalize cmpS x.nm y.nm = r at *
  go_enter Tryz.func109, Tryz.ntmps109
  simp only [MC.cells]
  go_wp2_with fail
  refine Calls.mono (hc _) ?_
  rintro e w1 ⟨rfl, rfl⟩
  go_wp2_with fail
  go_ret
  exact ⟨rfl, 0, _, by rw [alloc_eq_grow, alloc_eq_grow, grow_grow]; rfl⟩
theorem pcmpLays (blk off size : Nat) (w : World) : CmpLays Tryz.prog 109 #[] MC.cells 6 cfM blk off size w := fun _ _ _ _ x y => psortBy_any x y _

theorem own_kept {w W : World} {base n : Nat} {e : TypeId} {size : Nat} {v : Value} {xs : List Value} (h : w.ownsRow base e size v n xs) (hb : ∀ j, v.ownBlock = some j → W.heap[j]? = w.heap[j]?) : W.ownsRow base e size v n xs :=
  ⟨h.1, h.2.imp id fun ⟨g, cap, cur, e, h1, h2, h3⟩ => ⟨g, cap, cur, e, h1, (hb g (by rw [e]; rfl)).trans h2, h3⟩⟩
theorem own_sets5 {w : World} {base n : Nat} {e : TypeId} {size : Nat} {v : Value} {xs : List Value} (h : w.ownsRow base e size v n xs) (X : Nat) (hne : ∀ b, v.ownBlock = some b → b ≠ X) (v0 v1 v2 v3 v4 : Value) : (((((w.setCell ⟨X, 0, none⟩ v0).setCell ⟨X, 1, none⟩ v1).setCell ⟨X, 2, none⟩ v2).setCell ⟨X, 3, none⟩ v3).setCell ⟨X, 4, none⟩ v4).ownsRow base e size v n xs :=
  own_kept h fun b hb => set5_other v0 v1 v2 v3 v4 (hne b hb)
theorem grown_setN {w W : World} {row : Option Nat} (h : w.grownBy W row) (i : Nat) (u : Value) : w.grownBy (W.setCell ⟨w.heap.size, i, none⟩ u) row :=
  h.andThen (grown_set u) (fun j hj => .inl (by injection hj with hj; omega))
theorem grown_sets5 {w W : World} {row : Option Nat} (h : w.grownBy W row) (v0 v1 v2 v3 v4 : Value) : w.grownBy (((((W.setCell ⟨w.heap.size, 0, none⟩ v0).setCell ⟨w.heap.size, 1, none⟩ v1).setCell ⟨w.heap.size, 2, none⟩ v2).setCell ⟨w.heap.size, 3, none⟩ v3).setCell ⟨w.heap.size, 4, none⟩ v4) row :=
  grown_setN (grown_setN (grown_setN (grown_setN (grown_setN h 0 v0) 1 v1) 2 v2) 3 v3) 4 v4
set_option maxHeartbeats 2000000 in
theorem psort_any (base : Nat) (v : Value) (ms : List MC) (w : World) (hown : w.ownsRow base 49 6 v ms.length (mcFlat ms)) (hn : ms.length < 4611686018427387904) :
    Calls Tryz.prog 108 #[v, .func (.func 109) #[] #[]] w fun e w' => e = .returned (.tuple #[]) ∧ ∃ ms', ms'.Perm ms ∧ ms'.Pairwise (fun a b => Op.bytesLess b.nm.toList a.nm.toList = false) ∧ w'.ownsRow base 49 6 v ms'.length (mcFlat ms') ∧ w.grownBy w' v.ownBlock := by
  rcases hown.2 with ⟨rfl, h0⟩ | ⟨g, cap, cur, rfl, hb, hg, hnc, hcm, hcs, htake⟩
  · obtain rfl : ms = [] := List.eq_nil_of_length_eq_zero h0
    have hS := fun W => AnyF.slices_SortFunc_none (P := Tryz.prog) (ρ := Tryz.sortL_ren) { Tryz.sortL with } none 0 (.func (.func 109) #[] #[]) W
    change ∀ W, Calls Tryz.prog 108 _ _ _ at hS
    have HO := Lib.hid hown
    clear hown
    refine (hS _).mono ?_
    rintro e w1 ⟨rfl, rfl⟩
    exact ⟨rfl, [], List.Perm.nil, List.Pairwise.nil, HO.out, grown_refl _ _⟩
  · have eg : ∀ args w, (callFunc 109 args).run Tryz.prog w = .ok (.enter 109 args) w := enters_of Tryz.func109 (by kernel_rfl) rfl
    have hH : HoldsK MC.cells 6 w g 0 ms.toArray := by
      unfold HoldsK Holds
      rw [flatK_eq]
      intro j hj
      have hj' : j < (mcFlat ms).length := by simpa using hj
      refine ⟨?_, by simp [World.frozen?, hg]⟩
      have := hown.cells (g := g) rfl j (mcFlat ms)[j] (List.getElem?_eq_getElem hj')
      rw [Addr.add_lit] at this
      rw [this, getElem!_pos _ j hj]
      simp
    have hgw : g < w.heap.size := (Array.getElem?_eq_some_iff.1 hg).1
    have hcon := AnyQ.slices_SortFunc Tryz.sortL 6 Tryz.isAgg49 Tryz.sizeOf49 MC.cells MC.len MC.one cfM swoM 109 #[] g 0 cap ms.toArray w eg (pcmpLays g 0 ms.toArray.size w) hH hgw (by simpa using hn)
    change Calls Tryz.prog 108 _ _ _ at hcon
    have hsz : ms.toArray.size = ms.length := by simp
    rw [hsz] at hcon
    have HC := Lib.hid hcon; have HG := Lib.hid hg; have HT := Lib.hid htake; have HCS := Lib.hid hcs
    clear hown hH hcon hsz hg htake hcs
    generalize hN : ms.length = N at *
    have HN := Lib.hid hN
    clear hN
    refine HC.out.mono ?_
    rintro e w1 ⟨rfl, d', n, os, hp, hs, hw1⟩
    have HP := Lib.hid hp; have HS := Lib.hid hs; have HW := Lib.hid hw1
    clear hp hs hw1
    obtain ⟨hd1, _, hd3⟩ := HP.out
    have hdN : d'.size = N := by rw [hd1]; simpa using HN.out
    have hlN : d'.toList.length = N := by simpa using hdN
    have e1 : d'.extract 0 N = d' := by rw [← hdN]; simp
    have e2 : ms.toArray.extract 0 N = ms.toArray := by rw [← HN.out]; simp
    rw [e1, e2] at hd3
    have hheap : w1.heap[g]? = some (.cells (putCells id 0 (mcFlat d'.toList).toArray cur) 49 (0, 0)) := by
      rw [HW.out]
      unfold sortWorldK putRowK putRow mapBlock
      rw [flatK_eq]
      simp only [grow, heap_ahead]
      rw [Array.getElem?_append_left (by simpa using hgw)]
      rw [Array.getElem?_modify, if_pos rfl, HG.out]
      rfl
    refine ⟨rfl, d'.toList, by simpa using hd3, ?_, ⟨by rw [mcFlat_len], .inr ⟨g, cap, _, by rw [hlN], hb, hheap, by rw [hlN]; exact hnc, hcm, ?_, ?_⟩⟩, ?_⟩
    · rw [List.pairwise_iff_getElem]
      intro i j hi hj hij
      have := HS.out i j (Nat.zero_le _) hij (by rw [← hlN]; exact hj)
      rw [lt_cfM] at this
      rw [getElem!_pos d' j (by simpa using hj), getElem!_pos d' i (by simpa using hi)] at this
      simpa using this
    · simp [putCells]; exact HCS.out
    · have := putCells_take (mcFlat d'.toList).toArray cur (by simp only [List.size_toArray, mcFlat_len]; rw [HCS.out, hlN]; exact Nat.mul_le_mul_right _ hnc)
      simpa [mcFlat_len] using this
    · rw [HW.out]
      refine ⟨rfl, rfl, rfl, ?_, fun k hk hne => ?_⟩
      · simp [sortWorldK, grow, putRowK]
      · have hkg : ¬ g = k := by rintro rfl; exact hne rfl
        unfold sortWorldK putRowK putRow mapBlock
        simp only [grow, heap_ahead]
        rw [Array.getElem?_append_left (by simpa using hk)]
        simp [Array.getElem?_modify, hkg]
set_option maxRecDepth 100000 in
set_option maxHeartbeats 4000000 in
theorem pobject_any (base : Nat) (v : Value) (ms : List MC) (w : World) (hown : w.ownsRow base 49 6 v ms.length (mcFlat ms)) (hn : ms.length < 4611686018427387904) :
    Calls Tryz.prog 63 #[v] w fun e w' => e = .returned (.agg #[.int .i64 7, .int .i64 0, .string ⟨#[]⟩, .slice none 0 0, v]) ∧ ∃ ms', ms'.Perm ms ∧ ms'.Pairwise (fun a b => Op.bytesLess b.nm.toList a.nm.toList = false) ∧ w'.ownsRow base 49 6 v ms'.length (mcFlat ms') ∧ w.grownBy w' v.ownBlock := by
  have hbA := bel_alloc (Below.refl w.heap.size w) (.cells #[.int .i64 0, .int .i64 0, .string ⟨#[]⟩, .slice none 0 0, .slice none 0 0] 43)
  have hA := heap_alloc_new w (.cells #[.int .i64 0, .int .i64 0, .string ⟨#[]⟩, .slice none 0 0, .slice none 0 0] 43)
  have hc := psort_any base v ms _ (own_later hown hbA) hn
  have hlt : ∀ b, v.ownBlock = some b → b ≠ w.heap.size := fun b hb => by have := (hown.lt b hb).2; omega
  obtain ⟨A, n, c, rfl⟩ : ∃ A n c, v = .slice A n c := by
    rcases hown.2 with ⟨rfl, _⟩ | ⟨g, cap, cur, rfl, _⟩
    · exact ⟨_, _, _, rfl⟩
    · exact ⟨_, _, _, rfl⟩
  have HB := Lib.hid hbA; have HA := Lib.hid hA; have HC := Lib.hid hc; have HLT := Lib.hid hlt
  clear hbA hA hc hown hn hlt
  go_enter Tryz.func63, Tryz.ntmps63
  go_upto_region 1 with (fail)
  generalize w.alloc (.cells #[.int .i64 0, .int .i64 0, .string ⟨#[]⟩, .slice none 0 0, .slice none 0 0] 43) = W at *
  go_wp2_with fail
  refine Calls.mono HC.out ?_
  rintro e w1 ⟨rfl, ms', hp, hs, ho, hg⟩
  have hA1 : w1.heap[w.heap.size]? = some (.cells #[.int .i64 0, .int .i64 0, .string ⟨#[]⟩, .slice none 0 0, .slice none 0 0] 43 (0, 0)) := (hg.block _ (Array.getElem?_eq_some_iff.1 HA.out).1 (fun h => HLT.out _ h.symm rfl)).trans HA.out
  have HG := Lib.hid (grown_trans (grown_of_bel HB.out _) hg); have HO := Lib.hid ho; have HP := Lib.hid hp; have HS := Lib.hid hs
  obtain ⟨⟨p0, p1, p2, p3, p4⟩, ⟨z0, z1, z2, z3, z4⟩, hX⟩ := cells5 hA1
  have hh := set5 (.int .i64 7) (.int .i64 0) (.string ⟨#[]⟩) (.slice none 0 0) (.slice A n c) hA1
  clear hp hs ho hg HB HA HC hA1
  go_wp2_with fail
  refine bodyPost_ret (results_cell_row rfl _ _ w.heap.size 43 #[.int .i64 7, .int .i64 0, .string ⟨#[]⟩, .slice none 0 0, .slice A n c] (0, 0) _ rfl hh Tryz.underlying43 rfl (by kernel_rfl)) rfl ⟨rfl, ms', HP.out, HS.out, ?_, ?_⟩
  · exact own_sets5 HO.out w.heap.size (fun b hb => HLT.out b hb) _ _ _ _ _
  · exact grown_sets5 HG.out _ _ _ _ _
/-! slices.Contains at texts -/
set_option maxRecDepth 100000 in
set_option maxHeartbeats 4000000 in
theorem strIndex_any (v : Value) (F : Nat → Prop) (xs : List ByteArray) (s : ByteArray) (w : World) (hs : Sl strTy w F v xs) (hn : xs.length ≤ 1000000) :
    Calls Tryz.prog 102 #[v, .string s] w fun e w' => (∃ n : Int, e = .returned (.int .i64 n) ∧ (decide (0 ≤ n)) = xs.any (fun x => s.toList == x.toList)) ∧ w' = w := by
  obtain ⟨A, c, rfl, hel⟩ := str_cells hs
  have HEL := Lib.hid hel
  clear hs hel
  generalize hN : xs.length = N at *
  have HN := Lib.hid hN
  clear hN
  go_enter Tryz.func102, Tryz.ntmps102
  go_wp2_with fail
  go_loopg [5, 8] N (fun gg _ s8 wr => ∃ k : Nat, k ≤ N ∧ N - k ≤ gg ∧ s8 = .int .i64 k ∧ wr = w ∧ Aside (xs.any (fun x => s.toList == x.toList) = (xs.drop k).any (fun x => s.toList == x.toList)))
  case atStart => exact ⟨0, Nat.zero_le _, by omega, rfl, rfl, rfl⟩
  case round =>
    obtain ⟨k, hk, hgg, rfl, rfl, HA⟩ := hrel
    by_cases hlt : k < N
    · have hltz : (k : Int) < (N : Int) := by omega
      obtain ⟨x, hx⟩ : ∃ x, xs[k]? = some x := get_ex (by have := HN.out; omega)
      obtain ⟨b, o, rfl, r0⟩ := HEL.out k x hx
      have hd : xs.drop k = x :: xs.drop (k + 1) := by
        have hkl : k < xs.length := by have := HN.out; omega
        rw [List.drop_eq_getElem_cons hkl]
        rw [List.getElem?_eq_getElem hkl] at hx
        rw [Option.some.inj hx]
      cases he : (s.toList == x.toList) with
      | true =>
        have HR := Lib.hid (show xs.any (fun x => s.toList == x.toList) = true by rw [HA.out, hd, List.any_cons, he]; rfl)
        clear hx hd HA HEL
        go_wp2_with fail
        go_ret
        exact ⟨⟨k, rfl, by rw [HR.out]; exact decide_eq_true (by omega)⟩, rfl⟩
      | false =>
        have HR := Lib.hid (show xs.any (fun x => s.toList == x.toList) = (xs.drop (k + 1)).any (fun x => s.toList == x.toList) by rw [HA.out, hd, List.any_cons, he]; rfl)
        clear hx hd HA
        go_wp2_with fail
        go_roundg (N - (k + 1))
        case measure => omega
        case rel => exact ⟨k + 1, by omega, by omega, by go_num, rfl, HR.out⟩
    · have hltz : ¬ (k : Int) < (N : Int) := by omega
      have HR := Lib.hid (show xs.any (fun x => s.toList == x.toList) = false by rw [HA.out, List.drop_of_length_le (by have := HN.out; omega)]; rfl)
      clear HA
      go_wp2_with fail
      go_ret
      exact ⟨⟨-1, rfl, by rw [HR.out]; rfl⟩, rfl⟩
set_option maxRecDepth 100000 in
set_option maxHeartbeats 4000000 in
theorem contains_any (v : Value) (F : Nat → Prop) (xs : List ByteArray) (s : ByteArray) (w : World) (hs : Sl strTy w F v xs) (hn : xs.length ≤ 1000000) :
    Calls Tryz.prog 55 #[v, .string s] w fun e w' => e = .returned (.bool (xs.any (fun x => s.toList == x.toList))) ∧ w' = w := by
  have hc := strIndex_any v F xs s w hs hn
  obtain ⟨A, c, rfl⟩ := hs.form
  have HC := Lib.hid hc
  clear hc hs hn
  generalize xs.any (fun x => s.toList == x.toList) = r at *
  generalize xs.length = N at *
  go_enter Tryz.func55, Tryz.ntmps55
  go_wp2_with fail
  refine Calls.mono HC.out ?_
  rintro e w1 ⟨⟨n, rfl, hn⟩, hw⟩
  replace hw := hw.symm
  subst hw
  cases r
  all_goals
    go_wp2_with fail
    go_ret
    exact ⟨rfl, rfl⟩
end Go.Proofs.YtlihjmfdnkfmfaaGreatDoor
namespace Go.Proofs.YtlihjmfdnkfmfaaGreatDoor
open Go.RowKit Go.Lib

theorem ba_cat (a b : List UInt8) : (⟨a.toArray⟩ : ByteArray) ++ ⟨b.toArray⟩ = ⟨(a ++ b).toArray⟩ := by
  apply ByteArray.ext
  simp [ByteArray.data_append]
theorem str_sum {P : Program} (a b : List UInt8) (W : World) (h : a.length + b.length ≤ 9223372036854775807) : (Op.stringOp .add (⟨a.toArray⟩ : ByteArray) ⟨b.toArray⟩).run P W = .ok (.string ⟨(a ++ b).toArray⟩) W := by
  have := run_string_add_sum (P := P) W (⟨a.toArray⟩ : ByteArray) ⟨b.toArray⟩ (by simpa [ByteArray.size] using h)
  rwa [ba_cat] at this
theorem bs_string (w : World) (l : List UInt8) (t : TypeId) (c cc : Nat) (fz : Nat × Nat) : BSl (w.drew.alloc (.cells (bytesRow ⟨l.toArray⟩ c) t fz)) (fun _ => True) (.slice (some ⟨w.heap.size, 0, none⟩) (⟨l.toArray⟩ : ByteArray).size cc) ⟨l.toArray⟩ := by
  refine .inl ⟨_, _, _, rfl, trivial, fun i hi => ?_⟩
  have h := bytesRow_cell w l c t fz i (by simpa [ByteArray.size] using hi)
  rw [Addr.add_mid] at h
  exact h
end Go.Proofs.YtlihjmfdnkfmfaaGreatDoor
