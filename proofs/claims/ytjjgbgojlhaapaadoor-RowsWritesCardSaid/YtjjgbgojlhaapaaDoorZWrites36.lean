/- Parts of the proof: Rw. -/
import Derived.Test.YtjjgbgojlhaapaaDoorZWrites27
import Derived.Test.YtjjgbgojlhaapaaDoorZWrites28
import Derived.Test.YtjjgbgojlhaapaaDoorZWrites29
import Derived.Test.YtjjgbgojlhaapaaDoorZWrites30
import Derived.Test.YtjjgbgojlhaapaaDoorZWrites31
import Derived.Test.YtjjgbgojlhaapaaDoorZWrites34
import Derived.Test.YtjjgbgojlhaapaaDoorZWrites35
namespace Go.Proofs.YtjjgbgojlhaapaaDoor
open Go.RowKit Go.Lib

theorem sub_len {f : ByteArray} (hf : f.size ≤ 20000) (hm : mayJ 64 (subO f) = true) : (printB 64 (subO f)).length ≤ 1000000000 := by
  refine obj_len (d := 2) ?_ hm
  have h1 := cap_le f
  have h3 := cap_le nmFolder
  have h4 := cap_le ⟨#[]⟩
  have e3 : nmFolder.size = 6 := by decide
  have e4 : (⟨#[]⟩ : ByteArray).size = 0 := rfl
  simp only [subO, countB, cntL, JV.m, JV.l, JV.s, wordV]
  (repeat' split) <;> omega
theorem sub_sm {f : ByteArray} (hf : f.size ≤ 20000) : SmJ (subO f) := by
  have e3 : nmFolder.size ≤ 1000000 := by decide
  have e4 : (⟨#[]⟩ : ByteArray).size ≤ 1000000 := by decide
  simp only [subO, SmJ, SmJs, SmJm, wordV]
  exact ⟨e4, trivial, ⟨e3, by omega, trivial, trivial⟩, trivial⟩
theorem jputMarks (v : Value) (G : Nat → Prop) (xs : List Mk) (W : World) (hs : Sl mkTy W G v xs) (hT : Tabs W) :
    Calls Tryd.prog 11 #[v] W fun e w' => e = .returned (putB (mayB xs) (marksO xs)) ∧ Below W.heap.size W w' := by
  cases hm : mayB xs with
  | false => exact putMarks_bad v G xs W hs hm
  | true =>
    have hmm := may_marksO hm
    have e : putB true (marksO xs) = .tuple #[.string ⟨(printB 64 (marksO xs)).toArray⟩, .int .i64 0] := by unfold putB; rw [hmm]; rfl
    rw [e]
    exact putMarks_good v G xs W hs hT hm
set_option maxRecDepth 100000 in
set_option maxHeartbeats 16000000 in
theorem rowsWrites_over (t g et l fo : ByteArray) (n m wn r st : Int) (sv : Value) (F : Nat → Prop) (xs : List Mk) (w : World) (hs : Sl mkTy w F sv xs)
    (zt : t.size ≤ 140737488355328) (zg : g.size ≤ 140737488355328) (ze : et.size ≤ 140737488355328) (zl : l.size ≤ 140737488355328) (zf : fo.size ≤ 140737488355328)
    (hov : 20000 < t.size + g.size + et.size + l.size + fo.size ∨ 50 < xs.length) :
    Calls Tryd.prog 4 #[.agg #[.string t, .int .i64 n], .agg #[.int .i64 m, .string g, .string et, .string l, .int .i64 wn], .string fo, .agg #[.int .i64 r, .int .i64 st], sv] w fun e w' => e = .returned (.bool true) ∧ Below w.heap.size w w' := by
  have hfirst := rowsFirst_any
  obtain ⟨A, c, rfl⟩ := hs.form
  have hbA : Below w.heap.size w (((w.alloc (.cells #[.string t, .int .i64 n] 37)).alloc (.cells #[.int .i64 m, .string g, .string et, .string l, .int .i64 wn] 39)).alloc (.cells #[.int .i64 r, .int .i64 st] 41)) := bel_alloc (bel_alloc (bel_alloc (Below.refl _ _) _) _) _
  have c0 : (((w.alloc (.cells #[.string t, .int .i64 n] 37)).alloc (.cells #[.int .i64 m, .string g, .string et, .string l, .int .i64 wn] 39)).alloc (.cells #[.int .i64 r, .int .i64 st] 41)).cell? ⟨w.heap.size, 0, none⟩ = some (.string t) := cell_later' (bel_alloc (Below.refl _ _) _) (cell_later' (bel_alloc (Below.refl _ _) _) (cell_newB w #[.string t, .int .i64 n] 37 0 _ rfl))
  have d1 : (((w.alloc (.cells #[.string t, .int .i64 n] 37)).alloc (.cells #[.int .i64 m, .string g, .string et, .string l, .int .i64 wn] 39)).alloc (.cells #[.int .i64 r, .int .i64 st] 41)).cell? ⟨w.heap.size + 1, 1, none⟩ = some (.string g) := cell_later' (bel_alloc (Below.refl _ _) _) (by have h := cell_newB (w.alloc (.cells #[.string t, .int .i64 n] 37)) #[.int .i64 m, .string g, .string et, .string l, .int .i64 wn] 39 1 _ rfl; rw [show (w.alloc (.cells #[.string t, .int .i64 n] 37)).heap.size = w.heap.size + 1 from Array.size_push _] at h; exact h)
  have d2 : (((w.alloc (.cells #[.string t, .int .i64 n] 37)).alloc (.cells #[.int .i64 m, .string g, .string et, .string l, .int .i64 wn] 39)).alloc (.cells #[.int .i64 r, .int .i64 st] 41)).cell? ⟨w.heap.size + 1, 2, none⟩ = some (.string et) := cell_later' (bel_alloc (Below.refl _ _) _) (by have h := cell_newB (w.alloc (.cells #[.string t, .int .i64 n] 37)) #[.int .i64 m, .string g, .string et, .string l, .int .i64 wn] 39 2 _ rfl; rw [show (w.alloc (.cells #[.string t, .int .i64 n] 37)).heap.size = w.heap.size + 1 from Array.size_push _] at h; exact h)
  have d3 : (((w.alloc (.cells #[.string t, .int .i64 n] 37)).alloc (.cells #[.int .i64 m, .string g, .string et, .string l, .int .i64 wn] 39)).alloc (.cells #[.int .i64 r, .int .i64 st] 41)).cell? ⟨w.heap.size + 1, 3, none⟩ = some (.string l) := cell_later' (bel_alloc (Below.refl _ _) _) (by have h := cell_newB (w.alloc (.cells #[.string t, .int .i64 n] 37)) #[.int .i64 m, .string g, .string et, .string l, .int .i64 wn] 39 3 _ rfl; rw [show (w.alloc (.cells #[.string t, .int .i64 n] 37)).heap.size = w.heap.size + 1 from Array.size_push _] at h; exact h)
  have s1 : wrap64 ((t.size : Int) + (g.size : Int)) = (t.size : Int) + (g.size : Int) := by unfold wrap64; omega
  have s2 : wrap64 ((t.size : Int) + (g.size : Int) + (et.size : Int)) = (t.size : Int) + (g.size : Int) + (et.size : Int) := by unfold wrap64; omega
  have s3 : wrap64 ((t.size : Int) + (g.size : Int) + (et.size : Int) + (l.size : Int)) = (t.size : Int) + (g.size : Int) + (et.size : Int) + (l.size : Int) := by unfold wrap64; omega
  have s4 : wrap64 ((t.size : Int) + (g.size : Int) + (et.size : Int) + (l.size : Int) + (fo.size : Int)) = (t.size : Int) + (g.size : Int) + (et.size : Int) + (l.size : Int) + (fo.size : Int) := by unfold wrap64; omega
  generalize xs.length = q at *
  have HA := Lib.hid hbA
  clear hbA hs
  by_cases hb : 20000 < t.size + g.size + et.size + l.size + fo.size
  · have b1 : decide ((20000 : Int) < (t.size : Int) + (g.size : Int) + (et.size : Int) + (l.size : Int) + (fo.size : Int)) = true := decide_eq_true (by omega)
    clear zt zg ze zl zf hov hb
    go_enter Tryd.func4, Tryd.ntmps4
    go_wp2_with fail
    refine Calls.mono (hfirst _) ?_
    rintro e w1 ⟨rfl, hb1⟩
    have c0 := cell_later' hb1 c0
    have d1 := cell_later' hb1 d1
    have d2 := cell_later' hb1 d2
    have d3 := cell_later' hb1 d3
    have HB1 := Lib.hid (bel_trans HA.out hb1)
    clear hb1
    go_wp2_with fail
    refine Calls.mono (hfirst _) ?_
    rintro e w2 ⟨rfl, hb2⟩
    have HB2 := Lib.hid (bel_trans HB1.out hb2)
    clear hb2
    go_wp2_with fail
    go_ret
    exact ⟨rfl, HB2.out⟩
  · have b1 : decide ((20000 : Int) < (t.size : Int) + (g.size : Int) + (et.size : Int) + (l.size : Int) + (fo.size : Int)) = false := decide_eq_false (by omega)
    have b2 : decide ((50 : Int) < (q : Int)) = true := decide_eq_true (by omega)
    clear zt zg ze zl zf hov hb
    go_enter Tryd.func4, Tryd.ntmps4
    go_wp2_with fail
    refine Calls.mono (hfirst _) ?_
    rintro e w1 ⟨rfl, hb1⟩
    have c0 := cell_later' hb1 c0
    have d1 := cell_later' hb1 d1
    have d2 := cell_later' hb1 d2
    have d3 := cell_later' hb1 d3
    have HB1 := Lib.hid (bel_trans HA.out hb1)
    clear hb1
    go_wp2_with fail
    refine Calls.mono (hfirst _) ?_
    rintro e w2 ⟨rfl, hb2⟩
    have HB2 := Lib.hid (bel_trans HB1.out hb2)
    clear hb2
    go_wp2_with fail
    go_ret
    exact ⟨rfl, HB2.out⟩
theorem wrap_small {x : Int} (h0 : 0 ≤ x) (h1 : x ≤ 1000000) : wrap64 x = x := by unfold wrap64; omega
theorem sums5 (a b c d e : Nat) (h : a + b + c + d + e ≤ 20000) : wrap64 ((a : Int) + (b : Int)) = (a : Int) + (b : Int) ∧ wrap64 ((a : Int) + (b : Int) + (c : Int)) = (a : Int) + (b : Int) + (c : Int) ∧ wrap64 ((a : Int) + (b : Int) + (c : Int) + (d : Int)) = (a : Int) + (b : Int) + (c : Int) + (d : Int) ∧
    wrap64 ((a : Int) + (b : Int) + (c : Int) + (d : Int) + (e : Int)) = (a : Int) + (b : Int) + (c : Int) + (d : Int) + (e : Int) :=
  ⟨wrap_small (by omega) (by omega), wrap_small (by omega) (by omega), wrap_small (by omega) (by omega), wrap_small (by omega) (by omega)⟩
theorem putB_form (ok : Bool) (x : JV) : ∃ S E, putB ok x = .tuple #[.string S, .int .i64 E] := ⟨_, _, rfl⟩
set_option maxRecDepth 100000 in
set_option maxHeartbeats 16000000 in
/-- within the bounds -/
theorem rowsWrites_in (t g et l fo : ByteArray) (n m wn r st : Int) (sv : Value) (F : Nat → Prop) (xs : List Mk) (w : World) (hs : Sl mkTy w F sv xs) (hT : Tabs w)
    (hin : t.size + g.size + et.size + l.size + fo.size ≤ 20000) (hx : xs.length ≤ 50) :
    Calls Tryd.prog 4 #[.agg #[.string t, .int .i64 n], .agg #[.int .i64 m, .string g, .string et, .string l, .int .i64 wn], .string fo, .agg #[.int .i64 r, .int .i64 st], sv] w fun e w' => e = .returned (.bool true) ∧ Below w.heap.size w w' := by
  obtain ⟨i0, hi, hz0, hz1, hz2⟩ := info_parts mkInfo
  have hfirst := rowsFirst_any
  have hslb := fun (V : World) (hV : Below w.heap.size w V) => hs.below hV
  have hmarks := fun (V : World) (hV : Below w.heap.size w V) => marks_any sv F xs V (hs.below hV) (by omega)
  obtain ⟨A, c, rfl⟩ := hs.form
  have HS5 := Lib.hid (sums5 t.size g.size et.size l.size fo.size hin)
  have c0 : (((w.alloc (.cells #[.string t, .int .i64 n] 37)).alloc (.cells #[.int .i64 m, .string g, .string et, .string l, .int .i64 wn] 39)).alloc (.cells #[.int .i64 r, .int .i64 st] 41)).cell? ⟨w.heap.size, 0, none⟩ = some (.string t) := cell_later' (bel_alloc (Below.refl _ _) _) (cell_later' (bel_alloc (Below.refl _ _) _) (cell_newB w #[.string t, .int .i64 n] 37 0 _ rfl))
  have c1 : (((w.alloc (.cells #[.string t, .int .i64 n] 37)).alloc (.cells #[.int .i64 m, .string g, .string et, .string l, .int .i64 wn] 39)).alloc (.cells #[.int .i64 r, .int .i64 st] 41)).cell? ⟨w.heap.size, 1, none⟩ = some (.int .i64 n) := cell_later' (bel_alloc (Below.refl _ _) _) (cell_later' (bel_alloc (Below.refl _ _) _) (cell_newB w #[.string t, .int .i64 n] 37 1 _ rfl))
  have d0 : (((w.alloc (.cells #[.string t, .int .i64 n] 37)).alloc (.cells #[.int .i64 m, .string g, .string et, .string l, .int .i64 wn] 39)).alloc (.cells #[.int .i64 r, .int .i64 st] 41)).cell? ⟨w.heap.size + 1, 0, none⟩ = some (.int .i64 m) := cell_later' (bel_alloc (Below.refl _ _) _) (by have h := cell_newB (w.alloc (.cells #[.string t, .int .i64 n] 37)) #[.int .i64 m, .string g, .string et, .string l, .int .i64 wn] 39 0 _ rfl; rw [show (w.alloc (.cells #[.string t, .int .i64 n] 37)).heap.size = w.heap.size + 1 from Array.size_push _] at h; exact h)
  have d1 : (((w.alloc (.cells #[.string t, .int .i64 n] 37)).alloc (.cells #[.int .i64 m, .string g, .string et, .string l, .int .i64 wn] 39)).alloc (.cells #[.int .i64 r, .int .i64 st] 41)).cell? ⟨w.heap.size + 1, 1, none⟩ = some (.string g) := cell_later' (bel_alloc (Below.refl _ _) _) (by have h := cell_newB (w.alloc (.cells #[.string t, .int .i64 n] 37)) #[.int .i64 m, .string g, .string et, .string l, .int .i64 wn] 39 1 _ rfl; rw [show (w.alloc (.cells #[.string t, .int .i64 n] 37)).heap.size = w.heap.size + 1 from Array.size_push _] at h; exact h)
  have d2 : (((w.alloc (.cells #[.string t, .int .i64 n] 37)).alloc (.cells #[.int .i64 m, .string g, .string et, .string l, .int .i64 wn] 39)).alloc (.cells #[.int .i64 r, .int .i64 st] 41)).cell? ⟨w.heap.size + 1, 2, none⟩ = some (.string et) := cell_later' (bel_alloc (Below.refl _ _) _) (by have h := cell_newB (w.alloc (.cells #[.string t, .int .i64 n] 37)) #[.int .i64 m, .string g, .string et, .string l, .int .i64 wn] 39 2 _ rfl; rw [show (w.alloc (.cells #[.string t, .int .i64 n] 37)).heap.size = w.heap.size + 1 from Array.size_push _] at h; exact h)
  have d3 : (((w.alloc (.cells #[.string t, .int .i64 n] 37)).alloc (.cells #[.int .i64 m, .string g, .string et, .string l, .int .i64 wn] 39)).alloc (.cells #[.int .i64 r, .int .i64 st] 41)).cell? ⟨w.heap.size + 1, 3, none⟩ = some (.string l) := cell_later' (bel_alloc (Below.refl _ _) _) (by have h := cell_newB (w.alloc (.cells #[.string t, .int .i64 n] 37)) #[.int .i64 m, .string g, .string et, .string l, .int .i64 wn] 39 3 _ rfl; rw [show (w.alloc (.cells #[.string t, .int .i64 n] 37)).heap.size = w.heap.size + 1 from Array.size_push _] at h; exact h)
  have d4 : (((w.alloc (.cells #[.string t, .int .i64 n] 37)).alloc (.cells #[.int .i64 m, .string g, .string et, .string l, .int .i64 wn] 39)).alloc (.cells #[.int .i64 r, .int .i64 st] 41)).cell? ⟨w.heap.size + 1, 4, none⟩ = some (.int .i64 wn) := cell_later' (bel_alloc (Below.refl _ _) _) (by have h := cell_newB (w.alloc (.cells #[.string t, .int .i64 n] 37)) #[.int .i64 m, .string g, .string et, .string l, .int .i64 wn] 39 4 _ rfl; rw [show (w.alloc (.cells #[.string t, .int .i64 n] 37)).heap.size = w.heap.size + 1 from Array.size_push _] at h; exact h)
  have e0 : (((w.alloc (.cells #[.string t, .int .i64 n] 37)).alloc (.cells #[.int .i64 m, .string g, .string et, .string l, .int .i64 wn] 39)).alloc (.cells #[.int .i64 r, .int .i64 st] 41)).cell? ⟨w.heap.size + 2, 0, none⟩ = some (.int .i64 r) := (by have h := cell_newB ((w.alloc (.cells #[.string t, .int .i64 n] 37)).alloc (.cells #[.int .i64 m, .string g, .string et, .string l, .int .i64 wn] 39)) #[.int .i64 r, .int .i64 st] 41 0 _ rfl; rw [show ((w.alloc (.cells #[.string t, .int .i64 n] 37)).alloc (.cells #[.int .i64 m, .string g, .string et, .string l, .int .i64 wn] 39)).heap.size = w.heap.size + 2 from (Array.size_push _).trans (congrArg (· + 1) (Array.size_push _))] at h; exact h)
  have e1 : (((w.alloc (.cells #[.string t, .int .i64 n] 37)).alloc (.cells #[.int .i64 m, .string g, .string et, .string l, .int .i64 wn] 39)).alloc (.cells #[.int .i64 r, .int .i64 st] 41)).cell? ⟨w.heap.size + 2, 1, none⟩ = some (.int .i64 st) := (by have h := cell_newB ((w.alloc (.cells #[.string t, .int .i64 n] 37)).alloc (.cells #[.int .i64 m, .string g, .string et, .string l, .int .i64 wn] 39)) #[.int .i64 r, .int .i64 st] 41 1 _ rfl; rw [show ((w.alloc (.cells #[.string t, .int .i64 n] 37)).alloc (.cells #[.int .i64 m, .string g, .string et, .string l, .int .i64 wn] 39)).heap.size = w.heap.size + 2 from (Array.size_push _).trans (congrArg (· + 1) (Array.size_push _))] at h; exact h)
  have hj0 := fun W (hW : Below w.heap.size w W) => jputFeed t n W (by omega) (hT.below hW) (feed_len (by omega))
  have hr0 := fun W (_ : Below w.heap.size w W) => rputFeed t n W (by omega) (feed_sm (by omega)) (feed_len (by omega))
  obtain ⟨S0, E0, q0⟩ := putB_form (feedOk n t) (feedO n t)
  simp only [q0] at hj0 hr0
  have HJ0 := Lib.hid hj0; have HR0 := Lib.hid hr0
  clear hj0 hr0 q0
  have hj1 := fun W (hW : Below w.heap.size w W) => jputEntry m wn g et l W (by omega) (by omega) (by omega) (hT.below hW) (entry_len (by omega) (by omega) (by omega))
  have hr1 := fun W (_ : Below w.heap.size w W) => rputEntry m wn g et l W (by omega) (by omega) (by omega) (entry_sm (by omega) (by omega) (by omega)) (entry_len (by omega) (by omega) (by omega))
  obtain ⟨S1, E1, q1⟩ := putB_form (entryOk g l et wn) (entryO g l et wn)
  simp only [q1] at hj1 hr1
  have HJ1 := Lib.hid hj1; have HR1 := Lib.hid hr1
  clear hj1 hr1 q1
  have hj2 := fun W (hW : Below w.heap.size w W) => jputSub fo W (by omega) (hT.below hW) (sub_len (by omega))
  have hr2 := fun W (_ : Below w.heap.size w W) => rputSub fo W (by omega) (sub_sm (by omega)) (sub_len (by omega))
  obtain ⟨S2, E2, q2⟩ := putB_form (subOk fo) (subO fo)
  simp only [q2] at hj2 hr2
  have HJ2 := Lib.hid hj2; have HR2 := Lib.hid hr2
  clear hj2 hr2 q2
  have hj3 := fun W (hW : Below w.heap.size w W) => jputState r st W (hT.below hW) state_len
  have hr3 := fun W (_ : Below w.heap.size w W) => rputState r st W state_sm state_len
  obtain ⟨S3, E3, q3⟩ := putB_form (stateOk r st) (stateO r st)
  simp only [q3] at hj3 hr3
  have HJ3 := Lib.hid hj3; have HR3 := Lib.hid hr3
  clear hj3 hr3 q3
  have hj4 := fun v G W (hS : Sl mkTy W G v xs) (hW : Below w.heap.size w W) => jputMarks v G xs W hS (hT.below hW)
  have hr4 := fun v G W (hS : Sl mkTy W G v xs) => rputMarks v G xs W hS (by omega) (marks_sm xs) (marks_len hx)
  obtain ⟨S4, E4, q4⟩ := putB_form (mayB xs) (marksO xs)
  simp only [q4] at hj4 hr4
  have hsame := fun v u G K W (h1 : Sl mkTy W G v xs) (h2 : Sl mkTy W K u xs) => same_true v u G K xs W h1 h2 (by omega)
  have HJ4 := Lib.hid hj4; have HR4 := Lib.hid hr4; have HSAME := Lib.hid hsame; have HMK := Lib.hid hmarks; have HSL := Lib.hid hslb
  clear hj4 hr4 q4 hsame hmarks hslb hT hs
  have b1 : decide ((20000 : Int) < (t.size : Int) + (g.size : Int) + (et.size : Int) + (l.size : Int) + (fo.size : Int)) = false := decide_eq_false (by omega)
  have b2 : decide ((50 : Int) < (xs.length : Int)) = false := decide_eq_false (by omega)
  have hbA : Below w.heap.size w (((w.alloc (.cells #[.string t, .int .i64 n] 37)).alloc (.cells #[.int .i64 m, .string g, .string et, .string l, .int .i64 wn] 39)).alloc (.cells #[.int .i64 r, .int .i64 st] 41)) := bel_alloc (bel_alloc (bel_alloc (Below.refl _ _) _) _) _
  have HA := Lib.hid hbA
  clear hbA hin
  have HX := Lib.hid hx
  clear hx
  generalize hn : xs.length = q at *
  have Hn := Lib.hid hn
  clear hn
  obtain ⟨s1, s2, s3, s4⟩ := HS5.out
  go_enter Tryd.func4, Tryd.ntmps4
  go_wp2_with fail
  refine Calls.mono (hfirst _) ?_
  rintro e w1 ⟨rfl, hb1⟩
  replace c0 := cell_later' hb1 c0
  replace c1 := cell_later' hb1 c1
  replace d0 := cell_later' hb1 d0
  replace d1 := cell_later' hb1 d1
  replace d2 := cell_later' hb1 d2
  replace d3 := cell_later' hb1 d3
  replace d4 := cell_later' hb1 d4
  replace e0 := cell_later' hb1 e0
  replace e1 := cell_later' hb1 e1
  have hbw1 := bel_trans HA.out hb1
  have hz1' : w.heap.size + 2 < w1.heap.size := World.block_lt_of_cell? _ _ e0
  clear hb1
  have HSS := Lib.hid s1; have HST := Lib.hid s2; have HSU := Lib.hid s3; have HSV := Lib.hid s4
  clear s1 s2 s3 s4
  have hown0 : (w1.alloc (.cells #[] 24)).ownsRow w1.heap.size 24 2 (.slice (some ⟨w1.heap.size, 0, none⟩) 0 0) 0 [] := World.ownsRow_made w1 #[] 0 (Nat.le_refl _) (by decide) (by simp)
  have hsl1 := HSL.out _ (bel_alloc hbw1 (.cells #[] 24))
  have s1' : 0 + xs.length ≤ maxLen := by rw [Hn.out]; have := HX.out; simp only [maxLen]; omega
  have s2' : (0 + xs.length) * 16 ≤ 140737488355328 := by rw [Hn.out]; have := HX.out; omega
  have s3' : w1.heap.size ≤ (w1.alloc (.cells #[] 24)).heap.size := (bel_alloc (Below.refl _ w1) _).size
  have O0 := Lib.hid hown0; have SL := Lib.hid hsl1; have S1' := Lib.hid s1'; have S2' := Lib.hid s2'; have S3' := Lib.hid s3'
  clear hown0 hsl1 s1' s2' s3'
  have s1 := HSS.out; have s2 := HST.out; have s3 := HSU.out; have s4 := HSV.out
  go_upto_region 5 with (fail)
  have HBW1 := Lib.hid hbw1
  have Hc0 := Lib.hid c0; have Hc1 := Lib.hid c1; have Hd0 := Lib.hid d0; have Hd1 := Lib.hid d1; have Hd2 := Lib.hid d2; have Hd3 := Lib.hid d3; have Hd4 := Lib.hid d4; have He0 := Lib.hid e0; have He1 := Lib.hid e1
  clear c0 c1 d0 d1 d2 d3 d4 e0 e1 s1 s2 s3 s4 b1 hbw1
  go_wp2_with (at_builtin; refine wpList_append_sl (T := mkTy) rfl _ _ 22 rfl w1.heap.size 24 i0 (.agg #[.int .i64 0, .int .i64 0]) 2 16 Tryd.underlying22 hi hz0 hz1 hz2 rfl rfl _ _ _ rfl O0.out _ _ xs rfl SL.out S1'.out S2'.out S3'.out ?_)
  intro v2 w2 cs hch ho2 hg2 _
  have hb2 : Below w.heap.size w w2 := bel_grown (bel_alloc HBW1.out _) hg2 (fun k hk => Nat.le_trans HBW1.out.size (own_base O0.out k hk))
  have ho2' : w2.ownsRow w1.heap.size 24 2 v2 xs.length (mkCells xs) := by rw [← mkCells_of_chunks hch]; simpa using ho2
  have IN := Lib.hid (own_sl ho2')
  have c0 := hg2.cell (cell_later' (bel_alloc (Below.refl _ w1) _) Hc0.out) (by simp [Value.ownBlock]; omega)
  have c1 := hg2.cell (cell_later' (bel_alloc (Below.refl _ w1) _) Hc1.out) (by simp [Value.ownBlock]; omega)
  have d0 := hg2.cell (cell_later' (bel_alloc (Below.refl _ w1) _) Hd0.out) (by simp [Value.ownBlock]; omega)
  have d1 := hg2.cell (cell_later' (bel_alloc (Below.refl _ w1) _) Hd1.out) (by simp [Value.ownBlock]; omega)
  have d2 := hg2.cell (cell_later' (bel_alloc (Below.refl _ w1) _) Hd2.out) (by simp [Value.ownBlock]; omega)
  have d3 := hg2.cell (cell_later' (bel_alloc (Below.refl _ w1) _) Hd3.out) (by simp [Value.ownBlock]; omega)
  have d4 := hg2.cell (cell_later' (bel_alloc (Below.refl _ w1) _) Hd4.out) (by simp [Value.ownBlock]; omega)
  have e0 := hg2.cell (cell_later' (bel_alloc (Below.refl _ w1) _) He0.out) (by simp [Value.ownBlock]; omega)
  have e1 := hg2.cell (cell_later' (bel_alloc (Below.refl _ w1) _) He1.out) (by simp [Value.ownBlock]; omega)
  have HB := Lib.hid hb2; have HV := Lib.hid (Below.refl w2.heap.size w2)
  clear hch ho2 hg2 ho2' SL O0 hb2 HA HBW1 Hc0 Hc1 Hd0 Hd1 Hd2 Hd3 Hd4 He0 He1 HSS HST HSU HSV HS5 S1' S2' S3'
  go_wp2_with fail
  refine Calls.mono (HJ0.out _ HB.out) ?_
  rintro e y1 ⟨rfl, hb⟩
  have HB' := Lib.hid (bel_trans HB.out hb); have HV' := Lib.hid (bel_trans HV.out hb)
  replace c0 := cell_later' hb c0
  replace c1 := cell_later' hb c1
  replace d0 := cell_later' hb d0
  replace d1 := cell_later' hb d1
  replace d2 := cell_later' hb d2
  replace d3 := cell_later' hb d3
  replace d4 := cell_later' hb d4
  replace e0 := cell_later' hb e0
  replace e1 := cell_later' hb e1
  clear hb HB HV
  rename Hid (Below w.heap.size w _) => HB; rename Hid (Below w2.heap.size w2 _) => HV
  go_wp2_with fail
  refine Calls.mono (HR0.out _ HB.out) ?_
  rintro e y2 ⟨rfl, hb⟩
  have HB' := Lib.hid (bel_trans HB.out hb); have HV' := Lib.hid (bel_trans HV.out hb)
  replace c0 := cell_later' hb c0
  replace c1 := cell_later' hb c1
  replace d0 := cell_later' hb d0
  replace d1 := cell_later' hb d1
  replace d2 := cell_later' hb d2
  replace d3 := cell_later' hb d3
  replace d4 := cell_later' hb d4
  replace e0 := cell_later' hb e0
  replace e1 := cell_later' hb e1
  clear hb HB HV
  rename Hid (Below w.heap.size w _) => HB; rename Hid (Below w2.heap.size w2 _) => HV
  go_wp2_with fail
  refine Calls.mono (HJ1.out _ HB.out) ?_
  rintro e y3 ⟨rfl, hb⟩
  have HB' := Lib.hid (bel_trans HB.out hb); have HV' := Lib.hid (bel_trans HV.out hb)
  replace c0 := cell_later' hb c0
  replace c1 := cell_later' hb c1
  replace d0 := cell_later' hb d0
  replace d1 := cell_later' hb d1
  replace d2 := cell_later' hb d2
  replace d3 := cell_later' hb d3
  replace d4 := cell_later' hb d4
  replace e0 := cell_later' hb e0
  replace e1 := cell_later' hb e1
  clear hb HB HV
  rename Hid (Below w.heap.size w _) => HB; rename Hid (Below w2.heap.size w2 _) => HV
  go_wp2_with fail
  refine Calls.mono (HR1.out _ HB.out) ?_
  rintro e y4 ⟨rfl, hb⟩
  have HB' := Lib.hid (bel_trans HB.out hb); have HV' := Lib.hid (bel_trans HV.out hb)
  replace c0 := cell_later' hb c0
  replace c1 := cell_later' hb c1
  replace d0 := cell_later' hb d0
  replace d1 := cell_later' hb d1
  replace d2 := cell_later' hb d2
  replace d3 := cell_later' hb d3
  replace d4 := cell_later' hb d4
  replace e0 := cell_later' hb e0
  replace e1 := cell_later' hb e1
  clear hb HB HV
  rename Hid (Below w.heap.size w _) => HB; rename Hid (Below w2.heap.size w2 _) => HV
  go_wp2_with fail
  refine Calls.mono (HJ2.out _ HB.out) ?_
  rintro e y5 ⟨rfl, hb⟩
  have HB' := Lib.hid (bel_trans HB.out hb); have HV' := Lib.hid (bel_trans HV.out hb)
  replace c0 := cell_later' hb c0
  replace c1 := cell_later' hb c1
  replace d0 := cell_later' hb d0
  replace d1 := cell_later' hb d1
  replace d2 := cell_later' hb d2
  replace d3 := cell_later' hb d3
  replace d4 := cell_later' hb d4
  replace e0 := cell_later' hb e0
  replace e1 := cell_later' hb e1
  clear hb HB HV
  rename Hid (Below w.heap.size w _) => HB; rename Hid (Below w2.heap.size w2 _) => HV
  go_wp2_with fail
  refine Calls.mono (HR2.out _ HB.out) ?_
  rintro e y6 ⟨rfl, hb⟩
  have HB' := Lib.hid (bel_trans HB.out hb); have HV' := Lib.hid (bel_trans HV.out hb)
  replace c0 := cell_later' hb c0
  replace c1 := cell_later' hb c1
  replace d0 := cell_later' hb d0
  replace d1 := cell_later' hb d1
  replace d2 := cell_later' hb d2
  replace d3 := cell_later' hb d3
  replace d4 := cell_later' hb d4
  replace e0 := cell_later' hb e0
  replace e1 := cell_later' hb e1
  clear hb HB HV
  rename Hid (Below w.heap.size w _) => HB; rename Hid (Below w2.heap.size w2 _) => HV
  go_wp2_with fail
  refine Calls.mono (HJ3.out _ HB.out) ?_
  rintro e y7 ⟨rfl, hb⟩
  have HB' := Lib.hid (bel_trans HB.out hb); have HV' := Lib.hid (bel_trans HV.out hb)
  replace c0 := cell_later' hb c0
  replace c1 := cell_later' hb c1
  replace d0 := cell_later' hb d0
  replace d1 := cell_later' hb d1
  replace d2 := cell_later' hb d2
  replace d3 := cell_later' hb d3
  replace d4 := cell_later' hb d4
  replace e0 := cell_later' hb e0
  replace e1 := cell_later' hb e1
  clear hb HB HV
  rename Hid (Below w.heap.size w _) => HB; rename Hid (Below w2.heap.size w2 _) => HV
  go_wp2_with fail
  refine Calls.mono (HR3.out _ HB.out) ?_
  rintro e y8 ⟨rfl, hb⟩
  have HB' := Lib.hid (bel_trans HB.out hb); have HV' := Lib.hid (bel_trans HV.out hb)
  replace c0 := cell_later' hb c0
  replace c1 := cell_later' hb c1
  replace d0 := cell_later' hb d0
  replace d1 := cell_later' hb d1
  replace d2 := cell_later' hb d2
  replace d3 := cell_later' hb d3
  replace d4 := cell_later' hb d4
  replace e0 := cell_later' hb e0
  replace e1 := cell_later' hb e1
  clear hb HB HV
  rename Hid (Below w.heap.size w _) => HB; rename Hid (Below w2.heap.size w2 _) => HV
  go_wp2_with fail
  refine Calls.mono (HJ4.out _ _ _ (IN.out.below HV.out) HB.out) ?_
  rintro e y9 ⟨rfl, hb⟩
  have HB' := Lib.hid (bel_trans HB.out hb); have HV' := Lib.hid (bel_trans HV.out hb)
  replace c0 := cell_later' hb c0
  replace c1 := cell_later' hb c1
  replace d0 := cell_later' hb d0
  replace d1 := cell_later' hb d1
  replace d2 := cell_later' hb d2
  replace d3 := cell_later' hb d3
  replace d4 := cell_later' hb d4
  replace e0 := cell_later' hb e0
  replace e1 := cell_later' hb e1
  clear hb HB HV
  rename Hid (Below w.heap.size w _) => HB; rename Hid (Below w2.heap.size w2 _) => HV
  go_wp2_with fail
  refine Calls.mono (HMK.out _ HB.out) ?_
  rintro e y10 ⟨v10, rfl, hb, ho10⟩
  have HB' := Lib.hid (bel_trans HB.out hb); have HV' := Lib.hid (bel_trans HV.out hb)
  have SL10 := Lib.hid (own_sl ho10)
  clear hb HB HV ho10 c0 c1 d0 d1 d2 d3 d4 e0 e1
  go_wp2_with fail
  refine Calls.mono (HR4.out _ _ _ SL10.out) ?_
  rintro e y11 ⟨rfl, hb⟩
  have HB := Lib.hid (bel_trans HB'.out hb); have HV := Lib.hid (bel_trans HV'.out hb)
  clear hb HB' HV' SL10
  go_wp2_with fail
  refine Calls.mono (hfirst _) ?_
  rintro e y12 ⟨rfl, hb⟩
  have HB' := Lib.hid (bel_trans HB.out hb); have HV' := Lib.hid (bel_trans HV.out hb)
  clear hb HB HV
  go_wp2_with fail
  refine Calls.mono (HMK.out _ HB'.out) ?_
  rintro e y13 ⟨v13, rfl, hb, ho13⟩
  have HB := Lib.hid (bel_trans HB'.out hb); have HV := Lib.hid (bel_trans HV'.out hb)
  have SL13 := Lib.hid (own_sl ho13)
  clear hb HB' HV' ho13
  go_wp2_with fail
  refine Calls.mono (HSAME.out _ _ _ _ _ (IN.out.below HV.out) SL13.out) ?_
  rintro e y14 ⟨rfl, hb⟩
  have HB' := Lib.hid (bel_trans HB.out hb)
  clear hb
  go_wp2_with fail
  go_ret
  exact ⟨rfl, HB'.out⟩
theorem rowsWrites_any (t g et l fo : ByteArray) (n m wn r st : Int) (sv : Value) (F : Nat → Prop) (xs : List Mk) (w : World) (hs : Sl mkTy w F sv xs) (hT : Tabs w)
    (zt : t.size ≤ 140737488355328) (zg : g.size ≤ 140737488355328) (ze : et.size ≤ 140737488355328) (zl : l.size ≤ 140737488355328) (zf : fo.size ≤ 140737488355328) :
    Calls Tryd.prog 4 #[.agg #[.string t, .int .i64 n], .agg #[.int .i64 m, .string g, .string et, .string l, .int .i64 wn], .string fo, .agg #[.int .i64 r, .int .i64 st], sv] w fun e w' => e = .returned (.bool true) ∧ Below w.heap.size w w' := by
  by_cases h : 20000 < t.size + g.size + et.size + l.size + fo.size ∨ 50 < xs.length
  · exact rowsWrites_over t g et l fo n m wn r st sv F xs w hs zt zg ze zl zf h
  · exact rowsWrites_in t g et l fo n m wn r st sv F xs w hs hT (by omega) (by omega)
end Go.Proofs.YtjjgbgojlhaapaaDoor
