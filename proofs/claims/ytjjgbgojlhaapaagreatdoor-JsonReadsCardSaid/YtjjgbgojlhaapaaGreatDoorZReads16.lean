/- Parts of the proof: Ps, Nd. -/
import Derived.Test.YtjjgbgojlhaapaaGreatDoorZReads15
import Derived.Lib.SlBytesRow
import Derived.Lib.BufferRead
import Derived.Laws.Rows
namespace Go.Proofs.YtjjgbgojlhaapaaGreatDoor
open Go.RowKit Go.Lib

theorem run_convert_empty {P : Program} (w : World) (src dst e : TypeId) (A : Option Addr) (c : Nat) (hs : P.underlying src = some (.slice e)) (he : P.underlying e = some (.int .u8)) (hd : P.underlying dst = some .string) :
    (convert src dst (.slice A 0 c)).run P w = .ok (.string ⟨#[]⟩) w := by
  rw [run_convert_bytes_string w src dst e A 0 c hs he hd]
  cases A with
  | none => simp [Conv.bytesToString]; rfl
  | some a => simp [Conv.bytesToString, loadCells]; rfl
/-- a slice of bytes reads as these bytes -/
def BSl (w : World) (F : Nat → Prop) (v : Value) (s : ByteArray) : Prop := (∃ b o c, v = .slice (some ⟨b, o, none⟩) s.size c ∧ F b ∧ Lib.Bytes w b o s) ∨ (s.size = 0 ∧ ∃ A c, v = .slice A 0 c)
theorem BSl.frame {w w' : World} {F : Nat → Prop} {v : Value} {s : ByteArray} (h : ∀ k, F k → w'.heap[k]? = w.heap[k]?) (hb : BSl w F v s) : BSl w' F v s := by
  rcases hb with ⟨b, o, c, rfl, hF, hc⟩ | hb
  · exact .inl ⟨b, o, c, rfl, hF, fun i hi => (World.cell?_of_block (w := w) (a := ⟨b, o + i, none⟩) (h b hF)).trans (hc i hi)⟩
  · exact .inr hb
theorem BSl.form {w : World} {F : Nat → Prop} {v : Value} {s : ByteArray} (hb : BSl w F v s) : ∃ A c, v = .slice A s.size c := by
  rcases hb with ⟨b, o, c, rfl, hF, hc⟩ | ⟨h0, A, c, rfl⟩
  · exact ⟨_, _, rfl⟩
  · exact ⟨_, _, by rw [h0]⟩
theorem BSl.conv {w : World} {F : Nat → Prop} {v : Value} {s : ByteArray} (hb : BSl w F v s) : (convert 22 9 v).run Tryz.prog w = .ok (.string s) w := by
  rcases hb with ⟨b, o, c, rfl, hF, hc⟩ | ⟨h0, A, c, rfl⟩
  · exact Lib.run_convert_whole w _ 5 _ Tryz.underlying22 Tryz.underlying5 Tryz.underlying9 b o s hc c
  · have : s = ⟨#[]⟩ := by
      apply ByteArray.ext
      apply Array.eq_empty_of_size_eq_zero
      exact h0
    subst this
    exact run_convert_empty w 22 9 5 A c Tryz.underlying22 Tryz.underlying5 Tryz.underlying9
def endB (s : ByteArray) (y : St) : St := if (y.blanks s).e = 0 ∧ (y.blanks s).p < s.size then (y.blanks s).fail 4 else y.blanks s
def parseB (s : ByteArray) : JV × Int :=
  if 20000 < s.size then (zeroV, 3)
  else if (endB s (valueB s 64 ⟨0, 0⟩).2).e ≠ 0 then (zeroV, (endB s (valueB s 64 ⟨0, 0⟩).2).e)
  else ((valueB s 64 ⟨0, 0⟩).1, 0)
theorem results_row_tmp {P : Program} {fn : Func} {p u : Tmp} {ty : TypeId} (h : fn.results = #[.cell p ty, .tmp u]) (tmps : Array Value) (w : World) (g : Nat) (t : TypeId) (cs : Array Value) (fr : Nat × Nat) (d : TypeDesc)
    (hp : tmps.getD p undef = .pointer (some ⟨g, 0, none⟩)) (hg : w.heap[g]? = some (.cells cs t fr))
    (hu : P.underlying ty = some d) (hd : (match d with | .struct _ | .array _ _ => true | _ => false) = true) (hi : (P.info? ty).map (·.size) = some cs.size) :
    (results fn tmps).run P w = .ok (.tuple #[.agg cs, tmps.getD u undef]) w := by
  have hp' : tmps[p]?.getD undef = .pointer (some ⟨g, 0, none⟩) := by simpa using hp
  simp [results, h, hp', asAddr, run_loadVar_row w g t ty cs fr d hg hu hd hi]
theorem bel_set5 {n B : Nat} {w w1 : World} (h : Below n w w1) (hB : n ≤ B) (v0 v1 v2 v3 v4 : Value) : Below n w (((((w1.setCell ⟨B, 0, none⟩ v0).setCell ⟨B, 1, none⟩ v1).setCell ⟨B, 2, none⟩ v2).setCell ⟨B, 3, none⟩ v3).setCell ⟨B, 4, none⟩ v4) :=
  ((((h.setCell (p := ⟨B, 0, none⟩) hB v0).setCell (p := ⟨B, 1, none⟩) hB v1).setCell (p := ⟨B, 2, none⟩) hB v2).setCell (p := ⟨B, 3, none⟩) hB v3).setCell (p := ⟨B, 4, none⟩) hB v4
theorem drew_heap (X : World) : X.drew.heap = X.heap := rfl
theorem drewN_heap (X : World) (n : Nat) : (X.drewN n).heap = X.heap := rfl
theorem drew_cell (X : World) (a : Addr) : X.drew.cell? a = X.cell? a := World.cell?_of_block (w := X) (by rw [drew_heap])
theorem drewN_cell (X : World) (n : Nat) (a : Addr) : (X.drewN n).cell? a = X.cell? a := World.cell?_of_block (w := X) (by rw [drewN_heap])
theorem set5_drew {w : World} {B : Nat} {T : TypeId} {fz : Nat × Nat} {a0 a1 a2 a3 a4 : Value} (v0 v1 v2 v3 v4 : Value) (h : w.heap[B]? = some (.cells #[a0, a1, a2, a3, a4] T fz)) : ((((((w.setCell ⟨B, 0, none⟩ v0).setCell ⟨B, 1, none⟩ v1).setCell ⟨B, 2, none⟩ v2).setCell ⟨B, 3, none⟩ v3).setCell ⟨B, 4, none⟩ v4).drew).heap[B]? = some (.cells #[v0, v1, v2, v3, v4] T fz) := by
  rw [drew_heap]
  exact set5 v0 v1 v2 v3 v4 h
theorem set5_drewN (n : Nat) {w : World} {B : Nat} {T : TypeId} {fz : Nat × Nat} {a0 a1 a2 a3 a4 : Value} (v0 v1 v2 v3 v4 : Value) (h : w.heap[B]? = some (.cells #[a0, a1, a2, a3, a4] T fz)) : ((((((w.setCell ⟨B, 0, none⟩ v0).setCell ⟨B, 1, none⟩ v1).setCell ⟨B, 2, none⟩ v2).setCell ⟨B, 3, none⟩ v3).setCell ⟨B, 4, none⟩ v4).drewN n).heap[B]? = some (.cells #[v0, v1, v2, v3, v4] T fz) := by
  rw [drewN_heap]
  exact set5 v0 v1 v2 v3 v4 h
theorem keep5_drew {w : World} {B : Nat} {a : Addr} (v0 v1 v2 v3 v4 : Value) (h : a.block ≠ B) : ((((((w.setCell ⟨B, 0, none⟩ v0).setCell ⟨B, 1, none⟩ v1).setCell ⟨B, 2, none⟩ v2).setCell ⟨B, 3, none⟩ v3).setCell ⟨B, 4, none⟩ v4).drew).cell? a = w.cell? a := by
  rw [drew_cell]
  exact World.cell?_of_block (w := w) (set5_other v0 v1 v2 v3 v4 h)
theorem keep5_drewN (n : Nat) {w : World} {B : Nat} {a : Addr} (v0 v1 v2 v3 v4 : Value) (h : a.block ≠ B) : ((((((w.setCell ⟨B, 0, none⟩ v0).setCell ⟨B, 1, none⟩ v1).setCell ⟨B, 2, none⟩ v2).setCell ⟨B, 3, none⟩ v3).setCell ⟨B, 4, none⟩ v4).drewN n).cell? a = w.cell? a := by
  rw [drewN_cell]
  exact World.cell?_of_block (w := w) (set5_other v0 v1 v2 v3 v4 h)
def PRes (s : ByteArray) (w : World) (z : Ending) (w' : World) : Prop := ∃ (A1 : Option Addr) (n1 c1 : Nat) (A2 : Option Addr) (n2 c2 : Nat),
  z = .returned (.tuple #[.agg #[.int .i64 (parseB s).1.k, .int .i64 (parseB s).1.n, .string (parseB s).1.s, .slice A1 n1 c1, .slice A2 n2 c2], .int .i64 (parseB s).2]) ∧
  JR w' (fun b => w.heap.size ≤ b) (parseB s).1 [.int .i64 (parseB s).1.k, .int .i64 (parseB s).1.n, .string (parseB s).1.s, .slice A1 n1 c1, .slice A2 n2 c2] ∧ Below w.heap.size w w'
theorem reader_alloc (w : World) (s : ByteArray) : RdAt 69 w.heap.size s 0 0 (w.alloc (.cells #[.string s, .int .i64 0, .int .i64 0] 69)) := heap_alloc_new w _
set_option maxRecDepth 100000 in
set_option maxHeartbeats 8000000 in
theorem parse_any (s : ByteArray) (v : Value) (F : Nat → Prop) (w : World) (hT : Tabs w) (hb : BSl w F v s) :
    Calls Tryz.prog 8 #[v] w (PRes s w) := by
  have hbB : ∀ w', Below w.heap.size w w' → BSl w' (fun b => True) v s := fun w' hw => by
    rcases hb with ⟨b, o, c, rfl, hF, hc⟩ | hb
    · exact .inl ⟨b, o, c, rfl, trivial, fun i hi => by
        have hlt : b < w.heap.size := World.block_lt_of_cell? w _ (hc i hi)
        exact (World.cell?_of_block (w := w) (a := ⟨b, o + i, none⟩) (hw.block b hlt)).trans (hc i hi)⟩
    · exact .inr hb
  have hA : Below w.heap.size w (w.alloc (.cells #[.int .i64 0, .int .i64 0, .string ⟨#[]⟩, .slice none 0 0, .slice none 0 0] 28)) := bel_alloc (Below.refl _ _) _
  have hcv := (hbB _ hA).conv
  obtain ⟨A, c, rfl⟩ := hb.form
  have hb0 := heap_alloc_new w (.cells #[.int .i64 0, .int .i64 0, .string ⟨#[]⟩, .slice none 0 0, .slice none 0 0] 28)
  have HB0 := Lib.hid hb0; have HA := Lib.hid hA; have HT := Lib.hid hT
  have hE : parseB s = (if 20000 < s.size then (zeroV, 3) else if (endB s (valueB s 64 ⟨0, 0⟩).2).e ≠ 0 then (zeroV, (endB s (valueB s 64 ⟨0, 0⟩).2).e) else ((valueB s 64 ⟨0, 0⟩).1, 0)) := rfl
  unfold PRes
  clear hb hbB hA hb0 hT
  generalize parseB s = res at *
  by_cases hlen : 20000 < s.size
  case pos =>
    rw [if_pos hlen] at hE
    subst hE
    have hd : decide ((20000 : Int) < (s.size : Int)) = true := by simp; omega
    clear hcv
    go_enter Tryz.func8, Tryz.ntmps8
    go_upto_region 2 with (fail)
    generalize w.alloc (.cells #[.int .i64 0, .int .i64 0, .string ⟨#[]⟩, .slice none 0 0, .slice none 0 0] 28) = W1 at *
    obtain ⟨⟨b0, b1, b2, b3, b4⟩, ⟨g0, g1, g2, g3, g4⟩, hBw⟩ := cells5 HB0.out
    have hf := set5 (.int .i64 0) (.int .i64 0) (.string ⟨#[]⟩) (.slice none 0 0) (.slice none 0 0) HB0.out
    have hbl : Below w.heap.size w (((((W1.setCell ⟨w.heap.size, 0, none⟩ (.int .i64 0)).setCell ⟨w.heap.size, 1, none⟩ (.int .i64 0)).setCell ⟨w.heap.size, 2, none⟩ (.string ⟨#[]⟩)).setCell ⟨w.heap.size, 3, none⟩ (.slice none 0 0)).setCell ⟨w.heap.size, 4, none⟩ (.slice none 0 0)) := bel_set5 HA.out (Nat.le_refl _) (.int .i64 0) (.int .i64 0) (.string ⟨#[]⟩) (.slice none 0 0) (.slice none 0 0)
    have hjj : JR (((((W1.setCell ⟨w.heap.size, 0, none⟩ (.int .i64 0)).setCell ⟨w.heap.size, 1, none⟩ (.int .i64 0)).setCell ⟨w.heap.size, 2, none⟩ (.string ⟨#[]⟩)).setCell ⟨w.heap.size, 3, none⟩ (.slice none 0 0)).setCell ⟨w.heap.size, 4, none⟩ (.slice none 0 0)) (fun b => w.heap.size ≤ b) zeroV [.int .i64 0, .int .i64 0, .string ⟨#[]⟩, .slice none 0 0, .slice none 0 0] := zero_jr _ _
    have HF5 := Lib.hid hf; have HR5 := Lib.hid hbl; have HJJ := Lib.hid hjj
    clear hf hbl hjj
    go_wp2_with fail
    exact bodyPost_ret (results_row_tmp rfl _ _ w.heap.size 28 #[.int .i64 0, .int .i64 0, .string ⟨#[]⟩, .slice none 0 0, .slice none 0 0] (0, 0) _ rfl HF5.out Tryz.underlying28 rfl (by kernel_rfl)) rfl ⟨none, 0, 0, none, 0, 0, rfl, HJJ.out, HR5.out⟩
  case neg =>
    rw [if_neg hlen] at hE
    have hd : decide ((20000 : Int) < (s.size : Int)) = false := by simp; omega
    have hrd := reader_alloc (w.alloc (.cells #[.int .i64 0, .int .i64 0, .string ⟨#[]⟩, .slice none 0 0, .slice none 0 0] 28)) s
    have hA2 := bel_alloc HA.out (.cells #[.string s, .int .i64 0, .int .i64 0] 69)
    have hb2 := heap_alloc2_old w (.cells #[.int .i64 0, .int .i64 0, .string ⟨#[]⟩, .slice none 0 0, .slice none 0 0] 28) (.cells #[.string s, .int .i64 0, .int .i64 0] 69)
    have hs2 : (w.alloc (.cells #[.int .i64 0, .int .i64 0, .string ⟨#[]⟩, .slice none 0 0, .slice none 0 0] 28)).heap.size = w.heap.size + 1 := by show (w.heap.push _).size = _; simp
    rw [hs2] at hrd
    have HRD := Lib.hid hrd; have HA2 := Lib.hid hA2; have HB2 := Lib.hid hb2
    have hva := fun w2 h1 h2 => value_at s (by omega) 64 (by decide) w (w.heap.size + 1) ⟨0, 0⟩ w2 HT.out h1 (by omega) rfl (Nat.zero_le _) h2
    have HVA := Lib.hid hva; have HE := Lib.hid hE
    clear hrd hA2 hb2 hva hE
    generalize valueB s 64 ⟨0, 0⟩ = r at *
    obtain ⟨v0, y⟩ := r
    simp only at HE
    go_enter Tryz.func8, Tryz.ntmps8
    go_upto_region 4 with (fail)
    generalize (w.alloc (.cells #[.int .i64 0, .int .i64 0, .string ⟨#[]⟩, .slice none 0 0, .slice none 0 0] 28)).alloc (.cells #[.string s, .int .i64 0, .int .i64 0] 69) = w2 at *
    clear hcv hs2
    have hRw2 : w.heap.size + 1 < w2.heap.size := HRD.out.cells.2.2.2.2.2.2
    go_wp2_with fail
    refine Calls.mono (HVA.out w2 HA2.out HRD.out) ?_
    rintro e w3 ⟨v, A1, n1, c1, A2, n2, c2, rfl, hjr, heq, hp3⟩
    try simp only at hp3
    have hb3 := hp3.keep (B := w.heap.size) HB2.out (by omega)
    have hsz3 := hp3.2.size
    have hA4 : Below w3.heap.size w3 (w3.alloc (.cells #[.int .i64 v.k, .int .i64 v.n, .string v.s, .slice A1 n1 c1, .slice A2 n2 c2] 28)) := bel_alloc (Below.refl _ _) _
    have hc4 := heap_alloc_new w3 (.cells #[.int .i64 v.k, .int .i64 v.n, .string v.s, .slice A1 n1 c1, .slice A2 n2 c2] 28)
    have hw3B : w.heap.size < w3.heap.size := (Array.getElem?_eq_some_iff.1 hb3).1
    have hp4 := RdPost.below hp3 hA4
    have hs34 := hA4.size
    have hb4 := (hA4.block w.heap.size hw3B).trans hb3
    have hj4 := JR_mono (F' := fun b => w2.heap.size ≤ b ∧ b < w3.heap.size) (fun b hb => hb) _ _ (JR_frame (w' := w3.alloc (.cells #[.int .i64 v.k, .int .i64 v.n, .string v.s, .slice A1 n1 c1, .slice A2 n2 c2] 28)) (fun b hb => hA4.block b hb.2) _ _ (JR_bound _ _ hjr))
    have HB4 := Lib.hid hb4; have HC4 := Lib.hid hc4; have HP4 := Lib.hid hp4; have HJ4 := Lib.hid hj4; have HEQ := Lib.hid heq
    clear hb3 hA4 hc4 hp4 hb4 hj4 heq hjr hp3 HVA HB2
    go_upto_region 5 with (fail)
    generalize w3.alloc (.cells #[.int .i64 v.k, .int .i64 v.n, .string v.s, .slice A1 n1 c1, .slice A2 n2 c2] 28) = w4 at *
    have hbl := blanks_any (w.heap.size + 1) s y w4 (by omega) HP4.out.1
    have hbe : (y.blanks s).e = y.e := rfl
    have hEE := HE.out
    unfold endB at hEE
    have HBL := Lib.hid hbl; have HE2 := Lib.hid hEE; have HBE := Lib.hid hbe
    clear hbl hEE HE hbe
    generalize y.blanks s = y5 at *
    go_wp2_with fail
    refine Calls.mono HBL.out ?_
    rintro e w5 ⟨rfl, hp5⟩
    have hb5 := hp5.keep (B := w.heap.size) HB4.out (by omega)
    have hc5 := hp5.keep (B := w3.heap.size) HC4.out (by omega)
    have hpp5 := HP4.out.trans hp5
    have hsz4 := HP4.out.2.size
    obtain ⟨l0, l1, l2, _, f1, _, hRw⟩ := hpp5.1.cells
    have hbw5 := HA2.out.grown hpp5.2 HA2.out.size (fun j hj => by have := Option.some.inj hj; omega)
    have HG5 := Lib.hid hp5.2
    have HB5 := Lib.hid hb5; have HC5 := Lib.hid hc5; have HP5 := Lib.hid hpp5; have HBW := Lib.hid hbw5
    clear hp5 hb5 hc5 hpp5 hbw5 HB4 HC4 HP4
    by_cases he : y5.e = 0
    case pos =>
      have d0 : (y5.e == 0) = true := by simpa using he
      by_cases hlt : y5.p < s.size
      case pos =>
        have hltz : (y5.p : Int) < (s.size : Int) := by omega
        have hd2 : decide ((y5.p : Int) < (s.size : Int)) = true := by simpa using hltz
        have hfe := HE2.out
        rw [show (if y5.e = 0 ∧ y5.p < s.size then y5.fail 4 else y5) = y5.fail 4 from if_pos ⟨he, hlt⟩] at hfe
        have hze : (y5.fail 4).e = 4 := by unfold St.fail; rw [if_pos he]
        rw [if_pos (by rw [hze]; decide), hze] at hfe
        subst hfe
        have hfl := fun n => fail_any (w.heap.size + 1) s y5 4 (w5.drewN n) (HP5.out.1.drewN n)
        have HFL := Lib.hid hfl; have HZE := Lib.hid hze
        clear hfl HE2 hze
        go_wp2_with fail
        go_quiet (fail)
        go_wp2_with fail
        refine Calls.mono (HFL.out _) ?_
        rintro e w6 ⟨rfl, hp6⟩
        have hb6 := hp6.keep (B := w.heap.size) HB5.out (by omega)
        have hp6' := (HP5.out.drewN _).trans hp6
        rw [HZE.out] at hp6'
        obtain ⟨l0, l1, l2, _, f1, _, hRw⟩ := hp6'.1.cells
        have hbw6 := HA2.out.grown hp6'.2 HA2.out.size (fun j hj => by have := Option.some.inj hj; omega)
        have HB6 := Lib.hid hb6; have HBW6 := Lib.hid hbw6
        clear hp6 hb6 hp6' hbw6
        go_upto_region 9 with (fail)
        obtain ⟨⟨b0, b1, b2, b3, b4⟩, ⟨g0, g1, g2, g3, g4⟩, hBw⟩ := cells5 HB6.out
        have hf := set5_drew (.int .i64 0) (.int .i64 0) (.string ⟨#[]⟩) (.slice none 0 0) (.slice none 0 0) HB6.out
        have hbl : Below w.heap.size w ((((((w6.setCell ⟨w.heap.size, 0, none⟩ (.int .i64 0)).setCell ⟨w.heap.size, 1, none⟩ (.int .i64 0)).setCell ⟨w.heap.size, 2, none⟩ (.string ⟨#[]⟩)).setCell ⟨w.heap.size, 3, none⟩ (.slice none 0 0)).setCell ⟨w.heap.size, 4, none⟩ (.slice none 0 0)).drew) := bel_drew (bel_set5 HBW6.out (Nat.le_refl _) (.int .i64 0) (.int .i64 0) (.string ⟨#[]⟩) (.slice none 0 0) (.slice none 0 0))
        have hjj : JR ((((((w6.setCell ⟨w.heap.size, 0, none⟩ (.int .i64 0)).setCell ⟨w.heap.size, 1, none⟩ (.int .i64 0)).setCell ⟨w.heap.size, 2, none⟩ (.string ⟨#[]⟩)).setCell ⟨w.heap.size, 3, none⟩ (.slice none 0 0)).setCell ⟨w.heap.size, 4, none⟩ (.slice none 0 0)).drew) (fun b => w.heap.size ≤ b) zeroV [.int .i64 0, .int .i64 0, .string ⟨#[]⟩, .slice none 0 0, .slice none 0 0] := zero_jr _ _
        have HF5 := Lib.hid hf; have HR5 := Lib.hid hbl; have HJJ := Lib.hid hjj
        clear hf hbl hjj
        refine PrintLast.wp_region_last_drew (S := fun w' => w'.cell? ⟨w.heap.size + 1, 2, none⟩ = some (.int .i64 4)) (ds := []) (by kernel_rfl) ?_ (fun hHeld => ?_)
        · exact l2
        refine PrintLast.wpAnyLast_take (i := 0) (v := ?_) rfl (by kernel_rfl) (by kernel_rfl) (by kernel_rfl) (by kernel_rfl) (by kernel_rfl) (fun _ _ _ h => h) (Or.inl ⟨by kernel_rfl, ?_⟩) (by assumption) ?_
        rotate_left
        · (intro w hSw; (try dsimp only at hSw); go_simp; try (with_reducible rfl))
        try simp only [List.getElem_toArray, List.getElem_cons_zero, Act.put, List.setIfInBounds_toArray, List.set_cons_zero, List.set_cons_succ]
        refine PrintLast.wpAnyLast_take (i := 1) (v := ?_) rfl (by kernel_rfl) (by kernel_rfl) (by kernel_rfl) (by kernel_rfl) (by kernel_rfl) (fun _ _ _ h => h) (Or.inl ⟨by kernel_rfl, ?_⟩) (by assumption) ?_
        rotate_left
        · (intro w hSw; (try dsimp only at hSw); go_simp; try (with_reducible rfl))
        try simp only [List.getElem_toArray, List.getElem_cons_zero, List.getElem_cons_succ, Act.put, List.setIfInBounds_toArray, List.set_cons_zero, List.set_cons_succ]
        refine PrintLast.wpAnyLast_take (i := 2) (v := ?_) rfl (by kernel_rfl) (by kernel_rfl) (by kernel_rfl) (by kernel_rfl) (by kernel_rfl) (fun _ _ _ h => h) (Or.inl ⟨by kernel_rfl, ?_⟩) (by assumption) ?_
        rotate_left
        · (intro w hSw; (try dsimp only at hSw); go_simp; try (with_reducible rfl))
        try simp only [List.getElem_toArray, List.getElem_cons_zero, List.getElem_cons_succ, Act.put, List.setIfInBounds_toArray, List.set_cons_zero, List.set_cons_succ]
        refine PrintLast.wpAnyLast_take (i := 3) (v := ?_) rfl (by kernel_rfl) (by kernel_rfl) (by kernel_rfl) (by kernel_rfl) (by kernel_rfl) (fun _ _ _ h => h) (Or.inl ⟨by kernel_rfl, ?_⟩) (by assumption) ?_
        rotate_left
        · (intro w hSw; (try dsimp only at hSw); go_simp; try (with_reducible rfl))
        try simp only [List.getElem_toArray, List.getElem_cons_zero, List.getElem_cons_succ, Act.put, List.setIfInBounds_toArray, List.set_cons_zero, List.set_cons_succ]
        refine PrintLast.wpAnyLast_take (i := 4) (v := ?_) rfl (by kernel_rfl) (by kernel_rfl) (by kernel_rfl) (by kernel_rfl) (by kernel_rfl) (fun _ _ _ h => h) (Or.inl ⟨by kernel_rfl, ?_⟩) (by assumption) ?_
        rotate_left
        · (intro w hSw; (try dsimp only at hSw); go_simp; try (with_reducible rfl))
        try simp only [List.getElem_toArray, List.getElem_cons_zero, List.getElem_cons_succ, Act.put, List.setIfInBounds_toArray, List.set_cons_zero, List.set_cons_succ]
        have HK := Lib.hid hHeld
        clear hHeld
        refine PrintLast.wpAnyLast_ready (rs := [5]) (by kernel_rfl) (by simp) ?_
        refine PrintLast.AllReadyL.cons rfl (by decide) (fun K hK => ?_) PrintLast.AllReadyL.nil
        rw [if_pos (by kernel_rfl)]
        go_simp
        try simp only [List.foldl_cons, List.foldl_nil, List.setIfInBounds_toArray, List.set_cons_zero, List.set_cons_succ, Nat.reduceAdd]
        refine hK.out _ _ ?_ (fun hHeld => ?_)
        · exact (keep5_drew (w := w6) (B := w.heap.size) (a := ⟨w.heap.size + 1, 2, none⟩) (.int .i64 0) (.int .i64 0) (.string ⟨#[]⟩) (.slice none 0 0) (.slice none 0 0) (by show w.heap.size + 1 ≠ w.heap.size; omega)).trans l2
        clear hK K
        try simp only [List.getElem_toArray, List.getElem_cons_zero, List.getElem_cons_succ, Act.put, List.setIfInBounds_toArray, List.set_cons_zero, List.set_cons_succ]
        clear HK
        refine PrintLast.wpAnyLast_take (i := 6) (v := ?_) rfl (by kernel_rfl) (by kernel_rfl) (by kernel_rfl) (by kernel_rfl) (by kernel_rfl) (fun _ _ _ h => h) (Or.inl ⟨by kernel_rfl, ?_⟩) (by assumption) ?_
        rotate_left
        · (intro w hSw; (try dsimp only at hSw); go_simp; try (with_reducible rfl))
        try simp only [List.getElem_toArray, List.getElem_cons_zero, List.getElem_cons_succ, Act.put, List.setIfInBounds_toArray, List.set_cons_zero, List.set_cons_succ]
        refine PrintLast.wpAnyLast_done (by kernel_rfl) ?_ _
        go_wp2_with fail
        exact bodyPost_ret (results_row_tmp rfl _ _ w.heap.size 28 #[.int .i64 0, .int .i64 0, .string ⟨#[]⟩, .slice none 0 0, .slice none 0 0] (0, 0) _ rfl HF5.out Tryz.underlying28 rfl (by kernel_rfl)) rfl ⟨none, 0, 0, none, 0, 0, rfl, HJJ.out, HR5.out⟩
      case neg =>
        have hltz : ¬ (y5.p : Int) < (s.size : Int) := by omega
        have hd2 : decide ((y5.p : Int) < (s.size : Int)) = false := by simpa using hltz
        have hfe := HE2.out
        rw [show (if y5.e = 0 ∧ y5.p < s.size then y5.fail 4 else y5) = y5 from if_neg (fun h => hlt h.2), if_neg (by simpa using he)] at hfe
        have hv := HEQ.out (by rw [← HBE.out]; exact he)
        try simp only at hv
        subst hv
        subst hfe
        clear HE2
        go_wp2_with fail
        go_quiet (fail)
        obtain ⟨⟨v0', v1', v2', v3', v4'⟩, _, hCw⟩ := cells5 HC5.out
        have hfr : ∀ b, (w2.heap.size ≤ b ∧ b < w3.heap.size) → ((((((w5.drewN nq).setCell ⟨w.heap.size, 0, none⟩ (.int .i64 v.k)).setCell ⟨w.heap.size, 1, none⟩ (.int .i64 v.n)).setCell ⟨w.heap.size, 2, none⟩ (.string v.s)).setCell ⟨w.heap.size, 3, none⟩ (.slice A1 n1 c1)).setCell ⟨w.heap.size, 4, none⟩ (.slice A2 n2 c2)).heap[b]? = w4.heap[b]? := fun b hb => (set5_other _ _ _ _ _ (by have := hb.1; omega)).trans (HG5.out.block b (by have := hb.2; omega) (by intro e; have := Option.some.inj e; have := hb.1; omega))
        obtain ⟨⟨b0, b1, b2, b3, b4⟩, ⟨g0, g1, g2, g3, g4⟩, hBw⟩ := cells5 HB5.out
        have hf := set5 (.int .i64 v.k) (.int .i64 v.n) (.string v.s) (.slice A1 n1 c1) (.slice A2 n2 c2) HB5.out
        have hbl : Below w.heap.size w (((((((w5.drewN nq).setCell ⟨w.heap.size, 0, none⟩ (.int .i64 v.k)).setCell ⟨w.heap.size, 1, none⟩ (.int .i64 v.n)).setCell ⟨w.heap.size, 2, none⟩ (.string v.s)).setCell ⟨w.heap.size, 3, none⟩ (.slice A1 n1 c1)).setCell ⟨w.heap.size, 4, none⟩ (.slice A2 n2 c2))) := (bel_set5 (bel_drewN HBW.out _) (Nat.le_refl _) (.int .i64 v.k) (.int .i64 v.n) (.string v.s) (.slice A1 n1 c1) (.slice A2 n2 c2))
        have hjj : JR (((((((w5.drewN nq).setCell ⟨w.heap.size, 0, none⟩ (.int .i64 v.k)).setCell ⟨w.heap.size, 1, none⟩ (.int .i64 v.n)).setCell ⟨w.heap.size, 2, none⟩ (.string v.s)).setCell ⟨w.heap.size, 3, none⟩ (.slice A1 n1 c1)).setCell ⟨w.heap.size, 4, none⟩ (.slice A2 n2 c2))) (fun b => w.heap.size ≤ b) v [.int .i64 v.k, .int .i64 v.n, .string v.s, .slice A1 n1 c1, .slice A2 n2 c2] := JR_mono (F := fun b => w2.heap.size ≤ b ∧ b < w3.heap.size) (fun b hb => by have := hb.1; omega) _ _ (JR_frame (w := w4) (F := fun b => w2.heap.size ≤ b ∧ b < w3.heap.size) hfr _ _ HJ4.out)
        have HF5 := Lib.hid hf; have HR5 := Lib.hid hbl; have HJJ := Lib.hid hjj
        clear hf hbl hjj
        go_wp2_with fail
        exact bodyPost_ret (results_row_tmp rfl _ _ w.heap.size 28 #[.int .i64 v.k, .int .i64 v.n, .string v.s, .slice A1 n1 c1, .slice A2 n2 c2] (0, 0) _ rfl HF5.out Tryz.underlying28 rfl (by kernel_rfl)) rfl ⟨_, _, _, _, _, _, rfl, HJJ.out, HR5.out⟩
    case neg =>
      have d0 : (y5.e == 0) = false := by simpa using he
      have dn : (y5.e != 0) = true := by simpa using he
      have hfe := HE2.out
      rw [show (if y5.e = 0 ∧ y5.p < s.size then y5.fail 4 else y5) = y5 from if_neg (fun h => he h.1), if_pos (by simpa using he)] at hfe
      subst hfe
      clear HE2
      go_wp2_with fail
      go_quiet (fail)
      go_upto_region 9 with (fail)
      obtain ⟨⟨b0, b1, b2, b3, b4⟩, ⟨g0, g1, g2, g3, g4⟩, hBw⟩ := cells5 HB5.out
      have hf := set5_drewN (nq + 1) (.int .i64 0) (.int .i64 0) (.string ⟨#[]⟩) (.slice none 0 0) (.slice none 0 0) HB5.out
      have hbl : Below w.heap.size w ((((((w5.setCell ⟨w.heap.size, 0, none⟩ (.int .i64 0)).setCell ⟨w.heap.size, 1, none⟩ (.int .i64 0)).setCell ⟨w.heap.size, 2, none⟩ (.string ⟨#[]⟩)).setCell ⟨w.heap.size, 3, none⟩ (.slice none 0 0)).setCell ⟨w.heap.size, 4, none⟩ (.slice none 0 0)).drewN (nq + 1)) := bel_drewN (bel_set5 HBW.out (Nat.le_refl _) (.int .i64 0) (.int .i64 0) (.string ⟨#[]⟩) (.slice none 0 0) (.slice none 0 0)) _
      have hjj : JR ((((((w5.setCell ⟨w.heap.size, 0, none⟩ (.int .i64 0)).setCell ⟨w.heap.size, 1, none⟩ (.int .i64 0)).setCell ⟨w.heap.size, 2, none⟩ (.string ⟨#[]⟩)).setCell ⟨w.heap.size, 3, none⟩ (.slice none 0 0)).setCell ⟨w.heap.size, 4, none⟩ (.slice none 0 0)).drewN (nq + 1)) (fun b => w.heap.size ≤ b) zeroV [.int .i64 0, .int .i64 0, .string ⟨#[]⟩, .slice none 0 0, .slice none 0 0] := zero_jr _ _
      have HF5 := Lib.hid hf; have HR5 := Lib.hid hbl; have HJJ := Lib.hid hjj
      clear hf hbl hjj
      refine PrintLast.wp_region_last_drew (S := fun w' => w'.cell? ⟨w.heap.size + 1, 2, none⟩ = some (.int .i64 y5.e)) (ds := []) (by kernel_rfl) ?_ (fun hHeld => ?_)
      · exact l2
      refine PrintLast.wpAnyLast_take (i := 0) (v := ?_) rfl (by kernel_rfl) (by kernel_rfl) (by kernel_rfl) (by kernel_rfl) (by kernel_rfl) (fun _ _ _ h => h) (Or.inl ⟨by kernel_rfl, ?_⟩) (by assumption) ?_
      rotate_left
      · (intro w hSw; (try dsimp only at hSw); go_simp; try (with_reducible rfl))
      try simp only [List.getElem_toArray, List.getElem_cons_zero, Act.put, List.setIfInBounds_toArray, List.set_cons_zero, List.set_cons_succ]
      refine PrintLast.wpAnyLast_take (i := 1) (v := ?_) rfl (by kernel_rfl) (by kernel_rfl) (by kernel_rfl) (by kernel_rfl) (by kernel_rfl) (fun _ _ _ h => h) (Or.inl ⟨by kernel_rfl, ?_⟩) (by assumption) ?_
      rotate_left
      · (intro w hSw; (try dsimp only at hSw); go_simp; try (with_reducible rfl))
      try simp only [List.getElem_toArray, List.getElem_cons_zero, List.getElem_cons_succ, Act.put, List.setIfInBounds_toArray, List.set_cons_zero, List.set_cons_succ]
      refine PrintLast.wpAnyLast_take (i := 2) (v := ?_) rfl (by kernel_rfl) (by kernel_rfl) (by kernel_rfl) (by kernel_rfl) (by kernel_rfl) (fun _ _ _ h => h) (Or.inl ⟨by kernel_rfl, ?_⟩) (by assumption) ?_
      rotate_left
      · (intro w hSw; (try dsimp only at hSw); go_simp; try (with_reducible rfl))
      try simp only [List.getElem_toArray, List.getElem_cons_zero, List.getElem_cons_succ, Act.put, List.setIfInBounds_toArray, List.set_cons_zero, List.set_cons_succ]
      refine PrintLast.wpAnyLast_take (i := 3) (v := ?_) rfl (by kernel_rfl) (by kernel_rfl) (by kernel_rfl) (by kernel_rfl) (by kernel_rfl) (fun _ _ _ h => h) (Or.inl ⟨by kernel_rfl, ?_⟩) (by assumption) ?_
      rotate_left
      · (intro w hSw; (try dsimp only at hSw); go_simp; try (with_reducible rfl))
      try simp only [List.getElem_toArray, List.getElem_cons_zero, List.getElem_cons_succ, Act.put, List.setIfInBounds_toArray, List.set_cons_zero, List.set_cons_succ]
      refine PrintLast.wpAnyLast_take (i := 4) (v := ?_) rfl (by kernel_rfl) (by kernel_rfl) (by kernel_rfl) (by kernel_rfl) (by kernel_rfl) (fun _ _ _ h => h) (Or.inl ⟨by kernel_rfl, ?_⟩) (by assumption) ?_
      rotate_left
      · (intro w hSw; (try dsimp only at hSw); go_simp; try (with_reducible rfl))
      try simp only [List.getElem_toArray, List.getElem_cons_zero, List.getElem_cons_succ, Act.put, List.setIfInBounds_toArray, List.set_cons_zero, List.set_cons_succ]
      have HK := Lib.hid hHeld
      clear hHeld
      refine PrintLast.wpAnyLast_ready (rs := [5]) (by kernel_rfl) (by simp) ?_
      refine PrintLast.AllReadyL.cons rfl (by decide) (fun K hK => ?_) PrintLast.AllReadyL.nil
      rw [if_pos (by kernel_rfl)]
      go_simp
      try simp only [List.foldl_cons, List.foldl_nil, List.setIfInBounds_toArray, List.set_cons_zero, List.set_cons_succ, Nat.reduceAdd]
      refine hK.out _ _ ?_ (fun hHeld => ?_)
      · exact (keep5_drewN (nq + 1) (w := w5) (B := w.heap.size) (a := ⟨w.heap.size + 1, 2, none⟩) (.int .i64 0) (.int .i64 0) (.string ⟨#[]⟩) (.slice none 0 0) (.slice none 0 0) (by show w.heap.size + 1 ≠ w.heap.size; omega)).trans l2
      clear hK K
      try simp only [List.getElem_toArray, List.getElem_cons_zero, List.getElem_cons_succ, Act.put, List.setIfInBounds_toArray, List.set_cons_zero, List.set_cons_succ]
      clear HK
      refine PrintLast.wpAnyLast_take (i := 6) (v := ?_) rfl (by kernel_rfl) (by kernel_rfl) (by kernel_rfl) (by kernel_rfl) (by kernel_rfl) (fun _ _ _ h => h) (Or.inl ⟨by kernel_rfl, ?_⟩) (by assumption) ?_
      rotate_left
      · (intro w hSw; (try dsimp only at hSw); go_simp; try (with_reducible rfl))
      try simp only [List.getElem_toArray, List.getElem_cons_zero, List.getElem_cons_succ, Act.put, List.setIfInBounds_toArray, List.set_cons_zero, List.set_cons_succ]
      refine PrintLast.wpAnyLast_done (by kernel_rfl) ?_ _
      go_wp2_with fail
      exact bodyPost_ret (results_row_tmp rfl _ _ w.heap.size 28 #[.int .i64 0, .int .i64 0, .string ⟨#[]⟩, .slice none 0 0, .slice none 0 0] (0, 0) _ rfl HF5.out Tryz.underlying28 rfl (by kernel_rfl)) rfl ⟨none, 0, 0, none, 0, 0, rfl, HJJ.out, HR5.out⟩
end Go.Proofs.YtjjgbgojlhaapaaGreatDoor
namespace Go.Proofs.YtjjgbgojlhaapaaGreatDoor
open Go.RowKit Go.Lib

def nest (o : Bool) : Nat → List UInt8
  | 0 => []
  | 1 => if o then [123, 125] else [91, 93]
  | n + 2 => (if o then [123, 34, 97, 34, 58] else [91]) ++ nest o (n + 1) ++ [if o then 125 else 93]
def nestV (o : Bool) : Nat → JV
  | 0 => zeroV
  | 1 => if o then objV [] else listV []
  | n + 2 => if o then objV [(⟨#[97]⟩, nestV o (n + 1))] else listV [nestV o (n + 1)]
/-- what stands behind place p -/
def rest (s : ByteArray) (p : Nat) : List UInt8 := s.data.toList.drop p
theorem rest_lt {s : ByteArray} {p : Nat} {c : UInt8} {r : List UInt8} (h : rest s p = c :: r) : p < s.size := by
  unfold rest at h
  have := congrArg List.length h
  simp at this
  have hz : s.data.size = s.size := rfl
  omega
theorem rest_byte {s : ByteArray} {p : Nat} {c : UInt8} {r : List UInt8} (h : rest s p = c :: r) : byteAt s p = c := by
  have hl := rest_lt h
  unfold rest at h
  rw [drop_byte hl] at h
  injection h
theorem rest_next {s : ByteArray} {p : Nat} {c : UInt8} {r : List UInt8} (h : rest s p = c :: r) : rest s (p + 1) = r := by
  have hl := rest_lt h
  unfold rest at h ⊢
  rw [drop_byte hl] at h
  injection h
theorem see_rest {s : ByteArray} {p : Nat} {c : UInt8} {r : List UInt8} (e : Int) (h : rest s p = c :: r) (hb : isBlank c = false) : (⟨p, e⟩ : St).see s = (c, ⟨p, e⟩) := by
  have hl := rest_lt h
  have hk := skip_stop (s := s) (q := p) (.inr (by rw [rest_byte h]; exact hb))
  unfold St.see St.blanks
  simp only [hk]
  rw [if_neg (by omega), rest_byte h]
theorem see_end {s : ByteArray} {p : Nat} (h : rest s p = []) : St.blanks s ⟨p, 0⟩ = ⟨p, 0⟩ := by
  have : ¬ p < s.size := by
    intro hl
    unfold rest at h
    rw [drop_byte hl] at h
    exact absurd h (by simp)
  have hk := skip_stop (s := s) (q := p) (.inl this)
  unfold St.blanks
  simp only [hk]
theorem nest_head (o : Bool) (n : Nat) : ∃ r, nest o (n + 1) = (if o then 123 else 91) :: r := by
  rcases n with _ | n <;> cases o <;> exact ⟨_, rfl⟩
theorem nest_list (s : ByteArray) : ∀ (n d p : Nat) (r : List UInt8), rest s p = nest false (n + 1) ++ r →
    (n + 1 ≤ d → valueB s d ⟨p, 0⟩ = (nestV false (n + 1), ⟨p + (nest false (n + 1)).length, 0⟩)) ∧ (d < n + 1 → (valueB s d ⟨p, 0⟩).2.e = 10)
  | n, 0, p, r, h => by
    refine ⟨fun h => by omega, fun _ => ?_⟩
    obtain ⟨t, ht⟩ := nest_head false n
    rw [ht] at h
    have hs := see_rest 0 h (by decide)
    simp only [valueB, hs]
    rfl
  | 0, d + 1, p, r, h => by
    refine ⟨fun _ => ?_, fun h => by omega⟩
    have hs := see_rest 0 h (by decide)
    have h1 := rest_next h
    have hs1 := see_rest 0 h1 (by decide)
    simp only [valueB, hs]
    rw [if_neg (by decide), if_pos (by decide)]
    simp only [listB, St.step, hs1]
    rfl
  | n + 1, d + 1, p, r, h => by
    have h0 : rest s p = 91 :: (nest false (n + 1) ++ (93 :: r)) := by rw [h]; simp [nest]
    have hs := see_rest 0 h0 (by decide)
    have h1 := rest_next h0
    have ih := nest_list s n d (p + 1) (93 :: r) h1
    obtain ⟨t, ht⟩ := nest_head false n
    have h1' := h1
    rw [ht] at h1'
    have hs1 := see_rest 0 h1' (by decide)
    have hlt := rest_lt h1'
    obtain ⟨f, hf⟩ : ∃ f, s.size + 1 - (p + 1) = f + 1 := ⟨s.size - (p + 1), by omega⟩
    have hv : valueB s (d + 1) ⟨p, 0⟩ = listB s (valueB s d) ⟨p, 0⟩ := by
      simp only [valueB, hs]
      rw [if_neg (by decide), if_pos (by decide)]
    have hl : listB s (valueB s d) ⟨p, 0⟩ = (listV (listLoop s (valueB s d) (f + 1) [] ⟨p + 1, 0⟩).1, (listLoop s (valueB s d) (f + 1) [] ⟨p + 1, 0⟩).2) := by
      simp only [listB, St.step, hs1, ← hf]
      rfl
    rw [hv, hl]
    refine ⟨fun hd => ?_, fun hd => ?_⟩
    · have hi := ih.1 (by omega)
      have h2 : rest s (p + 1 + (nest false (n + 1)).length) = 93 :: r := by
        unfold rest at h1 ⊢
        rw [← List.drop_drop, h1, List.drop_left]
      have hs2 := see_rest 0 h2 (by decide)
      have hloop : listLoop s (valueB s d) (f + 1) [] ⟨p + 1, 0⟩ = ([nestV false (n + 1)], ⟨p + 1 + (nest false (n + 1)).length + 1, 0⟩) := by
        simp only [listLoop, hi, hs2]
        rfl
      rw [hloop]
      simp [nest, nestV]; omega
    · have hi := ih.2 (by omega)
      have hloop : (listLoop s (valueB s d) (f + 1) [] ⟨p + 1, 0⟩).2 = (valueB s d ⟨p + 1, 0⟩).2 := by
        simp only [listLoop]
        rw [if_neg (by decide), if_pos (by rw [hi]; decide)]
      rw [hloop]; exact hi

theorem dec_rest {s : ByteArray} {p : Nat} {c : UInt8} {r : List UInt8} (h : rest s p = c :: r) (hc : c.toNat < 128) : dec s p = (c.toNat, 1) := by
  have hl := rest_lt h
  have hb := rest_byte h
  unfold dec Lib.decodeGo
  have e : (s.extract p s.size).data.toList = c :: r := by
    rw [extract_data, List.take_of_length_le (by simp)]
    exact h
  generalize s.extract p s.size = t at *
  obtain ⟨⟨l⟩⟩ := t
  simp only at e
  subst e
  rw [if_neg (by simp [ByteArray.size])]
  exact decode_ascii (⟨⟨c :: r⟩⟩ : ByteArray) 0 (by simp [ByteArray.size]) (show c.toNat < 128 from hc)
theorem sign_rest {s : ByteArray} {p : Nat} {c : UInt8} {r : List UInt8} (h : rest s p = c :: r) (hc : c.toNat < 128) (h32 : 32 ≤ c.toNat) : signB s ⟨p, 0⟩ = (c.toNat, ⟨p + 1, 0⟩) := by
  have hl := rest_lt h
  unfold signB
  rw [dec_rest h hc]
  simp only
  rw [if_neg (by omega), if_neg (by omega)]
theorem text_a {s : ByteArray} {p : Nat} {r : List UInt8} (h : rest s p = 34 :: 97 :: 34 :: r) : textB s ⟨p, 0⟩ = ([97], ⟨p + 3, 0⟩) := by
  have h1 := rest_next h
  have h2 := rest_next h1
  have hl0 := rest_lt h; have hl1 := rest_lt h1; have hl2 := rest_lt h2
  have s1 := sign_rest h1 (by decide) (by decide)
  have s2 := sign_rest h2 (by decide) (by decide)
  have ht : St.twants s ⟨p, 0⟩ 34 = ⟨p + 1, 0⟩ := by
    have hn : St.next s ⟨p, 0⟩ = (34, ⟨p + 1, 0⟩) := by
      unfold St.next
      rw [if_neg (by simp)]
      simp only
      rw [if_neg (by omega), rest_byte h]
      rfl
    unfold St.twants
    rw [hn]
    rfl
  obtain ⟨f, hf⟩ : ∃ f, s.size + 1 - p = f + 1 + 1 := ⟨s.size - 1 - p, by omega⟩
  have hu : unquoteB s p = ([97], p + 3, 0) := by
    unfold unquoteB
    rw [ht, hf]
    simp only [unqLoop, s1, s2]
    rfl
  unfold textB
  simp only [hu]
  rfl
theorem nest_obj (s : ByteArray) : ∀ (n d p : Nat) (r : List UInt8), rest s p = nest true (n + 1) ++ r →
    (n + 1 ≤ d → valueB s d ⟨p, 0⟩ = (nestV true (n + 1), ⟨p + (nest true (n + 1)).length, 0⟩)) ∧ (d < n + 1 → (valueB s d ⟨p, 0⟩).2.e = 10)
  | n, 0, p, r, h => by
    refine ⟨fun h => by omega, fun _ => ?_⟩
    obtain ⟨t, ht⟩ := nest_head true n
    rw [ht] at h
    have hs := see_rest 0 h (by decide)
    simp only [valueB, hs]
    rfl
  | 0, d + 1, p, r, h => by
    refine ⟨fun _ => ?_, fun h => by omega⟩
    have hs := see_rest 0 h (by decide)
    have h1 := rest_next h
    have hs1 := see_rest 0 h1 (by decide)
    simp only [valueB, hs]
    rw [if_neg (by decide), if_neg (by decide), if_pos (by decide)]
    simp only [objectB, St.step, hs1]
    rfl
  | n + 1, d + 1, p, r, h => by
    have h0 : rest s p = 123 :: 34 :: 97 :: 34 :: 58 :: (nest true (n + 1) ++ (125 :: r)) := by rw [h]; simp [nest]
    have hs := see_rest 0 h0 (by decide)
    have h1 := rest_next h0
    have hs1 := see_rest 0 h1 (by decide)
    have h4 := rest_next (rest_next (rest_next h1))
    have hs4 := see_rest 0 h4 (by decide)
    have h5 := rest_next h4
    have htx := text_a h1
    have ih := nest_obj s n d (p + 5) (125 :: r) h5
    have hlt := rest_lt h1
    obtain ⟨f, hf⟩ : ∃ f, s.size + 1 - (p + 1) = f + 1 := ⟨s.size - (p + 1), by omega⟩
    have hv : valueB s (d + 1) ⟨p, 0⟩ = objectB s (valueB s d) ⟨p, 0⟩ := by
      simp only [valueB, hs]
      rw [if_neg (by decide), if_neg (by decide), if_pos (by decide)]
    have hl : objectB s (valueB s d) ⟨p, 0⟩ = (objV (sortNames (objLoop s (valueB s d) (f + 1) [] ⟨p + 1, 0⟩).1), (objLoop s (valueB s d) (f + 1) [] ⟨p + 1, 0⟩).2) := by
      simp only [objectB, St.step, hs1, ← hf]
      rfl
    have hw : St.wants s ⟨p + 1 + 3, 0⟩ 58 = ⟨p + 5, 0⟩ := by
      unfold St.wants
      simp only [hs4]
      rfl
    have hm : memberB s (valueB s d) [] ⟨p + 1, 0⟩ = ((⟨#[97]⟩, (valueB s d ⟨p + 5, 0⟩).1), (valueB s d ⟨p + 5, 0⟩).2) := by
      simp [memberB, hs1, htx, hw]
    rw [hv, hl]
    refine ⟨fun hd => ?_, fun hd => ?_⟩
    · have hi := ih.1 (by omega)
      have h6 : rest s (p + 5 + (nest true (n + 1)).length) = 125 :: r := by
        have h5' : rest s (p + 5) = _ := h5
        unfold rest at h5' ⊢
        rw [← List.drop_drop, h5', List.drop_left]
      have hs2 := see_rest 0 h6 (by decide)
      have hloop : objLoop s (valueB s d) (f + 1) [] ⟨p + 1, 0⟩ = ([(⟨#[97]⟩, nestV true (n + 1))], ⟨p + 5 + (nest true (n + 1)).length + 1, 0⟩) := by
        simp only [objLoop, hm, hi, hs2]
        rfl
      rw [hloop]
      simp [nest, nestV, sortNames, insName]; omega
    · have hi := ih.2 (by omega)
      have hloop : (objLoop s (valueB s d) (f + 1) [] ⟨p + 1, 0⟩).2 = (valueB s d ⟨p + 5, 0⟩).2 := by
        simp only [objLoop, hm]
        rw [if_neg (by decide), if_pos (by rw [hi]; decide)]
      rw [hloop]; exact hi
theorem nest_len (o : Bool) : ∀ n, (nest o n).length ≤ 6 * n
  | 0 => Nat.zero_le _
  | 1 => by cases o <;> decide
  | n + 2 => by
    have := nest_len o (n + 1)
    cases o <;> simp [nest] <;> omega
theorem nest_any (o : Bool) (s : ByteArray) (n d p : Nat) (r : List UInt8) (h : rest s p = nest o (n + 1) ++ r) :
    (n + 1 ≤ d → valueB s d ⟨p, 0⟩ = (nestV o (n + 1), ⟨p + (nest o (n + 1)).length, 0⟩)) ∧ (d < n + 1 → (valueB s d ⟨p, 0⟩).2.e = 10) := by
  cases o
  · exact nest_list s n d p r h
  · exact nest_obj s n d p r h
theorem nest_parse (o : Bool) (n : Nat) (h2 : n + 1 ≤ 200) : (n + 1 ≤ 64 → parseB ⟨(nest o (n + 1)).toArray⟩ = (nestV o (n + 1), 0)) ∧ (64 < n + 1 → (parseB ⟨(nest o (n + 1)).toArray⟩).2 = 10) := by
  have hr : rest ⟨(nest o (n + 1)).toArray⟩ 0 = nest o (n + 1) ++ [] := by simp [rest]
  have hn := nest_any o _ n 64 0 [] hr
  have hl := nest_len o (n + 1)
  have hz : (⟨(nest o (n + 1)).toArray⟩ : ByteArray).size = (nest o (n + 1)).length := by simp [ByteArray.size]
  refine ⟨fun h => ?_, fun h => ?_⟩
  · have hv := hn.1 h
    have hre : rest ⟨(nest o (n + 1)).toArray⟩ (0 + (nest o (n + 1)).length) = [] := by simp [rest]
    have hbl := see_end hre
    have he : endB ⟨(nest o (n + 1)).toArray⟩ ⟨0 + (nest o (n + 1)).length, 0⟩ = ⟨0 + (nest o (n + 1)).length, 0⟩ := by
      unfold endB
      rw [hbl, if_neg (by rw [hz]; simp)]
    unfold parseB
    rw [if_neg (by omega), hv]
    simp only
    rw [he, if_neg (by simp)]
  · have hv := hn.2 h
    have he : ∀ y : St, y.e = 10 → (endB ⟨(nest o (n + 1)).toArray⟩ y).e = 10 := fun y hy => by
      have hb : (y.blanks ⟨(nest o (n + 1)).toArray⟩).e = 10 := hy
      unfold endB
      rw [if_neg (by rw [hb]; simp)]
      exact hb
    unfold parseB
    rw [if_neg (by omega), if_pos (by rw [he _ hv]; decide)]
    exact he _ hv
theorem nest_may (o : Bool) : ∀ (n d : Nat), n + 1 ≤ d → mayJ d (nestV o (n + 1)) = true
  | _, 0, h => by omega
  | 0, d + 1, _ => by
    cases o
    · show mayJ (d + 1) (.mk 6 0 ⟨#[]⟩ [] []) = true
      rw [may_list]; rfl
    · show mayJ (d + 1) (.mk 7 0 ⟨#[]⟩ [] []) = true
      rw [may_obj rfl]; rfl
  | n + 1, d + 1, h => by
    have ih := nest_may o n d (by omega)
    cases o
    · show mayJ (d + 1) (.mk 6 0 ⟨#[]⟩ [nestV false (n + 1)] []) = true
      rw [may_list]; simp [ih]
    · show mayJ (d + 1) (.mk 7 0 ⟨#[]⟩ [] [(⟨#[97]⟩, nestV true (n + 1))]) = true
      rw [may_obj rfl]; simp [ih]
end Go.Proofs.YtjjgbgojlhaapaaGreatDoor
