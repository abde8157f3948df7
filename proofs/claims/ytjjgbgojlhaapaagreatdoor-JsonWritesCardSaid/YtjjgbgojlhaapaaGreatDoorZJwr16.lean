/- Parts of the proof: Ps, Nd, Nu, Tx, Rp. -/
import Derived.Test.YtjjgbgojlhaapaaGreatDoorZJwr15
import Derived.Lib.SlBytesRow
import Derived.Lib.BufferRead
import Derived.Laws.Rows
import Derived.Lib.MapLaws
namespace Go.Proofs.YtjjgbgojlhaapaaGreatDoor
open Go.RowKit Go.Lib

theorem run_convert_empty {P : Program} (w : World) (src dst e : TypeId) (A : Option Addr) (c : Nat) (hs : P.underlying src = some (.slice e)) (he : P.underlying e = some (.int .u8)) (hd : P.underlying dst = some .string) :
    (convert src dst (.slice A 0 c)).run P w = .ok (.string ⟨#[]⟩) w := by
  rw [run_convert_bytes_string w src dst e A 0 c hs he hd]
  cases A with
  | none => simp [Conv.bytesToString]; rfl
  | some a => simp [Conv.bytesToString, loadCells]; rfl
/-- a slice of bytes reads as these bytes -/
def BSl (w : World) (F : Nat → Prop) (v : Value) (s : ByteArray) : Prop := (∃ b o c, v = .slice (some ⟨b, o, none⟩) s.size c ∧ F b ∧ Lib.Bytes w b o s) ∨ (s.size = 0 ∧ ∃ A c, v = .slice A 0 c)
theorem BSl.frame {w w' : World} {F : Nat → Prop} {v : Value} {s : ByteArray} (h : ∀ k, F k → w'.heap[k]? = w.heap[k]?) (hb : BSl w F v s) : BSl w' F v s := by
  rcases hb with ⟨b, o, c, rfl, hF, hc⟩ | hb
  · exact .inl ⟨b, o, c, rfl, hF, fun i hi => (World.cell?_of_block (w := w) (a := ⟨b, o + i, none⟩) (h b hF)).trans (hc i hi)⟩
  · exact .inr hb
theorem BSl.form {w : World} {F : Nat → Prop} {v : Value} {s : ByteArray} (hb : BSl w F v s) : ∃ A c, v = .slice A s.size c := by
  rcases hb with ⟨b, o, c, rfl, hF, hc⟩ | ⟨h0, A, c, rfl⟩
  · exact ⟨_, _, rfl⟩
  · exact ⟨_, _, by rw [h0]⟩
theorem BSl.conv {w : World} {F : Nat → Prop} {v : Value} {s : ByteArray} (hb : BSl w F v s) : (convert 22 9 v).run Tryz.prog w = .ok (.string s) w := by
  rcases hb with ⟨b, o, c, rfl, hF, hc⟩ | ⟨h0, A, c, rfl⟩
  · exact Lib.run_convert_whole w _ 5 _ Tryz.underlying22 Tryz.underlying5 Tryz.underlying9 b o s hc c
  · have : s = ⟨#[]⟩ := by
      apply ByteArray.ext
      apply Array.eq_empty_of_size_eq_zero
      exact h0
    subst this
    exact run_convert_empty w 22 9 5 A c Tryz.underlying22 Tryz.underlying5 Tryz.underlying9
def endB (s : ByteArray) (y : St) : St := if (y.blanks s).e = 0 ∧ (y.blanks s).p < s.size then (y.blanks s).fail 4 else y.blanks s
def parseB (s : ByteArray) : JV × Int :=
  if 20000 < s.size then (zeroV, 3)
  else if (endB s (valueB s 64 ⟨0, 0⟩).2).e ≠ 0 then (zeroV, (endB s (valueB s 64 ⟨0, 0⟩).2).e)
  else ((valueB s 64 ⟨0, 0⟩).1, 0)
theorem results_row_tmp {P : Program} {fn : Func} {p u : Tmp} {ty : TypeId} (h : fn.results = #[.cell p ty, .tmp u]) (tmps : Array Value) (w : World) (g : Nat) (t : TypeId) (cs : Array Value) (fr : Nat × Nat) (d : TypeDesc)
    (hp : tmps.getD p undef = .pointer (some ⟨g, 0, none⟩)) (hg : w.heap[g]? = some (.cells cs t fr))
    (hu : P.underlying ty = some d) (hd : (match d with | .struct _ | .array _ _ => true | _ => false) = true) (hi : (P.info? ty).map (·.size) = some cs.size) :
    (results fn tmps).run P w = .ok (.tuple #[.agg cs, tmps.getD u undef]) w := by
  have hp' : tmps[p]?.getD undef = .pointer (some ⟨g, 0, none⟩) := by simpa using hp
  simp [results, h, hp', asAddr, run_loadVar_row w g t ty cs fr d hg hu hd hi]
theorem bel_set5 {n B : Nat} {w w1 : World} (h : Below n w w1) (hB : n ≤ B) (v0 v1 v2 v3 v4 : Value) : Below n w (((((w1.setCell ⟨B, 0, none⟩ v0).setCell ⟨B, 1, none⟩ v1).setCell ⟨B, 2, none⟩ v2).setCell ⟨B, 3, none⟩ v3).setCell ⟨B, 4, none⟩ v4) :=
  ((((h.setCell (p := ⟨B, 0, none⟩) hB v0).setCell (p := ⟨B, 1, none⟩) hB v1).setCell (p := ⟨B, 2, none⟩) hB v2).setCell (p := ⟨B, 3, none⟩) hB v3).setCell (p := ⟨B, 4, none⟩) hB v4
theorem drew_heap (X : World) : X.drew.heap = X.heap := rfl
theorem drewN_heap (X : World) (n : Nat) : (X.drewN n).heap = X.heap := rfl
theorem drew_cell (X : World) (a : Addr) : X.drew.cell? a = X.cell? a := World.cell?_of_block (w := X) (by rw [drew_heap])
theorem drewN_cell (X : World) (n : Nat) (a : Addr) : (X.drewN n).cell? a = X.cell? a := World.cell?_of_block (w := X) (by rw [drewN_heap])
theorem set5_drew {w : World} {B : Nat} {T : TypeId} {fz : Nat × Nat} {a0 a1 a2 a3 a4 : Value} (v0 v1 v2 v3 v4 : Value) (h : w.heap[B]? = some (.cells #[a0, a1, a2, a3, a4] T fz)) : ((((((w.setCell ⟨B, 0, none⟩ v0).setCell ⟨B, 1, none⟩ v1).setCell ⟨B, 2, none⟩ v2).setCell ⟨B, 3, none⟩ v3).setCell ⟨B, 4, none⟩ v4).drew).heap[B]? = some (.cells #[v0, v1, v2, v3, v4] T fz) := by
  rw [drew_heap]
  exact set5 v0 v1 v2 v3 v4 h
theorem set5_drewN (n : Nat) {w : World} {B : Nat} {T : TypeId} {fz : Nat × Nat} {a0 a1 a2 a3 a4 : Value} (v0 v1 v2 v3 v4 : Value) (h : w.heap[B]? = some (.cells #[a0, a1, a2, a3, a4] T fz)) : ((((((w.setCell ⟨B, 0, none⟩ v0).setCell ⟨B, 1, none⟩ v1).setCell ⟨B, 2, none⟩ v2).setCell ⟨B, 3, none⟩ v3).setCell ⟨B, 4, none⟩ v4).drewN n).heap[B]? = some (.cells #[v0, v1, v2, v3, v4] T fz) := by
  rw [drewN_heap]
  exact set5 v0 v1 v2 v3 v4 h
theorem keep5_drew {w : World} {B : Nat} {a : Addr} (v0 v1 v2 v3 v4 : Value) (h : a.block ≠ B) : ((((((w.setCell ⟨B, 0, none⟩ v0).setCell ⟨B, 1, none⟩ v1).setCell ⟨B, 2, none⟩ v2).setCell ⟨B, 3, none⟩ v3).setCell ⟨B, 4, none⟩ v4).drew).cell? a = w.cell? a := by
  rw [drew_cell]
  exact World.cell?_of_block (w := w) (set5_other v0 v1 v2 v3 v4 h)
theorem keep5_drewN (n : Nat) {w : World} {B : Nat} {a : Addr} (v0 v1 v2 v3 v4 : Value) (h : a.block ≠ B) : ((((((w.setCell ⟨B, 0, none⟩ v0).setCell ⟨B, 1, none⟩ v1).setCell ⟨B, 2, none⟩ v2).setCell ⟨B, 3, none⟩ v3).setCell ⟨B, 4, none⟩ v4).drewN n).cell? a = w.cell? a := by
  rw [drewN_cell]
  exact World.cell?_of_block (w := w) (set5_other v0 v1 v2 v3 v4 h)
def PRes (s : ByteArray) (w : World) (z : Ending) (w' : World) : Prop := ∃ (A1 : Option Addr) (n1 c1 : Nat) (A2 : Option Addr) (n2 c2 : Nat),
  z = .returned (.tuple #[.agg #[.int .i64 (parseB s).1.k, .int .i64 (parseB s).1.n, .string (parseB s).1.s, .slice A1 n1 c1, .slice A2 n2 c2], .int .i64 (parseB s).2]) ∧
  JR w' (fun b => w.heap.size ≤ b) (parseB s).1 [.int .i64 (parseB s).1.k, .int .i64 (parseB s).1.n, .string (parseB s).1.s, .slice A1 n1 c1, .slice A2 n2 c2] ∧ Below w.heap.size w w'
theorem reader_alloc (w : World) (s : ByteArray) : RdAt 69 w.heap.size s 0 0 (w.alloc (.cells #[.string s, .int .i64 0, .int .i64 0] 69)) := heap_alloc_new w _
set_option maxRecDepth 100000 in
set_option maxHeartbeats 8000000 in
theorem parse_any (s : ByteArray) (v : Value) (F : Nat → Prop) (w : World) (hT : Tabs w) (hb : BSl w F v s) :
    Calls Tryz.prog 8 #[v] w (PRes s w) := by
  have hbB : ∀ w', Below w.heap.size w w' → BSl w' (fun b => True) v s := fun w' hw => by
    rcases hb with ⟨b, o, c, rfl, hF, hc⟩ | hb
    · exact .inl ⟨b, o, c, rfl, trivial, fun i hi => by
        have hlt : b < w.heap.size := World.block_lt_of_cell? w _ (hc i hi)
        exact (World.cell?_of_block (w := w) (a := ⟨b, o + i, none⟩) (hw.block b hlt)).trans (hc i hi)⟩
    · exact .inr hb
  have hA : Below w.heap.size w (w.alloc (.cells #[.int .i64 0, .int .i64 0, .string ⟨#[]⟩, .slice none 0 0, .slice none 0 0] 28)) := bel_alloc (Below.refl _ _) _
  have hcv := (hbB _ hA).conv
  obtain ⟨A, c, rfl⟩ := hb.form
  have hb0 := heap_alloc_new w (.cells #[.int .i64 0, .int .i64 0, .string ⟨#[]⟩, .slice none 0 0, .slice none 0 0] 28)
  have HB0 := Lib.hid hb0; have HA := Lib.hid hA; have HT := Lib.hid hT
  have hE : parseB s = (if 20000 < s.size then (zeroV, 3) else if (endB s (valueB s 64 ⟨0, 0⟩).2).e ≠ 0 then (zeroV, (endB s (valueB s 64 ⟨0, 0⟩).2).e) else ((valueB s 64 ⟨0, 0⟩).1, 0)) := rfl
  unfold PRes
  clear hb hbB hA hb0 hT
  generalize parseB s = res at *
  by_cases hlen : 20000 < s.size
  case pos =>
    rw [if_pos hlen] at hE
    subst hE
    have hd : decide ((20000 : Int) < (s.size : Int)) = true := by simp; omega
    clear hcv
    go_enter Tryz.func8, Tryz.ntmps8
    go_upto_region 2 with (fail)
    generalize w.alloc (.cells #[.int .i64 0, .int .i64 0, .string ⟨#[]⟩, .slice none 0 0, .slice none 0 0] 28) = W1 at *
    obtain ⟨⟨b0, b1, b2, b3, b4⟩, ⟨g0, g1, g2, g3, g4⟩, hBw⟩ := cells5 HB0.out
    have hf := set5 (.int .i64 0) (.int .i64 0) (.string ⟨#[]⟩) (.slice none 0 0) (.slice none 0 0) HB0.out
    have hbl : Below w.heap.size w (((((W1.setCell ⟨w.heap.size, 0, none⟩ (.int .i64 0)).setCell ⟨w.heap.size, 1, none⟩ (.int .i64 0)).setCell ⟨w.heap.size, 2, none⟩ (.string ⟨#[]⟩)).setCell ⟨w.heap.size, 3, none⟩ (.slice none 0 0)).setCell ⟨w.heap.size, 4, none⟩ (.slice none 0 0)) := bel_set5 HA.out (Nat.le_refl _) (.int .i64 0) (.int .i64 0) (.string ⟨#[]⟩) (.slice none 0 0) (.slice none 0 0)
    have hjj : JR (((((W1.setCell ⟨w.heap.size, 0, none⟩ (.int .i64 0)).setCell ⟨w.heap.size, 1, none⟩ (.int .i64 0)).setCell ⟨w.heap.size, 2, none⟩ (.string ⟨#[]⟩)).setCell ⟨w.heap.size, 3, none⟩ (.slice none 0 0)).setCell ⟨w.heap.size, 4, none⟩ (.slice none 0 0)) (fun b => w.heap.size ≤ b) zeroV [.int .i64 0, .int .i64 0, .string ⟨#[]⟩, .slice none 0 0, .slice none 0 0] := zero_jr _ _
    have HF5 := Lib.hid hf; have HR5 := Lib.hid hbl; have HJJ := Lib.hid hjj
    clear hf hbl hjj
    go_wp2_with fail
    exact bodyPost_ret (results_row_tmp rfl _ _ w.heap.size 28 #[.int .i64 0, .int .i64 0, .string ⟨#[]⟩, .slice none 0 0, .slice none 0 0] (0, 0) _ rfl HF5.out Tryz.underlying28 rfl (by kernel_rfl)) rfl ⟨none, 0, 0, none, 0, 0, rfl, HJJ.out, HR5.out⟩
  case neg =>
    rw [if_neg hlen] at hE
    have hd : decide ((20000 : Int) < (s.size : Int)) = false := by simp; omega
    have hrd := reader_alloc (w.alloc (.cells #[.int .i64 0, .int .i64 0, .string ⟨#[]⟩, .slice none 0 0, .slice none 0 0] 28)) s
    have hA2 := bel_alloc HA.out (.cells #[.string s, .int .i64 0, .int .i64 0] 69)
    have hb2 := heap_alloc2_old w (.cells #[.int .i64 0, .int .i64 0, .string ⟨#[]⟩, .slice none 0 0, .slice none 0 0] 28) (.cells #[.string s, .int .i64 0, .int .i64 0] 69)
    have hs2 : (w.alloc (.cells #[.int .i64 0, .int .i64 0, .string ⟨#[]⟩, .slice none 0 0, .slice none 0 0] 28)).heap.size = w.heap.size + 1 := by show (w.heap.push _).size = _; simp
    rw [hs2] at hrd
    have HRD := Lib.hid hrd; have HA2 := Lib.hid hA2; have HB2 := Lib.hid hb2
    have hva := fun w2 h1 h2 => value_at s (by omega) 64 (by decide) w (w.heap.size + 1) ⟨0, 0⟩ w2 HT.out h1 (by omega) rfl (Nat.zero_le _) h2
    have HVA := Lib.hid hva; have HE := Lib.hid hE
    clear hrd hA2 hb2 hva hE
    generalize valueB s 64 ⟨0, 0⟩ = r at *
    obtain ⟨v0, y⟩ := r
    simp only at HE
    go_enter Tryz.func8, Tryz.ntmps8
    go_upto_region 4 with (fail)
    generalize (w.alloc (.cells #[.int .i64 0, .int .i64 0, .string ⟨#[]⟩, .slice none 0 0, .slice none 0 0] 28)).alloc (.cells #[.string s, .int .i64 0, .int .i64 0] 69) = w2 at *
    clear hcv hs2
    have hRw2 : w.heap.size + 1 < w2.heap.size := HRD.out.cells.2.2.2.2.2.2
    go_wp2_with fail
    refine Calls.mono (HVA.out w2 HA2.out HRD.out) ?_
    rintro e w3 ⟨v, A1, n1, c1, A2, n2, c2, rfl, hjr, heq, hp3⟩
    try simp only at hp3
    have hb3 := hp3.keep (B := w.heap.size) HB2.out (by omega)
    have hsz3 := hp3.2.size
    have hA4 : Below w3.heap.size w3 (w3.alloc (.cells #[.int .i64 v.k, .int .i64 v.n, .string v.s, .slice A1 n1 c1, .slice A2 n2 c2] 28)) := bel_alloc (Below.refl _ _) _
    have hc4 := heap_alloc_new w3 (.cells #[.int .i64 v.k, .int .i64 v.n, .string v.s, .slice A1 n1 c1, .slice A2 n2 c2] 28)
    have hw3B : w.heap.size < w3.heap.size := (Array.getElem?_eq_some_iff.1 hb3).1
    have hp4 := RdPost.below hp3 hA4
    have hs34 := hA4.size
    have hb4 := (hA4.block w.heap.size hw3B).trans hb3
    have hj4 := JR_mono (F' := fun b => w2.heap.size ≤ b ∧ b < w3.heap.size) (fun b hb => hb) _ _ (JR_frame (w' := w3.alloc (.cells #[.int .i64 v.k, .int .i64 v.n, .string v.s, .slice A1 n1 c1, .slice A2 n2 c2] 28)) (fun b hb => hA4.block b hb.2) _ _ (JR_bound _ _ hjr))
    have HB4 := Lib.hid hb4; have HC4 := Lib.hid hc4; have HP4 := Lib.hid hp4; have HJ4 := Lib.hid hj4; have HEQ := Lib.hid heq
    clear hb3 hA4 hc4 hp4 hb4 hj4 heq hjr hp3 HVA HB2
    go_upto_region 5 with (fail)
    generalize w3.alloc (.cells #[.int .i64 v.k, .int .i64 v.n, .string v.s, .slice A1 n1 c1, .slice A2 n2 c2] 28) = w4 at *
    have hbl := blanks_any (w.heap.size + 1) s y w4 (by omega) HP4.out.1
    have hbe : (y.blanks s).e = y.e := rfl
    have hEE := HE.out
    unfold endB at hEE
    have HBL := Lib.hid hbl; have HE2 := Lib.hid hEE; have HBE := Lib.hid hbe
    clear hbl hEE HE hbe
    generalize y.blanks s = y5 at *
    go_wp2_with fail
    refine Calls.mono HBL.out ?_
    rintro e w5 ⟨rfl, hp5⟩
    have hb5 := hp5.keep (B := w.heap.size) HB4.out (by omega)
    have hc5 := hp5.keep (B := w3.heap.size) HC4.out (by omega)
    have hpp5 := HP4.out.trans hp5
    have hsz4 := HP4.out.2.size
    obtain ⟨l0, l1, l2, _, f1, _, hRw⟩ := hpp5.1.cells
    have hbw5 := HA2.out.grown hpp5.2 HA2.out.size (fun j hj => by have := Option.some.inj hj; omega)
    have HG5 := Lib.hid hp5.2
    have HB5 := Lib.hid hb5; have HC5 := Lib.hid hc5; have HP5 := Lib.hid hpp5; have HBW := Lib.hid hbw5
    clear hp5 hb5 hc5 hpp5 hbw5 HB4 HC4 HP4
    by_cases he : y5.e = 0
    case pos =>
      have d0 : (y5.e == 0) = true := by simpa using he
      by_cases hlt : y5.p < s.size
      case pos =>
        have hltz : (y5.p : Int) < (s.size : Int) := by omega
        have hd2 : decide ((y5.p : Int) < (s.size : Int)) = true := by simpa using hltz
        have hfe := HE2.out
        rw [show (if y5.e = 0 ∧ y5.p < s.size then y5.fail 4 else y5) = y5.fail 4 from if_pos ⟨he, hlt⟩] at hfe
        have hze : (y5.fail 4).e = 4 := by unfold St.fail; rw [if_pos he]
        rw [if_pos (by rw [hze]; decide), hze] at hfe
        subst hfe
        have hfl := fun n => fail_any (w.heap.size + 1) s y5 4 (w5.drewN n) (HP5.out.1.drewN n)
        have HFL := Lib.hid hfl; have HZE := Lib.hid hze
        clear hfl HE2 hze
        go_wp2_with fail
        go_quiet (fail)
        go_wp2_with fail
        refine Calls.mono (HFL.out _) ?_
        rintro e w6 ⟨rfl, hp6⟩
        have hb6 := hp6.keep (B := w.heap.size) HB5.out (by omega)
        have hp6' := (HP5.out.drewN _).trans hp6
        rw [HZE.out] at hp6'
        obtain ⟨l0, l1, l2, _, f1, _, hRw⟩ := hp6'.1.cells
        have hbw6 := HA2.out.grown hp6'.2 HA2.out.size (fun j hj => by have := Option.some.inj hj; omega)
        have HB6 := Lib.hid hb6; have HBW6 := Lib.hid hbw6
        clear hp6 hb6 hp6' hbw6
        go_upto_region 9 with (fail)
        obtain ⟨⟨b0, b1, b2, b3, b4⟩, ⟨g0, g1, g2, g3, g4⟩, hBw⟩ := cells5 HB6.out
        have hf := set5_drew (.int .i64 0) (.int .i64 0) (.string ⟨#[]⟩) (.slice none 0 0) (.slice none 0 0) HB6.out
        have hbl : Below w.heap.size w ((((((w6.setCell ⟨w.heap.size, 0, none⟩ (.int .i64 0)).setCell ⟨w.heap.size, 1, none⟩ (.int .i64 0)).setCell ⟨w.heap.size, 2, none⟩ (.string ⟨#[]⟩)).setCell ⟨w.heap.size, 3, none⟩ (.slice none 0 0)).setCell ⟨w.heap.size, 4, none⟩ (.slice none 0 0)).drew) := bel_drew (bel_set5 HBW6.out (Nat.le_refl _) (.int .i64 0) (.int .i64 0) (.string ⟨#[]⟩) (.slice none 0 0) (.slice none 0 0))
        have hjj : JR ((((((w6.setCell ⟨w.heap.size, 0, none⟩ (.int .i64 0)).setCell ⟨w.heap.size, 1, none⟩ (.int .i64 0)).setCell ⟨w.heap.size, 2, none⟩ (.string ⟨#[]⟩)).setCell ⟨w.heap.size, 3, none⟩ (.slice none 0 0)).setCell ⟨w.heap.size, 4, none⟩ (.slice none 0 0)).drew) (fun b => w.heap.size ≤ b) zeroV [.int .i64 0, .int .i64 0, .string ⟨#[]⟩, .slice none 0 0, .slice none 0 0] := zero_jr _ _
        have HF5 := Lib.hid hf; have HR5 := Lib.hid hbl; have HJJ := Lib.hid hjj
        clear hf hbl hjj
        refine PrintLast.wp_region_last_drew (S := fun w' => w'.cell? ⟨w.heap.size + 1, 2, none⟩ = some (.int .i64 4)) (ds := []) (by kernel_rfl) ?_ (fun hHeld => ?_)
        · exact l2
        refine PrintLast.wpAnyLast_take (i := 0) (v := ?_) rfl (by kernel_rfl) (by kernel_rfl) (by kernel_rfl) (by kernel_rfl) (by kernel_rfl) (fun _ _ _ h => h) (Or.inl ⟨by kernel_rfl, ?_⟩) (by assumption) ?_
        rotate_left
        · (intro w hSw; (try dsimp only at hSw); go_simp; try (with_reducible rfl))
        try simp only [List.getElem_toArray, List.getElem_cons_zero, Act.put, List.setIfInBounds_toArray, List.set_cons_zero, List.set_cons_succ]
        refine PrintLast.wpAnyLast_take (i := 1) (v := ?_) rfl (by kernel_rfl) (by kernel_rfl) (by kernel_rfl) (by kernel_rfl) (by kernel_rfl) (fun _ _ _ h => h) (Or.inl ⟨by kernel_rfl, ?_⟩) (by assumption) ?_
        rotate_left
        · (intro w hSw; (try dsimp only at hSw); go_simp; try (with_reducible rfl))
        try simp only [List.getElem_toArray, List.getElem_cons_zero, List.getElem_cons_succ, Act.put, List.setIfInBounds_toArray, List.set_cons_zero, List.set_cons_succ]
        refine PrintLast.wpAnyLast_take (i := 2) (v := ?_) rfl (by kernel_rfl) (by kernel_rfl) (by kernel_rfl) (by kernel_rfl) (by kernel_rfl) (fun _ _ _ h => h) (Or.inl ⟨by kernel_rfl, ?_⟩) (by assumption) ?_
        rotate_left
        · (intro w hSw; (try dsimp only at hSw); go_simp; try (with_reducible rfl))
        try simp only [List.getElem_toArray, List.getElem_cons_zero, List.getElem_cons_succ, Act.put, List.setIfInBounds_toArray, List.set_cons_zero, List.set_cons_succ]
        refine PrintLast.wpAnyLast_take (i := 3) (v := ?_) rfl (by kernel_rfl) (by kernel_rfl) (by kernel_rfl) (by kernel_rfl) (by kernel_rfl) (fun _ _ _ h => h) (Or.inl ⟨by kernel_rfl, ?_⟩) (by assumption) ?_
        rotate_left
        · (intro w hSw; (try dsimp only at hSw); go_simp; try (with_reducible rfl))
        try simp only [List.getElem_toArray, List.getElem_cons_zero, List.getElem_cons_succ, Act.put, List.setIfInBounds_toArray, List.set_cons_zero, List.set_cons_succ]
        refine PrintLast.wpAnyLast_take (i := 4) (v := ?_) rfl (by kernel_rfl) (by kernel_rfl) (by kernel_rfl) (by kernel_rfl) (by kernel_rfl) (fun _ _ _ h => h) (Or.inl ⟨by kernel_rfl, ?_⟩) (by assumption) ?_
        rotate_left
        · (intro w hSw; (try dsimp only at hSw); go_simp; try (with_reducible rfl))
        try simp only [List.getElem_toArray, List.getElem_cons_zero, List.getElem_cons_succ, Act.put, List.setIfInBounds_toArray, List.set_cons_zero, List.set_cons_succ]
        have HK := Lib.hid hHeld
        clear hHeld
        refine PrintLast.wpAnyLast_ready (rs := [5]) (by kernel_rfl) (by simp) ?_
        refine PrintLast.AllReadyL.cons rfl (by decide) (fun K hK => ?_) PrintLast.AllReadyL.nil
        rw [if_pos (by kernel_rfl)]
        go_simp
        try simp only [List.foldl_cons, List.foldl_nil, List.setIfInBounds_toArray, List.set_cons_zero, List.set_cons_succ, Nat.reduceAdd]
        refine hK.out _ _ ?_ (fun hHeld => ?_)
        · exact (keep5_drew (w := w6) (B := w.heap.size) (a := ⟨w.heap.size + 1, 2, none⟩) (.int .i64 0) (.int .i64 0) (.string ⟨#[]⟩) (.slice none 0 0) (.slice none 0 0) (by show w.heap.size + 1 ≠ w.heap.size; omega)).trans l2
        clear hK K
        try simp only [List.getElem_toArray, List.getElem_cons_zero, List.getElem_cons_succ, Act.put, List.setIfInBounds_toArray, List.set_cons_zero, List.set_cons_succ]
        clear HK
        refine PrintLast.wpAnyLast_take (i := 6) (v := ?_) rfl (by kernel_rfl) (by kernel_rfl) (by kernel_rfl) (by kernel_rfl) (by kernel_rfl) (fun _ _ _ h => h) (Or.inl ⟨by kernel_rfl, ?_⟩) (by assumption) ?_
        rotate_left
        · (intro w hSw; (try dsimp only at hSw); go_simp; try (with_reducible rfl))
        try simp only [List.getElem_toArray, List.getElem_cons_zero, List.getElem_cons_succ, Act.put, List.setIfInBounds_toArray, List.set_cons_zero, List.set_cons_succ]
        refine PrintLast.wpAnyLast_done (by kernel_rfl) ?_ _
        go_wp2_with fail
        exact bodyPost_ret (results_row_tmp rfl _ _ w.heap.size 28 #[.int .i64 0, .int .i64 0, .string ⟨#[]⟩, .slice none 0 0, .slice none 0 0] (0, 0) _ rfl HF5.out Tryz.underlying28 rfl (by kernel_rfl)) rfl ⟨none, 0, 0, none, 0, 0, rfl, HJJ.out, HR5.out⟩
      case neg =>
        have hltz : ¬ (y5.p : Int) < (s.size : Int) := by omega
        have hd2 : decide ((y5.p : Int) < (s.size : Int)) = false := by simpa using hltz
        have hfe := HE2.out
        rw [show (if y5.e = 0 ∧ y5.p < s.size then y5.fail 4 else y5) = y5 from if_neg (fun h => hlt h.2), if_neg (by simpa using he)] at hfe
        have hv := HEQ.out (by rw [← HBE.out]; exact he)
        try simp only at hv
        subst hv
        subst hfe
        clear HE2
        go_wp2_with fail
        go_quiet (fail)
        obtain ⟨⟨v0', v1', v2', v3', v4'⟩, _, hCw⟩ := cells5 HC5.out
        have hfr : ∀ b, (w2.heap.size ≤ b ∧ b < w3.heap.size) → ((((((w5.drewN nq).setCell ⟨w.heap.size, 0, none⟩ (.int .i64 v.k)).setCell ⟨w.heap.size, 1, none⟩ (.int .i64 v.n)).setCell ⟨w.heap.size, 2, none⟩ (.string v.s)).setCell ⟨w.heap.size, 3, none⟩ (.slice A1 n1 c1)).setCell ⟨w.heap.size, 4, none⟩ (.slice A2 n2 c2)).heap[b]? = w4.heap[b]? := fun b hb => (set5_other _ _ _ _ _ (by have := hb.1; omega)).trans (HG5.out.block b (by have := hb.2; omega) (by intro e; have := Option.some.inj e; have := hb.1; omega))
        obtain ⟨⟨b0, b1, b2, b3, b4⟩, ⟨g0, g1, g2, g3, g4⟩, hBw⟩ := cells5 HB5.out
        have hf := set5 (.int .i64 v.k) (.int .i64 v.n) (.string v.s) (.slice A1 n1 c1) (.slice A2 n2 c2) HB5.out
        have hbl : Below w.heap.size w (((((((w5.drewN nq).setCell ⟨w.heap.size, 0, none⟩ (.int .i64 v.k)).setCell ⟨w.heap.size, 1, none⟩ (.int .i64 v.n)).setCell ⟨w.heap.size, 2, none⟩ (.string v.s)).setCell ⟨w.heap.size, 3, none⟩ (.slice A1 n1 c1)).setCell ⟨w.heap.size, 4, none⟩ (.slice A2 n2 c2))) := (bel_set5 (bel_drewN HBW.out _) (Nat.le_refl _) (.int .i64 v.k) (.int .i64 v.n) (.string v.s) (.slice A1 n1 c1) (.slice A2 n2 c2))
        have hjj : JR (((((((w5.drewN nq).setCell ⟨w.heap.size, 0, none⟩ (.int .i64 v.k)).setCell ⟨w.heap.size, 1, none⟩ (.int .i64 v.n)).setCell ⟨w.heap.size, 2, none⟩ (.string v.s)).setCell ⟨w.heap.size, 3, none⟩ (.slice A1 n1 c1)).setCell ⟨w.heap.size, 4, none⟩ (.slice A2 n2 c2))) (fun b => w.heap.size ≤ b) v [.int .i64 v.k, .int .i64 v.n, .string v.s, .slice A1 n1 c1, .slice A2 n2 c2] := JR_mono (F := fun b => w2.heap.size ≤ b ∧ b < w3.heap.size) (fun b hb => by have := hb.1; omega) _ _ (JR_frame (w := w4) (F := fun b => w2.heap.size ≤ b ∧ b < w3.heap.size) hfr _ _ HJ4.out)
        have HF5 := Lib.hid hf; have HR5 := Lib.hid hbl; have HJJ := Lib.hid hjj
        clear hf hbl hjj
        go_wp2_with fail
        exact bodyPost_ret (results_row_tmp rfl _ _ w.heap.size 28 #[.int .i64 v.k, .int .i64 v.n, .string v.s, .slice A1 n1 c1, .slice A2 n2 c2] (0, 0) _ rfl HF5.out Tryz.underlying28 rfl (by kernel_rfl)) rfl ⟨_, _, _, _, _, _, rfl, HJJ.out, HR5.out⟩
    case neg =>
      have d0 : (y5.e == 0) = false := by simpa using he
      have dn : (y5.e != 0) = true := by simpa using he
      have hfe := HE2.out
      rw [show (if y5.e = 0 ∧ y5.p < s.size then y5.fail 4 else y5) = y5 from if_neg (fun h => he h.1), if_pos (by simpa using he)] at hfe
      subst hfe
      clear HE2
      go_wp2_with fail
      go_quiet (fail)
      go_upto_region 9 with (fail)
      obtain ⟨⟨b0, b1, b2, b3, b4⟩, ⟨g0, g1, g2, g3, g4⟩, hBw⟩ := cells5 HB5.out
      have hf := set5_drewN (nq + 1) (.int .i64 0) (.int .i64 0) (.string ⟨#[]⟩) (.slice none 0 0) (.slice none 0 0) HB5.out
      have hbl : Below w.heap.size w ((((((w5.setCell ⟨w.heap.size, 0, none⟩ (.int .i64 0)).setCell ⟨w.heap.size, 1, none⟩ (.int .i64 0)).setCell ⟨w.heap.size, 2, none⟩ (.string ⟨#[]⟩)).setCell ⟨w.heap.size, 3, none⟩ (.slice none 0 0)).setCell ⟨w.heap.size, 4, none⟩ (.slice none 0 0)).drewN (nq + 1)) := bel_drewN (bel_set5 HBW.out (Nat.le_refl _) (.int .i64 0) (.int .i64 0) (.string ⟨#[]⟩) (.slice none 0 0) (.slice none 0 0)) _
      have hjj : JR ((((((w5.setCell ⟨w.heap.size, 0, none⟩ (.int .i64 0)).setCell ⟨w.heap.size, 1, none⟩ (.int .i64 0)).setCell ⟨w.heap.size, 2, none⟩ (.string ⟨#[]⟩)).setCell ⟨w.heap.size, 3, none⟩ (.slice none 0 0)).setCell ⟨w.heap.size, 4, none⟩ (.slice none 0 0)).drewN (nq + 1)) (fun b => w.heap.size ≤ b) zeroV [.int .i64 0, .int .i64 0, .string ⟨#[]⟩, .slice none 0 0, .slice none 0 0] := zero_jr _ _
      have HF5 := Lib.hid hf; have HR5 := Lib.hid hbl; have HJJ := Lib.hid hjj
      clear hf hbl hjj
      refine PrintLast.wp_region_last_drew (S := fun w' => w'.cell? ⟨w.heap.size + 1, 2, none⟩ = some (.int .i64 y5.e)) (ds := []) (by kernel_rfl) ?_ (fun hHeld => ?_)
      · exact l2
      refine PrintLast.wpAnyLast_take (i := 0) (v := ?_) rfl (by kernel_rfl) (by kernel_rfl) (by kernel_rfl) (by kernel_rfl) (by kernel_rfl) (fun _ _ _ h => h) (Or.inl ⟨by kernel_rfl, ?_⟩) (by assumption) ?_
      rotate_left
      · (intro w hSw; (try dsimp only at hSw); go_simp; try (with_reducible rfl))
      try simp only [List.getElem_toArray, List.getElem_cons_zero, Act.put, List.setIfInBounds_toArray, List.set_cons_zero, List.set_cons_succ]
      refine PrintLast.wpAnyLast_take (i := 1) (v := ?_) rfl (by kernel_rfl) (by kernel_rfl) (by kernel_rfl) (by kernel_rfl) (by kernel_rfl) (fun _ _ _ h => h) (Or.inl ⟨by kernel_rfl, ?_⟩) (by assumption) ?_
      rotate_left
      · (intro w hSw; (try dsimp only at hSw); go_simp; try (with_reducible rfl))
      try simp only [List.getElem_toArray, List.getElem_cons_zero, List.getElem_cons_succ, Act.put, List.setIfInBounds_toArray, List.set_cons_zero, List.set_cons_succ]
      refine PrintLast.wpAnyLast_take (i := 2) (v := ?_) rfl (by kernel_rfl) (by kernel_rfl) (by kernel_rfl) (by kernel_rfl) (by kernel_rfl) (fun _ _ _ h => h) (Or.inl ⟨by kernel_rfl, ?_⟩) (by assumption) ?_
      rotate_left
      · (intro w hSw; (try dsimp only at hSw); go_simp; try (with_reducible rfl))
      try simp only [List.getElem_toArray, List.getElem_cons_zero, List.getElem_cons_succ, Act.put, List.setIfInBounds_toArray, List.set_cons_zero, List.set_cons_succ]
      refine PrintLast.wpAnyLast_take (i := 3) (v := ?_) rfl (by kernel_rfl) (by kernel_rfl) (by kernel_rfl) (by kernel_rfl) (by kernel_rfl) (fun _ _ _ h => h) (Or.inl ⟨by kernel_rfl, ?_⟩) (by assumption) ?_
      rotate_left
      · (intro w hSw; (try dsimp only at hSw); go_simp; try (with_reducible rfl))
      try simp only [List.getElem_toArray, List.getElem_cons_zero, List.getElem_cons_succ, Act.put, List.setIfInBounds_toArray, List.set_cons_zero, List.set_cons_succ]
      refine PrintLast.wpAnyLast_take (i := 4) (v := ?_) rfl (by kernel_rfl) (by kernel_rfl) (by kernel_rfl) (by kernel_rfl) (by kernel_rfl) (fun _ _ _ h => h) (Or.inl ⟨by kernel_rfl, ?_⟩) (by assumption) ?_
      rotate_left
      · (intro w hSw; (try dsimp only at hSw); go_simp; try (with_reducible rfl))
      try simp only [List.getElem_toArray, List.getElem_cons_zero, List.getElem_cons_succ, Act.put, List.setIfInBounds_toArray, List.set_cons_zero, List.set_cons_succ]
      have HK := Lib.hid hHeld
      clear hHeld
      refine PrintLast.wpAnyLast_ready (rs := [5]) (by kernel_rfl) (by simp) ?_
      refine PrintLast.AllReadyL.cons rfl (by decide) (fun K hK => ?_) PrintLast.AllReadyL.nil
      rw [if_pos (by kernel_rfl)]
      go_simp
      try simp only [List.foldl_cons, List.foldl_nil, List.setIfInBounds_toArray, List.set_cons_zero, List.set_cons_succ, Nat.reduceAdd]
      refine hK.out _ _ ?_ (fun hHeld => ?_)
      · exact (keep5_drewN (nq + 1) (w := w5) (B := w.heap.size) (a := ⟨w.heap.size + 1, 2, none⟩) (.int .i64 0) (.int .i64 0) (.string ⟨#[]⟩) (.slice none 0 0) (.slice none 0 0) (by show w.heap.size + 1 ≠ w.heap.size; omega)).trans l2
      clear hK K
      try simp only [List.getElem_toArray, List.getElem_cons_zero, List.getElem_cons_succ, Act.put, List.setIfInBounds_toArray, List.set_cons_zero, List.set_cons_succ]
      clear HK
      refine PrintLast.wpAnyLast_take (i := 6) (v := ?_) rfl (by kernel_rfl) (by kernel_rfl) (by kernel_rfl) (by kernel_rfl) (by kernel_rfl) (fun _ _ _ h => h) (Or.inl ⟨by kernel_rfl, ?_⟩) (by assumption) ?_
      rotate_left
      · (intro w hSw; (try dsimp only at hSw); go_simp; try (with_reducible rfl))
      try simp only [List.getElem_toArray, List.getElem_cons_zero, List.getElem_cons_succ, Act.put, List.setIfInBounds_toArray, List.set_cons_zero, List.set_cons_succ]
      refine PrintLast.wpAnyLast_done (by kernel_rfl) ?_ _
      go_wp2_with fail
      exact bodyPost_ret (results_row_tmp rfl _ _ w.heap.size 28 #[.int .i64 0, .int .i64 0, .string ⟨#[]⟩, .slice none 0 0, .slice none 0 0] (0, 0) _ rfl HF5.out Tryz.underlying28 rfl (by kernel_rfl)) rfl ⟨none, 0, 0, none, 0, 0, rfl, HJJ.out, HR5.out⟩
end Go.Proofs.YtjjgbgojlhaapaaGreatDoor
namespace Go.Proofs.YtjjgbgojlhaapaaGreatDoor
open Go.RowKit Go.Lib

/-- what stands behind place p -/
def rest (s : ByteArray) (p : Nat) : List UInt8 := s.data.toList.drop p
theorem rest_lt {s : ByteArray} {p : Nat} {c : UInt8} {r : List UInt8} (h : rest s p = c :: r) : p < s.size := by
  unfold rest at h
  have := congrArg List.length h
  simp at this
  have hz : s.data.size = s.size := rfl
  omega
end Go.Proofs.YtjjgbgojlhaapaaGreatDoor
namespace Go.Proofs.YtjjgbgojlhaapaaGreatDoor
open Go.RowKit Go.Lib

theorem dec_small {u : Nat} (h : u < 10) : decDigits u = [UInt8.ofNat (48 + u)] := by rw [decDigits, dif_pos h]
theorem dec_big {u : Nat} (h : ¬ u < 10) : decDigits u = decDigits (u / 10) ++ [UInt8.ofNat (48 + u % 10)] := by rw [decDigits, dif_neg h]
theorem rest_nil {s : ByteArray} {p : Nat} (h : rest s p = []) : ¬ p < s.size := by
  intro hl
  unfold rest at h
  rw [drop_byte hl] at h
  exact absurd h (by simp)
def signL (neg : Bool) : List UInt8 := if neg then [45] else []
theorem drop_rest {s : ByteArray} {p : Nat} {l r : List UInt8} (h : rest s p = l ++ r) : rest s (p + l.length) = r := by
  unfold rest at h ⊢
  rw [← List.drop_drop, h, List.drop_left]
/-! the whole text -/
theorem dec_length : ∀ (k u : Nat), u < 10 ^ (k + 1) → (decDigits u).length ≤ k + 1
  | 0, u, h => by rw [dec_small (by omega)]; simp
  | k + 1, u, h => by
    by_cases h0 : u < 10
    · rw [dec_small h0]; simp
    · rw [dec_big h0]
      rw [Nat.pow_succ] at h
      have := dec_length k (u / 10) (by generalize 10 ^ (k + 1) = T at *; omega)
      simp; omega
theorem itoa_sign (n : Int) : Lib.itoa n = signL (decide (n < 0)) ++ decDigits n.natAbs := by
  unfold Lib.itoa signL
  by_cases h : n < 0
  · simp [h]
  · simp only [h, decide_false, if_false, Bool.false_eq_true, List.nil_append]
    congr 1; omega
theorem itoa_len (n : Int) (h1 : -9223372036854775808 ≤ n) (h2 : n < 9223372036854775808) : (Lib.itoa n).length ≤ 20 := by
  rw [itoa_sign]
  have := dec_length 18 n.natAbs (by have : (10 : Nat) ^ (18 + 1) = 10000000000000000000 := by decide
                                     omega)
  have hs : (signL (decide (n < 0))).length ≤ 1 := by unfold signL; split <;> simp
  simp; omega
theorem list_size (l : List UInt8) : (⟨l.toArray⟩ : ByteArray).size = l.length := by simp [ByteArray.size]
end Go.Proofs.YtjjgbgojlhaapaaGreatDoor
namespace Go.Proofs.YtjjgbgojlhaapaaGreatDoor
open Go.RowKit Go.Lib

/-- a scalar value -/
def Scal (r : Nat) : Prop := r < 55296 ∨ (57343 < r ∧ r ≤ 1114111)
def encs (rs : List Nat) : List UInt8 := rs.flatMap fun r : Nat => Lib.encodeRune (r : Int)
theorem encs_cons (r : Nat) (rs : List Nat) : encs (r :: rs) = Lib.encodeRune (r : Int) ++ encs rs := by simp [encs]
theorem u8z {z : Int} (_h0 : 0 ≤ z) (h1 : z < 256) : (z.toNat.toUInt8).toNat = z.toNat := by
  simp; omega
theorem dN2 {n r b2 b3 : Nat} (h0 : 128 ≤ r) (h1 : r ≤ 2047) (hn : 1 < n) : decodeN n (192 + r / 64) (128 + r % 64) b2 b3 = (r, 2) := by
  unfold decodeN
  rw [if_neg (by omega), if_pos (by omega), if_pos (by omega)]
  congr 1; omega
theorem dN3 {n r b3 : Nat} (h : (2048 ≤ r ∧ r < 55296) ∨ (57343 < r ∧ r ≤ 65535)) (hn : 2 < n) : decodeN n (224 + r / 4096) (128 + r / 64 % 64) (128 + r % 64) b3 = (r, 3) := by
  have e : (224 + r / 4096) % 16 * 4096 + (128 + r / 64 % 64) % 64 * 64 + (128 + r % 64) % 64 = r := by omega
  unfold decodeN
  rw [if_neg (by omega), if_neg (by omega), if_pos (by omega), e, if_pos (by omega)]
theorem dN4 {n r : Nat} (h0 : 65536 ≤ r) (h1 : r ≤ 1114111) (hn : 3 < n) : decodeN n (240 + r / 262144) (128 + r / 4096 % 64) (128 + r / 64 % 64) (128 + r % 64) = (r, 4) := by
  have e : (240 + r / 262144) % 8 * 262144 + (128 + r / 4096 % 64) % 64 * 4096 + (128 + r / 64 % 64) % 64 * 64 + (128 + r % 64) % 64 = r := by omega
  unfold decodeN
  rw [if_neg (by omega), if_neg (by omega), if_neg (by omega), if_pos (by omega), e, if_pos (by omega)]
theorem enc_len {r : Nat} (h : Scal r) : (Lib.encodeRune (r : Int)).length = if r < 128 then 1 else if r < 2048 then 2 else if r < 65536 then 3 else 4 := by
  unfold Lib.encodeRune
  rw [List.length_map]
  unfold Scal at h
  by_cases h1 : r < 128
  · rw [if_pos h1, encodeRuneZ_one (by omega) (by omega)]; rfl
  · rw [if_neg h1]
    by_cases h2 : r < 2048
    · rw [if_pos h2, encodeRuneZ_two (by omega) (by omega)]; rfl
    · rw [if_neg h2]
      by_cases h3 : r < 65536
      · rw [if_pos h3, encodeRuneZ_three (by omega)]; rfl
      · rw [if_neg h3, encodeRuneZ_four (by omega) (by omega)]; rfl
theorem decode_enc {r : Nat} (h : Scal r) (t : List UInt8) : decodeL (Lib.encodeRune (r : Int) ++ t) = (r, (Lib.encodeRune (r : Int)).length) := by
  rw [enc_len h, decodeL_N]
  unfold Lib.encodeRune
  unfold Scal at h
  by_cases h1 : r < 128
  · rw [if_pos h1, encodeRuneZ_one (by omega) (by omega)]
    simp only [List.map_cons, List.map_nil, List.cons_append, List.nil_append, List.getD_cons_zero]
    rw [u8z (by omega) (by omega)]
    unfold decodeN
    rw [if_pos (by omega)]; congr 1
  · rw [if_neg h1]
    by_cases h2 : r < 2048
    · rw [if_pos h2, encodeRuneZ_two (by omega) (by omega)]
      simp only [List.map_cons, List.map_nil, List.cons_append, List.nil_append, List.getD_cons_zero, List.getD_cons_succ, List.length_cons]
      rw [u8z (by omega) (by omega), u8z (by omega) (by omega)]
      rw [show (192 + (r : Int) / 64).toNat = 192 + r / 64 by omega, show (128 + (r : Int) % 64).toNat = 128 + r % 64 by omega]
      exact dN2 (by omega) (by omega) (by omega)
    · rw [if_neg h2]
      by_cases h3 : r < 65536
      · rw [if_pos h3, encodeRuneZ_three (by omega)]
        simp only [List.map_cons, List.map_nil, List.cons_append, List.nil_append, List.getD_cons_zero, List.getD_cons_succ, List.length_cons]
        rw [u8z (by omega) (by omega), u8z (by omega) (by omega), u8z (by omega) (by omega)]
        rw [show (224 + (r : Int) / 4096).toNat = 224 + r / 4096 by omega, show (128 + (r : Int) / 64 % 64).toNat = 128 + r / 64 % 64 by omega, show (128 + (r : Int) % 64).toNat = 128 + r % 64 by omega]
        exact dN3 (by omega) (by omega)
      · rw [if_neg h3, encodeRuneZ_four (by omega) (by omega)]
        simp only [List.map_cons, List.map_nil, List.cons_append, List.nil_append, List.getD_cons_zero, List.getD_cons_succ, List.length_cons]
        rw [u8z (by omega) (by omega), u8z (by omega) (by omega), u8z (by omega) (by omega), u8z (by omega) (by omega)]
        rw [show (240 + (r : Int) / 262144).toNat = 240 + r / 262144 by omega, show (128 + (r : Int) / 4096 % 64).toNat = 128 + r / 4096 % 64 by omega, show (128 + (r : Int) / 64 % 64).toNat = 128 + r / 64 % 64 by omega, show (128 + (r : Int) % 64).toNat = 128 + r % 64 by omega]
        exact dN4 (by omega) (by omega) (by omega)
theorem enc_pos (r : Int) : 1 ≤ (Lib.encodeRune r).length := by
  unfold Lib.encodeRune
  rw [List.length_map]
  exact (encodeRuneZ_length r).1
/-- a rune that was decoded from valid bytes is a scalar value -/
theorem decode_scal (l : List UInt8) (_hv : ¬ ((decodeL l).1 = 65533 ∧ (decodeL l).2 = 1)) : Scal (decodeL l).1 := by
  rw [decodeL_N]
  have k0 := (l.getD 0 0).toNat_lt
  unfold Scal
  rcases decodeN_shape l.length (l.getD 0 0).toNat (l.getD 1 0).toNat (l.getD 2 0).toNat (l.getD 3 0).toNat with ⟨c, e⟩ | ⟨c1, c2, c3, cv, e⟩ | ⟨c1, c2, c3, c4, cv, cs, e⟩ | ⟨c1, c2, c3, c4, c5, cv, cw, e⟩ | e
  all_goals (rw [e]; dsimp only)
  all_goals omega
theorem valid_runes : ∀ (n : Nat) (l : List UInt8), l.length ≤ n → Lib.validGoD n l = true → ∃ rs : List Nat, (∀ r ∈ rs, Scal r) ∧ l = encs rs
  | 0, l, hn, _ => ⟨[], by simp, by rw [List.eq_nil_of_length_eq_zero (Nat.le_zero.1 hn)]; rfl⟩
  | n + 1, l, hn, h => by
    by_cases hne : l = []
    · exact ⟨[], by simp, by rw [hne]; rfl⟩
    · simp only [Lib.validGoD] at h
      rw [if_neg hne] at h
      by_cases hb : (decodeL l).1 = 65533 ∧ (decodeL l).2 = 1
      · rw [if_pos hb] at h; exact absurd h (by decide)
      · rw [if_neg hb] at h
        have hw := decodeL_width l
        have hl : 0 < l.length := List.length_pos_iff.2 hne
        obtain ⟨rs, h1, h2⟩ := valid_runes n (l.drop (decodeL l).2) (by rw [List.length_drop]; omega) h
        refine ⟨(decodeL l).1 :: rs, fun r hr => ?_, ?_⟩
        · rcases List.mem_cons.1 hr with rfl | hr
          · exact decode_scal l hb
          · exact h1 r hr
        · rw [encs_cons, encode_decode l hne hb, ← h2, List.take_append_drop]
theorem validB_runes {s : ByteArray} (h : validB s = true) : ∃ rs : List Nat, (∀ r ∈ rs, Scal r) ∧ s.data.toList = encs rs := valid_runes _ _ (Nat.le_refl _) h
theorem quote_runes (s : ByteArray) : ∀ (rs : List Nat) (fuel pos : Nat), (∀ r ∈ rs, Scal r) → rest s pos = encs rs → s.size - pos ≤ fuel → quoteFrom s fuel pos = rs.flatMap (fun r => quoteOne r)
  | [], fuel, pos, _, h, _ => quoteFrom_end s fuel pos (rest_nil h)
  | r :: rs, fuel, pos, hr, h, hf => by
    have h0 := hr r (List.mem_cons_self ..)
    rw [encs_cons] at h
    have hp := enc_pos r
    have hlt : pos < s.size := by
      rcases he : Lib.encodeRune (r : Int) ++ encs rs with _ | ⟨c, u⟩
      · rw [List.append_eq_nil_iff] at he; rw [he.1] at hp; exact absurd hp (by decide)
      · rw [he] at h; exact rest_lt h
    obtain ⟨f, rfl⟩ : ∃ f, fuel = f + 1 := ⟨fuel - 1, by omega⟩
    have hd : Utf8.decode s pos = (r, (Lib.encodeRune (r : Int)).length) := by
      rw [← decodeL_drop]
      show decodeL (rest s pos) = _
      rw [h, decode_enc h0]
    rw [quoteFrom_step hlt, hd, quote_runes s rs f _ (fun q hq => hr q (List.mem_cons_of_mem _ hq)) (drop_rest h) (by omega)]
    rfl
theorem quoteB_runes {s : ByteArray} {rs : List Nat} (hr : ∀ r ∈ rs, Scal r) (h : s.data.toList = encs rs) : quoteB s = 34 :: (rs.flatMap (fun r => quoteOne r) ++ [34]) := by
  unfold quoteB
  rw [quote_runes s rs s.size 0 hr (by simpa [rest] using h) (by omega)]
end Go.Proofs.YtjjgbgojlhaapaaGreatDoor
namespace Go.Proofs.YtjjgbgojlhaapaaGreatDoor
open Go.RowKit Go.Lib

theorem bytes_nil {s : ByteArray} (h : s.toList.isEmpty = true) : s = ⟨#[]⟩ := by
  rw [ByteArray.toList_eq, List.isEmpty_iff] at h
  apply ByteArray.ext
  apply Array.eq_empty_of_size_eq_zero
  have := congrArg List.length h
  simpa using this
/-- what a value that may be looks like -/
inductive Shape (d : Nat) : JV → Prop
  | word (k : Int) (h : k = 1 ∨ k = 2 ∨ k = 3) : Shape d (.mk k 0 ⟨#[]⟩ [] [])
  | num (n : Int) (h : -9007199254740991 ≤ n ∧ n ≤ 9007199254740991) : Shape d (numV n)
  | text (s : ByteArray) (h : shortB s = true) : Shape d (wordV s)
  | list (l : List JV) (h : ∀ y ∈ l, mayJ d y = true) : Shape d (listV l)
  | obj (m : List (ByteArray × JV)) (hm : membersB none m = true) (h : ∀ q ∈ m, mayJ d q.2 = true) : Shape d (objV m)
theorem shape_of {d : Nat} {x : JV} (h : mayJ (d + 1) x = true) : Shape d x := by
  obtain ⟨k, n, s, l, m⟩ := x
  rw [may_succ] at h
  simp only [Bool.and_eq_true, JV.l, JV.m, List.all_eq_true] at h
  obtain ⟨⟨h1, h2⟩, h3⟩ := h
  unfold oneB at h1
  simp only [Bool.and_eq_true, JV.m] at h1
  obtain ⟨⟨h4, h5⟩, h6⟩ := h1
  unfold rangeB at h6
  simp only [Bool.and_eq_true, JV.n, JV.s] at h6
  obtain ⟨⟨h7, h8⟩, h9⟩ := h6
  simp only [badK, JV.k, JV.n, JV.s, JV.l, JV.m, Bool.not_eq_true', Bool.or_eq_false_iff, Bool.and_eq_false_iff, bne_eq_false_iff_eq] at h4
  obtain ⟨⟨⟨⟨⟨a1, a2⟩, a3⟩, a4⟩, a5⟩, a6⟩ := h4
  have a1 := of_decide_eq_false a1
  have a2 := of_decide_eq_false a2
  have hn : k ≠ 4 → n = 0 := fun hk => a3.resolve_right hk
  have hs : k ≠ 5 → s = ⟨#[]⟩ := fun hk => bytes_nil (by simpa using a4.resolve_right hk)
  have hl : k ≠ 6 → l = [] := fun hk => List.eq_nil_of_length_eq_zero (by have := of_decide_eq_false (a5.resolve_right hk); omega)
  have hm : k ≠ 7 → m = [] := fun hk => List.eq_nil_of_length_eq_zero (by have := of_decide_eq_false (a6.resolve_right hk); omega)
  have hk : k = 1 ∨ k = 2 ∨ k = 3 ∨ k = 4 ∨ k = 5 ∨ k = 6 ∨ k = 7 := by omega
  rcases hk with rfl | rfl | rfl | rfl | rfl | rfl | rfl
  · rw [hn (by decide), hs (by decide), hl (by decide), hm (by decide)]; exact .word 1 (by decide)
  · rw [hn (by decide), hs (by decide), hl (by decide), hm (by decide)]; exact .word 2 (by decide)
  · rw [hn (by decide), hs (by decide), hl (by decide), hm (by decide)]; exact .word 3 (by decide)
  · rw [hs (by decide), hl (by decide), hm (by decide)]; exact .num n ⟨of_decide_eq_true h7, of_decide_eq_true h8⟩
  · rw [hn (by decide), hl (by decide), hm (by decide)]; exact .text s h9
  · rw [hn (by decide), hs (by decide), hm (by decide)]; exact .list l h2
  · rw [hn (by decide), hs (by decide), hl (by decide)]; exact .obj m h5 h3

/-! names that rise -/
def NmLt (a b : ByteArray × JV) : Prop := a.1.toList < b.1.toList
theorem leB_iff (a b : ByteArray) : leB a b = false ↔ b.toList < a.toList := by
  unfold leB
  rw [bytesLess_eq]
  constructor
  · intro h
    simp only [Bool.or_eq_false_iff, decide_eq_false_iff_not, beq_eq_false_iff_ne, ne_eq] at h
    rcases List.le_iff_lt_or_eq.1 (List.not_lt.1 h.1) with h1 | h1
    · exact h1
    · exact absurd h1.symm h.2
  · intro h
    have h1 : ¬ a.toList < b.toList := fun h2 => List.lt_irrefl _ (List.lt_trans h h2)
    have h2 : a.toList ≠ b.toList := fun e => by rw [e] at h; exact List.lt_irrefl _ h
    simp [h1, h2]
theorem members_iff : ∀ (p : Option ByteArray) (m : List (ByteArray × JV)), membersB p m = true ↔ (∀ q ∈ m, shortB q.1 = true) ∧ (∀ a, p = some a → ∀ q ∈ m, a.toList < q.1.toList) ∧ m.Pairwise NmLt
  | p, [] => by simp [membersB]
  | p, (nm, y) :: r => by
    have ih := members_iff (some nm) r
    simp only [membersB, Bool.and_eq_true, ih]
    constructor
    · rintro ⟨⟨h1, h2⟩, h3, h4, h5⟩
      refine ⟨fun q hq => ?_, fun a ha q hq => ?_, ?_⟩
      · rcases List.mem_cons.1 hq with rfl | hq
        · exact h1
        · exact h3 q hq
      · subst ha
        have h2' : a.toList < nm.toList := (leB_iff nm a).1 (by simpa using h2)
        rcases List.mem_cons.1 hq with rfl | hq
        · exact h2'
        · exact List.lt_trans h2' (h4 nm rfl q hq)
      · exact List.Pairwise.cons (fun q hq => h4 nm rfl q hq) h5
    · rintro ⟨h1, h2, h3⟩
      rw [List.pairwise_cons] at h3
      refine ⟨⟨h1 _ (List.mem_cons_self ..), ?_⟩, fun q hq => h1 q (List.mem_cons_of_mem _ hq), fun a ha q hq => by cases ha; exact h3.1 q hq, h3.2⟩
      rcases p with _ | a
      · rfl
      · have := (leB_iff nm a).2 (h2 a rfl _ (List.mem_cons_self ..))
        simpa using this
/-! lists and objects -/
theorem join_cons {α : Type} (f : α → List UInt8) (x : α) (xs : List α) (b : Bool) : joinFrom f b (x :: xs) = (if b then [] else [44]) ++ f x ++ joinFrom f false xs := by
  cases b <;> rfl
def prMem (d : Nat) (q : ByteArray × JV) : List UInt8 := quoteB q.1 ++ 58 :: printB d q.2
end Go.Proofs.YtjjgbgojlhaapaaGreatDoor
