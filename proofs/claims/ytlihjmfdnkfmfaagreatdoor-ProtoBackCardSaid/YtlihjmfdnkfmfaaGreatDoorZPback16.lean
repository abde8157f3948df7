/- Parts of the proof: Ps, Nd, Nu. -/
import Derived.Test.YtlihjmfdnkfmfaaGreatDoorZPback15
import Derived.Lib.SlBytesRow
import Derived.Lib.BufferRead
import Derived.Laws.Rows
namespace Go.Proofs.YtlihjmfdnkfmfaaGreatDoor
open Go.RowKit Go.Lib

theorem run_convert_empty {P : Program} (w : World) (src dst e : TypeId) (A : Option Addr) (c : Nat) (hs : P.underlying src = some (.slice e)) (he : P.underlying e = some (.int .u8)) (hd : P.underlying dst = some .string) :
    (convert src dst (.slice A 0 c)).run P w = .ok (.string ⟨#[]⟩) w := by
  rw [run_convert_bytes_string w src dst e A 0 c hs he hd]
  cases A with
  | none => simp [Conv.bytesToString]; rfl
  | some a => simp [Conv.bytesToString, loadCells]; rfl
/-- a slice of bytes reads as these bytes -/
def BSl (w : World) (F : Nat → Prop) (v : Value) (s : ByteArray) : Prop := (∃ b o c, v = .slice (some ⟨b, o, none⟩) s.size c ∧ F b ∧ Lib.Bytes w b o s) ∨ (s.size = 0 ∧ ∃ A c, v = .slice A 0 c)
theorem BSl.frame {w w' : World} {F : Nat → Prop} {v : Value} {s : ByteArray} (h : ∀ k, F k → w'.heap[k]? = w.heap[k]?) (hb : BSl w F v s) : BSl w' F v s := by
  rcases hb with ⟨b, o, c, rfl, hF, hc⟩ | hb
  · exact .inl ⟨b, o, c, rfl, hF, fun i hi => (World.cell?_of_block (w := w) (a := ⟨b, o + i, none⟩) (h b hF)).trans (hc i hi)⟩
  · exact .inr hb
theorem BSl.form {w : World} {F : Nat → Prop} {v : Value} {s : ByteArray} (hb : BSl w F v s) : ∃ A c, v = .slice A s.size c := by
  rcases hb with ⟨b, o, c, rfl, hF, hc⟩ | ⟨h0, A, c, rfl⟩
  · exact ⟨_, _, rfl⟩
  · exact ⟨_, _, by rw [h0]⟩
theorem BSl.conv {w : World} {F : Nat → Prop} {v : Value} {s : ByteArray} (hb : BSl w F v s) : (convert 22 9 v).run Tryz.prog w = .ok (.string s) w := by
  rcases hb with ⟨b, o, c, rfl, hF, hc⟩ | ⟨h0, A, c, rfl⟩
  · exact Lib.run_convert_whole w _ 5 _ Tryz.underlying22 Tryz.underlying5 Tryz.underlying9 b o s hc c
  · have : s = ⟨#[]⟩ := by
      apply ByteArray.ext
      apply Array.eq_empty_of_size_eq_zero
      exact h0
    subst this
    exact run_convert_empty w 22 9 5 A c Tryz.underlying22 Tryz.underlying5 Tryz.underlying9
def endB (s : ByteArray) (y : St) : St := if (y.blanks s).e = 0 ∧ (y.blanks s).p < s.size then (y.blanks s).fail 4 else y.blanks s
def parseB (s : ByteArray) : JV × Int :=
  if 20000 < s.size then (zeroV, 3)
  else if (endB s (valueB s 64 ⟨0, 0⟩).2).e ≠ 0 then (zeroV, (endB s (valueB s 64 ⟨0, 0⟩).2).e)
  else ((valueB s 64 ⟨0, 0⟩).1, 0)
theorem results_row_tmp {P : Program} {fn : Func} {p u : Tmp} {ty : TypeId} (h : fn.results = #[.cell p ty, .tmp u]) (tmps : Array Value) (w : World) (g : Nat) (t : TypeId) (cs : Array Value) (fr : Nat × Nat) (d : TypeDesc)
    (hp : tmps.getD p undef = .pointer (some ⟨g, 0, none⟩)) (hg : w.heap[g]? = some (.cells cs t fr))
    (hu : P.underlying ty = some d) (hd : (match d with | .struct _ | .array _ _ => true | _ => false) = true) (hi : (P.info? ty).map (·.size) = some cs.size) :
    (results fn tmps).run P w = .ok (.tuple #[.agg cs, tmps.getD u undef]) w := by
  have hp' : tmps[p]?.getD undef = .pointer (some ⟨g, 0, none⟩) := by simpa using hp
  simp [results, h, hp', asAddr, run_loadVar_row w g t ty cs fr d hg hu hd hi]
theorem bel_set5 {n B : Nat} {w w1 : World} (h : Below n w w1) (hB : n ≤ B) (v0 v1 v2 v3 v4 : Value) : Below n w (((((w1.setCell ⟨B, 0, none⟩ v0).setCell ⟨B, 1, none⟩ v1).setCell ⟨B, 2, none⟩ v2).setCell ⟨B, 3, none⟩ v3).setCell ⟨B, 4, none⟩ v4) :=
  ((((h.setCell (p := ⟨B, 0, none⟩) hB v0).setCell (p := ⟨B, 1, none⟩) hB v1).setCell (p := ⟨B, 2, none⟩) hB v2).setCell (p := ⟨B, 3, none⟩) hB v3).setCell (p := ⟨B, 4, none⟩) hB v4
theorem drew_heap (X : World) : X.drew.heap = X.heap := rfl
theorem drewN_heap (X : World) (n : Nat) : (X.drewN n).heap = X.heap := rfl
theorem drew_cell (X : World) (a : Addr) : X.drew.cell? a = X.cell? a := World.cell?_of_block (w := X) (by rw [drew_heap])
theorem drewN_cell (X : World) (n : Nat) (a : Addr) : (X.drewN n).cell? a = X.cell? a := World.cell?_of_block (w := X) (by rw [drewN_heap])
theorem set5_drew {w : World} {B : Nat} {T : TypeId} {fz : Nat × Nat} {a0 a1 a2 a3 a4 : Value} (v0 v1 v2 v3 v4 : Value) (h : w.heap[B]? = some (.cells #[a0, a1, a2, a3, a4] T fz)) : ((((((w.setCell ⟨B, 0, none⟩ v0).setCell ⟨B, 1, none⟩ v1).setCell ⟨B, 2, none⟩ v2).setCell ⟨B, 3, none⟩ v3).setCell ⟨B, 4, none⟩ v4).drew).heap[B]? = some (.cells #[v0, v1, v2, v3, v4] T fz) := by
  rw [drew_heap]
  exact set5 v0 v1 v2 v3 v4 h
theorem set5_drewN (n : Nat) {w : World} {B : Nat} {T : TypeId} {fz : Nat × Nat} {a0 a1 a2 a3 a4 : Value} (v0 v1 v2 v3 v4 : Value) (h : w.heap[B]? = some (.cells #[a0, a1, a2, a3, a4] T fz)) : ((((((w.setCell ⟨B, 0, none⟩ v0).setCell ⟨B, 1, none⟩ v1).setCell ⟨B, 2, none⟩ v2).setCell ⟨B, 3, none⟩ v3).setCell ⟨B, 4, none⟩ v4).drewN n).heap[B]? = some (.cells #[v0, v1, v2, v3, v4] T fz) := by
  rw [drewN_heap]
  exact set5 v0 v1 v2 v3 v4 h
theorem keep5_drew {w : World} {B : Nat} {a : Addr} (v0 v1 v2 v3 v4 : Value) (h : a.block ≠ B) : ((((((w.setCell ⟨B, 0, none⟩ v0).setCell ⟨B, 1, none⟩ v1).setCell ⟨B, 2, none⟩ v2).setCell ⟨B, 3, none⟩ v3).setCell ⟨B, 4, none⟩ v4).drew).cell? a = w.cell? a := by
  rw [drew_cell]
  exact World.cell?_of_block (w := w) (set5_other v0 v1 v2 v3 v4 h)
theorem keep5_drewN (n : Nat) {w : World} {B : Nat} {a : Addr} (v0 v1 v2 v3 v4 : Value) (h : a.block ≠ B) : ((((((w.setCell ⟨B, 0, none⟩ v0).setCell ⟨B, 1, none⟩ v1).setCell ⟨B, 2, none⟩ v2).setCell ⟨B, 3, none⟩ v3).setCell ⟨B, 4, none⟩ v4).drewN n).cell? a = w.cell? a := by
  rw [drewN_cell]
  exact World.cell?_of_block (w := w) (set5_other v0 v1 v2 v3 v4 h)
def PRes (s : ByteArray) (w : World) (z : Ending) (w' : World) : Prop := ∃ (A1 : Option Addr) (n1 c1 : Nat) (A2 : Option Addr) (n2 c2 : Nat),
  z = .returned (.tuple #[.agg #[.int .i64 (parseB s).1.k, .int .i64 (parseB s).1.n, .string (parseB s).1.s, .slice A1 n1 c1, .slice A2 n2 c2], .int .i64 (parseB s).2]) ∧
  JR w' (fun b => w.heap.size ≤ b) (parseB s).1 [.int .i64 (parseB s).1.k, .int .i64 (parseB s).1.n, .string (parseB s).1.s, .slice A1 n1 c1, .slice A2 n2 c2] ∧ Below w.heap.size w w'
theorem reader_alloc (w : World) (s : ByteArray) : RdAt 148 w.heap.size s 0 0 (w.alloc (.cells #[.string s, .int .i64 0, .int .i64 0] 148)) := heap_alloc_new w _
set_option maxRecDepth 100000 in
set_option maxHeartbeats 8000000 in
theorem parse_any (s : ByteArray) (v : Value) (F : Nat → Prop) (w : World) (hT : Tabs w) (hb : BSl w F v s) :
    Calls Tryz.prog 20 #[v] w (PRes s w) := by
  have hbB : ∀ w', Below w.heap.size w w' → BSl w' (fun b => True) v s := fun w' hw => by
    rcases hb with ⟨b, o, c, rfl, hF, hc⟩ | hb
    · exact .inl ⟨b, o, c, rfl, trivial, fun i hi => by
        have hlt : b < w.heap.size := World.block_lt_of_cell? w _ (hc i hi)
        exact (World.cell?_of_block (w := w) (a := ⟨b, o + i, none⟩) (hw.block b hlt)).trans (hc i hi)⟩
    · exact .inr hb
  have hA : Below w.heap.size w (w.alloc (.cells #[.int .i64 0, .int .i64 0, .string ⟨#[]⟩, .slice none 0 0, .slice none 0 0] 43)) := bel_alloc (Below.refl _ _) _
  have hcv := (hbB _ hA).conv
  obtain ⟨A, c, rfl⟩ := hb.form
  have hb0 := heap_alloc_new w (.cells #[.int .i64 0, .int .i64 0, .string ⟨#[]⟩, .slice none 0 0, .slice none 0 0] 43)
  have HB0 := Lib.hid hb0; have HA := Lib.hid hA; have HT := Lib.hid hT
  have hE : parseB s = (if 20000 < s.size then (zeroV, 3) else if (endB s (valueB s 64 ⟨0, 0⟩).2).e ≠ 0 then (zeroV, (endB s (valueB s 64 ⟨0, 0⟩).2).e) else ((valueB s 64 ⟨0, 0⟩).1, 0)) := rfl
  unfold PRes
  clear hb hbB hA hb0 hT
  generalize parseB s = res at *
  by_cases hlen : 20000 < s.size
  case pos =>
    rw [if_pos hlen] at hE
    subst hE
    have hd : decide ((20000 : Int) < (s.size : Int)) = true := by simp; omega
    clear hcv
    go_enter Tryz.func20, Tryz.ntmps20
    go_upto_region 2 with (fail)
    generalize w.alloc (.cells #[.int .i64 0, .int .i64 0, .string ⟨#[]⟩, .slice none 0 0, .slice none 0 0] 43) = W1 at *
    obtain ⟨⟨b0, b1, b2, b3, b4⟩, ⟨g0, g1, g2, g3, g4⟩, hBw⟩ := cells5 HB0.out
    have hf := set5 (.int .i64 0) (.int .i64 0) (.string ⟨#[]⟩) (.slice none 0 0) (.slice none 0 0) HB0.out
    have hbl : Below w.heap.size w (((((W1.setCell ⟨w.heap.size, 0, none⟩ (.int .i64 0)).setCell ⟨w.heap.size, 1, none⟩ (.int .i64 0)).setCell ⟨w.heap.size, 2, none⟩ (.string ⟨#[]⟩)).setCell ⟨w.heap.size, 3, none⟩ (.slice none 0 0)).setCell ⟨w.heap.size, 4, none⟩ (.slice none 0 0)) := bel_set5 HA.out (Nat.le_refl _) (.int .i64 0) (.int .i64 0) (.string ⟨#[]⟩) (.slice none 0 0) (.slice none 0 0)
    have hjj : JR (((((W1.setCell ⟨w.heap.size, 0, none⟩ (.int .i64 0)).setCell ⟨w.heap.size, 1, none⟩ (.int .i64 0)).setCell ⟨w.heap.size, 2, none⟩ (.string ⟨#[]⟩)).setCell ⟨w.heap.size, 3, none⟩ (.slice none 0 0)).setCell ⟨w.heap.size, 4, none⟩ (.slice none 0 0)) (fun b => w.heap.size ≤ b) zeroV [.int .i64 0, .int .i64 0, .string ⟨#[]⟩, .slice none 0 0, .slice none 0 0] := zero_jr _ _
    have HF5 := Lib.hid hf; have HR5 := Lib.hid hbl; have HJJ := Lib.hid hjj
    clear hf hbl hjj
    go_wp2_with fail
    exact bodyPost_ret (results_row_tmp rfl _ _ w.heap.size 43 #[.int .i64 0, .int .i64 0, .string ⟨#[]⟩, .slice none 0 0, .slice none 0 0] (0, 0) _ rfl HF5.out Tryz.underlying43 rfl (by kernel_rfl)) rfl ⟨none, 0, 0, none, 0, 0, rfl, HJJ.out, HR5.out⟩
  case neg =>
    rw [if_neg hlen] at hE
    have hd : decide ((20000 : Int) < (s.size : Int)) = false := by simp; omega
    have hrd := reader_alloc (w.alloc (.cells #[.int .i64 0, .int .i64 0, .string ⟨#[]⟩, .slice none 0 0, .slice none 0 0] 43)) s
    have hA2 := bel_alloc HA.out (.cells #[.string s, .int .i64 0, .int .i64 0] 148)
    have hb2 := heap_alloc2_old w (.cells #[.int .i64 0, .int .i64 0, .string ⟨#[]⟩, .slice none 0 0, .slice none 0 0] 43) (.cells #[.string s, .int .i64 0, .int .i64 0] 148)
    have hs2 : (w.alloc (.cells #[.int .i64 0, .int .i64 0, .string ⟨#[]⟩, .slice none 0 0, .slice none 0 0] 43)).heap.size = w.heap.size + 1 := by show (w.heap.push _).size = _; simp
    rw [hs2] at hrd
    have HRD := Lib.hid hrd; have HA2 := Lib.hid hA2; have HB2 := Lib.hid hb2
    have hva := fun w2 h1 h2 => value_at s (by omega) 64 (by decide) w (w.heap.size + 1) ⟨0, 0⟩ w2 HT.out h1 (by omega) rfl (Nat.zero_le _) h2
    have HVA := Lib.hid hva; have HE := Lib.hid hE
    clear hrd hA2 hb2 hva hE
    generalize valueB s 64 ⟨0, 0⟩ = r at *
    obtain ⟨v0, y⟩ := r
    simp only at HE
    go_enter Tryz.func20, Tryz.ntmps20
    go_upto_region 4 with (fail)
    generalize (w.alloc (.cells #[.int .i64 0, .int .i64 0, .string ⟨#[]⟩, .slice none 0 0, .slice none 0 0] 43)).alloc (.cells #[.string s, .int .i64 0, .int .i64 0] 148) = w2 at *
    clear hcv hs2
    have hRw2 : w.heap.size + 1 < w2.heap.size := HRD.out.cells.2.2.2.2.2.2
    go_wp2_with fail
    refine Calls.mono (HVA.out w2 HA2.out HRD.out) ?_
    rintro e w3 ⟨v, A1, n1, c1, A2, n2, c2, rfl, hjr, heq, hp3⟩
    try simp only at hp3
    have hb3 := hp3.keep (B := w.heap.size) HB2.out (by omega)
    have hsz3 := hp3.2.size
    have hA4 : Below w3.heap.size w3 (w3.alloc (.cells #[.int .i64 v.k, .int .i64 v.n, .string v.s, .slice A1 n1 c1, .slice A2 n2 c2] 43)) := bel_alloc (Below.refl _ _) _
    have hc4 := heap_alloc_new w3 (.cells #[.int .i64 v.k, .int .i64 v.n, .string v.s, .slice A1 n1 c1, .slice A2 n2 c2] 43)
    have hw3B : w.heap.size < w3.heap.size := (Array.getElem?_eq_some_iff.1 hb3).1
    have hp4 := RdPost.below hp3 hA4
    have hs34 := hA4.size
    have hb4 := (hA4.block w.heap.size hw3B).trans hb3
    have hj4 := JR_mono (F' := fun b => w2.heap.size ≤ b ∧ b < w3.heap.size) (fun b hb => hb) _ _ (JR_frame (w' := w3.alloc (.cells #[.int .i64 v.k, .int .i64 v.n, .string v.s, .slice A1 n1 c1, .slice A2 n2 c2] 43)) (fun b hb => hA4.block b hb.2) _ _ (JR_bound _ _ hjr))
    have HB4 := Lib.hid hb4; have HC4 := Lib.hid hc4; have HP4 := Lib.hid hp4; have HJ4 := Lib.hid hj4; have HEQ := Lib.hid heq
    clear hb3 hA4 hc4 hp4 hb4 hj4 heq hjr hp3 HVA HB2
    go_upto_region 5 with (fail)
    generalize w3.alloc (.cells #[.int .i64 v.k, .int .i64 v.n, .string v.s, .slice A1 n1 c1, .slice A2 n2 c2] 43) = w4 at *
    have hbl := blanks_any (w.heap.size + 1) s y w4 (by omega) HP4.out.1
    have hbe : (y.blanks s).e = y.e := rfl
    have hEE := HE.out
    unfold endB at hEE
    have HBL := Lib.hid hbl; have HE2 := Lib.hid hEE; have HBE := Lib.hid hbe
    clear hbl hEE HE hbe
    generalize y.blanks s = y5 at *
    go_wp2_with fail
    refine Calls.mono HBL.out ?_
    rintro e w5 ⟨rfl, hp5⟩
    have hb5 := hp5.keep (B := w.heap.size) HB4.out (by omega)
    have hc5 := hp5.keep (B := w3.heap.size) HC4.out (by omega)
    have hpp5 := HP4.out.trans hp5
    have hsz4 := HP4.out.2.size
    obtain ⟨l0, l1, l2, _, f1, _, hRw⟩ := hpp5.1.cells
    have hbw5 := HA2.out.grown hpp5.2 HA2.out.size (fun j hj => by have := Option.some.inj hj; omega)
    have HG5 := Lib.hid hp5.2
    have HB5 := Lib.hid hb5; have HC5 := Lib.hid hc5; have HP5 := Lib.hid hpp5; have HBW := Lib.hid hbw5
    clear hp5 hb5 hc5 hpp5 hbw5 HB4 HC4 HP4
    by_cases he : y5.e = 0
    case pos =>
      have d0 : (y5.e == 0) = true := by simpa using he
      by_cases hlt : y5.p < s.size
      case pos =>
        have hltz : (y5.p : Int) < (s.size : Int) := by omega
        have hd2 : decide ((y5.p : Int) < (s.size : Int)) = true := by simpa using hltz
        have hfe := HE2.out
        rw [show (if y5.e = 0 ∧ y5.p < s.size then y5.fail 4 else y5) = y5.fail 4 from if_pos ⟨he, hlt⟩] at hfe
        have hze : (y5.fail 4).e = 4 := by unfold St.fail; rw [if_pos he]
        rw [if_pos (by rw [hze]; decide), hze] at hfe
        subst hfe
        have hfl := fun n => fail_any (w.heap.size + 1) s y5 4 (w5.drewN n) (HP5.out.1.drewN n)
        have HFL := Lib.hid hfl; have HZE := Lib.hid hze
        clear hfl HE2 hze
        go_wp2_with fail
        go_quiet (fail)
        go_wp2_with fail
        refine Calls.mono (HFL.out _) ?_
        rintro e w6 ⟨rfl, hp6⟩
        have hb6 := hp6.keep (B := w.heap.size) HB5.out (by omega)
        have hp6' := (HP5.out.drewN _).trans hp6
        rw [HZE.out] at hp6'
        obtain ⟨l0, l1, l2, _, f1, _, hRw⟩ := hp6'.1.cells
        have hbw6 := HA2.out.grown hp6'.2 HA2.out.size (fun j hj => by have := Option.some.inj hj; omega)
        have HB6 := Lib.hid hb6; have HBW6 := Lib.hid hbw6
        clear hp6 hb6 hp6' hbw6
        go_upto_region 9 with (fail)
        obtain ⟨⟨b0, b1, b2, b3, b4⟩, ⟨g0, g1, g2, g3, g4⟩, hBw⟩ := cells5 HB6.out
        have hf := set5_drew (.int .i64 0) (.int .i64 0) (.string ⟨#[]⟩) (.slice none 0 0) (.slice none 0 0) HB6.out
        have hbl : Below w.heap.size w ((((((w6.setCell ⟨w.heap.size, 0, none⟩ (.int .i64 0)).setCell ⟨w.heap.size, 1, none⟩ (.int .i64 0)).setCell ⟨w.heap.size, 2, none⟩ (.string ⟨#[]⟩)).setCell ⟨w.heap.size, 3, none⟩ (.slice none 0 0)).setCell ⟨w.heap.size, 4, none⟩ (.slice none 0 0)).drew) := bel_drew (bel_set5 HBW6.out (Nat.le_refl _) (.int .i64 0) (.int .i64 0) (.string ⟨#[]⟩) (.slice none 0 0) (.slice none 0 0))
        have hjj : JR ((((((w6.setCell ⟨w.heap.size, 0, none⟩ (.int .i64 0)).setCell ⟨w.heap.size, 1, none⟩ (.int .i64 0)).setCell ⟨w.heap.size, 2, none⟩ (.string ⟨#[]⟩)).setCell ⟨w.heap.size, 3, none⟩ (.slice none 0 0)).setCell ⟨w.heap.size, 4, none⟩ (.slice none 0 0)).drew) (fun b => w.heap.size ≤ b) zeroV [.int .i64 0, .int .i64 0, .string ⟨#[]⟩, .slice none 0 0, .slice none 0 0] := zero_jr _ _
        have HF5 := Lib.hid hf; have HR5 := Lib.hid hbl; have HJJ := Lib.hid hjj
        clear hf hbl hjj
        refine PrintLast.wp_region_last_drew (S := fun w' => w'.cell? ⟨w.heap.size + 1, 2, none⟩ = some (.int .i64 4)) (ds := []) (by kernel_rfl) ?_ (fun hHeld => ?_)
        · exact l2
        refine PrintLast.tk 0 (v := ?_) rfl (by assumption) ?_ ?_
        rotate_left
        · (intro w hSw; (try dsimp only at hSw); go_simp; try (with_reducible rfl))
        try simp only [lay]
        refine PrintLast.tk 1 (v := ?_) rfl (by assumption) ?_ ?_
        rotate_left
        · (intro w hSw; (try dsimp only at hSw); go_simp; try (with_reducible rfl))
        try simp only [lay]
        refine PrintLast.tk 2 (v := ?_) rfl (by assumption) ?_ ?_
        rotate_left
        · (intro w hSw; (try dsimp only at hSw); go_simp; try (with_reducible rfl))
        try simp only [lay]
        refine PrintLast.tk 3 (v := ?_) rfl (by assumption) ?_ ?_
        rotate_left
        · (intro w hSw; (try dsimp only at hSw); go_simp; try (with_reducible rfl))
        try simp only [lay]
        refine PrintLast.tk 4 (v := ?_) rfl (by assumption) ?_ ?_
        rotate_left
        · (intro w hSw; (try dsimp only at hSw); go_simp; try (with_reducible rfl))
        try simp only [lay]
        have HK := Lib.hid hHeld
        clear hHeld
        refine PrintLast.wpAnyLast_ready (rs := [5]) (by kernel_rfl) (by simp) ?_
        refine PrintLast.AllReadyL.cons rfl (by decide) (fun K hK => ?_) PrintLast.AllReadyL.nil
        rw [if_pos (by kernel_rfl)]
        go_simp
        try simp only [List.foldl_cons, List.foldl_nil, List.setIfInBounds_toArray, List.set_cons_zero, List.set_cons_succ, Nat.reduceAdd]
        refine hK.out _ _ ?_ (fun hHeld => ?_)
        · exact (keep5_drew (w := w6) (B := w.heap.size) (a := ⟨w.heap.size + 1, 2, none⟩) (.int .i64 0) (.int .i64 0) (.string ⟨#[]⟩) (.slice none 0 0) (.slice none 0 0) (by show w.heap.size + 1 ≠ w.heap.size; omega)).trans l2
        clear hK K
        try simp only [lay]
        clear HK
        refine PrintLast.tk 6 (v := ?_) rfl (by assumption) ?_ ?_
        rotate_left
        · (intro w hSw; (try dsimp only at hSw); go_simp; try (with_reducible rfl))
        try simp only [lay]
        refine PrintLast.wpAnyLast_done (by kernel_rfl) ?_ _
        go_wp2_with fail
        exact bodyPost_ret (results_row_tmp rfl _ _ w.heap.size 43 #[.int .i64 0, .int .i64 0, .string ⟨#[]⟩, .slice none 0 0, .slice none 0 0] (0, 0) _ rfl HF5.out Tryz.underlying43 rfl (by kernel_rfl)) rfl ⟨none, 0, 0, none, 0, 0, rfl, HJJ.out, HR5.out⟩
      case neg =>
        have hltz : ¬ (y5.p : Int) < (s.size : Int) := by omega
        have hd2 : decide ((y5.p : Int) < (s.size : Int)) = false := by simpa using hltz
        have hfe := HE2.out
        rw [show (if y5.e = 0 ∧ y5.p < s.size then y5.fail 4 else y5) = y5 from if_neg (fun h => hlt h.2), if_neg (by simpa using he)] at hfe
        have hv := HEQ.out (by rw [← HBE.out]; exact he)
        try simp only at hv
        subst hv
        subst hfe
        clear HE2
        go_wp2_with fail
        go_quiet (fail)
        obtain ⟨⟨v0', v1', v2', v3', v4'⟩, _, hCw⟩ := cells5 HC5.out
        have hfr : ∀ b, (w2.heap.size ≤ b ∧ b < w3.heap.size) → ((((((w5.drewN nq).setCell ⟨w.heap.size, 0, none⟩ (.int .i64 v.k)).setCell ⟨w.heap.size, 1, none⟩ (.int .i64 v.n)).setCell ⟨w.heap.size, 2, none⟩ (.string v.s)).setCell ⟨w.heap.size, 3, none⟩ (.slice A1 n1 c1)).setCell ⟨w.heap.size, 4, none⟩ (.slice A2 n2 c2)).heap[b]? = w4.heap[b]? := fun b hb => (set5_other _ _ _ _ _ (by have := hb.1; omega)).trans (HG5.out.block b (by have := hb.2; omega) (by intro e; have := Option.some.inj e; have := hb.1; omega))
        obtain ⟨⟨b0, b1, b2, b3, b4⟩, ⟨g0, g1, g2, g3, g4⟩, hBw⟩ := cells5 HB5.out
        have hf := set5 (.int .i64 v.k) (.int .i64 v.n) (.string v.s) (.slice A1 n1 c1) (.slice A2 n2 c2) HB5.out
        have hbl : Below w.heap.size w (((((((w5.drewN nq).setCell ⟨w.heap.size, 0, none⟩ (.int .i64 v.k)).setCell ⟨w.heap.size, 1, none⟩ (.int .i64 v.n)).setCell ⟨w.heap.size, 2, none⟩ (.string v.s)).setCell ⟨w.heap.size, 3, none⟩ (.slice A1 n1 c1)).setCell ⟨w.heap.size, 4, none⟩ (.slice A2 n2 c2))) := (bel_set5 (bel_drewN HBW.out _) (Nat.le_refl _) (.int .i64 v.k) (.int .i64 v.n) (.string v.s) (.slice A1 n1 c1) (.slice A2 n2 c2))
        have hjj : JR (((((((w5.drewN nq).setCell ⟨w.heap.size, 0, none⟩ (.int .i64 v.k)).setCell ⟨w.heap.size, 1, none⟩ (.int .i64 v.n)).setCell ⟨w.heap.size, 2, none⟩ (.string v.s)).setCell ⟨w.heap.size, 3, none⟩ (.slice A1 n1 c1)).setCell ⟨w.heap.size, 4, none⟩ (.slice A2 n2 c2))) (fun b => w.heap.size ≤ b) v [.int .i64 v.k, .int .i64 v.n, .string v.s, .slice A1 n1 c1, .slice A2 n2 c2] := JR_mono (F := fun b => w2.heap.size ≤ b ∧ b < w3.heap.size) (fun b hb => by have := hb.1; omega) _ _ (JR_frame (w := w4) (F := fun b => w2.heap.size ≤ b ∧ b < w3.heap.size) hfr _ _ HJ4.out)
        have HF5 := Lib.hid hf; have HR5 := Lib.hid hbl; have HJJ := Lib.hid hjj
        clear hf hbl hjj
        go_wp2_with fail
        exact bodyPost_ret (results_row_tmp rfl _ _ w.heap.size 43 #[.int .i64 v.k, .int .i64 v.n, .string v.s, .slice A1 n1 c1, .slice A2 n2 c2] (0, 0) _ rfl HF5.out Tryz.underlying43 rfl (by kernel_rfl)) rfl ⟨_, _, _, _, _, _, rfl, HJJ.out, HR5.out⟩
    case neg =>
      have d0 : (y5.e == 0) = false := by simpa using he
      have dn : (y5.e != 0) = true := by simpa using he
      have hfe := HE2.out
      rw [show (if y5.e = 0 ∧ y5.p < s.size then y5.fail 4 else y5) = y5 from if_neg (fun h => he h.1), if_pos (by simpa using he)] at hfe
      subst hfe
      clear HE2
      go_wp2_with fail
      go_quiet (fail)
      go_upto_region 9 with (fail)
      obtain ⟨⟨b0, b1, b2, b3, b4⟩, ⟨g0, g1, g2, g3, g4⟩, hBw⟩ := cells5 HB5.out
      have hf := set5_drewN (nq + 1) (.int .i64 0) (.int .i64 0) (.string ⟨#[]⟩) (.slice none 0 0) (.slice none 0 0) HB5.out
      have hbl : Below w.heap.size w ((((((w5.setCell ⟨w.heap.size, 0, none⟩ (.int .i64 0)).setCell ⟨w.heap.size, 1, none⟩ (.int .i64 0)).setCell ⟨w.heap.size, 2, none⟩ (.string ⟨#[]⟩)).setCell ⟨w.heap.size, 3, none⟩ (.slice none 0 0)).setCell ⟨w.heap.size, 4, none⟩ (.slice none 0 0)).drewN (nq + 1)) := bel_drewN (bel_set5 HBW.out (Nat.le_refl _) (.int .i64 0) (.int .i64 0) (.string ⟨#[]⟩) (.slice none 0 0) (.slice none 0 0)) _
      have hjj : JR ((((((w5.setCell ⟨w.heap.size, 0, none⟩ (.int .i64 0)).setCell ⟨w.heap.size, 1, none⟩ (.int .i64 0)).setCell ⟨w.heap.size, 2, none⟩ (.string ⟨#[]⟩)).setCell ⟨w.heap.size, 3, none⟩ (.slice none 0 0)).setCell ⟨w.heap.size, 4, none⟩ (.slice none 0 0)).drewN (nq + 1)) (fun b => w.heap.size ≤ b) zeroV [.int .i64 0, .int .i64 0, .string ⟨#[]⟩, .slice none 0 0, .slice none 0 0] := zero_jr _ _
      have HF5 := Lib.hid hf; have HR5 := Lib.hid hbl; have HJJ := Lib.hid hjj
      clear hf hbl hjj
      refine PrintLast.wp_region_last_drew (S := fun w' => w'.cell? ⟨w.heap.size + 1, 2, none⟩ = some (.int .i64 y5.e)) (ds := []) (by kernel_rfl) ?_ (fun hHeld => ?_)
      · exact l2
      refine PrintLast.tk 0 (v := ?_) rfl (by assumption) ?_ ?_
      rotate_left
      · (intro w hSw; (try dsimp only at hSw); go_simp; try (with_reducible rfl))
      try simp only [lay]
      refine PrintLast.tk 1 (v := ?_) rfl (by assumption) ?_ ?_
      rotate_left
      · (intro w hSw; (try dsimp only at hSw); go_simp; try (with_reducible rfl))
      try simp only [lay]
      refine PrintLast.tk 2 (v := ?_) rfl (by assumption) ?_ ?_
      rotate_left
      · (intro w hSw; (try dsimp only at hSw); go_simp; try (with_reducible rfl))
      try simp only [lay]
      refine PrintLast.tk 3 (v := ?_) rfl (by assumption) ?_ ?_
      rotate_left
      · (intro w hSw; (try dsimp only at hSw); go_simp; try (with_reducible rfl))
      try simp only [lay]
      refine PrintLast.tk 4 (v := ?_) rfl (by assumption) ?_ ?_
      rotate_left
      · (intro w hSw; (try dsimp only at hSw); go_simp; try (with_reducible rfl))
      try simp only [lay]
      have HK := Lib.hid hHeld
      clear hHeld
      refine PrintLast.wpAnyLast_ready (rs := [5]) (by kernel_rfl) (by simp) ?_
      refine PrintLast.AllReadyL.cons rfl (by decide) (fun K hK => ?_) PrintLast.AllReadyL.nil
      rw [if_pos (by kernel_rfl)]
      go_simp
      try simp only [List.foldl_cons, List.foldl_nil, List.setIfInBounds_toArray, List.set_cons_zero, List.set_cons_succ, Nat.reduceAdd]
      refine hK.out _ _ ?_ (fun hHeld => ?_)
      · exact (keep5_drewN (nq + 1) (w := w5) (B := w.heap.size) (a := ⟨w.heap.size + 1, 2, none⟩) (.int .i64 0) (.int .i64 0) (.string ⟨#[]⟩) (.slice none 0 0) (.slice none 0 0) (by show w.heap.size + 1 ≠ w.heap.size; omega)).trans l2
      clear hK K
      try simp only [lay]
      clear HK
      refine PrintLast.tk 6 (v := ?_) rfl (by assumption) ?_ ?_
      rotate_left
      · (intro w hSw; (try dsimp only at hSw); go_simp; try (with_reducible rfl))
      try simp only [lay]
      refine PrintLast.wpAnyLast_done (by kernel_rfl) ?_ _
      go_wp2_with fail
      exact bodyPost_ret (results_row_tmp rfl _ _ w.heap.size 43 #[.int .i64 0, .int .i64 0, .string ⟨#[]⟩, .slice none 0 0, .slice none 0 0] (0, 0) _ rfl HF5.out Tryz.underlying43 rfl (by kernel_rfl)) rfl ⟨none, 0, 0, none, 0, 0, rfl, HJJ.out, HR5.out⟩
end Go.Proofs.YtlihjmfdnkfmfaaGreatDoor
namespace Go.Proofs.YtlihjmfdnkfmfaaGreatDoor
open Go.RowKit Go.Lib

/-- what stands behind place p -/
def rest (s : ByteArray) (p : Nat) : List UInt8 := s.data.toList.drop p
theorem rest_lt {s : ByteArray} {p : Nat} {c : UInt8} {r : List UInt8} (h : rest s p = c :: r) : p < s.size := by
  unfold rest at h
  have := congrArg List.length h
  simp at this
  have hz : s.data.size = s.size := rfl
  omega
theorem rest_byte {s : ByteArray} {p : Nat} {c : UInt8} {r : List UInt8} (h : rest s p = c :: r) : byteAt s p = c := by
  have hl := rest_lt h
  unfold rest at h
  rw [drop_byte hl] at h
  injection h
theorem rest_next {s : ByteArray} {p : Nat} {c : UInt8} {r : List UInt8} (h : rest s p = c :: r) : rest s (p + 1) = r := by
  have hl := rest_lt h
  unfold rest at h ⊢
  rw [drop_byte hl] at h
  injection h
theorem see_rest {s : ByteArray} {p : Nat} {c : UInt8} {r : List UInt8} (e : Int) (h : rest s p = c :: r) (hb : isBlank c = false) : (⟨p, e⟩ : St).see s = (c, ⟨p, e⟩) := by
  have hl := rest_lt h
  have hk := skip_stop (s := s) (q := p) (.inr (by rw [rest_byte h]; exact hb))
  unfold St.see St.blanks
  simp only [hk]
  rw [if_neg (by omega), rest_byte h]
theorem see_end {s : ByteArray} {p : Nat} (h : rest s p = []) : St.blanks s ⟨p, 0⟩ = ⟨p, 0⟩ := by
  have : ¬ p < s.size := by
    intro hl
    unfold rest at h
    rw [drop_byte hl] at h
    exact absurd h (by simp)
  have hk := skip_stop (s := s) (q := p) (.inl this)
  unfold St.blanks
  simp only [hk]
theorem dec_rest {s : ByteArray} {p : Nat} {c : UInt8} {r : List UInt8} (h : rest s p = c :: r) (hc : c.toNat < 128) : dec s p = (c.toNat, 1) := by
  have hl := rest_lt h
  have hb := rest_byte h
  unfold dec Lib.decodeGo
  have e : (s.extract p s.size).data.toList = c :: r := by
    rw [extract_data, List.take_of_length_le (by simp)]
    exact h
  generalize s.extract p s.size = t at *
  obtain ⟨⟨l⟩⟩ := t
  simp only at e
  subst e
  rw [if_neg (by simp [ByteArray.size])]
  exact decode_ascii (⟨⟨c :: r⟩⟩ : ByteArray) 0 (by simp [ByteArray.size]) (show c.toNat < 128 from hc)
theorem sign_rest {s : ByteArray} {p : Nat} {c : UInt8} {r : List UInt8} (h : rest s p = c :: r) (hc : c.toNat < 128) (h32 : 32 ≤ c.toNat) : signB s ⟨p, 0⟩ = (c.toNat, ⟨p + 1, 0⟩) := by
  have hl := rest_lt h
  unfold signB
  rw [dec_rest h hc]
  simp only
  rw [if_neg (by omega), if_neg (by omega)]
end Go.Proofs.YtlihjmfdnkfmfaaGreatDoor
namespace Go.Proofs.YtlihjmfdnkfmfaaGreatDoor
open Go.RowKit Go.Lib

theorem dec_small {u : Nat} (h : u < 10) : decDigits u = [UInt8.ofNat (48 + u)] := by rw [decDigits, dif_pos h]
theorem dec_big {u : Nat} (h : ¬ u < 10) : decDigits u = decDigits (u / 10) ++ [UInt8.ofNat (48 + u % 10)] := by rw [decDigits, dif_neg h]
theorem digit_nat {u : Nat} (h : u < 10) : (UInt8.ofNat (48 + u)).toNat = 48 + u := by
  rw [UInt8.toNat_ofNat']; omega
theorem dec_ind {P : Nat → Prop} (h0 : ∀ u, u < 10 → P u) (h1 : ∀ u, ¬ u < 10 → P (u / 10) → P u) : ∀ u, P u := fun u => by
  induction u using Nat.strongRecOn with
  | _ u ih =>
    by_cases h : u < 10
    · exact h0 u h
    · exact h1 u h (ih _ (by omega))
def sat (n : Int) (c : UInt8) : Int := min (n * 10 + ((c.toNat : Int) - 48)) 9007199254740992
theorem dec_fold : ∀ u : Nat, (decDigits u).foldl sat 0 = min (u : Int) 9007199254740992 := by
  refine dec_ind (fun u h => ?_) (fun u h ih => ?_)
  · rw [dec_small h]
    simp only [List.foldl_cons, List.foldl_nil, sat, digit_nat h]
    omega
  · rw [dec_big h, List.foldl_append, ih]
    simp only [List.foldl_cons, List.foldl_nil, sat, digit_nat (show u % 10 < 10 by omega)]
    omega
theorem dec_isDigit : ∀ u : Nat, ∀ c ∈ decDigits u, isDigit c = true := by
  refine dec_ind (fun u h => ?_) (fun u h ih => ?_)
  · rw [dec_small h]
    intro c hc
    obtain rfl := List.mem_singleton.1 hc
    simp only [isDigit, digit_nat h]; simp; omega
  · rw [dec_big h]
    intro c hc
    rcases List.mem_append.1 hc with hc | hc
    · exact ih c hc
    · obtain rfl := List.mem_singleton.1 hc
      simp only [isDigit, digit_nat (show u % 10 < 10 by omega)]; simp; omega
/-- the first digit, and that it is 0 for 0 alone -/
theorem dec_head : ∀ u : Nat, ∃ c r, decDigits u = c :: r ∧ (c = 48 → u = 0 ∧ r = []) := by
  refine dec_ind (fun u h => ?_) (fun u h ih => ?_)
  · refine ⟨_, [], dec_small h, fun e => ⟨?_, rfl⟩⟩
    have := congrArg UInt8.toNat e
    rw [digit_nat h] at this
    have h48 : (48 : UInt8).toNat = 48 := rfl
    omega
  · obtain ⟨c, r, e, hc⟩ := ih
    refine ⟨c, r ++ [_], by rw [dec_big h, e]; rfl, fun e => ?_⟩
    have := (hc e).1
    omega
/-- what stands behind is no digit -/
def NoDigit (l : List UInt8) : Prop := ∀ c r, l = c :: r → isDigit c = false
theorem digitB_rest {s : ByteArray} {p : Nat} {c : UInt8} {r : List UInt8} (h : rest s p = c :: r) : digitB s p = isDigit c := by
  unfold digitB
  rw [rest_byte h]
  simp [rest_lt h]
theorem rest_nil {s : ByteArray} {p : Nat} (h : rest s p = []) : ¬ p < s.size := by
  intro hl
  unfold rest at h
  rw [drop_byte hl] at h
  exact absurd h (by simp)
theorem digitB_no {s : ByteArray} {p : Nat} {l : List UInt8} (h : rest s p = l) (hl : NoDigit l) : digitB s p = false := by
  rcases l with _ | ⟨c, r⟩
  · unfold digitB
    simp [rest_nil h]
  · rw [digitB_rest h]; exact hl c r rfl
theorem anyB_rest {s : ByteArray} {p : Nat} {c : UInt8} {r : List UInt8} (l : List UInt8) (h : rest s p = c :: r) : anyB s l p = l.contains c := by
  unfold anyB
  rw [rest_byte h]
  simp [rest_lt h]
theorem anyB_nil {s : ByteArray} {p : Nat} (l : List UInt8) (h : rest s p = []) : anyB s l p = false := by
  unfold anyB
  simp [rest_nil h]
theorem numLoop_digits (s : ByteArray) (fr : Nat) : ∀ (l r : List UInt8) (n : Int) (p : Nat), rest s p = l ++ r → (∀ c ∈ l, isDigit c = true) → NoDigit r → numLoop s false fr (s.size - p) n p = (l.foldl sat n, p + l.length)
  | [], r, n, p, h, _, hr => by
    rw [numLoop_stop (.inl (digitB_no h hr))]
    rfl
  | c :: l, r, n, p, h, hl, hr => by
    have hc := hl c (List.mem_cons_self ..)
    rw [numLoop_step (by rw [digitB_rest h]; exact hc) (by simp), numLoop_digits s fr l r _ (p + 1) (rest_next h) (fun d hd => hl d (List.mem_cons_of_mem _ hd)) hr, rest_byte h]
    simp only [List.foldl_cons, List.length_cons, sat]
    congr 1; omega
/-- the digits of a number without sign -/
theorem numLoop_dec {s : ByteArray} {p u : Nat} {r : List UInt8} (h : rest s p = decDigits u ++ r) (hr : NoDigit r) :
    numLoop s (anyB s [48] p) p (s.size - p) 0 p = (min (u : Int) 9007199254740992, p + (decDigits u).length) := by
  obtain ⟨c, t, e, hc⟩ := dec_head u
  have h' := h
  rw [e] at h'
  have ha := anyB_rest [48] h'
  by_cases h0 : c = 48
  · obtain ⟨rfl, rfl⟩ := hc h0
    subst h0
    rw [ha, numLoop_step (by rw [digitB_rest h']; rfl) (by simp), numLoop_stop (.inl (digitB_no (rest_next h') hr)), rest_byte h', e]
    rfl
  · have hf : anyB s [48] p = false := by rw [ha]; simpa using h0
    rw [hf, numLoop_digits s p (decDigits u) r 0 p h (dec_isDigit u) hr, dec_fold]
theorem dec_ne (u : Nat) : 1 ≤ (decDigits u).length := by
  obtain ⟨c, r, e, _⟩ := dec_head u
  rw [e]; simp
def signL (neg : Bool) : List UInt8 := if neg then [45] else []
theorem digit_ne {c d : UInt8} (h : isDigit c = true) (hd : isDigit d = false) : c ≠ d := fun e => by rw [e, hd] at h; exact absurd h (by decide)
theorem drop_rest {s : ByteArray} {p : Nat} {l r : List UInt8} (h : rest s p = l ++ r) : rest s (p + l.length) = r := by
  unfold rest at h ⊢
  rw [← List.drop_drop, h, List.drop_left]
theorem number_dec {s : ByteArray} {p u : Nat} {r : List UInt8} (neg : Bool) (h : rest s p = signL neg ++ (decDigits u ++ r)) (hr : NoDigit r) :
    numberB s ⟨p, 0⟩ = (numV ((if neg then -1 else 1) * min (u : Int) 9007199254740992),
      if anyB s [46, 101, 69] (p + (signL neg).length + (decDigits u).length) = true then ⟨p + (signL neg).length + (decDigits u).length, 4⟩
      else if 9007199254740991 < min (u : Int) 9007199254740992 then ⟨p + (signL neg).length + (decDigits u).length, 1⟩ else ⟨p + (signL neg).length + (decDigits u).length, 0⟩) := by
  have h1 : rest s (p + (signL neg).length) = decDigits u ++ r := drop_rest h
  have hneg : anyB s [45] p = neg := by
    cases neg
    · obtain ⟨c, t, e, _⟩ := dec_head u
      have hc : isDigit c = true := dec_isDigit u c (by rw [e]; exact List.mem_cons_self ..)
      have h' : rest s p = c :: (t ++ r) := by rw [h, e]; rfl
      rw [anyB_rest [45] h']
      simpa using digit_ne hc (d := 45) (by decide)
    · rw [anyB_rest [45] h]; rfl
  have hst : (if anyB s [45] p = true then St.step ⟨p, 0⟩ else ⟨p, 0⟩) = (⟨p + (signL neg).length, 0⟩ : St) := by
    rw [hneg]; cases neg <;> rfl
  have hlt : p + (signL neg).length < s.size := by
    obtain ⟨c, t, e, _⟩ := dec_head u
    rw [e] at h1
    exact rest_lt h1
  have hns : numStart s ⟨p + (signL neg).length, 0⟩ = ⟨p + (signL neg).length, 0⟩ := by
    unfold numStart
    rw [if_neg (by simp only; omega)]
  have hlp := numLoop_dec h1 hr
  have hnd : digitB s (p + (signL neg).length + (decDigits u).length) = false := digitB_no (drop_rest h1) hr
  have hlen := dec_ne u
  unfold numberB
  simp only
  rw [hst, hns, hneg]
  unfold numEnd
  simp only [hlp, hnd]
  congr 1
  by_cases ha : anyB s [46, 101, 69] (p + (signL neg).length + (decDigits u).length) = true
  · rw [if_pos (.inr (.inl ha)), if_pos ha]; rfl
  · rw [if_neg (by rintro (h | h | h); · omega
                   · exact ha h
                   · exact absurd h.2 (by decide)), if_neg ha]
    rfl
/-! the whole text -/
theorem dec_length : ∀ (k u : Nat), u < 10 ^ (k + 1) → (decDigits u).length ≤ k + 1
  | 0, u, h => by rw [dec_small (by omega)]; simp
  | k + 1, u, h => by
    by_cases h0 : u < 10
    · rw [dec_small h0]; simp
    · rw [dec_big h0]
      rw [Nat.pow_succ] at h
      have := dec_length k (u / 10) (by generalize 10 ^ (k + 1) = T at *; omega)
      simp; omega
theorem itoa_sign (n : Int) : Lib.itoa n = signL (decide (n < 0)) ++ decDigits n.natAbs := by
  unfold Lib.itoa signL
  by_cases h : n < 0
  · simp [h]
  · simp only [h, decide_false, if_false, Bool.false_eq_true, List.nil_append]
    congr 1; omega
theorem itoa_len (n : Int) (h1 : -9223372036854775808 ≤ n) (h2 : n < 9223372036854775808) : (Lib.itoa n).length ≤ 20 := by
  rw [itoa_sign]
  have := dec_length 18 n.natAbs (by have : (10 : Nat) ^ (18 + 1) = 10000000000000000000 := by decide
                                     omega)
  have hs : (signL (decide (n < 0))).length ≤ 1 := by unfold signL; split <;> simp
  simp; omega
theorem itoa_head (n : Int) : ∃ c r, Lib.itoa n = c :: r ∧ (c = 45 ∨ isDigit c = true) := by
  obtain ⟨c, t, e, _⟩ := dec_head n.natAbs
  rw [itoa_sign]
  by_cases h : n < 0
  · exact ⟨45, decDigits n.natAbs, by simp [signL, h], .inl rfl⟩
  · exact ⟨c, t, by simp [signL, h, e], .inr (dec_isDigit _ c (by rw [e]; exact List.mem_cons_self ..))⟩
theorem num_ne {c d : UInt8} (h : c = 45 ∨ isDigit c = true) (h1 : d ≠ 45) (h2 : isDigit d = false) : c ≠ d := by
  rcases h with rfl | h
  · exact fun e => h1 e.symm
  · exact digit_ne h h2
theorem num_blank {c : UInt8} (h : c = 45 ∨ isDigit c = true) : isBlank c = false := by
  have h1 := num_ne h (d := 32) (by decide) (by decide)
  have h2 := num_ne h (d := 9) (by decide) (by decide)
  have h3 := num_ne h (d := 10) (by decide) (by decide)
  have h4 := num_ne h (d := 13) (by decide) (by decide)
  simp [isBlank, h1, h2, h3, h4]
theorem value_num {s : ByteArray} {p : Nat} {c : UInt8} {r : List UInt8} (d : Nat) (h : rest s p = c :: r) (hc : c = 45 ∨ isDigit c = true) : valueB s (d + 1) ⟨p, 0⟩ = numberB s ⟨p, 0⟩ := by
  have hs := see_rest 0 h (num_blank hc)
  simp only [valueB, hs]
  rw [if_neg (by decide), if_neg (num_ne hc (by decide) (by decide)), if_neg (num_ne hc (by decide) (by decide)), if_neg (num_ne hc (by decide) (by decide)), if_neg (num_ne hc (by decide) (by decide)), if_neg (num_ne hc (by decide) (by decide)), if_neg (num_ne hc (by decide) (by decide))]
theorem value_itoa {s : ByteArray} {p : Nat} {n : Int} {r : List UInt8} (d : Nat) (h : rest s p = Lib.itoa n ++ r) (hr : NoDigit r) :
    valueB s (d + 1) ⟨p, 0⟩ = (numV ((if n < 0 then -1 else 1) * min (n.natAbs : Int) 9007199254740992),
      if anyB s [46, 101, 69] (p + (Lib.itoa n).length) = true then ⟨p + (Lib.itoa n).length, 4⟩
      else if 9007199254740991 < min (n.natAbs : Int) 9007199254740992 then ⟨p + (Lib.itoa n).length, 1⟩ else ⟨p + (Lib.itoa n).length, 0⟩) := by
  obtain ⟨c, t, e, hc⟩ := itoa_head n
  have h' := h
  rw [e] at h'
  rw [value_num d h' hc]
  rw [itoa_sign, List.append_assoc] at h
  have hn := number_dec (decide (n < 0)) h hr
  rw [hn, itoa_sign, List.length_append, Nat.add_assoc]
  simp
theorem rest_zero (l : List UInt8) : rest ⟨l.toArray⟩ 0 = l := by simp [rest]
theorem list_size (l : List UInt8) : (⟨l.toArray⟩ : ByteArray).size = l.length := by simp [ByteArray.size]
theorem endB_err {s : ByteArray} {y : St} (h : y.e ≠ 0) : (endB s y).e = y.e := by
  have hb : (y.blanks s).e = y.e := rfl
  unfold endB
  rw [if_neg (by rw [hb]; exact fun h1 => h h1.1)]
  exact hb
end Go.Proofs.YtlihjmfdnkfmfaaGreatDoor
