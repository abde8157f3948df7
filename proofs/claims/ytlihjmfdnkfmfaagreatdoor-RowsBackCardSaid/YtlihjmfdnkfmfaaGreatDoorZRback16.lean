/- Parts of the proof: Ps, Ot, Kc, Oi, Nd. -/
import Derived.Test.YtlihjmfdnkfmfaaGreatDoorZRback15
import Derived.Lib.SlBytesRow
import Derived.Lib.BufferRead
import Derived.Laws.Rows
import Derived.Test.YtlihjmfdnkfmfaaGreatDoorZRback11
import Derived.Test.YtlihjmfdnkfmfaaGreatDoorZRback13
namespace Go.Proofs.YtlihjmfdnkfmfaaGreatDoor
open Go.RowKit Go.Lib

theorem run_convert_empty {P : Program} (w : World) (src dst e : TypeId) (A : Option Addr) (c : Nat) (hs : P.underlying src = some (.slice e)) (he : P.underlying e = some (.int .u8)) (hd : P.underlying dst = some .string) :
    (convert src dst (.slice A 0 c)).run P w = .ok (.string ⟨#[]⟩) w := by
  rw [run_convert_bytes_string w src dst e A 0 c hs he hd]
  cases A with
  | none => simp [Conv.bytesToString]; rfl
  | some a => simp [Conv.bytesToString, loadCells]; rfl
/-- a slice of bytes reads as these bytes -/
def BSl (w : World) (F : Nat → Prop) (v : Value) (s : ByteArray) : Prop := (∃ b o c, v = .slice (some ⟨b, o, none⟩) s.size c ∧ F b ∧ Lib.Bytes w b o s) ∨ (s.size = 0 ∧ ∃ A c, v = .slice A 0 c)
theorem BSl.frame {w w' : World} {F : Nat → Prop} {v : Value} {s : ByteArray} (h : ∀ k, F k → w'.heap[k]? = w.heap[k]?) (hb : BSl w F v s) : BSl w' F v s := by
  rcases hb with ⟨b, o, c, rfl, hF, hc⟩ | hb
  · exact .inl ⟨b, o, c, rfl, hF, fun i hi => (World.cell?_of_block (w := w) (a := ⟨b, o + i, none⟩) (h b hF)).trans (hc i hi)⟩
  · exact .inr hb
theorem BSl.form {w : World} {F : Nat → Prop} {v : Value} {s : ByteArray} (hb : BSl w F v s) : ∃ A c, v = .slice A s.size c := by
  rcases hb with ⟨b, o, c, rfl, hF, hc⟩ | ⟨h0, A, c, rfl⟩
  · exact ⟨_, _, rfl⟩
  · exact ⟨_, _, by rw [h0]⟩
theorem BSl.conv {w : World} {F : Nat → Prop} {v : Value} {s : ByteArray} (hb : BSl w F v s) : (convert 22 9 v).run Tryz.prog w = .ok (.string s) w := by
  rcases hb with ⟨b, o, c, rfl, hF, hc⟩ | ⟨h0, A, c, rfl⟩
  · exact Lib.run_convert_whole w _ 5 _ Tryz.underlying22 Tryz.underlying5 Tryz.underlying9 b o s hc c
  · have : s = ⟨#[]⟩ := by
      apply ByteArray.ext
      apply Array.eq_empty_of_size_eq_zero
      exact h0
    subst this
    exact run_convert_empty w 22 9 5 A c Tryz.underlying22 Tryz.underlying5 Tryz.underlying9
def endB (s : ByteArray) (y : St) : St := if (y.blanks s).e = 0 ∧ (y.blanks s).p < s.size then (y.blanks s).fail 4 else y.blanks s
def parseB (s : ByteArray) : JV × Int :=
  if 20000 < s.size then (zeroV, 3)
  else if (endB s (valueB s 64 ⟨0, 0⟩).2).e ≠ 0 then (zeroV, (endB s (valueB s 64 ⟨0, 0⟩).2).e)
  else ((valueB s 64 ⟨0, 0⟩).1, 0)
theorem results_row_tmp {P : Program} {fn : Func} {p u : Tmp} {ty : TypeId} (h : fn.results = #[.cell p ty, .tmp u]) (tmps : Array Value) (w : World) (g : Nat) (t : TypeId) (cs : Array Value) (fr : Nat × Nat) (d : TypeDesc)
    (hp : tmps.getD p undef = .pointer (some ⟨g, 0, none⟩)) (hg : w.heap[g]? = some (.cells cs t fr))
    (hu : P.underlying ty = some d) (hd : (match d with | .struct _ | .array _ _ => true | _ => false) = true) (hi : (P.info? ty).map (·.size) = some cs.size) :
    (results fn tmps).run P w = .ok (.tuple #[.agg cs, tmps.getD u undef]) w := by
  have hp' : tmps[p]?.getD undef = .pointer (some ⟨g, 0, none⟩) := by simpa using hp
  simp [results, h, hp', asAddr, run_loadVar_row w g t ty cs fr d hg hu hd hi]
theorem bel_set5 {n B : Nat} {w w1 : World} (h : Below n w w1) (hB : n ≤ B) (v0 v1 v2 v3 v4 : Value) : Below n w (((((w1.setCell ⟨B, 0, none⟩ v0).setCell ⟨B, 1, none⟩ v1).setCell ⟨B, 2, none⟩ v2).setCell ⟨B, 3, none⟩ v3).setCell ⟨B, 4, none⟩ v4) :=
  ((((h.setCell (p := ⟨B, 0, none⟩) hB v0).setCell (p := ⟨B, 1, none⟩) hB v1).setCell (p := ⟨B, 2, none⟩) hB v2).setCell (p := ⟨B, 3, none⟩) hB v3).setCell (p := ⟨B, 4, none⟩) hB v4
theorem drew_heap (X : World) : X.drew.heap = X.heap := rfl
theorem drewN_heap (X : World) (n : Nat) : (X.drewN n).heap = X.heap := rfl
theorem drew_cell (X : World) (a : Addr) : X.drew.cell? a = X.cell? a := World.cell?_of_block (w := X) (by rw [drew_heap])
theorem drewN_cell (X : World) (n : Nat) (a : Addr) : (X.drewN n).cell? a = X.cell? a := World.cell?_of_block (w := X) (by rw [drewN_heap])
theorem set5_drew {w : World} {B : Nat} {T : TypeId} {fz : Nat × Nat} {a0 a1 a2 a3 a4 : Value} (v0 v1 v2 v3 v4 : Value) (h : w.heap[B]? = some (.cells #[a0, a1, a2, a3, a4] T fz)) : ((((((w.setCell ⟨B, 0, none⟩ v0).setCell ⟨B, 1, none⟩ v1).setCell ⟨B, 2, none⟩ v2).setCell ⟨B, 3, none⟩ v3).setCell ⟨B, 4, none⟩ v4).drew).heap[B]? = some (.cells #[v0, v1, v2, v3, v4] T fz) := by
  rw [drew_heap]
  exact set5 v0 v1 v2 v3 v4 h
theorem set5_drewN (n : Nat) {w : World} {B : Nat} {T : TypeId} {fz : Nat × Nat} {a0 a1 a2 a3 a4 : Value} (v0 v1 v2 v3 v4 : Value) (h : w.heap[B]? = some (.cells #[a0, a1, a2, a3, a4] T fz)) : ((((((w.setCell ⟨B, 0, none⟩ v0).setCell ⟨B, 1, none⟩ v1).setCell ⟨B, 2, none⟩ v2).setCell ⟨B, 3, none⟩ v3).setCell ⟨B, 4, none⟩ v4).drewN n).heap[B]? = some (.cells #[v0, v1, v2, v3, v4] T fz) := by
  rw [drewN_heap]
  exact set5 v0 v1 v2 v3 v4 h
theorem keep5_drew {w : World} {B : Nat} {a : Addr} (v0 v1 v2 v3 v4 : Value) (h : a.block ≠ B) : ((((((w.setCell ⟨B, 0, none⟩ v0).setCell ⟨B, 1, none⟩ v1).setCell ⟨B, 2, none⟩ v2).setCell ⟨B, 3, none⟩ v3).setCell ⟨B, 4, none⟩ v4).drew).cell? a = w.cell? a := by
  rw [drew_cell]
  exact World.cell?_of_block (w := w) (set5_other v0 v1 v2 v3 v4 h)
theorem keep5_drewN (n : Nat) {w : World} {B : Nat} {a : Addr} (v0 v1 v2 v3 v4 : Value) (h : a.block ≠ B) : ((((((w.setCell ⟨B, 0, none⟩ v0).setCell ⟨B, 1, none⟩ v1).setCell ⟨B, 2, none⟩ v2).setCell ⟨B, 3, none⟩ v3).setCell ⟨B, 4, none⟩ v4).drewN n).cell? a = w.cell? a := by
  rw [drewN_cell]
  exact World.cell?_of_block (w := w) (set5_other v0 v1 v2 v3 v4 h)
def PRes (s : ByteArray) (w : World) (z : Ending) (w' : World) : Prop := ∃ (A1 : Option Addr) (n1 c1 : Nat) (A2 : Option Addr) (n2 c2 : Nat),
  z = .returned (.tuple #[.agg #[.int .i64 (parseB s).1.k, .int .i64 (parseB s).1.n, .string (parseB s).1.s, .slice A1 n1 c1, .slice A2 n2 c2], .int .i64 (parseB s).2]) ∧
  JR w' (fun b => w.heap.size ≤ b) (parseB s).1 [.int .i64 (parseB s).1.k, .int .i64 (parseB s).1.n, .string (parseB s).1.s, .slice A1 n1 c1, .slice A2 n2 c2] ∧ Below w.heap.size w w'
theorem reader_alloc (w : World) (s : ByteArray) : RdAt 148 w.heap.size s 0 0 (w.alloc (.cells #[.string s, .int .i64 0, .int .i64 0] 148)) := heap_alloc_new w _
set_option maxRecDepth 100000 in
set_option maxHeartbeats 8000000 in
theorem parse_any (s : ByteArray) (v : Value) (F : Nat → Prop) (w : World) (hT : Tabs w) (hb : BSl w F v s) :
    Calls Tryz.prog 20 #[v] w (PRes s w) := by
  have hbB : ∀ w', Below w.heap.size w w' → BSl w' (fun b => True) v s := fun w' hw => by
    rcases hb with ⟨b, o, c, rfl, hF, hc⟩ | hb
    · exact .inl ⟨b, o, c, rfl, trivial, fun i hi => by
        have hlt : b < w.heap.size := World.block_lt_of_cell? w _ (hc i hi)
        exact (World.cell?_of_block (w := w) (a := ⟨b, o + i, none⟩) (hw.block b hlt)).trans (hc i hi)⟩
    · exact .inr hb
  have hA : Below w.heap.size w (w.alloc (.cells #[.int .i64 0, .int .i64 0, .string ⟨#[]⟩, .slice none 0 0, .slice none 0 0] 43)) := bel_alloc (Below.refl _ _) _
  have hcv := (hbB _ hA).conv
  obtain ⟨A, c, rfl⟩ := hb.form
  have hb0 := heap_alloc_new w (.cells #[.int .i64 0, .int .i64 0, .string ⟨#[]⟩, .slice none 0 0, .slice none 0 0] 43)
  have HB0 := Lib.hid hb0; have HA := Lib.hid hA; have HT := Lib.hid hT
  have hE : parseB s = (if 20000 < s.size then (zeroV, 3) else if (endB s (valueB s 64 ⟨0, 0⟩).2).e ≠ 0 then (zeroV, (endB s (valueB s 64 ⟨0, 0⟩).2).e) else ((valueB s 64 ⟨0, 0⟩).1, 0)) := rfl
  unfold PRes
  clear hb hbB hA hb0 hT
  generalize parseB s = res at *
  by_cases hlen : 20000 < s.size
  case pos =>
    rw [if_pos hlen] at hE
    subst hE
    have hd : decide ((20000 : Int) < (s.size : Int)) = true := by simp; omega
    clear hcv
    go_enter Tryz.func20, Tryz.ntmps20
    go_upto_region 2 with (fail)
    generalize w.alloc (.cells #[.int .i64 0, .int .i64 0, .string ⟨#[]⟩, .slice none 0 0, .slice none 0 0] 43) = W1 at *
    obtain ⟨⟨b0, b1, b2, b3, b4⟩, ⟨g0, g1, g2, g3, g4⟩, hBw⟩ := cells5 HB0.out
    have hf := set5 (.int .i64 0) (.int .i64 0) (.string ⟨#[]⟩) (.slice none 0 0) (.slice none 0 0) HB0.out
    have hbl : Below w.heap.size w (((((W1.setCell ⟨w.heap.size, 0, none⟩ (.int .i64 0)).setCell ⟨w.heap.size, 1, none⟩ (.int .i64 0)).setCell ⟨w.heap.size, 2, none⟩ (.string ⟨#[]⟩)).setCell ⟨w.heap.size, 3, none⟩ (.slice none 0 0)).setCell ⟨w.heap.size, 4, none⟩ (.slice none 0 0)) := bel_set5 HA.out (Nat.le_refl _) (.int .i64 0) (.int .i64 0) (.string ⟨#[]⟩) (.slice none 0 0) (.slice none 0 0)
    have hjj : JR (((((W1.setCell ⟨w.heap.size, 0, none⟩ (.int .i64 0)).setCell ⟨w.heap.size, 1, none⟩ (.int .i64 0)).setCell ⟨w.heap.size, 2, none⟩ (.string ⟨#[]⟩)).setCell ⟨w.heap.size, 3, none⟩ (.slice none 0 0)).setCell ⟨w.heap.size, 4, none⟩ (.slice none 0 0)) (fun b => w.heap.size ≤ b) zeroV [.int .i64 0, .int .i64 0, .string ⟨#[]⟩, .slice none 0 0, .slice none 0 0] := zero_jr _ _
    have HF5 := Lib.hid hf; have HR5 := Lib.hid hbl; have HJJ := Lib.hid hjj
    clear hf hbl hjj
    go_wp2_with fail
    exact bodyPost_ret (results_row_tmp rfl _ _ w.heap.size 43 #[.int .i64 0, .int .i64 0, .string ⟨#[]⟩, .slice none 0 0, .slice none 0 0] (0, 0) _ rfl HF5.out Tryz.underlying43 rfl (by kernel_rfl)) rfl ⟨none, 0, 0, none, 0, 0, rfl, HJJ.out, HR5.out⟩
  case neg =>
    rw [if_neg hlen] at hE
    have hd : decide ((20000 : Int) < (s.size : Int)) = false := by simp; omega
    have hrd := reader_alloc (w.alloc (.cells #[.int .i64 0, .int .i64 0, .string ⟨#[]⟩, .slice none 0 0, .slice none 0 0] 43)) s
    have hA2 := bel_alloc HA.out (.cells #[.string s, .int .i64 0, .int .i64 0] 148)
    have hb2 := heap_alloc2_old w (.cells #[.int .i64 0, .int .i64 0, .string ⟨#[]⟩, .slice none 0 0, .slice none 0 0] 43) (.cells #[.string s, .int .i64 0, .int .i64 0] 148)
    have hs2 : (w.alloc (.cells #[.int .i64 0, .int .i64 0, .string ⟨#[]⟩, .slice none 0 0, .slice none 0 0] 43)).heap.size = w.heap.size + 1 := by show (w.heap.push _).size = _; simp
    rw [hs2] at hrd
    have HRD := Lib.hid hrd; have HA2 := Lib.hid hA2; have HB2 := Lib.hid hb2
    have hva := fun w2 h1 h2 => value_at s (by omega) 64 (by decide) w (w.heap.size + 1) ⟨0, 0⟩ w2 HT.out h1 (by omega) rfl (Nat.zero_le _) h2
    have HVA := Lib.hid hva; have HE := Lib.hid hE
    clear hrd hA2 hb2 hva hE
    generalize valueB s 64 ⟨0, 0⟩ = r at *
    obtain ⟨v0, y⟩ := r
    simp only at HE
    go_enter Tryz.func20, Tryz.ntmps20
    go_upto_region 4 with (fail)
    generalize (w.alloc (.cells #[.int .i64 0, .int .i64 0, .string ⟨#[]⟩, .slice none 0 0, .slice none 0 0] 43)).alloc (.cells #[.string s, .int .i64 0, .int .i64 0] 148) = w2 at *
    clear hcv hs2
    have hRw2 : w.heap.size + 1 < w2.heap.size := HRD.out.cells.2.2.2.2.2.2
    go_wp2_with fail
    refine Calls.mono (HVA.out w2 HA2.out HRD.out) ?_
    rintro e w3 ⟨v, A1, n1, c1, A2, n2, c2, rfl, hjr, heq, hp3⟩
    try simp only at hp3
    have hb3 := hp3.keep (B := w.heap.size) HB2.out (by omega)
    have hsz3 := hp3.2.size
    have hA4 : Below w3.heap.size w3 (w3.alloc (.cells #[.int .i64 v.k, .int .i64 v.n, .string v.s, .slice A1 n1 c1, .slice A2 n2 c2] 43)) := bel_alloc (Below.refl _ _) _
    have hc4 := heap_alloc_new w3 (.cells #[.int .i64 v.k, .int .i64 v.n, .string v.s, .slice A1 n1 c1, .slice A2 n2 c2] 43)
    have hw3B : w.heap.size < w3.heap.size := (Array.getElem?_eq_some_iff.1 hb3).1
    have hp4 := RdPost.below hp3 hA4
    have hs34 := hA4.size
    have hb4 := (hA4.block w.heap.size hw3B).trans hb3
    have hj4 := JR_mono (F' := fun b => w2.heap.size ≤ b ∧ b < w3.heap.size) (fun b hb => hb) _ _ (JR_frame (w' := w3.alloc (.cells #[.int .i64 v.k, .int .i64 v.n, .string v.s, .slice A1 n1 c1, .slice A2 n2 c2] 43)) (fun b hb => hA4.block b hb.2) _ _ (JR_bound _ _ hjr))
    have HB4 := Lib.hid hb4; have HC4 := Lib.hid hc4; have HP4 := Lib.hid hp4; have HJ4 := Lib.hid hj4; have HEQ := Lib.hid heq
    clear hb3 hA4 hc4 hp4 hb4 hj4 heq hjr hp3 HVA HB2
    go_upto_region 5 with (fail)
    generalize w3.alloc (.cells #[.int .i64 v.k, .int .i64 v.n, .string v.s, .slice A1 n1 c1, .slice A2 n2 c2] 43) = w4 at *
    have hbl := blanks_any (w.heap.size + 1) s y w4 (by omega) HP4.out.1
    have hbe : (y.blanks s).e = y.e := rfl
    have hEE := HE.out
    unfold endB at hEE
    have HBL := Lib.hid hbl; have HE2 := Lib.hid hEE; have HBE := Lib.hid hbe
    clear hbl hEE HE hbe
    generalize y.blanks s = y5 at *
    go_wp2_with fail
    refine Calls.mono HBL.out ?_
    rintro e w5 ⟨rfl, hp5⟩
    have hb5 := hp5.keep (B := w.heap.size) HB4.out (by omega)
    have hc5 := hp5.keep (B := w3.heap.size) HC4.out (by omega)
    have hpp5 := HP4.out.trans hp5
    have hsz4 := HP4.out.2.size
    obtain ⟨l0, l1, l2, _, f1, _, hRw⟩ := hpp5.1.cells
    have hbw5 := HA2.out.grown hpp5.2 HA2.out.size (fun j hj => by have := Option.some.inj hj; omega)
    have HG5 := Lib.hid hp5.2
    have HB5 := Lib.hid hb5; have HC5 := Lib.hid hc5; have HP5 := Lib.hid hpp5; have HBW := Lib.hid hbw5
    clear hp5 hb5 hc5 hpp5 hbw5 HB4 HC4 HP4
    by_cases he : y5.e = 0
    case pos =>
      have d0 : (y5.e == 0) = true := by simpa using he
      by_cases hlt : y5.p < s.size
      case pos =>
        have hltz : (y5.p : Int) < (s.size : Int) := by omega
        have hd2 : decide ((y5.p : Int) < (s.size : Int)) = true := by simpa using hltz
        have hfe := HE2.out
        rw [show (if y5.e = 0 ∧ y5.p < s.size then y5.fail 4 else y5) = y5.fail 4 from if_pos ⟨he, hlt⟩] at hfe
        have hze : (y5.fail 4).e = 4 := by unfold St.fail; rw [if_pos he]
        rw [if_pos (by rw [hze]; decide), hze] at hfe
        subst hfe
        have hfl := fun n => fail_any (w.heap.size + 1) s y5 4 (w5.drewN n) (HP5.out.1.drewN n)
        have HFL := Lib.hid hfl; have HZE := Lib.hid hze
        clear hfl HE2 hze
        go_wp2_with fail
        go_quiet (fail)
        go_wp2_with fail
        refine Calls.mono (HFL.out _) ?_
        rintro e w6 ⟨rfl, hp6⟩
        have hb6 := hp6.keep (B := w.heap.size) HB5.out (by omega)
        have hp6' := (HP5.out.drewN _).trans hp6
        rw [HZE.out] at hp6'
        obtain ⟨l0, l1, l2, _, f1, _, hRw⟩ := hp6'.1.cells
        have hbw6 := HA2.out.grown hp6'.2 HA2.out.size (fun j hj => by have := Option.some.inj hj; omega)
        have HB6 := Lib.hid hb6; have HBW6 := Lib.hid hbw6
        clear hp6 hb6 hp6' hbw6
        go_upto_region 9 with (fail)
        obtain ⟨⟨b0, b1, b2, b3, b4⟩, ⟨g0, g1, g2, g3, g4⟩, hBw⟩ := cells5 HB6.out
        have hf := set5_drew (.int .i64 0) (.int .i64 0) (.string ⟨#[]⟩) (.slice none 0 0) (.slice none 0 0) HB6.out
        have hbl : Below w.heap.size w ((((((w6.setCell ⟨w.heap.size, 0, none⟩ (.int .i64 0)).setCell ⟨w.heap.size, 1, none⟩ (.int .i64 0)).setCell ⟨w.heap.size, 2, none⟩ (.string ⟨#[]⟩)).setCell ⟨w.heap.size, 3, none⟩ (.slice none 0 0)).setCell ⟨w.heap.size, 4, none⟩ (.slice none 0 0)).drew) := bel_drew (bel_set5 HBW6.out (Nat.le_refl _) (.int .i64 0) (.int .i64 0) (.string ⟨#[]⟩) (.slice none 0 0) (.slice none 0 0))
        have hjj : JR ((((((w6.setCell ⟨w.heap.size, 0, none⟩ (.int .i64 0)).setCell ⟨w.heap.size, 1, none⟩ (.int .i64 0)).setCell ⟨w.heap.size, 2, none⟩ (.string ⟨#[]⟩)).setCell ⟨w.heap.size, 3, none⟩ (.slice none 0 0)).setCell ⟨w.heap.size, 4, none⟩ (.slice none 0 0)).drew) (fun b => w.heap.size ≤ b) zeroV [.int .i64 0, .int .i64 0, .string ⟨#[]⟩, .slice none 0 0, .slice none 0 0] := zero_jr _ _
        have HF5 := Lib.hid hf; have HR5 := Lib.hid hbl; have HJJ := Lib.hid hjj
        clear hf hbl hjj
        refine PrintLast.wp_region_last_drew (S := fun w' => w'.cell? ⟨w.heap.size + 1, 2, none⟩ = some (.int .i64 4)) (ds := []) (by kernel_rfl) ?_ (fun hHeld => ?_)
        · exact l2
        refine PrintLast.tk 0 (v := ?_) rfl (by assumption) ?_ ?_
        rotate_left
        · (intro w hSw; (try dsimp only at hSw); go_simp; try (with_reducible rfl))
        try simp only [lay]
        refine PrintLast.tk 1 (v := ?_) rfl (by assumption) ?_ ?_
        rotate_left
        · (intro w hSw; (try dsimp only at hSw); go_simp; try (with_reducible rfl))
        try simp only [lay]
        refine PrintLast.tk 2 (v := ?_) rfl (by assumption) ?_ ?_
        rotate_left
        · (intro w hSw; (try dsimp only at hSw); go_simp; try (with_reducible rfl))
        try simp only [lay]
        refine PrintLast.tk 3 (v := ?_) rfl (by assumption) ?_ ?_
        rotate_left
        · (intro w hSw; (try dsimp only at hSw); go_simp; try (with_reducible rfl))
        try simp only [lay]
        refine PrintLast.tk 4 (v := ?_) rfl (by assumption) ?_ ?_
        rotate_left
        · (intro w hSw; (try dsimp only at hSw); go_simp; try (with_reducible rfl))
        try simp only [lay]
        have HK := Lib.hid hHeld
        clear hHeld
        refine PrintLast.wpAnyLast_ready (rs := [5]) (by kernel_rfl) (by simp) ?_
        refine PrintLast.AllReadyL.cons rfl (by decide) (fun K hK => ?_) PrintLast.AllReadyL.nil
        rw [if_pos (by kernel_rfl)]
        go_simp
        try simp only [List.foldl_cons, List.foldl_nil, List.setIfInBounds_toArray, List.set_cons_zero, List.set_cons_succ, Nat.reduceAdd]
        refine hK.out _ _ ?_ (fun hHeld => ?_)
        · exact (keep5_drew (w := w6) (B := w.heap.size) (a := ⟨w.heap.size + 1, 2, none⟩) (.int .i64 0) (.int .i64 0) (.string ⟨#[]⟩) (.slice none 0 0) (.slice none 0 0) (by show w.heap.size + 1 ≠ w.heap.size; omega)).trans l2
        clear hK K
        try simp only [lay]
        clear HK
        refine PrintLast.tk 6 (v := ?_) rfl (by assumption) ?_ ?_
        rotate_left
        · (intro w hSw; (try dsimp only at hSw); go_simp; try (with_reducible rfl))
        try simp only [lay]
        refine PrintLast.wpAnyLast_done (by kernel_rfl) ?_ _
        go_wp2_with fail
        exact bodyPost_ret (results_row_tmp rfl _ _ w.heap.size 43 #[.int .i64 0, .int .i64 0, .string ⟨#[]⟩, .slice none 0 0, .slice none 0 0] (0, 0) _ rfl HF5.out Tryz.underlying43 rfl (by kernel_rfl)) rfl ⟨none, 0, 0, none, 0, 0, rfl, HJJ.out, HR5.out⟩
      case neg =>
        have hltz : ¬ (y5.p : Int) < (s.size : Int) := by omega
        have hd2 : decide ((y5.p : Int) < (s.size : Int)) = false := by simpa using hltz
        have hfe := HE2.out
        rw [show (if y5.e = 0 ∧ y5.p < s.size then y5.fail 4 else y5) = y5 from if_neg (fun h => hlt h.2), if_neg (by simpa using he)] at hfe
        have hv := HEQ.out (by rw [← HBE.out]; exact he)
        try simp only at hv
        subst hv
        subst hfe
        clear HE2
        go_wp2_with fail
        go_quiet (fail)
        obtain ⟨⟨v0', v1', v2', v3', v4'⟩, _, hCw⟩ := cells5 HC5.out
        have hfr : ∀ b, (w2.heap.size ≤ b ∧ b < w3.heap.size) → ((((((w5.drewN nq).setCell ⟨w.heap.size, 0, none⟩ (.int .i64 v.k)).setCell ⟨w.heap.size, 1, none⟩ (.int .i64 v.n)).setCell ⟨w.heap.size, 2, none⟩ (.string v.s)).setCell ⟨w.heap.size, 3, none⟩ (.slice A1 n1 c1)).setCell ⟨w.heap.size, 4, none⟩ (.slice A2 n2 c2)).heap[b]? = w4.heap[b]? := fun b hb => (set5_other _ _ _ _ _ (by have := hb.1; omega)).trans (HG5.out.block b (by have := hb.2; omega) (by intro e; have := Option.some.inj e; have := hb.1; omega))
        obtain ⟨⟨b0, b1, b2, b3, b4⟩, ⟨g0, g1, g2, g3, g4⟩, hBw⟩ := cells5 HB5.out
        have hf := set5 (.int .i64 v.k) (.int .i64 v.n) (.string v.s) (.slice A1 n1 c1) (.slice A2 n2 c2) HB5.out
        have hbl : Below w.heap.size w (((((((w5.drewN nq).setCell ⟨w.heap.size, 0, none⟩ (.int .i64 v.k)).setCell ⟨w.heap.size, 1, none⟩ (.int .i64 v.n)).setCell ⟨w.heap.size, 2, none⟩ (.string v.s)).setCell ⟨w.heap.size, 3, none⟩ (.slice A1 n1 c1)).setCell ⟨w.heap.size, 4, none⟩ (.slice A2 n2 c2))) := (bel_set5 (bel_drewN HBW.out _) (Nat.le_refl _) (.int .i64 v.k) (.int .i64 v.n) (.string v.s) (.slice A1 n1 c1) (.slice A2 n2 c2))
        have hjj : JR (((((((w5.drewN nq).setCell ⟨w.heap.size, 0, none⟩ (.int .i64 v.k)).setCell ⟨w.heap.size, 1, none⟩ (.int .i64 v.n)).setCell ⟨w.heap.size, 2, none⟩ (.string v.s)).setCell ⟨w.heap.size, 3, none⟩ (.slice A1 n1 c1)).setCell ⟨w.heap.size, 4, none⟩ (.slice A2 n2 c2))) (fun b => w.heap.size ≤ b) v [.int .i64 v.k, .int .i64 v.n, .string v.s, .slice A1 n1 c1, .slice A2 n2 c2] := JR_mono (F := fun b => w2.heap.size ≤ b ∧ b < w3.heap.size) (fun b hb => by have := hb.1; omega) _ _ (JR_frame (w := w4) (F := fun b => w2.heap.size ≤ b ∧ b < w3.heap.size) hfr _ _ HJ4.out)
        have HF5 := Lib.hid hf; have HR5 := Lib.hid hbl; have HJJ := Lib.hid hjj
        clear hf hbl hjj
        go_wp2_with fail
        exact bodyPost_ret (results_row_tmp rfl _ _ w.heap.size 43 #[.int .i64 v.k, .int .i64 v.n, .string v.s, .slice A1 n1 c1, .slice A2 n2 c2] (0, 0) _ rfl HF5.out Tryz.underlying43 rfl (by kernel_rfl)) rfl ⟨_, _, _, _, _, _, rfl, HJJ.out, HR5.out⟩
    case neg =>
      have d0 : (y5.e == 0) = false := by simpa using he
      have dn : (y5.e != 0) = true := by simpa using he
      have hfe := HE2.out
      rw [show (if y5.e = 0 ∧ y5.p < s.size then y5.fail 4 else y5) = y5 from if_neg (fun h => he h.1), if_pos (by simpa using he)] at hfe
      subst hfe
      clear HE2
      go_wp2_with fail
      go_quiet (fail)
      go_upto_region 9 with (fail)
      obtain ⟨⟨b0, b1, b2, b3, b4⟩, ⟨g0, g1, g2, g3, g4⟩, hBw⟩ := cells5 HB5.out
      have hf := set5_drewN (nq + 1) (.int .i64 0) (.int .i64 0) (.string ⟨#[]⟩) (.slice none 0 0) (.slice none 0 0) HB5.out
      have hbl : Below w.heap.size w ((((((w5.setCell ⟨w.heap.size, 0, none⟩ (.int .i64 0)).setCell ⟨w.heap.size, 1, none⟩ (.int .i64 0)).setCell ⟨w.heap.size, 2, none⟩ (.string ⟨#[]⟩)).setCell ⟨w.heap.size, 3, none⟩ (.slice none 0 0)).setCell ⟨w.heap.size, 4, none⟩ (.slice none 0 0)).drewN (nq + 1)) := bel_drewN (bel_set5 HBW.out (Nat.le_refl _) (.int .i64 0) (.int .i64 0) (.string ⟨#[]⟩) (.slice none 0 0) (.slice none 0 0)) _
      have hjj : JR ((((((w5.setCell ⟨w.heap.size, 0, none⟩ (.int .i64 0)).setCell ⟨w.heap.size, 1, none⟩ (.int .i64 0)).setCell ⟨w.heap.size, 2, none⟩ (.string ⟨#[]⟩)).setCell ⟨w.heap.size, 3, none⟩ (.slice none 0 0)).setCell ⟨w.heap.size, 4, none⟩ (.slice none 0 0)).drewN (nq + 1)) (fun b => w.heap.size ≤ b) zeroV [.int .i64 0, .int .i64 0, .string ⟨#[]⟩, .slice none 0 0, .slice none 0 0] := zero_jr _ _
      have HF5 := Lib.hid hf; have HR5 := Lib.hid hbl; have HJJ := Lib.hid hjj
      clear hf hbl hjj
      refine PrintLast.wp_region_last_drew (S := fun w' => w'.cell? ⟨w.heap.size + 1, 2, none⟩ = some (.int .i64 y5.e)) (ds := []) (by kernel_rfl) ?_ (fun hHeld => ?_)
      · exact l2
      refine PrintLast.tk 0 (v := ?_) rfl (by assumption) ?_ ?_
      rotate_left
      · (intro w hSw; (try dsimp only at hSw); go_simp; try (with_reducible rfl))
      try simp only [lay]
      refine PrintLast.tk 1 (v := ?_) rfl (by assumption) ?_ ?_
      rotate_left
      · (intro w hSw; (try dsimp only at hSw); go_simp; try (with_reducible rfl))
      try simp only [lay]
      refine PrintLast.tk 2 (v := ?_) rfl (by assumption) ?_ ?_
      rotate_left
      · (intro w hSw; (try dsimp only at hSw); go_simp; try (with_reducible rfl))
      try simp only [lay]
      refine PrintLast.tk 3 (v := ?_) rfl (by assumption) ?_ ?_
      rotate_left
      · (intro w hSw; (try dsimp only at hSw); go_simp; try (with_reducible rfl))
      try simp only [lay]
      refine PrintLast.tk 4 (v := ?_) rfl (by assumption) ?_ ?_
      rotate_left
      · (intro w hSw; (try dsimp only at hSw); go_simp; try (with_reducible rfl))
      try simp only [lay]
      have HK := Lib.hid hHeld
      clear hHeld
      refine PrintLast.wpAnyLast_ready (rs := [5]) (by kernel_rfl) (by simp) ?_
      refine PrintLast.AllReadyL.cons rfl (by decide) (fun K hK => ?_) PrintLast.AllReadyL.nil
      rw [if_pos (by kernel_rfl)]
      go_simp
      try simp only [List.foldl_cons, List.foldl_nil, List.setIfInBounds_toArray, List.set_cons_zero, List.set_cons_succ, Nat.reduceAdd]
      refine hK.out _ _ ?_ (fun hHeld => ?_)
      · exact (keep5_drewN (nq + 1) (w := w5) (B := w.heap.size) (a := ⟨w.heap.size + 1, 2, none⟩) (.int .i64 0) (.int .i64 0) (.string ⟨#[]⟩) (.slice none 0 0) (.slice none 0 0) (by show w.heap.size + 1 ≠ w.heap.size; omega)).trans l2
      clear hK K
      try simp only [lay]
      clear HK
      refine PrintLast.tk 6 (v := ?_) rfl (by assumption) ?_ ?_
      rotate_left
      · (intro w hSw; (try dsimp only at hSw); go_simp; try (with_reducible rfl))
      try simp only [lay]
      refine PrintLast.wpAnyLast_done (by kernel_rfl) ?_ _
      go_wp2_with fail
      exact bodyPost_ret (results_row_tmp rfl _ _ w.heap.size 43 #[.int .i64 0, .int .i64 0, .string ⟨#[]⟩, .slice none 0 0, .slice none 0 0] (0, 0) _ rfl HF5.out Tryz.underlying43 rfl (by kernel_rfl)) rfl ⟨none, 0, 0, none, 0, 0, rfl, HJJ.out, HR5.out⟩
end Go.Proofs.YtlihjmfdnkfmfaaGreatDoor
namespace Go.Proofs.YtlihjmfdnkfmfaaGreatDoor
open Go.RowKit

end Go.Proofs.YtlihjmfdnkfmfaaGreatDoor
namespace Go.Proofs.YtlihjmfdnkfmfaaGreatDoor
open Go.RowKit Go.Lib

set_option maxHeartbeats 1000000 in
theorem cloneV_any (sv : Value) (F : Nat → Prop) (xs : List JV) (w : World) (hs : Sl jvTy w F sv xs) (hn : xs.length ≤ 1000000) :
    Calls Tryz.prog 140 #[sv] w fun e w' => ∃ v cs, e = .returned v ∧ Below w.heap.size w w' ∧ w'.ownsRow w.heap.size 43 5 v xs.length cs ∧ Chunks jvTy w' F xs cs := by
  have e1 := fun (w : World) (a : Option Addr) (n c : Nat) => Lib.run_eql_slice_nil (P := Tryz.prog) w 40 _ a n c 0 0 Tryz.underlying40
  obtain ⟨i0, hi, hz0, hz1, hz2⟩ := info_parts jvInfo
  rcases hs.open with ⟨rfl, c, rfl⟩ | ⟨ad, c, cs, rfl, hch, hel⟩
  · go_enter Tryz.func140, Tryz.ntmps140
    go_wp2
    go_ret
    exact ⟨_, [], rfl, Below.refl _ _, World.ownsRow_nil _ _ _ _, rfl⟩
  · generalize hnn : xs.length = n at *
    have Hn := Lib.hid hnn; clear hnn
    have hown : (w.alloc (.cells #[] 43)).ownsRow w.heap.size 43 5 (.slice (some ⟨w.heap.size, 0, none⟩) 0 0) 0 [] := World.ownsRow_made w #[] 0 (Nat.le_refl _) (by decide) (by simp)
    have hb0 : Below w.heap.size w (w.alloc (.cells #[] 43)) := bel_alloc (Below.refl _ _) _
    have hel' : ∀ j u, cs[j]? = some u → (w.alloc (.cells #[] 43)).cell? (ad.add j) = some u := fun j u hj => cell_later' hb0 (hel j u hj)
    have hlen : cs.length = n * 5 := by rw [hch.len, Hn.out]; rfl
    have h1 := hch.one
    have Hh := Lib.hid hch.bound
    clear hel hch hs
    have Hl := Lib.hid hlen; clear hlen
    go_enter Tryz.func140, Tryz.ntmps140
    go_wp2_with (at_builtin; refine wpList_append_own _ rfl _ _ 40 rfl w.heap.size 43 i0 (.agg #[.int .i64 0, .int .i64 0, .string ⟨#[]⟩, .slice none 0 0, .slice none 0 0]) 5 80 Tryz.underlying40 hi hz0 hz1 hz2 rfl (by decide) _ _ _ rfl hown ad n c cs rfl Hl.out hel' h1 ?c1 ?c2 ?c3 ?_)
    case c1 => simp only [maxLen]; omega
    case c2 => omega
    case c3 => exact hb0.size
    intro v' w1 hown1 hgrow _
    have hb1 : Below w.heap.size w w1 := bel_grown hb0 hgrow (fun k hk => by simp [Value.ownBlock] at hk; omega)
    have Hc := Lib.hid ((Hh.out.frame (fun k hk => hb1.block k hk.2)).mono (fun _ hk => hk.1))
    go_wp2
    go_ret
    exact ⟨_, _, rfl, hb1, by simpa using hown1, Hc.out⟩
set_option maxHeartbeats 1000000 in
theorem cloneM_any (sv : Value) (F : Nat → Prop) (xs : List (ByteArray × JV)) (w : World) (hs : Sl memTy w F sv xs) (hn : xs.length ≤ 1000000) :
    Calls Tryz.prog 141 #[sv] w fun e w' => ∃ v cs, e = .returned v ∧ Below w.heap.size w w' ∧ w'.ownsRow w.heap.size 49 6 v xs.length cs ∧ Chunks memTy w' F xs cs := by
  have e1 := fun (w : World) (a : Option Addr) (n c : Nat) => Lib.run_eql_slice_nil (P := Tryz.prog) w 41 _ a n c 0 0 Tryz.underlying41
  obtain ⟨i0, hi, hz0, hz1, hz2⟩ := info_parts memInfo
  rcases hs.open with ⟨rfl, c, rfl⟩ | ⟨ad, c, cs, rfl, hch, hel⟩
  · go_enter Tryz.func141, Tryz.ntmps141
    go_wp2
    go_ret
    exact ⟨_, [], rfl, Below.refl _ _, World.ownsRow_nil _ _ _ _, rfl⟩
  · generalize hnn : xs.length = n at *
    have Hn := Lib.hid hnn; clear hnn
    have hown : (w.alloc (.cells #[] 49)).ownsRow w.heap.size 49 6 (.slice (some ⟨w.heap.size, 0, none⟩) 0 0) 0 [] := World.ownsRow_made w #[] 0 (Nat.le_refl _) (by decide) (by simp)
    have hb0 : Below w.heap.size w (w.alloc (.cells #[] 49)) := bel_alloc (Below.refl _ _) _
    have hel' : ∀ j u, cs[j]? = some u → (w.alloc (.cells #[] 49)).cell? (ad.add j) = some u := fun j u hj => cell_later' hb0 (hel j u hj)
    have hlen : cs.length = n * 6 := by rw [hch.len, Hn.out]; rfl
    have h1 := hch.one
    have Hh := Lib.hid hch.bound
    clear hel hch hs
    have Hl := Lib.hid hlen; clear hlen
    go_enter Tryz.func141, Tryz.ntmps141
    go_wp2_with (at_builtin; refine wpList_append_own _ rfl _ _ 41 rfl w.heap.size 49 i0 (.agg #[.string ⟨#[]⟩, .int .i64 0, .int .i64 0, .string ⟨#[]⟩, .slice none 0 0, .slice none 0 0]) 6 96 Tryz.underlying41 hi hz0 hz1 hz2 rfl (by decide) _ _ _ rfl hown ad n c cs rfl Hl.out hel' h1 ?c1 ?c2 ?c3 ?_)
    case c1 => simp only [maxLen]; omega
    case c2 => omega
    case c3 => exact hb0.size
    intro v' w1 hown1 hgrow _
    have hb1 : Below w.heap.size w w1 := bel_grown hb0 hgrow (fun k hk => by simp [Value.ownBlock] at hk; omega)
    have Hc := Lib.hid ((Hh.out.frame (fun k hk => hb1.block k hk.2)).mono (fun _ hk => hk.1))
    go_wp2
    go_ret
    exact ⟨_, _, rfl, hb1, by simpa using hown1, Hc.out⟩
theorem own_set1 {w : World} {base : Nat} {e : TypeId} {size n c g : Nat} {xs : List Value} (h : w.ownsRow base e size (.slice (some ⟨g, 0, none⟩) n c) n xs) (j : Nat) (u : Value) :
    (w.setCell ⟨g, j, none⟩ u).ownsRow base e size (.slice (some ⟨g, 0, none⟩) n c) n (xs.set j u) := by
  obtain ⟨h1, h2⟩ := h
  refine ⟨by rw [List.length_set]; exact h1, ?_⟩
  rcases h2 with ⟨h0, _⟩ | ⟨g', cap, cur, h0, hb, hg, hn, hc, hs, ht⟩
  · cases h0
  · obtain ⟨rfl, rfl⟩ : g = g' ∧ c = cap := by simpa using h0
    refine .inr ⟨g, c, cur.setIfInBounds j u, rfl, hb, heap_setCell_row hg, hn, hc, by simpa using hs, ?_⟩
    rw [Array.toList_setIfInBounds, List.take_set, ht]
/-- five cells of a row written anew -/
theorem own_put5 {w : World} {base : Nat} {e : TypeId} {size n c g p : Nat} {cs1 cs2 : List Value} {a0 a1 a2 a3 a4 : Value} (v0 v1 v2 v3 v4 : Value)
    (h : w.ownsRow base e size (.slice (some ⟨g, 0, none⟩) n c) n (cs1 ++ (a0 :: a1 :: a2 :: a3 :: a4 :: cs2))) (hp : cs1.length = p) :
    (((((w.setCell ⟨g, p, none⟩ v0).setCell ⟨g, p + 1, none⟩ v1).setCell ⟨g, p + 2, none⟩ v2).setCell ⟨g, p + 3, none⟩ v3).setCell ⟨g, p + 4, none⟩ v4).ownsRow base e size (.slice (some ⟨g, 0, none⟩) n c) n (cs1 ++ (v0 :: v1 :: v2 :: v3 :: v4 :: cs2)) := by
  have h5 := own_set1 (own_set1 (own_set1 (own_set1 (own_set1 h p v0) (p + 1) v1) (p + 2) v2) (p + 3) v3) (p + 4) v4
  have e : ((((((cs1 ++ (a0 :: a1 :: a2 :: a3 :: a4 :: cs2)).set p v0).set (p + 1) v1).set (p + 2) v2).set (p + 3) v3).set (p + 4) v4) = cs1 ++ (v0 :: v1 :: v2 :: v3 :: v4 :: cs2) := by
    subst hp
    simp
  rw [e] at h5
  exact h5
theorem grown5 (w : World) (g p0 p1 p2 p3 p4 : Nat) (v0 v1 v2 v3 v4 : Value) :
    w.grownBy (((((w.setCell ⟨g, p0, none⟩ v0).setCell ⟨g, p1, none⟩ v1).setCell ⟨g, p2, none⟩ v2).setCell ⟨g, p3, none⟩ v3).setCell ⟨g, p4, none⟩ v4) (some g) :=
  grown_trans (grown_trans (grown_trans (grown_trans (grown_set v0) (grown_set v1)) (grown_set v2)) (grown_set v3)) (grown_set v4)
/-- the cells of a row, none of them frozen -/
theorem own_frozen {w : World} {base : Nat} {e : TypeId} {size n c g : Nat} {xs : List Value} (h : w.ownsRow base e size (.slice (some ⟨g, 0, none⟩) n c) n xs) (j : Nat) : w.frozen? ⟨g, j, none⟩ = false := by
  rcases h.2 with ⟨h0, _⟩ | ⟨g', cap, cur, h0, _, hg, _⟩
  · cases h0
  · obtain ⟨rfl, rfl⟩ : g = g' ∧ c = cap := by simpa using h0
    simp [World.frozen?, hg]
/-- a cell of a row, by its place -/
theorem own_at {w : World} {base : Nat} {e : TypeId} {size n c g : Nat} {xs : List Value} (h : w.ownsRow base e size (.slice (some ⟨g, 0, none⟩) n c) n xs) {j : Nat} {u : Value} (hj : xs[j]? = some u) : w.cell? ⟨g, j, none⟩ = some u := by
  have := h.cells (g := g) rfl j u hj
  rw [Addr.add_lit, Nat.zero_add] at this
  exact this
end Go.Proofs.YtlihjmfdnkfmfaaGreatDoor
namespace Go.Proofs.YtlihjmfdnkfmfaaGreatDoor
open Go.RowKit Go.Lib

theorem own_pos {w : World} {base : Nat} {e : TypeId} {size n : Nat} {v : Value} {xs : List Value} (h : w.ownsRow base e size v n xs) (hn : 0 < n) : ∃ g cap, v = .slice (some ⟨g, 0, none⟩) n cap ∧ base ≤ g := by
  rcases h.2 with ⟨_, h0⟩ | ⟨g, cap, cur, rfl, hg, _⟩
  · omega
  · exact ⟨g, cap, rfl, hg⟩
end Go.Proofs.YtlihjmfdnkfmfaaGreatDoor
namespace Go.Proofs.YtlihjmfdnkfmfaaGreatDoor
open Go.RowKit Go.Lib

/-- what stands behind place p -/
def rest (s : ByteArray) (p : Nat) : List UInt8 := s.data.toList.drop p
theorem rest_lt {s : ByteArray} {p : Nat} {c : UInt8} {r : List UInt8} (h : rest s p = c :: r) : p < s.size := by
  unfold rest at h
  have := congrArg List.length h
  simp at this
  have hz : s.data.size = s.size := rfl
  omega
theorem rest_byte {s : ByteArray} {p : Nat} {c : UInt8} {r : List UInt8} (h : rest s p = c :: r) : byteAt s p = c := by
  have hl := rest_lt h
  unfold rest at h
  rw [drop_byte hl] at h
  injection h
theorem rest_next {s : ByteArray} {p : Nat} {c : UInt8} {r : List UInt8} (h : rest s p = c :: r) : rest s (p + 1) = r := by
  have hl := rest_lt h
  unfold rest at h ⊢
  rw [drop_byte hl] at h
  injection h
theorem see_rest {s : ByteArray} {p : Nat} {c : UInt8} {r : List UInt8} (e : Int) (h : rest s p = c :: r) (hb : isBlank c = false) : (⟨p, e⟩ : St).see s = (c, ⟨p, e⟩) := by
  have hl := rest_lt h
  have hk := skip_stop (s := s) (q := p) (.inr (by rw [rest_byte h]; exact hb))
  unfold St.see St.blanks
  simp only [hk]
  rw [if_neg (by omega), rest_byte h]
theorem see_end {s : ByteArray} {p : Nat} (h : rest s p = []) : St.blanks s ⟨p, 0⟩ = ⟨p, 0⟩ := by
  have : ¬ p < s.size := by
    intro hl
    unfold rest at h
    rw [drop_byte hl] at h
    exact absurd h (by simp)
  have hk := skip_stop (s := s) (q := p) (.inl this)
  unfold St.blanks
  simp only [hk]
theorem dec_rest {s : ByteArray} {p : Nat} {c : UInt8} {r : List UInt8} (h : rest s p = c :: r) (hc : c.toNat < 128) : dec s p = (c.toNat, 1) := by
  have hl := rest_lt h
  have hb := rest_byte h
  unfold dec Lib.decodeGo
  have e : (s.extract p s.size).data.toList = c :: r := by
    rw [extract_data, List.take_of_length_le (by simp)]
    exact h
  generalize s.extract p s.size = t at *
  obtain ⟨⟨l⟩⟩ := t
  simp only at e
  subst e
  rw [if_neg (by simp [ByteArray.size])]
  exact decode_ascii (⟨⟨c :: r⟩⟩ : ByteArray) 0 (by simp [ByteArray.size]) (show c.toNat < 128 from hc)
theorem sign_rest {s : ByteArray} {p : Nat} {c : UInt8} {r : List UInt8} (h : rest s p = c :: r) (hc : c.toNat < 128) (h32 : 32 ≤ c.toNat) : signB s ⟨p, 0⟩ = (c.toNat, ⟨p + 1, 0⟩) := by
  have hl := rest_lt h
  unfold signB
  rw [dec_rest h hc]
  simp only
  rw [if_neg (by omega), if_neg (by omega)]
end Go.Proofs.YtlihjmfdnkfmfaaGreatDoor
