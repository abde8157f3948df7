/- Parts of the proof: Vm, Vs, Vg. -/
import Derived.Test.YtlihjmfdnkfmfaaGreatDoorZPback12
namespace Go.Proofs.YtlihjmfdnkfmfaaGreatDoor
open Go.RowKit Go.Lib

theorem set6 {w : World} {B : Nat} {T : TypeId} {fz : Nat × Nat} {a0 a1 a2 a3 a4 a5 : Value} (v0 v1 v2 v3 v4 v5 : Value) (h : w.heap[B]? = some (.cells #[a0, a1, a2, a3, a4, a5] T fz)) :
    ((((((w.setCell ⟨B, 0, none⟩ v0).setCell ⟨B, 1, none⟩ v1).setCell ⟨B, 2, none⟩ v2).setCell ⟨B, 3, none⟩ v3).setCell ⟨B, 4, none⟩ v4).setCell ⟨B, 5, none⟩ v5).heap[B]? = some (.cells #[v0, v1, v2, v3, v4, v5] T fz) :=
  heap_setCell_row (heap_setCell_row (heap_setCell_row (heap_setCell_row (heap_setCell_row (heap_setCell_row h)))))
theorem set6v {w : World} {B : Nat} {T : TypeId} {fz : Nat × Nat} {a0 a1 a2 a3 a4 a5 : Value} (v1 v2 v3 v4 v5 : Value) (h : w.heap[B]? = some (.cells #[a0, a1, a2, a3, a4, a5] T fz)) :
    (((((w.setCell ⟨B, 1, none⟩ v1).setCell ⟨B, 2, none⟩ v2).setCell ⟨B, 3, none⟩ v3).setCell ⟨B, 4, none⟩ v4).setCell ⟨B, 5, none⟩ v5).heap[B]? = some (.cells #[a0, v1, v2, v3, v4, v5] T fz) :=
  heap_setCell_row (heap_setCell_row (heap_setCell_row (heap_setCell_row (heap_setCell_row h))))
theorem cells6 {w : World} {B : Nat} {T : TypeId} {a0 a1 a2 a3 a4 a5 : Value} (h : w.heap[B]? = some (.cells #[a0, a1, a2, a3, a4, a5] T (0, 0))) :
    (w.cell? ⟨B, 0, none⟩ = some a0 ∧ w.cell? ⟨B, 1, none⟩ = some a1 ∧ w.cell? ⟨B, 2, none⟩ = some a2 ∧ w.cell? ⟨B, 3, none⟩ = some a3 ∧ w.cell? ⟨B, 4, none⟩ = some a4 ∧ w.cell? ⟨B, 5, none⟩ = some a5) ∧
    (w.frozen? ⟨B, 0, none⟩ = false ∧ w.frozen? ⟨B, 1, none⟩ = false ∧ w.frozen? ⟨B, 2, none⟩ = false ∧ w.frozen? ⟨B, 3, none⟩ = false ∧ w.frozen? ⟨B, 4, none⟩ = false ∧ w.frozen? ⟨B, 5, none⟩ = false) ∧ B < w.heap.size :=
  ⟨⟨by rw [Lib.cell_of_heap h]; rfl, by rw [Lib.cell_of_heap h]; rfl, by rw [Lib.cell_of_heap h]; rfl, by rw [Lib.cell_of_heap h]; rfl, by rw [Lib.cell_of_heap h]; rfl, by rw [Lib.cell_of_heap h]; rfl⟩,
    ⟨by simp [World.frozen?, h], by simp [World.frozen?, h], by simp [World.frozen?, h], by simp [World.frozen?, h], by simp [World.frozen?, h], by simp [World.frozen?, h]⟩, (Array.getElem?_eq_some_iff.1 h).1⟩
theorem set6_other {w : World} {B b : Nat} (v0 v1 v2 v3 v4 v5 : Value) (h : b ≠ B) :
    ((((((w.setCell ⟨B, 0, none⟩ v0).setCell ⟨B, 1, none⟩ v1).setCell ⟨B, 2, none⟩ v2).setCell ⟨B, 3, none⟩ v3).setCell ⟨B, 4, none⟩ v4).setCell ⟨B, 5, none⟩ v5).heap[b]? = w.heap[b]? := by
  rw [Below.heap_setCell _ _ _ _ (by exact h), set5_other _ _ _ _ _ h]
theorem set6v_other {w : World} {B b : Nat} (v1 v2 v3 v4 v5 : Value) (h : b ≠ B) :
    (((((w.setCell ⟨B, 1, none⟩ v1).setCell ⟨B, 2, none⟩ v2).setCell ⟨B, 3, none⟩ v3).setCell ⟨B, 4, none⟩ v4).setCell ⟨B, 5, none⟩ v5).heap[b]? = w.heap[b]? := by
  rw [Below.heap_setCell _ _ _ _ (by exact h), Below.heap_setCell _ _ _ _ (by exact h), Below.heap_setCell _ _ _ _ (by exact h), Below.heap_setCell _ _ _ _ (by exact h), Below.heap_setCell _ _ _ _ (by exact h)]
theorem RdPost.set6 {T : TypeId} {R p B : Nat} {s : ByteArray} {e : Int} {w w1 : World} (h : RdPost T R s p e w w1) (hB : w.heap.size ≤ B) (hR : R < w.heap.size) (v0 v1 v2 v3 v4 v5 : Value) :
    RdPost T R s p e w ((((((w1.setCell ⟨B, 0, none⟩ v0).setCell ⟨B, 1, none⟩ v1).setCell ⟨B, 2, none⟩ v2).setCell ⟨B, 3, none⟩ v3).setCell ⟨B, 4, none⟩ v4).setCell ⟨B, 5, none⟩ v5) :=
  (h.set5 hB hR v0 v1 v2 v3 v4).setB hB hR v5
theorem RdPost.set6v {T : TypeId} {R p B : Nat} {s : ByteArray} {e : Int} {w w1 : World} (h : RdPost T R s p e w w1) (hB : w.heap.size ≤ B) (hR : R < w.heap.size) (v1 v2 v3 v4 v5 : Value) :
    RdPost T R s p e w (((((w1.setCell ⟨B, 1, none⟩ v1).setCell ⟨B, 2, none⟩ v2).setCell ⟨B, 3, none⟩ v3).setCell ⟨B, 4, none⟩ v4).setCell ⟨B, 5, none⟩ v5) :=
  ((((h.setB hB hR v1).setB hB hR v2).setB hB hR v3).setB hB hR v4).setB hB hR v5

theorem zero_jr (w : World) (F : Nat → Prop) : JR w F zeroV [.int .i64 zeroV.k, .int .i64 zeroV.n, .string zeroV.s, .slice none 0 0, .slice none 0 0] :=
  JR_iff.2 ⟨.slice none 0 0, .slice none 0 0, ⟨rfl, by simp [zeroV, JV.s, ByteArray.size]⟩, .inl ⟨rfl, none, 0, rfl⟩, .inl ⟨rfl, none, 0, rfl⟩⟩
def MRes (R : Nat) (s : ByteArray) (r : (ByteArray × JV) × St) (w : World) (z : Ending) (w' : World) : Prop := ∃ (m : ByteArray × JV) (A1 : Option Addr) (n1 c1 : Nat) (A2 : Option Addr) (n2 c2 : Nat),
  z = .returned (.agg #[.string m.1, .int .i64 m.2.k, .int .i64 m.2.n, .string m.2.s, .slice A1 n1 c1, .slice A2 n2 c2]) ∧ JR w' (fun b => w.heap.size ≤ b) m.2 [.int .i64 m.2.k, .int .i64 m.2.n, .string m.2.s, .slice A1 n1 c1, .slice A2 n2 c2] ∧
  m.1.size ≤ 9223372036854775807 ∧ (r.2.e = 0 → m = r.1) ∧ RdPost 148 R s r.2.p r.2.e w w'
theorem fail_fail (x : St) : (x.fail 4).fail 4 = x.fail 4 := by
  unfold St.fail
  by_cases h : x.e = 0
  · simp [h]
  · simp [h]
def dupSt (u : St) (nm : ByteArray) (l : List (ByteArray × JV)) : St := if l.any (fun m => m.1.toList == nm.toList) then u.fail 4 else u
theorem dup_hit {u : St} {nm : ByteArray} {l : List (ByteArray × JV)} {k : Nat} {m : ByteArray × JV} (hm : l[k]? = some m) (h : (m.1.toList == nm.toList) = true) : dupSt u nm (l.take (k + 1)) = (dupSt u nm (l.take k)).fail 4 := by
  unfold dupSt
  rw [List.take_add_one, hm, List.any_append]
  simp only [Option.toList, List.any_cons, List.any_nil, h, Bool.or_false, Bool.or_true, if_true]
  split
  · exact (fail_fail u).symm
  · rfl
theorem dup_miss {u : St} {nm : ByteArray} {l : List (ByteArray × JV)} {k : Nat} {m : ByteArray × JV} (hm : l[k]? = some m) (h : (m.1.toList == nm.toList) = false) : dupSt u nm (l.take (k + 1)) = dupSt u nm (l.take k) := by
  unfold dupSt
  rw [List.take_add_one, hm, List.any_append]
  simp only [Option.toList, List.any_cons, List.any_nil, h, Bool.or_false]
theorem dup_p (u : St) (nm : ByteArray) (l : List (ByteArray × JV)) : (dupSt u nm l).p = u.p := by
  unfold dupSt
  split
  · exact fail_p _ _
  · rfl

set_option maxRecDepth 100000 in
set_option maxHeartbeats 8000000 in
theorem member_json (s : ByteArray) (d : Nat) (pv : St → JV × St) (ih : ValAt s d pv) (hd : d ≤ 100) (hs : s.size ≤ 1000000)
    (w0 : World) (R : Nat) (x : St) (w : World) (F : Nat → Prop) (va : Value) (vs : List (ByteArray × JV)) (hF : ∀ b, F b → b ≠ R) (hsl : Sl memTy w F va vs) (hvn : vs.length ≤ 1000001) (hT : Tabs w0) (h0 : Below w0.heap.size w0 w) (hR0 : w0.heap.size ≤ R) (hxp : x.p ≤ s.size) (h : RdAt 148 R s x.p x.e w) :
    Calls Tryz.prog 156 #[.pointer (some ⟨R, 0, none⟩), va, .int .i64 ((d : Int) + 1)] w (MRes R s (memberB s pv vs x) w) := by
  have hR := h.cells.2.2.2.2.2.2
  have hw1 : IntKind.i64.wrap ((d : Int) + 1 - 1) = (d : Int) := by rw [IntWalk.i64_in _ (by omega)]; omega
  have hw2 : IntKind.i64.wrap (d : Int) = (d : Int) := IntWalk.i64_in _ (by omega)
  have hA : Below w.heap.size w (w.alloc (.cells #[.string ⟨#[]⟩, .int .i64 0, .int .i64 0, .string ⟨#[]⟩, .slice none 0 0, .slice none 0 0] 49)) := bel_alloc (Below.refl _ _) _
  have hb0 := heap_alloc_new w (.cells #[.string ⟨#[]⟩, .int .i64 0, .int .i64 0, .string ⟨#[]⟩, .slice none 0 0, .slice none 0 0] 49)
  have hp0 := RdPost.below h.post hA
  have hsee := see_any R s x _ hs hp0.1
  have hbd := see_bd hxp
  have hE : memberB s pv vs x = (let u := if (dupSt (textB s (if (x.see s).1 ≠ 34 then (x.see s).2.fail 4 else (x.see s).2)).2 ⟨(textB s (if (x.see s).1 ≠ 34 then (x.see s).2.fail 4 else (x.see s).2)).1.toArray⟩ vs).e = 0 then (dupSt (textB s (if (x.see s).1 ≠ 34 then (x.see s).2.fail 4 else (x.see s).2)).2 ⟨(textB s (if (x.see s).1 ≠ 34 then (x.see s).2.fail 4 else (x.see s).2)).1.toArray⟩ vs).wants s 58 else dupSt (textB s (if (x.see s).1 ≠ 34 then (x.see s).2.fail 4 else (x.see s).2)).2 ⟨(textB s (if (x.see s).1 ≠ 34 then (x.see s).2.fail 4 else (x.see s).2)).1.toArray⟩ vs
    if u.e = 0 then ((⟨(textB s (if (x.see s).1 ≠ 34 then (x.see s).2.fail 4 else (x.see s).2)).1.toArray⟩, (pv u).1), (pv u).2) else ((⟨(textB s (if (x.see s).1 ≠ 34 then (x.see s).2.fail 4 else (x.see s).2)).1.toArray⟩, zeroV), u)) := rfl
  have HB0 := Lib.hid hb0; have HP0 := Lib.hid hp0; have HSEE := Lib.hid hsee; have HSL := Lib.hid hsl; have HTT := Lib.hid hT; have H0 := Lib.hid h0; have HIH := Lib.hid ih; have HFF := Lib.hid hF
  obtain ⟨A, c, rfl⟩ := hsl.form
  clear hb0 hp0 hsee hsl hT h0 ih hF hA h
  generalize memberB s pv vs x = res at *
  generalize x.see s = r at *
  obtain ⟨ch, y⟩ := r
  simp only at hbd hE
  obtain ⟨b34, hne, hyy⟩ : ∃ b : Bool, ((ch.toNat : Int) != 34) = b ∧ (if ch ≠ 34 then y.fail 4 else y) = (if b = true then y.fail 4 else y) := by
    by_cases h : ch = 34
    · exact ⟨false, by subst h; rfl, by simp [h]⟩
    · have : ch.toNat ≠ 34 := fun h2 => h (UInt8.toNat_inj.1 h2)
      exact ⟨true, by simp; omega, by simp [h]⟩
  rw [hyy] at hE
  have HE := Lib.hid hE
  clear hE hyy
  go_enter Tryz.func156, Tryz.ntmps156
  go_wp2_with fail
  refine Calls.mono HSEE.out ?_
  rintro e w1 ⟨rfl, hp1⟩
  have hb1 := hp1.keep (B := w.heap.size) HB0.out (by omega)
  have hpp1 := HP0.out.trans hp1
  try simp only at hpp1
  have HB1 := Lib.hid hb1; have HP1 := Lib.hid hpp1
  clear hp1 hb1 hpp1
  go_upto_if 12 with (fail)
  go_cut [] (fun wx => Aside (RdPost 148 R s (if b34 = true then y.fail 4 else y).p (if b34 = true then y.fail 4 else y).e w wx) ∧ Aside (wx.heap[w.heap.size]? = some (.cells #[.string ⟨#[]⟩, .int .i64 0, .int .i64 0, .string ⟨#[]⟩, .slice none 0 0, .slice none 0 0] 49 (0, 0))))
  case first =>
    cases b34
    · go_wp2_with fail
      go_meet
      exact ⟨HP1.out, HB1.out⟩
    · have hfl := fail_any R s y 4 w1 HP1.out.1
      have HFL := Lib.hid hfl
      clear hfl
      go_wp2_with fail
      refine Calls.mono HFL.out ?_
      rintro e w2 ⟨rfl, hp2⟩
      have h1 := hp2.keep (B := w.heap.size) HB1.out (by omega)
      have h2 := HP1.out.trans hp2
      have H1 := Lib.hid h1; have H2 := Lib.hid h2
      clear h1 h2 hp2
      go_wp2_with fail
      go_meet
      exact ⟨H2.out, H1.out⟩
  case rest =>
    obtain ⟨HP2, HB2⟩ := hcut
    have hyp : (if b34 = true then y.fail 4 else y).p ≤ s.size := by split <;> (try rw [fail_p]) <;> omega
    generalize (if b34 = true then y.fail 4 else y) = y1 at *
    obtain ⟨wa, rfl⟩ : ∃ W : World, W = wc := ⟨_, rfl⟩
    clear HP1 HB1 HSEE HP0 HB0 hne
    have htabs : ∀ W : World, w.grownBy W (some R) → Tabs W := fun W hW => HTT.out.below (H0.out.grown hW H0.out.size (fun j hj => by have := Option.some.inj hj; omega))
    have htx := text_json R s y1 wa hs (fun _ => hyp) (htabs wa HP2.out.2).u8 HP2.out.1
    have htl : (textB s y1).1.length ≤ 4 * s.size ∧ (textB s y1).2.p ≤ s.size := by
      unfold textB
      split
      · exact ⟨Nat.zero_le _, hyp⟩
      · exact ⟨unquote_len s _ hyp, unquote_le s _ hyp⟩
    have HTX := Lib.hid htx; have HTB := Lib.hid htabs
    clear htx htabs
    generalize textB s y1 = t at *
    obtain ⟨tl, u⟩ := t
    simp only at HE htl
    go_wp2_with fail
    refine Calls.mono HTX.out ?_
    rintro e w3 ⟨rfl, hp3⟩
    try simp only at hp3
    have hb3 := hp3.keep (B := w.heap.size) HB2.out (by omega)
    have hpp3 := HP2.out.trans hp3
    have hnz : (⟨tl.toArray⟩ : ByteArray).size ≤ 9223372036854775807 := by simp [ByteArray.size]; omega
    generalize (⟨tl.toArray⟩ : ByteArray) = nm at *
    have hA3 : Below w3.heap.size w3 (w3.alloc (.cells #[.string nm, .int .i64 0, .int .i64 0, .string ⟨#[]⟩, .slice none 0 0, .slice none 0 0] 49)) := bel_alloc (Below.refl _ _) _
    have hm3 := heap_alloc_new w3 (.cells #[.string nm, .int .i64 0, .int .i64 0, .string ⟨#[]⟩, .slice none 0 0, .slice none 0 0] 49)
    have hbA := (hA3.block w.heap.size (Array.getElem?_eq_some_iff.1 hb3).1).trans hb3
    have hpA := RdPost.below hpp3 hA3
    have hMw : w.heap.size < w3.heap.size := (Array.getElem?_eq_some_iff.1 hb3).1
    have HMA := Lib.hid hm3; have HBA := Lib.hid hbA; have HPA := Lib.hid hpA
    clear hp3 hb3 hpp3 hA3 hm3 hbA hpA
    go_wp2_with fail
    generalize hM : w3.heap.size = M at *
    clear hM
    generalize hn : vs.length = n at *
    have HN := Lib.hid hn
    clear hn
    go_loopg [20] n (fun gg s20 wr => ∃ k : Nat, k ≤ n ∧ n - k ≤ gg ∧ s20 = .int .i64 k ∧ Aside (wr.heap[M]? = some (.cells #[.string nm, .int .i64 0, .int .i64 0, .string ⟨#[]⟩, .slice none 0 0, .slice none 0 0] 49 (0, 0))) ∧ Aside (wr.heap[w.heap.size]? = some (.cells #[.string ⟨#[]⟩, .int .i64 0, .int .i64 0, .string ⟨#[]⟩, .slice none 0 0, .slice none 0 0] 49 (0, 0))) ∧ Aside (RdPost 148 R s (dupSt u nm (vs.take k)).p (dupSt u nm (vs.take k)).e w wr))
    case atStart => exact ⟨0, Nat.zero_le _, by omega, rfl, HMA.out, HBA.out, HPA.out⟩
    case round =>
      obtain ⟨k, hk, hgg, rfl, HM, HB, HP⟩ := hrel
      obtain ⟨⟨m0, m1, m2, m3, m4, m5⟩, _, hMr⟩ := cells6 HM.out
      by_cases hlt : k < n
      · have hltz : (k : Int) < (n : Int) := by omega
        obtain ⟨⟨mn, mv⟩, hx⟩ : ∃ p, vs[k]? = some p := get_ex (by have := HN.out; omega)
        have hslr := (HSL.out.bound).frame (w' := wr) (fun b hb => HP.out.2.block b hb.2 (by intro e; exact HFF.out b hb.1 (Option.some.inj e)))
        obtain ⟨A', c', hform, _, hel⟩ := mem_cells hslr
        obtain ⟨rfl, rfl⟩ : A = A' ∧ c = c' := by
          injection hform with h1 h2 h3
          exact ⟨h1, h3⟩
        obtain ⟨b, o, A1, n1, c1, A2, n2, c2, rfl, hnm, q0, q1, q2, q3, q4, q5, _⟩ := hel k mn mv hx
        have hbr : b < wr.heap.size := World.block_lt_of_cell? _ _ q0
        have HX := Lib.hid hx
        clear hx hslr hel hform
        have hAl : Below wr.heap.size wr (wr.alloc (.cells #[.string mn, .int .i64 mv.k, .int .i64 mv.n, .string mv.s, .slice A1 n1 c1, .slice A2 n2 c2] 49)) := bel_alloc (Below.refl _ _) _
        have hMA := (hAl.block M (Array.getElem?_eq_some_iff.1 HM.out).1).trans HM.out
        have hBA := (hAl.block w.heap.size (Array.getElem?_eq_some_iff.1 HB.out).1).trans HB.out
        have hPA := RdPost.below HP.out hAl
        have HMA := Lib.hid hMA; have HBA := Lib.hid hBA; have HPA := Lib.hid hPA
        clear hAl hMA hBA hPA
        cases hdb : (mn.toList == nm.toList)
        · have hst := dup_miss (u := u) (nm := nm) HX.out hdb
          have HST := Lib.hid hst
          clear hst
          go_wp2_with fail
          go_roundg (n - (k + 1))
          case measure => omega
          case rel => exact ⟨k + 1, by omega, by omega, by go_num, HMA.out, HBA.out, by rw [HST.out]; exact HPA.out⟩
        · have hst := dup_hit (u := u) (nm := nm) HX.out hdb
          have hfl := fail_any R s (dupSt u nm (vs.take k)) 4 _ HPA.out.1
          have HST := Lib.hid hst; have HFL := Lib.hid hfl
          clear hst hfl
          go_wp2_with fail
          refine Calls.mono HFL.out ?_
          rintro e w4 ⟨rfl, hp4⟩
          have h1 := hp4.keep (B := w.heap.size) HBA.out (by omega)
          have h2 := hp4.keep (B := M) HMA.out (by omega)
          have h3 := HPA.out.trans hp4
          have H1 := Lib.hid h1; have H2 := Lib.hid h2; have H3 := Lib.hid h3
          clear h1 h2 h3 hp4
          go_wp2_with fail
          go_roundg (n - (k + 1))
          case measure => omega
          case rel => exact ⟨k + 1, by omega, by omega, by go_num, H2.out, H1.out, by rw [HST.out]; exact H3.out⟩
      · have hltz : ¬ (k : Int) < (n : Int) := by omega
        have hpk := HP.out
        rw [List.take_of_length_le (by rw [HN.out]; omega)] at hpk
        have HPK := Lib.hid hpk
        obtain ⟨l0, l1, l2, _, f1, _, hRw⟩ := hpk.1.cells
        have hdp : (dupSt u nm vs).p ≤ s.size := by rw [dup_p]; exact htl.2
        clear hpk HP
        have HEZ := HE
        generalize dupSt u nm vs = z at *
        have hez : (z.e == 0) = decide (z.e = 0) := by by_cases h : z.e = 0 <;> simp [h]
        go_upto_if 36 with (fail)
        go_cut [] (fun wx => Aside (wx.heap[M]? = some (.cells #[.string nm, .int .i64 0, .int .i64 0, .string ⟨#[]⟩, .slice none 0 0, .slice none 0 0] 49 (0, 0))) ∧ Aside (wx.heap[w.heap.size]? = some (.cells #[.string ⟨#[]⟩, .int .i64 0, .int .i64 0, .string ⟨#[]⟩, .slice none 0 0, .slice none 0 0] 49 (0, 0))) ∧ Aside (RdPost 148 R s (if z.e = 0 then z.wants s 58 else z).p (if z.e = 0 then z.wants s 58 else z).e w wx))
        case first =>
          by_cases hz : z.e = 0
          · have dz : decide (z.e = 0) = true := by simpa using hz
            have hwa := wants_any R s z 58 wr hs (by omega) HPK.out.1
            rw [show ((58 : UInt8).toNat : Int) = 58 from rfl] at hwa
            have HWA := Lib.hid hwa; have HZ := Lib.hid hz
            clear hwa hz
            go_wp2_with fail
            refine Calls.mono HWA.out ?_
            rintro e w5 ⟨rfl, hp5⟩
            have h1 := hp5.keep (B := w.heap.size) HB.out (by omega)
            have h2 := hp5.keep (B := M) HM.out (by omega)
            have h3 := HPK.out.trans hp5
            have H1 := Lib.hid h1; have H2 := Lib.hid h2; have H3 := Lib.hid h3
            clear h1 h2 h3 hp5
            go_wp2_with fail
            go_meet
            rw [if_pos HZ.out]
            exact ⟨H2.out, H1.out, H3.out⟩
          · have dz : decide (z.e = 0) = false := by simpa using hz
            have HZ := Lib.hid hz
            clear hz
            go_wp2_with fail
            go_meet
            rw [if_neg HZ.out]
            exact ⟨HM.out, HB.out, HPK.out⟩
        case rest =>
          obtain ⟨HM6, HB6, HP6⟩ := hcut
          have hfe := HEZ.out
          try simp only at hfe
          have hup : (if z.e = 0 then z.wants s 58 else z).p ≤ s.size + 1 ∧ ((if z.e = 0 then z.wants s 58 else z).e = 0 → (if z.e = 0 then z.wants s 58 else z).p ≤ s.size) := by
            by_cases h : z.e = 0
            · rw [if_pos h]
              have := wants_good (s := s) (x := z) (c := 58) (by decide) hdp
              exact ⟨this.1.2, fun h2 => (this.1.1 h2).2⟩
            · rw [if_neg h]; exact ⟨by omega, fun h2 => absurd h2 h⟩
          generalize (if z.e = 0 then z.wants s 58 else z) = y2 at *
          obtain ⟨wb, rfl⟩ : ∃ W : World, W = wc := ⟨_, rfl⟩
          have HEE := Lib.hid hfe
          clear hfe HEZ HPK HM HB HMA HBA HPA HE hez l0 l1 l2 f1 hRw m0 m1 m2 m3 m4 m5
          obtain ⟨l0, l1, l2, _, f1, _, hRw⟩ := HP6.out.1.cells
          have hMb : M < wb.heap.size := (Array.getElem?_eq_some_iff.1 HM6.out).1
          by_cases hy2 : y2.e = 0
          · have dy : (y2.e == 0) = true := by simpa using hy2
            have hfe := HEE.out
            rw [if_pos hy2] at hfe
            subst hfe
            clear HEE
            have hiv := HIH.out w0 R y2 wb HTT.out (H0.out.grown HP6.out.2 H0.out.size (fun j hj => by have := Option.some.inj hj; omega)) hR0 hy2 (hup.2 hy2) HP6.out.1
            have HIV := Lib.hid hiv
            clear hiv hy2
            generalize pv y2 = pq at *
            obtain ⟨v', y3⟩ := pq
            go_wp2_with fail
            refine Calls.mono HIV.out ?_
            rintro e w5 ⟨v, A1, n1, c1, A2, n2, c2, rfl, hjr, heq, hp5⟩
            have hm5 := hp5.keep (B := M) HM6.out (by omega)
            have hb5 := hp5.keep (B := w.heap.size) HB6.out (by omega)
            have hp5' := HP6.out.trans hp5
            have hmM := set6v (.int .i64 v.k) (.int .i64 v.n) (.string v.s) (.slice A1 n1 c1) (.slice A2 n2 c2) hm5
            have hbM : (((((w5.setCell ⟨M, 1, none⟩ (.int .i64 v.k)).setCell ⟨M, 2, none⟩ (.int .i64 v.n)).setCell ⟨M, 3, none⟩ (.string v.s)).setCell ⟨M, 4, none⟩ (.slice A1 n1 c1)).setCell ⟨M, 5, none⟩ (.slice A2 n2 c2)).heap[w.heap.size]? = _ := (set6v_other _ _ _ _ _ (by omega)).trans hb5
            have hpM := RdPost.set6v hp5' (B := M) (by omega) hR (.int .i64 v.k) (.int .i64 v.n) (.string v.s) (.slice A1 n1 c1) (.slice A2 n2 c2)
            obtain ⟨⟨m0, m1, m2, m3, m4, m5⟩, ⟨h0', h1', h2', h3', h4', h5'⟩, hM5⟩ := cells6 hm5
            have hjM : JR (((((w5.setCell ⟨M, 1, none⟩ (.int .i64 v.k)).setCell ⟨M, 2, none⟩ (.int .i64 v.n)).setCell ⟨M, 3, none⟩ (.string v.s)).setCell ⟨M, 4, none⟩ (.slice A1 n1 c1)).setCell ⟨M, 5, none⟩ (.slice A2 n2 c2)) (fun b => wb.heap.size ≤ b) v [.int .i64 v.k, .int .i64 v.n, .string v.s, .slice A1 n1 c1, .slice A2 n2 c2] :=
              JR_frame (w := w5) (fun b hb => set6v_other _ _ _ _ _ (by omega)) _ _ hjr
            have HMM := Lib.hid hmM; have HBM := Lib.hid hbM; have HPM := Lib.hid hpM; have HJM := Lib.hid hjM; have HVQ := Lib.hid heq
            clear hjr heq hp5 hm5 hb5 hp5' hmM hbM hpM hjM l0 l1 l2 f1
            have hwbs : w.heap.size ≤ wb.heap.size := HP6.out.2.size
            go_upto_region 14 with (fail)
            generalize ((((w5.setCell ⟨M, 1, none⟩ (.int .i64 v.k)).setCell ⟨M, 2, none⟩ (.int .i64 v.n)).setCell ⟨M, 3, none⟩ (.string v.s)).setCell ⟨M, 4, none⟩ (.slice A1 n1 c1)).setCell ⟨M, 5, none⟩ (.slice A2 n2 c2) = WM at *
            clear m0 m1 m2 m3 m4 m5 h0' h1' h2' h3' h4' h5'
            obtain ⟨⟨b0, b1, b2, b3, b4, b5⟩, ⟨g0, g1, g2, g3, g4, g5⟩, hBw⟩ := cells6 HBM.out
            obtain ⟨⟨m0, m1, m2, m3, m4, m5⟩, _, hMw7⟩ := cells6 HMM.out
            have hf := set6 (.string nm) (.int .i64 v.k) (.int .i64 v.n) (.string v.s) (.slice A1 n1 c1) (.slice A2 n2 c2) HBM.out
            have hr6 := RdPost.set6 HPM.out (B := w.heap.size) (Nat.le_refl _) hR (.string nm) (.int .i64 v.k) (.int .i64 v.n) (.string v.s) (.slice A1 n1 c1) (.slice A2 n2 c2)
            have hjj := JR_mono (F' := fun b => w.heap.size ≤ b) (fun b hb => by omega) _ _ (JR_frame (w := WM) (w' := ((((((WM.setCell ⟨w.heap.size, 0, none⟩ (.string nm)).setCell ⟨w.heap.size, 1, none⟩ (.int .i64 v.k)).setCell ⟨w.heap.size, 2, none⟩ (.int .i64 v.n)).setCell ⟨w.heap.size, 3, none⟩ (.string v.s)).setCell ⟨w.heap.size, 4, none⟩ (.slice A1 n1 c1)).setCell ⟨w.heap.size, 5, none⟩ (.slice A2 n2 c2))) (fun b hb => set6_other _ _ _ _ _ _ (by omega)) _ _ HJM.out)
            have HF6 := Lib.hid hf; have HR6 := Lib.hid hr6; have HJJ := Lib.hid hjj
            clear hf hr6 hjj
            go_wp2_with fail
            exact bodyPost_ret (results_cell_row rfl _ _ w.heap.size 49 #[.string nm, .int .i64 v.k, .int .i64 v.n, .string v.s, .slice A1 n1 c1, .slice A2 n2 c2] (0, 0) _ rfl HF6.out Tryz.underlying49 rfl (by kernel_rfl)) rfl ⟨(nm, v), _, _, _, _, _, _, rfl, HJJ.out, hnz, fun h => by rw [HVQ.out h], HR6.out⟩
          · have dy : (y2.e == 0) = false := by simpa using hy2
            have hfe := HEE.out
            rw [if_neg hy2] at hfe
            subst hfe
            clear HEE
            obtain ⟨⟨b0, b1, b2, b3, b4, b5⟩, ⟨g0, g1, g2, g3, g4, g5⟩, hBw⟩ := cells6 HB6.out
            obtain ⟨⟨m0, m1, m2, m3, m4, m5⟩, _, hMw7⟩ := cells6 HM6.out
            have hf := set6 (.string nm) (.int .i64 0) (.int .i64 0) (.string ⟨#[]⟩) (.slice none 0 0) (.slice none 0 0) HB6.out
            have hr6 := RdPost.set6 HP6.out (B := w.heap.size) (Nat.le_refl _) hR (.string nm) (.int .i64 0) (.int .i64 0) (.string ⟨#[]⟩) (.slice none 0 0) (.slice none 0 0)
            have hjj := zero_jr ((((((wb.setCell ⟨w.heap.size, 0, none⟩ (.string nm)).setCell ⟨w.heap.size, 1, none⟩ (.int .i64 0)).setCell ⟨w.heap.size, 2, none⟩ (.int .i64 0)).setCell ⟨w.heap.size, 3, none⟩ (.string ⟨#[]⟩)).setCell ⟨w.heap.size, 4, none⟩ (.slice none 0 0)).setCell ⟨w.heap.size, 5, none⟩ (.slice none 0 0)) (fun b => w.heap.size ≤ b)
            have HF6 := Lib.hid hf; have HR6 := Lib.hid hr6; have HJJ := Lib.hid hjj
            clear hf hr6 hjj
            go_wp2_with fail
            exact bodyPost_ret (results_cell_row rfl _ _ w.heap.size 49 #[.string nm, .int .i64 0, .int .i64 0, .string ⟨#[]⟩, .slice none 0 0, .slice none 0 0] (0, 0) _ rfl HF6.out Tryz.underlying49 rfl (by kernel_rfl)) rfl ⟨(nm, zeroV), none, 0, 0, none, 0, 0, rfl, HJJ.out, hnz, fun _ => rfl, HR6.out⟩
end Go.Proofs.YtlihjmfdnkfmfaaGreatDoor
namespace Go.Proofs.YtlihjmfdnkfmfaaGreatDoor
open Go.RowKit Go.Lib

inductive All2 {α β : Type} (R : α → β → Prop) : List α → List β → Prop
  | nil : All2 R [] []
  | cons {a : α} {b : β} {xs : List α} {ys : List β} : R a b → All2 R xs ys → All2 R (a :: xs) (b :: ys)
theorem All2.perm {α β : Type} {R : α → β → Prop} {xs xs' : List α} (hp : xs'.Perm xs) : ∀ {ys : List β}, All2 R xs ys → ∃ ys', ys'.Perm ys ∧ All2 R xs' ys' := by
  induction hp with
  | nil => intro ys h; cases h; exact ⟨[], .nil, .nil⟩
  | cons x _ ih =>
    intro ys h
    cases h with
    | cons h1 h2 =>
      obtain ⟨ys', p, q⟩ := ih h2
      exact ⟨_ :: ys', p.cons _, .cons h1 q⟩
  | swap x y l =>
    intro ys h
    cases h with
    | cons h1 h2 =>
      cases h2 with
      | cons h3 h4 => exact ⟨_, .swap _ _ _, .cons h3 (.cons h1 h4)⟩
  | trans _ _ ih1 ih2 =>
    intro ys h
    obtain ⟨ys1, p1, q1⟩ := ih2 h
    obtain ⟨ys2, p2, q2⟩ := ih1 q1
    exact ⟨ys2, p2.trans p1, q2⟩
theorem All2.len {α β : Type} {R : α → β → Prop} {xs : List α} {ys : List β} (h : All2 R xs ys) : xs.length = ys.length := by
  induction h with
  | nil => rfl
  | cons _ _ ih => simp [ih]
def MemR (w : World) (F : Nat → Prop) (m : MC) (v : ByteArray × JV) : Prop := m.nm = v.1 ∧ memTy.R w F v m.cells
theorem chunks_mc {w : World} {F : Nat → Prop} : ∀ {vs : List (ByteArray × JV)} {cs : List Value}, Chunks memTy w F vs cs → ∃ ms : List MC, cs = mcFlat ms ∧ All2 (MemR w F) ms vs
  | [], cs, h => ⟨[], h, .nil⟩
  | (nm, y) :: vs, cs, ⟨c, r, e, hc, hr⟩ => by
    obtain ⟨ms, rfl, h2⟩ := chunks_mc hr
    obtain ⟨c', ⟨rfl, hz⟩, hj⟩ := hc
    obtain ⟨A1, n1, c1, A2, n2, c2, rfl⟩ := JR_form hj
    exact ⟨⟨nm, y.k, y.n, y.s, A1, n1, c1, A2, n2, c2⟩ :: ms, by rw [e]; rfl, .cons ⟨rfl, _, ⟨rfl, hz⟩, hj⟩ h2⟩
theorem mc_chunks {w : World} {F : Nat → Prop} {ms : List MC} {vs : List (ByteArray × JV)} (h : All2 (MemR w F) ms vs) : Chunks memTy w F vs (mcFlat ms) := by
  induction h with
  | nil => rfl
  | cons h1 _ ih => exact ⟨_, _, rfl, h1.2, ih⟩
def SortedNm (l : List (ByteArray × JV)) : Prop := l.Pairwise (fun a b => Op.bytesLess b.1.toList a.1.toList = false)
theorem All2.sorted {w : World} {F : Nat → Prop} {ms : List MC} {vs : List (ByteArray × JV)} (h : All2 (MemR w F) ms vs) (hs : ms.Pairwise (fun a b => Op.bytesLess b.nm.toList a.nm.toList = false)) : SortedNm vs := by
  induction h with
  | nil => exact .nil
  | cons h1 h2 ih =>
    obtain ⟨p1, p2⟩ := List.pairwise_cons.1 hs
    refine List.pairwise_cons.2 ⟨fun b hb => ?_, ih p2⟩
    have key : ∀ {ms : List MC} {vs : List (ByteArray × JV)}, All2 (MemR w F) ms vs → ∀ b ∈ vs, ∃ m ∈ ms, m.nm = b.1 := by
      intro ms vs h
      induction h with
      | nil => intro b hb; cases hb
      | cons h1 _ ih =>
        intro b hb
        rcases List.mem_cons.1 hb with rfl | hb
        · exact ⟨_, List.mem_cons_self, h1.1⟩
        · obtain ⟨m, hm, e⟩ := ih b hb
          exact ⟨m, List.mem_cons_of_mem _ hm, e⟩
    obtain ⟨m, hm, e⟩ := key h2 b hb
    rw [← e, ← h1.1]; exact p1 m hm

/-! the order is one, where names differ -/
theorem insName_perm (m : ByteArray × JV) : ∀ l, (insName m l).Perm (m :: l)
  | [] => .refl _
  | x :: r => by
    simp only [insName]
    split
    · exact .refl _
    · exact ((insName_perm m r).cons x).trans (.swap _ _ _)
theorem sortNames_perm (l : List (ByteArray × JV)) : (sortNames l).Perm l := by
  induction l with
  | nil => exact .refl _
  | cons x l ih => exact (insName_perm x _).trans (ih.cons x)
theorem le_tr {a b c : List UInt8} (h1 : Op.bytesLess b a = false) (h2 : Op.bytesLess c b = false) : Op.bytesLess c a = false := by
  rw [bytesLess_eq] at *; simp at *; exact List.le_trans h1 h2
theorem less_le {a b : List UInt8} (h1 : Op.bytesLess a b = true) : Op.bytesLess b a = false := by
  rw [bytesLess_eq] at *; simp at *; exact List.le_of_lt h1
theorem le_anti {a b : List UInt8} (h1 : Op.bytesLess a b = false) (h2 : Op.bytesLess b a = false) : a = b := by
  rw [bytesLess_eq] at *; simp at *; exact List.le_antisymm h2 h1
theorem insName_sorted (m : ByteArray × JV) : ∀ l, SortedNm l → SortedNm (insName m l)
  | [], _ => List.pairwise_singleton _ _
  | x :: r, h => by
    obtain ⟨p1, p2⟩ := List.pairwise_cons.1 h
    simp only [insName]
    split
    · rename_i hlt
      refine List.pairwise_cons.2 ⟨fun b hb => ?_, h⟩
      rcases List.mem_cons.1 hb with rfl | hb
      · exact less_le hlt
      · exact le_tr (less_le hlt) (p1 b hb)
    · rename_i hlt
      refine List.pairwise_cons.2 ⟨fun b hb => ?_, insName_sorted m r p2⟩
      rcases List.mem_cons.1 ((insName_perm m r).mem_iff.1 hb) with rfl | hb
      · simpa using hlt
      · exact p1 b hb
theorem sortNames_sorted (l : List (ByteArray × JV)) : SortedNm (sortNames l) := by
  induction l with
  | nil => exact .nil
  | cons x l ih => exact insName_sorted x _ ih
theorem sorted_unique : ∀ {a b : List (ByteArray × JV)}, a.Perm b → SortedNm a → SortedNm b → (a.map (fun m => m.1.toList)).Nodup → a = b
  | [], b, hp, _, _, _ => (List.nil_perm.1 hp).symm
  | x :: a, [], hp, _, _, _ => by have := hp.length_eq; simp at this
  | x :: a, y :: b, hp, ha, hb, hn => by
    obtain ⟨p1, p2⟩ := List.pairwise_cons.1 ha
    obtain ⟨q1, q2⟩ := List.pairwise_cons.1 hb
    have e : x = y := by
      rcases List.mem_cons.1 (hp.mem_iff.1 (List.mem_cons_self (a := x) (l := a))) with e | h1
      · exact e
      · rcases List.mem_cons.1 (hp.mem_iff.2 (List.mem_cons_self (a := y) (l := b))) with e | h2
        · exact e.symm
        · exfalso
          have hxy := le_anti (q1 x h1) (p1 y h2)
          rw [List.map_cons, List.nodup_cons] at hn
          exact hn.1 (List.mem_map.2 ⟨y, h2, hxy.symm⟩)
    subst e
    rw [List.map_cons, List.nodup_cons] at hn
    rw [sorted_unique (List.Perm.cons_inv hp) p2 q2 hn.2]
theorem RowIn.sorted {V : Nat} {va : Value} {vs : List (ByteArray × JV)} {w w' : World} {T : TypeId} {ms ms' : List MC} {cs : List Value} (h1 : w.heap[V]? = some (.cells (mkM va) T (0, 0))) (h2 : w.ownsRow (V + 1) 49 6 va vs.length cs)
    (h3 : All2 (MemR w (fun b => V < b ∧ b < w.heap.size ∧ some b ≠ va.ownBlock)) ms vs) (hp : ms'.Perm ms) (hs : ms'.Pairwise (fun a b => Op.bytesLess b.nm.toList a.nm.toList = false))
    (ho : w'.ownsRow (V + 1) 49 6 va ms'.length (mcFlat ms')) (hg : w.grownBy w' va.ownBlock) :
    ∃ vs', vs'.Perm vs ∧ SortedNm vs' ∧ RowIn T 49 memTy V mkM va vs' w' := by
  obtain ⟨vs', p, q⟩ := All2.perm hp h3
  refine ⟨vs', p, q.sorted hs, (hg.block V (Array.getElem?_eq_some_iff.1 h1).1 ?_).trans h1, mcFlat ms', by rw [← q.len]; exact ho, ?_⟩
  · intro e; have := (h2.lt V e.symm).1; omega
  · exact ((mc_chunks q).frame (w' := w') (fun b hb => hg.block b hb.2.1 hb.2.2)).mono (fun b hb => ⟨hb.1, Nat.lt_of_lt_of_le hb.2.1 hg.size, hb.2.2⟩)
theorem memInfo : (Tryz.prog.info? 49).map (fun i => (i.zero, i.size, i.bytes)) = some (some (.agg #[.string ⟨#[]⟩, .int .i64 0, .int .i64 0, .string ⟨#[]⟩, .slice none 0 0, .slice none 0 0]), 6, 96) := by kernel_rfl
theorem member_new {s : ByteArray} {pv : St → JV × St} {l : List (ByteArray × JV)} {x : St} (h : (memberB s pv l x).2.e = 0) (hn : (l.map (fun m => m.1.toList)).Nodup) : ((l ++ [(memberB s pv l x).1]).map (fun m => m.1.toList)).Nodup := by
  unfold memberB at *
  simp only at *
  generalize (if (x.see s).1 ≠ 34 then (x.see s).2.fail 4 else (x.see s).2) = y at *
  generalize hnm : (⟨(textB s y).1.toArray⟩ : ByteArray) = nm at *
  generalize (textB s y).2 = u at *
  cases hany : l.any (fun m => m.1.toList == nm.toList)
  · rw [List.map_append, List.nodup_append]
    refine ⟨hn, by simp, fun a ha b hb hab => ?_⟩
    obtain ⟨m, hm, rfl⟩ := List.mem_map.1 ha
    have hb' : b = nm.toList := by
      simp only [List.map_cons, List.map_nil, List.mem_singleton] at hb
      rw [hb]
      repeat' split
      all_goals rfl
    have := List.any_eq_false.1 hany m hm
    rw [hab, hb'] at this
    simp at this
  · exfalso
    try rw [hany] at h
    simp only [if_true] at h
    have hz : ¬ (u.fail 4).e = 0 := by unfold St.fail; split <;> rename_i h0 <;> simp [h0]
    rw [if_neg hz, if_neg hz] at h
    exact hz h
end Go.Proofs.YtlihjmfdnkfmfaaGreatDoor
namespace Go.Proofs.YtlihjmfdnkfmfaaGreatDoor
open Go.RowKit Go.Lib

theorem unqLoop_ge (s : ByteArray) : ∀ (f : Nat) (acc : List UInt8) (x : St), (x.e = 0 → s.size + 1 - x.p ≤ f) → x.p ≤ s.size → (unqLoop s f acc x).2.2 = 0 → x.p ≤ (unqLoop s f acc x).2.1
  | 0, _, x, hf, hx, h => by
    have : x.e = 0 := h
    have := hf this
    omega
  | f + 1, acc, x, hf, hx, h => by
    have h1 := sign_mono s x
    have h2 := escape_mono s (signB s x).2
    by_cases he : x.e = 0
    · have hf' := hf he
      have heq : unqLoop s (f + 1) acc x = (if x.e ≠ 0 then ([], 0, x.e)
        else if (signB s x).2.e ≠ 0 then ([], 0, (signB s x).2.e)
        else if (signB s x).1 = 34 then (acc, (signB s x).2.p, 0)
        else if (signB s x).1 = 92 then unqLoop s f (acc ++ Lib.encodeRune (escapeB s (signB s x).2).1) (escapeB s (signB s x).2).2
        else unqLoop s f (acc ++ Lib.encodeRune (signB s x).1) (signB s x).2) := rfl
      rw [heq] at h ⊢
      rw [if_neg (by simpa using he)] at h ⊢
      by_cases hs : (signB s x).2.e = 0
      · have hst := sign_step (s := s) (x := x) he hs
        rw [if_neg (by simpa using hs)] at h ⊢
        by_cases h34 : (signB s x).1 = 34
        · rw [if_pos h34]; exact h1.1
        · rw [if_neg h34] at h ⊢
          by_cases h92 : (signB s x).1 = 92
          · rw [if_pos h92] at h ⊢
            have := unqLoop_ge s f _ _ (fun _ => by have := h2.1; omega) (h2.2 (h1.2 hx)) h
            have := h2.1
            omega
          · rw [if_neg h92] at h ⊢
            have := unqLoop_ge s f _ _ (fun _ => by omega) (h1.2 hx) h
            omega
      · rw [if_pos hs] at h; exact absurd h hs
    · have heq : unqLoop s (f + 1) acc x = ([], 0, x.e) := by simp only [unqLoop]; rw [if_pos he]
      rw [heq] at h; exact absurd h he
theorem Good.of_bd' {s : ByteArray} {x y : St} (h : x.p ≤ y.p ∧ y.p ≤ s.size) : Good s x y := ⟨fun _ => h, by omega⟩
theorem text_good {s : ByteArray} {x : St} (hx : x.p ≤ s.size) : Good s x (textB s x).2 := by
  unfold textB
  split
  · exact Good.of_bd' ⟨Nat.le_refl _, hx⟩
  · have h1 := unquote_le s x.p hx
    refine ⟨fun he => ⟨?_, h1⟩, by simp only; omega⟩
    simp only at he ⊢
    have hz : (unquoteB s x.p).2.2 = 0 := by
      by_cases h : (unquoteB s x.p).2.2 = 0
      · exact h
      · rw [if_pos h] at he; exact he
    have hm := twants_mono s ⟨x.p, 0⟩ 34
    have := unqLoop_ge s (s.size + 1 - x.p) [] (St.twants s ⟨x.p, 0⟩ 34) (fun _ => by have := hm.1; simp only at this; omega) (hm.2 hx) hz
    have h3 := hm.1
    simp only at h3
    unfold unquoteB
    omega
theorem word_good (s : ByteArray) : ∀ (l : List UInt8) (x : St), x.p ≤ s.size → x.p ≤ (wordIn s l x).2.p ∧ (wordIn s l x).2.p ≤ s.size
  | [], x, h => ⟨Nat.le_refl _, h⟩
  | c :: r, x, h => by
    simp only [wordIn]
    split
    · rw [fail_p]; exact ⟨Nat.le_refl _, h⟩
    · split
      · rw [fail_p]; exact ⟨Nat.le_refl _, h⟩
      · have := word_good s r x.step (by simp only [St.step]; omega)
        simp only [St.step] at this ⊢
        omega
theorem number_good {s : ByteArray} {x : St} (hx : x.p ≤ s.size) : x.p ≤ (numberB s x).2.p ∧ (numberB s x).2.p ≤ s.size := by
  unfold numberB
  have h1 : x.p ≤ (if anyB s [45] x.p then x.step else x).p ∧ (if anyB s [45] x.p then x.step else x).p ≤ s.size := by
    split
    · rename_i h
      simp only [anyB, Bool.and_eq_true, decide_eq_true_eq] at h
      simp only [St.step]; omega
    · exact ⟨Nat.le_refl _, hx⟩
  generalize (if anyB s [45] x.p then x.step else x) = y at *
  have h2 : (numStart s y).p = y.p := by unfold numStart; split; exact fail_p _ _; rfl
  unfold numEnd
  simp only
  have h3 := numLoop_range s (anyB s [48] (numStart s y).p) (numStart s y).p (s.size - (numStart s y).p) 0 (numStart s y).p (by omega) (by omega)
  have h4 := h3.2.2.2 (by omega)
  split
  · rw [fail_p]; simp only; omega
  · split
    · rw [fail_p]; simp only; omega
    · simp only; omega
theorem Good.of_bd {s : ByteArray} {x y : St} (h : x.p ≤ y.p ∧ y.p ≤ s.size) : Good s x y := ⟨fun _ => h, by omega⟩
theorem Good.trans {s : ByteArray} {x y z : St} (h : x.p ≤ y.p) (k : Good s y z) : Good s x z := ⟨fun he => ⟨Nat.le_trans h (k.1 he).1, (k.1 he).2⟩, k.2⟩
def GoodV (s : ByteArray) (pv : St → JV × St) : Prop := ∀ x : St, x.e = 0 → x.p ≤ s.size → Good s x (pv x).2
theorem member_good {s : ByteArray} {pv : St → JV × St} (hg : GoodV s pv) (l : List (ByteArray × JV)) {x : St} (hx : x.p ≤ s.size) : Good s x (memberB s pv l x).2 := by
  unfold memberB
  simp only
  have h1 := see_bd hx
  have hy : x.p ≤ (if (x.see s).1 ≠ 34 then (x.see s).2.fail 4 else (x.see s).2).p ∧ (if (x.see s).1 ≠ 34 then (x.see s).2.fail 4 else (x.see s).2).p ≤ s.size := by
    split <;> (try rw [fail_p]) <;> exact h1
  generalize (if (x.see s).1 ≠ 34 then (x.see s).2.fail 4 else (x.see s).2) = y at *
  have ht := text_good hy.2
  generalize hnm : (⟨(textB s y).1.toArray⟩ : ByteArray) = nm at *
  generalize (textB s y).2 = t at *
  have hz : Good s x (if l.any (fun m => m.1.toList == nm.toList) then t.fail 4 else t) := by
    split
    · refine ⟨fun he => ?_, by rw [fail_p]; exact ht.2⟩
      unfold St.fail at he; split at he
      · simp at he
      · rename_i h0; exact absurd he h0
    · exact Good.trans hy.1 ht
  generalize (if l.any (fun m => m.1.toList == nm.toList) then t.fail 4 else t) = z at *
  have hu : Good s x (if z.e = 0 then z.wants s 58 else z) := by
    split
    · rename_i h0
      exact Good.trans (hz.1 h0).1 (wants_good (by decide) (hz.1 h0).2).1
    · exact hz
  generalize (if z.e = 0 then z.wants s 58 else z) = u at *
  split
  · rename_i h0
    exact Good.trans (hu.1 h0).1 (hg u h0 (hu.1 h0).2)
  · exact hu
theorem listLoop_good {s : ByteArray} {pv : St → JV × St} (hg : GoodV s pv) : ∀ (f : Nat) (acc : List JV) (x : St), Good s x x → Good s x (listLoop s pv f acc x).2
  | 0, _, _, h => h
  | f + 1, acc, x, h => by
    simp only [listLoop]
    by_cases he : x.e = 0
    · rw [if_neg (by simpa using he)]
      have hv := hg x he (h.1 he).2
      by_cases hz : (pv x).2.e = 0
      · rw [if_neg (by simpa using hz)]
        have hb := see_bd (hv.1 hz).2
        have hxz := (hv.1 hz).1
        split
        · rename_i h93
          have := see_at (s := s) (x := (pv x).2) (by rw [h93]; decide)
          exact Good.of_bd (by simp only [St.step]; omega)
        · split
          · exact Good.of_bd ⟨Nat.le_trans hxz hb.1, hb.2⟩
          · have hw := wants_good (c := 44) (by decide) hb.2
            have := listLoop_good hg f (acc ++ [(pv x).1]) _ (⟨fun h2 => ⟨Nat.le_refl _, (hw.1.1 h2).2⟩, hw.1.2⟩)
            refine ⟨fun h2 => ?_, this.2⟩
            have h3 := this.1 h2
            refine ⟨?_, h3.2⟩
            by_cases h4 : (((pv x).2.see s).2.wants s 44).e = 0
            · have := (hw.1.1 h4).1; omega
            · rw [listLoop_err h4] at h2; exact absurd h2 h4
      · rw [if_pos hz]; exact hv
    · rw [if_pos he]; exact h
theorem objLoop_err {s : ByteArray} {pv : St → JV × St} {f : Nat} {acc : List (ByteArray × JV)} {x : St} (h : x.e ≠ 0) : objLoop s pv f acc x = (acc, x) := by
  cases f with
  | zero => rfl
  | succ f => simp only [objLoop]; rw [if_pos h]
theorem objLoop_good {s : ByteArray} {pv : St → JV × St} (hg : GoodV s pv) : ∀ (f : Nat) (acc : List (ByteArray × JV)) (x : St), Good s x x → Good s x (objLoop s pv f acc x).2
  | 0, _, _, h => h
  | f + 1, acc, x, h => by
    simp only [objLoop]
    by_cases he : x.e = 0
    · rw [if_neg (by simpa using he)]
      have hv := member_good hg acc (h.1 he).2
      by_cases hz : (memberB s pv acc x).2.e = 0
      · rw [if_neg (by simpa using hz)]
        have hb := see_bd (hv.1 hz).2
        have hxz := (hv.1 hz).1
        split
        · rename_i h93
          have := see_at (s := s) (x := (memberB s pv acc x).2) (by rw [h93]; decide)
          exact Good.of_bd (by simp only [St.step]; omega)
        · split
          · exact Good.of_bd ⟨Nat.le_trans hxz hb.1, hb.2⟩
          · have hw := wants_good (c := 44) (by decide) hb.2
            have := objLoop_good hg f (acc ++ [(memberB s pv acc x).1]) _ (⟨fun h2 => ⟨Nat.le_refl _, (hw.1.1 h2).2⟩, hw.1.2⟩)
            refine ⟨fun h2 => ?_, this.2⟩
            have h3 := this.1 h2
            refine ⟨?_, h3.2⟩
            by_cases h4 : (((memberB s pv acc x).2.see s).2.wants s 44).e = 0
            · have := (hw.1.1 h4).1; omega
            · rw [objLoop_err h4] at h2; exact absurd h2 h4
      · rw [if_pos hz]; exact hv
    · rw [if_pos he]; exact h
theorem list_good {s : ByteArray} {pv : St → JV × St} (hg : GoodV s pv) {x : St} (hx : x.p < s.size) : Good s x (listB s pv x).2 := by
  unfold listB
  simp only
  have hb := see_bd (s := s) (x := x.step) (by simp only [St.step]; omega)
  have hxs : x.p ≤ x.step.p := by simp [St.step]
  split
  · rename_i h93
    have := see_at (s := s) (x := x.step) (by rw [h93]; decide)
    exact Good.of_bd (by simp only [St.step] at *; omega)
  · exact Good.trans (Nat.le_trans hxs hb.1) (listLoop_good hg _ _ _ (Good.of_bd ⟨Nat.le_refl _, hb.2⟩))
theorem object_good {s : ByteArray} {pv : St → JV × St} (hg : GoodV s pv) {x : St} (hx : x.p < s.size) : Good s x (objectB s pv x).2 := by
  unfold objectB
  simp only
  have hb := see_bd (s := s) (x := x.step) (by simp only [St.step]; omega)
  have hxs : x.p ≤ x.step.p := by simp [St.step]
  split
  · rename_i h93
    have := see_at (s := s) (x := x.step) (by rw [h93]; decide)
    exact Good.of_bd (by simp only [St.step] at *; omega)
  · exact Good.trans (Nat.le_trans hxs hb.1) (objLoop_good hg _ _ _ (Good.of_bd ⟨Nat.le_refl _, hb.2⟩))
theorem value_good (s : ByteArray) : ∀ d, GoodV s (valueB s d)
  | 0, x, he, hx => by
    have hb := see_bd hx
    simp only [valueB]
    split
    · exact Good.of_bd hb
    · split
      · exact Good.of_bd (by rw [fail_p]; exact hb)
      · exact Good.trans hb.1 (Good.of_bd (number_good hb.2))
  | d + 1, x, he, hx => by
    have hb := see_bd hx
    have ih := value_good s d
    simp only [valueB]
    split
    · exact Good.of_bd hb
    · split
      · rename_i h; have := see_at (s := s) (x := x) (by rw [h]; decide)
        exact Good.trans hb.1 (list_good ih this.1)
      · split
        · rename_i h; have := see_at (s := s) (x := x) (by rw [h]; decide)
          exact Good.trans hb.1 (object_good ih this.1)
        · split
          · exact Good.trans hb.1 (text_good hb.2)
          · split
            · exact Good.trans hb.1 (Good.of_bd (word_good s _ _ hb.2))
            · split
              · exact Good.trans hb.1 (Good.of_bd (word_good s _ _ hb.2))
              · split
                · exact Good.trans hb.1 (Good.of_bd (word_good s _ _ hb.2))
                · exact Good.trans hb.1 (Good.of_bd (number_good hb.2))
end Go.Proofs.YtlihjmfdnkfmfaaGreatDoor
