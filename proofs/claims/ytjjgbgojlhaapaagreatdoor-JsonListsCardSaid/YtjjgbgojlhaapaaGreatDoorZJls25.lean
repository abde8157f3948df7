/- Parts of the proof: Lw. -/
import Derived.Test.YtjjgbgojlhaapaaGreatDoorZJls24
import Derived.Test.YtjjgbgojlhaapaaGreatDoorZJls18
import Derived.Test.YtjjgbgojlhaapaaGreatDoorZJls4
namespace Go.Proofs.YtjjgbgojlhaapaaGreatDoor
open Go.RowKit Go.Lib

theorem bsl_latL {w w' : World} {F : Nat → Prop} {v : Value} {s : ByteArray} (h : BSl w F v s) (hb : Below w.heap.size w w') : BSl w' F v s := by
  rcases h with ⟨b, o, c, rfl, hF, hc⟩ | h
  · exact .inl ⟨b, o, c, rfl, hF, fun i hi => (World.cell?_of_block (w := w) (a := ⟨b, o + i, none⟩) (hb.block b (World.block_lt_of_cell? w _ (hc i hi)))).trans (hc i hi)⟩
  · exact .inr h
theorem sl_latL {α : Type} {T : Ty α} {w W : World} {F : Nat → Prop} {v : Value} {xs : List α} (h : Sl T w F v xs) (hb : Below w.heap.size w W) : Sl T W F v xs :=
  (h.bound.frame (w' := W) (fun b hb' => hb.block b hb'.2)).mono (fun _ h => h.1)
theorem print_ok (x : JV) (cs : List Value) (F : Nat → Prop) (w : World) (h : JR w F x cs) (hT : Tabs w) (hm : mayJ 64 x = true) (hlen : (printB 64 x).length ≤ 1000000000) : Calls Tryz.prog 14 #[.agg cs.toArray] w fun z w' =>
    ∃ (A : Option Addr) (c : Nat), z = .returned (.tuple #[.slice A (printB 64 x).length c, .int .i64 0]) ∧ BSl w' (fun _ => True) (.slice A (printB 64 x).length c) ⟨(printB 64 x).toArray⟩ ∧ Below w.heap.size w w' := by
  refine (Print_good x cs F w h hT hm (by omega)).mono ?_
  rintro e w' ⟨⟨g, c, rfl, hc⟩, hb⟩
  refine ⟨some ⟨g, 0, none⟩, c, rfl, .inl ⟨g, 0, c, by rw [list_size], trivial, fun i hi => ?_⟩, hb⟩
  have h := hc i (by rw [list_size] at hi; exact hi)
  rw [Addr.add_mid] at h
  exact h
theorem JR_text (w : World) (F : Nat → Prop) (s : ByteArray) (h : s.size ≤ 9223372036854775807) : JR w F (wordV s) [.int .i64 5, .int .i64 0, .string s, .slice none 0 0, .slice none 0 0] :=
  JR_iff.2 ⟨_, _, ⟨rfl, h⟩, Sl.nil none 0, Sl.nil none 0⟩
theorem print_txt (nm : ByteArray) (w : World) (hT : Tabs w) (hs : shortB nm = true) (hn : nm.size ≤ 100) : Calls Tryz.prog 14 #[.agg #[.int .i64 5, .int .i64 0, .string nm, .slice none 0 0, .slice none 0 0]] w fun z w' =>
    ∃ (A : Option Addr) (c : Nat), z = .returned (.tuple #[.slice A (quoteB nm).length c, .int .i64 0]) ∧ BSl w' (fun _ => True) (.slice A (quoteB nm).length c) ⟨(quoteB nm).toArray⟩ ∧ Below w.heap.size w w' := by
  have hq := (short_len hs).1
  have h := print_ok (wordV nm) [.int .i64 5, .int .i64 0, .string nm, .slice none 0 0, .slice none 0 0] (fun _ => True) w (JR_text w _ nm (by omega)) hT (by rw [may_wordV hs]) (by show (quoteB nm).length ≤ _; omega)
  exact h
theorem own_empty (w : World) (base : Nat) (e : TypeId) (size : Nat) (hb : base ≤ w.heap.size) : (w.alloc (.cells #[] e)).ownsRow base e size (.slice (some ⟨w.heap.size, 0, none⟩) 0 0) 0 [] :=
  ⟨by simp, .inr ⟨w.heap.size, 0, #[], rfl, hb, heap_alloc_new w _, Nat.le_refl _, by decide, by simp, by simp⟩⟩
/-- what a round of the first loop reads -/
def LsC (b p bn pn : Nat) (nm : ByteArray) (c0 c1 c2 c3 c4 : Value) (w : World) : Prop := w.cell? ⟨bn, pn, none⟩ = some (.string nm) ∧
  w.cell? ⟨b, p, none⟩ = some c0 ∧ w.cell? ⟨b, p + 1, none⟩ = some c1 ∧ w.cell? ⟨b, p + 2, none⟩ = some c2 ∧ w.cell? ⟨b, p + 3, none⟩ = some c3 ∧ w.cell? ⟨b, p + 4, none⟩ = some c4
theorem LsC.later {b p bn pn : Nat} {nm : ByteArray} {c0 c1 c2 c3 c4 : Value} {w W : World} (h : LsC b p bn pn nm c0 c1 c2 c3 c4 w) (hb : Below w.heap.size w W) : LsC b p bn pn nm c0 c1 c2 c3 c4 W := by
  obtain ⟨h1, a0, a1, a2, a3, a4⟩ := h
  exact ⟨cell_later' hb h1, cell_later' hb a0, cell_later' hb a1, cell_later' hb a2, cell_later' hb a3, cell_later' hb a4⟩
/-- the arguments' places of one round -/
theorem ls_cells {w : World} {F F' : Nat → Prop} {A0 B0 : Option Addr} {c0 d0 : Nat} {l : List JV} {ns : List ByteArray} (hl : Sl jvTy w F (.slice A0 l.length c0) l) (hn : Sl strTy w F' (.slice B0 ns.length d0) ns) {k : Nat} {x : JV} {nm : ByteArray} (hx : l[k]? = some x) (hm : ns[k]? = some nm) :
    ∃ b o bn on A1 n1 c1 A2 n2 c2, A0 = some ⟨b, o, none⟩ ∧ B0 = some ⟨bn, on, none⟩ ∧ LsC b (o + k * 5) bn (on + k) nm (.int .i64 x.k) (.int .i64 x.n) (.string x.s) (.slice A1 n1 c1) (.slice A2 n2 c2) w ∧ JR w F x [.int .i64 x.k, .int .i64 x.n, .string x.s, .slice A1 n1 c1, .slice A2 n2 c2] := by
  obtain ⟨AA, cc, hv, _, hc⟩ := val_cells hl
  obtain ⟨b, o, A1, n1, c1, A2, n2, c2, hA, e0, e1, e2, e3, e4, hj⟩ := hc k x hx
  obtain ⟨AB, cd, hv', hd⟩ := str_cells hn
  obtain ⟨bn, on, hB, en⟩ := hd k nm hm
  injection hv with h1 _ _
  injection hv' with h2 _ _
  exact ⟨b, o, bn, on, A1, n1, c1, A2, n2, c2, h1.trans hA, h2.trans hB, ⟨en, e0, e1, e2, e3, e4⟩, hj⟩
theorem lw_sum {a b : Nat} (ha : a ≤ 1000) (hb : b ≤ 1000) : wrap64 ((a : Int) + (b : Int)) = (a : Int) + (b : Int) := by unfold wrap64; omega
theorem lw_rem (k t n : Nat) : ((k : Int) + (t : Int)) % (n : Int) = (((k + t) % n : Nat) : Int) := by
  rw [← Int.natCast_add]; rfl
theorem jr_lensL {w : World} {F : Nat → Prop} {x : JV} {a b c : Value} {d1 d2 : Option Addr} {n1 c1 n2 c2 : Nat} (h : JR w F x [a, b, c, .slice d1 n1 c1, .slice d2 n2 c2]) : x.l.length = n1 ∧ x.m.length = n2 := by
  obtain ⟨vl, vm, ⟨he, _⟩, hl, hm⟩ := JR_iff.1 h
  obtain ⟨A1, c1', rfl⟩ := hl.form
  obtain ⟨A2, c2', rfl⟩ := hm.form
  injection he with _ he; injection he with _ he; injection he with _ he; injection he with h1 he; injection he with h2 _
  injection h1 with _ h1; injection h2 with _ h2
  exact ⟨h1.symm, h2.symm⟩
theorem jr_listL {w : World} {F : Nat → Prop} {x : JV} {a b c : Value} {A1 A2 : Option Addr} {n1 c1 n2 c2 : Nat} (h : JR w F x [a, b, c, .slice A1 n1 c1, .slice A2 n2 c2]) : Sl jvTy w F (.slice A1 n1 c1) x.l := by
  obtain ⟨vl, vm, ⟨he, _⟩, hl, hm⟩ := JR_iff.1 h
  injection he with _ he; injection he with _ he; injection he with _ he; injection he with h1 he; injection he with h2 _
  subst h1
  exact hl
/-- what a round of the last loop reads -/
def LtL (X b p bN pN : Nat) (u : Value) (c0 c1 c2 c3 c4 d0 d1 d2 d3 d4 : Value) (w : World) : Prop := w.cell? ⟨X, 3, none⟩ = some u ∧
  (w.cell? ⟨b, p, none⟩ = some c0 ∧ w.cell? ⟨b, p + 1, none⟩ = some c1 ∧ w.cell? ⟨b, p + 2, none⟩ = some c2 ∧ w.cell? ⟨b, p + 3, none⟩ = some c3 ∧ w.cell? ⟨b, p + 4, none⟩ = some c4) ∧
  (w.cell? ⟨bN, pN, none⟩ = some d0 ∧ w.cell? ⟨bN, pN + 1, none⟩ = some d1 ∧ w.cell? ⟨bN, pN + 2, none⟩ = some d2 ∧ w.cell? ⟨bN, pN + 3, none⟩ = some d3 ∧ w.cell? ⟨bN, pN + 4, none⟩ = some d4)
theorem LtL.later {X b p bN pN : Nat} {u : Value} {c0 c1 c2 c3 c4 d0 d1 d2 d3 d4 : Value} {w W : World} (h : LtL X b p bN pN u c0 c1 c2 c3 c4 d0 d1 d2 d3 d4 w) (hb : Below w.heap.size w W) : LtL X b p bN pN u c0 c1 c2 c3 c4 d0 d1 d2 d3 d4 W := by
  obtain ⟨h1, ⟨a0, a1, a2, a3, a4⟩, ⟨b0, b1, b2, b3, b4⟩⟩ := h
  exact ⟨cell_later' hb h1, ⟨cell_later' hb a0, cell_later' hb a1, cell_later' hb a2, cell_later' hb a3, cell_later' hb a4⟩, ⟨cell_later' hb b0, cell_later' hb b1, cell_later' hb b2, cell_later' hb b3, cell_later' hb b4⟩⟩
def LtS (X : Nat) (ca : Array Value) (b p : Nat) (nm : ByteArray) (w : World) : Prop := w.heap[X]? = some (.cells ca 28 (0, 0)) ∧ w.cell? ⟨b, p, none⟩ = some (.string nm)
theorem LtS.later {X : Nat} {ca : Array Value} {b p : Nat} {nm : ByteArray} {w W : World} (h : LtS X ca b p nm w) (hb : Below w.heap.size w W) : LtS X ca b p nm W := ⟨Below.at hb h.1, cell_later' hb h.2⟩
/-- a value in a new block -/
def LtR (g : JV) (W : World) (s23 : Value) (wx : World) : Prop := ∃ X D1 i1 e1 D2 i2 e2, s23 = .pointer (some ⟨X, 0, none⟩) ∧
  wx.heap[X]? = some (.cells #[.int .i64 g.k, .int .i64 g.n, .string g.s, .slice D1 i1 e1, .slice D2 i2 e2] 28 (0, 0)) ∧ JR wx (fun _ => True) g [.int .i64 g.k, .int .i64 g.n, .string g.s, .slice D1 i1 e1, .slice D2 i2 e2] ∧ Below W.heap.size W wx
theorem lt_end {g : JV} {W wq : World} {X : Nat} {a0 a1 a2 a3 a4 : Value} {T : TypeId} (v0 v1 v2 v3 v4 : Value) (h : wq.heap[X]? = some (.cells #[a0, a1, a2, a3, a4] T (0, 0)))
    (hg : JR wq (fun b => b ≠ X) g [v0, v1, v2, v3, v4]) (hb : Below W.heap.size W wq) (hX : W.heap.size ≤ X) :
    (((((wq.setCell ⟨X, 0, none⟩ v0).setCell ⟨X, 1, none⟩ v1).setCell ⟨X, 2, none⟩ v2).setCell ⟨X, 3, none⟩ v3).setCell ⟨X, 4, none⟩ v4).heap[X]? = some (.cells #[v0, v1, v2, v3, v4] T (0, 0)) ∧
    JR (((((wq.setCell ⟨X, 0, none⟩ v0).setCell ⟨X, 1, none⟩ v1).setCell ⟨X, 2, none⟩ v2).setCell ⟨X, 3, none⟩ v3).setCell ⟨X, 4, none⟩ v4) (fun _ => True) g [v0, v1, v2, v3, v4] ∧
    Below W.heap.size W (((((wq.setCell ⟨X, 0, none⟩ v0).setCell ⟨X, 1, none⟩ v1).setCell ⟨X, 2, none⟩ v2).setCell ⟨X, 3, none⟩ v3).setCell ⟨X, 4, none⟩ v4) :=
  ⟨set5 v0 v1 v2 v3 v4 h, JR_mono (fun _ _ => trivial) _ _ (JR_frame (fun _ hb => set5_other v0 v1 v2 v3 v4 hb) _ _ hg),
    bel_set (p := ⟨X, 4, none⟩) (bel_set (p := ⟨X, 3, none⟩) (bel_set (p := ⟨X, 2, none⟩) (bel_set (p := ⟨X, 1, none⟩) (bel_set (p := ⟨X, 0, none⟩) hb hX v0) hX v1) hX v2) hX v3) hX v4⟩
set_option maxRecDepth 100000 in
set_option maxHeartbeats 64000000 in
theorem jsonLists_any (l : List JV) (ns : List ByteArray) (turn : Int) (v0 v1 : Value) (F F' : Nat → Prop) (w : World) (hl : Sl jvTy w F v0 l) (hn : Sl strTy w F' v1 ns) (hT : Tabs w) :
    Calls Tryz.prog 5 #[v0, v1, .int .i64 turn] w fun z w' => z = .returned (.bool true) ∧ Below w.heap.size w w' := by
  obtain ⟨A0, c0, rfl⟩ := hl.form
  obtain ⟨B0, d0, rfl⟩ := hn.form
  have HL := Lib.hid hl; have HN := Lib.hid hn; have HT := Lib.hid hT; have HB0 := Lib.hid (Below.refl w.heap.size w)
  clear hl hn hT
  go_enter Tryz.func5, Tryz.ntmps5
  have hcl := first_any w (HT.out.below HB0.out)
  have HCL := Lib.hid hcl
  clear hcl
  go_wp2_with fail
  refine Calls.mono HCL.out ?_
  rintro e w1 ⟨rfl, hbz⟩
  clear HCL
  have HB2 := Lib.hid (bel_trans HB0.out hbz)
  have HT3 := Lib.hid (sl_latL HL.out hbz)
  have HT4 := Lib.hid (sl_latL HN.out hbz)
  clear HB0 HL HN
  clear hbz
  by_cases g1 : 12 < l.length
  · have hd1 : decide (12 < (l.length : Int)) = true := decide_eq_true (by omega)
    have hcl := first_any w1 (HT.out.below HB2.out)
    have HCL := Lib.hid hcl
    clear hcl
    go_wp2_with fail
    refine Calls.mono HCL.out ?_
    rintro e w5 ⟨rfl, hbz⟩
    clear HCL
    have HB6 := Lib.hid (bel_trans HB2.out hbz)
    have HT7 := Lib.hid (sl_latL HT3.out hbz)
    have HT8 := Lib.hid (sl_latL HT4.out hbz)
    clear HB2 HT3 HT4
    clear hbz
    go_wp2_with fail
    go_ret
    exact ⟨rfl, HB6.out⟩
  · have hd1 : decide (12 < (l.length : Int)) = false := decide_eq_false (by omega)
    by_cases g2 : ns.length = l.length
    case neg =>
      have hd2 : ((ns.length : Int) != (l.length : Int)) = true := by simp; omega
      have hcl := first_any w1 (HT.out.below HB2.out)
      have HCL := Lib.hid hcl
      clear hcl
      go_wp2_with fail
      refine Calls.mono HCL.out ?_
      rintro e w9 ⟨rfl, hbz⟩
      clear HCL
      have HB10 := Lib.hid (bel_trans HB2.out hbz)
      have HT11 := Lib.hid (sl_latL HT3.out hbz)
      have HT12 := Lib.hid (sl_latL HT4.out hbz)
      clear HB2 HT3 HT4
      clear hbz
      go_wp2_with fail
      go_ret
      exact ⟨rfl, HB10.out⟩
    case pos =>
      have hd2 : ((ns.length : Int) != (l.length : Int)) = false := by simp; omega
      by_cases g3 : turn < 0
      · have hd3 : decide (turn < 0) = true := decide_eq_true g3
        have hcl := first_any w1 (HT.out.below HB2.out)
        have HCL := Lib.hid hcl
        clear hcl
        go_wp2_with fail
        refine Calls.mono HCL.out ?_
        rintro e w13 ⟨rfl, hbz⟩
        clear HCL
        have HB14 := Lib.hid (bel_trans HB2.out hbz)
        have HT15 := Lib.hid (sl_latL HT3.out hbz)
        have HT16 := Lib.hid (sl_latL HT4.out hbz)
        clear HB2 HT3 HT4
        clear hbz
        go_wp2_with fail
        go_ret
        exact ⟨rfl, HB14.out⟩
      · have hd3 : decide (turn < 0) = false := decide_eq_false g3
        by_cases g4 : 1000 < turn
        · have hd4 : decide (1000 < turn) = true := decide_eq_true g4
          have hcl := first_any w1 (HT.out.below HB2.out)
          have HCL := Lib.hid hcl
          clear hcl
          go_wp2_with fail
          refine Calls.mono HCL.out ?_
          rintro e w17 ⟨rfl, hbz⟩
          clear HCL
          have HB18 := Lib.hid (bel_trans HB2.out hbz)
          have HT19 := Lib.hid (sl_latL HT3.out hbz)
          have HT20 := Lib.hid (sl_latL HT4.out hbz)
          clear HB2 HT3 HT4
          clear hbz
          go_wp2_with fail
          go_ret
          exact ⟨rfl, HB18.out⟩
        · have hd4 : decide (1000 < turn) = false := decide_eq_false g4
          obtain ⟨tn, rfl⟩ : ∃ tn : Nat, turn = (tn : Int) := ⟨turn.toNat, by omega⟩
          have htn : tn ≤ 1000 := by omega
          have hl12 : l.length ≤ 12 := by omega
          have HTN := Lib.hid htn; have HL12 := Lib.hid hl12; have HNL := Lib.hid g2
          clear htn hl12 g1 g2 g3 g4
          obtain ⟨P, hP⟩ : ∃ P, P = ns.zip l := ⟨_, rfl⟩
          have HP := Lib.hid hP
          clear hP
          have HW := Lib.hid (Below.refl w1.heap.size w1)
          have HO0 := Lib.hid (own_empty w1 w1.heap.size 9 1 (Nat.le_refl _))
          have HA0 := Lib.hid (bel_alloc (Below.refl w1.heap.size w1) (.cells #[] 9))
          go_wp2_with fail
          go_loopg [7, 8, 9, 10] l.length (fun gg s7 s8 s9 s10 wr => ∃ k : Nat, k ≤ l.length ∧ l.length - k ≤ gg ∧ s10 = .int .i64 k ∧ s7 = .string ⟨(lstL l k).toArray⟩ ∧ s9 = .int .i64 (szL P k : Nat) ∧ ∃ A c, s8 = .slice A k c ∧
            Aside (wr.ownsRow w1.heap.size 9 1 (.slice A k c) k ((P.map fun q => Value.string ⟨(txtM q).toArray⟩).take k)) ∧ Aside (Below w1.heap.size w1 wr) ∧ Aside (∀ q ∈ P.take k, mayJ 64 q.2 = true ∧ shortB q.1 = true ∧ (printB 64 q.2).length ≤ 360000 ∧ (quoteB q.1).length ≤ 1000))
          case atStart => exact ⟨0, Nat.zero_le _, by omega, rfl, congrArg Value.string (by simp [lstL, joinFrom]), rfl, _, _, rfl, HO0.out, HA0.out, fun q hq => by simp at hq⟩
          case round =>
            obtain ⟨k, hk, hgg, rfl, rfl, rfl, A, c, rfl, ho, hbw, hall⟩ := hrel
            replace ho := ho.out
            replace hbw := hbw.out
            replace hall := hall.out
            have HO := Lib.hid ho; have HBW := Lib.hid hbw; have HALL := Lib.hid hall
            have HBB := Lib.hid (bel_trans HB2.out hbw)
            have HTW := Lib.hid (HT.out.below (bel_trans HB2.out hbw))
            clear ho hbw hall
            have hk0 : (0 : Int) ≤ (k : Int) := by omega
            by_cases hlt : k < l.length
            case neg => as_aux_lemma =>
              obtain rfl : k = l.length := by omega
              clear hgg hlt hk
              have hd5 : decide ((l.length : Int) < (l.length : Int)) = false := decide_eq_false (by omega)
              have hzk : szL P l.length ≤ 5000000 ∧ (lstL l l.length).length ≤ 5000001 := by
                have h1 := szL_mono P l.length (fun q hq => (HALL.out q hq).2.2)
                have h2 := lst_len ns l l.length HNL.out
                rw [← HP.out] at h2
                have := HL12.out
                omega
              generalize hS : lstL l l.length = Sk at *
              generalize hZ : szL P l.length = Zk at *
              have HS := Lib.hid hS; have HZ := Lib.hid hZ; have HZK := Lib.hid hzk
              clear hS hZ hzk
              by_cases hz : 15000 < Zk
              · have hd6 : decide (15000 < (Zk : Int)) = true := decide_eq_true (by omega)
                have hcl := first_any wr (HT.out.below HBB.out)
                have HCL := Lib.hid hcl
                clear hcl
                go_wp2_with fail
                refine Calls.mono HCL.out ?_
                rintro e w301 ⟨rfl, hbz⟩
                clear HCL
                have HB302 := Lib.hid (bel_trans HBB.out hbz)
                clear HBB
                clear hbz
                go_wp2_with fail
                go_ret
                exact ⟨rfl, HB302.out⟩
              · have hd6 : decide (15000 < (Zk : Int)) = false := decide_eq_false (by omega)
                obtain ⟨R, hR⟩ : ∃ R, R = rotB P tn := ⟨_, rfl⟩
                have HR := Lib.hid hR
                have hrl : R.length = l.length := by rw [hR, rot_length, HP.out, List.length_zip, HNL.out]; omega
                have HRL := Lib.hid hrl
                have hPl : P.length = l.length := by rw [HP.out, List.length_zip, HNL.out]; omega
                have HPL := Lib.hid hPl
                have hrd := lists_read (l := l) (ns := ns) tn HNL.out HL12.out (fun q hq => HALL.out q (by rw [List.take_of_length_le (by rw [HPL.out]; exact Nat.le_refl _), HP.out]; exact hq)) (by rw [← HP.out, HZ.out]; omega)
                rw [HS.out, ← HP.out, ← HR.out] at hrd
                have HRD := Lib.hid hrd
                have hob : ∀ k, k ≤ l.length → (objL R k).length ≤ 20000 := fun k hk => by
                  have h1 := objL_le (R := R) hk (by rw [HRL.out]; exact Nat.le_refl _)
                  have h2 := obj_len P tn
                  rw [← HR.out, HPL.out, HZ.out] at h2
                  have := HL12.out
                  omega
                have HOB := Lib.hid hob
                clear hR hrl hPl hrd hz hob
                obtain ⟨wa, rfl⟩ : ∃ wa, wa = wr := ⟨wr, rfl⟩
                go_wp2_with fail
                go_loopg [15, 16] l.length (fun gg s15 s16 wr => ∃ k : Nat, k ≤ l.length ∧ l.length - k ≤ gg ∧ s16 = .int .i64 k ∧ s15 = .string ⟨(objL R k).toArray⟩ ∧ Aside (wr = wa))
                case atStart => exact ⟨0, Nat.zero_le _, by omega, rfl, congrArg Value.string (by simp [objL, joinS]), rfl⟩
                case round =>
                  obtain ⟨k, hk, hgg, rfl, rfl, hwr⟩ := hrel
                  obtain rfl := hwr.out
                  have hk0 : (0 : Int) ≤ (k : Int) := by omega
                  by_cases hlt : k < l.length
                  case neg =>
                    obtain rfl : k = l.length := by omega
                    clear hgg hlt hk hd5 hd6
                    have hd7 : decide ((l.length : Int) < (l.length : Int)) = false := decide_eq_false (by omega)
                    obtain ⟨V, U, ev, ew, hV, hU, hcase⟩ := HRD.out
                    have hzs : Sk.length ≤ 5000001 ∧ (objL R l.length).length ≤ 20000 := ⟨HZK.out.2, HOB.out _ (Nat.le_refl _)⟩
                    generalize objL R l.length = Ok at *
                    have HZS := Lib.hid hzs; have HV := Lib.hid hV; have HU := Lib.hid hU; have HCASE := Lib.hid hcase
                    have HL1 := Lib.hid (sl_latL HT3.out HBW.out); have HN1 := Lib.hid (sl_latL HT4.out HBW.out)
                    clear hzs hV hU hcase HRD HOB HT3 HT4 HBW HTW HALL HO hk0
                    have q1 := fun W : World => str_sum (P := Tryz.prog) Sk [93] W (by have := HZS.out; simp; omega)
                    generalize Sk ++ [93] = Skx at *
                    go_wp2_with fail
                    rw [run_bytes_of_string wr _ _ 5 _ Tryz.underlying9 Tryz.underlying22 Tryz.underlying5]
                    simp only [Result.andThen]
                    rw [Oper.upon_value]
                    have hbs := bs_string wr Skx 5
                    have hb5 := fun o => (bel_drew HBB.out).alloc (B := w.heap.size) (by have := HBB.out.size; exact this) o
                    have hbl := fun o => bel_alloc (bel_drew (Below.refl wr.heap.size wr)) o
                    have HS5 := Lib.hid hbs; have HB5 := Lib.hid hb5; have HL5 := Lib.hid hbl
                    clear hbs hb5 hbl q1
                    go_wp2_with fail
                    have hpa := fun c cc fz => parse_any ⟨Skx.toArray⟩ _ (fun _ => True) _ (HT.out.below (HB5.out _)) (HS5.out c cc fz)
                    unfold PRes at hpa
                    rw [HV.out] at hpa
                    simp only at hpa
                    refine Calls.mono (hpa _ _ _) ?_
                    rintro e u303 ⟨pA1, pn1, pc1, pA2, pn2, pc2, rfl, hj, hb0⟩
                    have hb := bel_trans (HL5.out _) hb0
                    obtain ⟨rfl, rfl⟩ := jr_lensL hj
                    clear hpa hb0 HS5 HB5 HL5 HV
                    have hA2 := bel_alloc (Below.refl u303.heap.size u303) (.cells #[.int .i64 V.k, .int .i64 V.n, .string V.s, .slice pA1 V.l.length pc1, .slice pA2 V.m.length pc2] 28)
                    have hb2 := bel_trans hb hA2
                    have hc2 := heap_alloc_new u303 (.cells #[.int .i64 V.k, .int .i64 V.n, .string V.s, .slice pA1 V.l.length pc1, .slice pA2 V.m.length pc2] 28)
                    have hj2 := JR_mono (F' := fun _ => True) (fun _ _ => trivial) _ _ (JR_later hj hA2)
                    have HB304 := Lib.hid (bel_trans HBB.out hb2)
                    have HT305 := Lib.hid (sl_latL HL1.out hb2)
                    have HT306 := Lib.hid (sl_latL HN1.out hb2)
                    clear HBB HL1 HN1
                    have HK307 := Lib.hid (hc2)
                    have HJ308 := Lib.hid (hj2)
                    clear hA2 hb2 hc2 hj2 hj hb
                    go_upto_region 31 with (fail)
                    generalize u303.heap.size = X17 at *
                    generalize u303.alloc (.cells #[.int .i64 V.k, .int .i64 V.n, .string V.s, .slice pA1 V.l.length pc1, .slice pA2 V.m.length pc2] 28) = WX17 at *
                    have q1 := fun W : World => str_sum (P := Tryz.prog) Ok [125] W (by have := HZS.out; simp; omega)
                    generalize Ok ++ [125] = Okx at *
                    go_wp2_with fail
                    rw [run_bytes_of_string WX17 _ _ 5 _ Tryz.underlying9 Tryz.underlying22 Tryz.underlying5]
                    simp only [Result.andThen]
                    rw [Oper.upon_value]
                    have hbs := bs_string WX17 Okx 5
                    have hb5 := fun o => (bel_drew HB304.out).alloc (B := w.heap.size) (by have := HB304.out.size; exact this) o
                    have hbl := fun o => bel_alloc (bel_drew (Below.refl WX17.heap.size WX17)) o
                    have HS5 := Lib.hid hbs; have HB5 := Lib.hid hb5; have HL5 := Lib.hid hbl
                    clear hbs hb5 hbl q1
                    go_wp2_with fail
                    have hpa := fun c cc fz => parse_any ⟨Okx.toArray⟩ _ (fun _ => True) _ (HT.out.below (HB5.out _)) (HS5.out c cc fz)
                    unfold PRes at hpa
                    rw [HU.out] at hpa
                    simp only at hpa
                    refine Calls.mono (hpa _ _ _) ?_
                    rintro e u309 ⟨rA1, rn1, rc1, rA2, rn2, rc2, rfl, hj, hb0⟩
                    have hb := bel_trans (HL5.out _) hb0
                    obtain ⟨rfl, rfl⟩ := jr_lensL hj
                    clear hpa hb0 HS5 HB5 HL5 HU
                    have hA2 := bel_alloc (Below.refl u309.heap.size u309) (.cells #[.int .i64 U.k, .int .i64 U.n, .string U.s, .slice rA1 U.l.length rc1, .slice rA2 U.m.length rc2] 28)
                    have hb2 := bel_trans hb hA2
                    have hc2 := heap_alloc_new u309 (.cells #[.int .i64 U.k, .int .i64 U.n, .string U.s, .slice rA1 U.l.length rc1, .slice rA2 U.m.length rc2] 28)
                    have hj2 := JR_mono (F' := fun _ => True) (fun _ _ => trivial) _ _ (JR_later hj hA2)
                    have HB310 := Lib.hid (bel_trans HB304.out hb2)
                    have HT311 := Lib.hid (sl_latL HT305.out hb2)
                    have HT312 := Lib.hid (sl_latL HT306.out hb2)
                    have HK313 := Lib.hid (Below.at hb2 HK307.out)
                    have HJ314 := Lib.hid (JR_later HJ308.out hb2)
                    clear HB304 HT305 HT306 HK307 HJ308
                    have HK315 := Lib.hid (hc2)
                    have HJ316 := Lib.hid (hj2)
                    clear hA2 hb2 hc2 hj2 hj hb
                    go_upto_region 32 with (fail)
                    generalize u309.heap.size = X19 at *
                    generalize u309.alloc (.cells #[.int .i64 U.k, .int .i64 U.n, .string U.s, .slice rA1 U.l.length rc1, .slice rA2 U.m.length rc2] 28) = WX19 at *
                    by_cases h10 : ev = 10
                    · subst h10
                      have hcl := first_any WX19 (HT.out.below HB310.out)
                      have HCL := Lib.hid hcl
                      clear hcl
                      go_wp2_with fail
                      refine Calls.mono HCL.out ?_
                      rintro e w317 ⟨rfl, hbz⟩
                      clear HCL
                      have HB318 := Lib.hid (bel_trans HB310.out hbz)
                      have HT319 := Lib.hid (sl_latL HT311.out hbz)
                      have HT320 := Lib.hid (sl_latL HT312.out hbz)
                      have HK321 := Lib.hid (Below.at hbz HK313.out)
                      have HJ322 := Lib.hid (JR_later HJ314.out hbz)
                      have HK323 := Lib.hid (Below.at hbz HK315.out)
                      have HJ324 := Lib.hid (JR_later HJ316.out hbz)
                      clear HB310 HT311 HT312 HK313 HJ314 HK315 HJ316
                      clear hbz
                      go_wp2_with fail
                      go_ret
                      exact ⟨rfl, HB318.out⟩
                    have he1 : (ev == 10) = false := by simpa using h10
                    have he2 : decide (ev = 10) = false := decide_eq_false h10
                    by_cases h11 : ew = 10
                    · subst h11
                      have hcl := first_any WX19 (HT.out.below HB310.out)
                      have HCL := Lib.hid hcl
                      clear hcl
                      go_wp2_with fail
                      refine Calls.mono HCL.out ?_
                      rintro e w325 ⟨rfl, hbz⟩
                      clear HCL
                      have HB326 := Lib.hid (bel_trans HB310.out hbz)
                      have HT327 := Lib.hid (sl_latL HT311.out hbz)
                      have HT328 := Lib.hid (sl_latL HT312.out hbz)
                      have HK329 := Lib.hid (Below.at hbz HK313.out)
                      have HJ330 := Lib.hid (JR_later HJ314.out hbz)
                      have HK331 := Lib.hid (Below.at hbz HK315.out)
                      have HJ332 := Lib.hid (JR_later HJ316.out hbz)
                      clear HB310 HT311 HT312 HK313 HJ314 HK315 HJ316
                      clear hbz
                      go_wp2_with fail
                      go_ret
                      exact ⟨rfl, HB326.out⟩
                    have he3 : (ew == 10) = false := by simpa using h11
                    have he4 : decide (ew = 10) = false := decide_eq_false h11
                    obtain ⟨rfl, hVl, _, hu, hln, hml, hgt⟩ : ev = 0 ∧ V = listV l ∧ ew ≠ 10 ∧ (ew = 0 ↔ (uniqB ns).length = ns.length) ∧ LnJ U ∧ (ew = 0 → U.m.length = l.length) ∧ GetsL l ns U (decide ((uniqB ns).length = ns.length)) := by
                      rcases HCASE.out with h | h | h
                      · exact absurd h h10
                      · exact absurd h h11
                      · exact h
                    obtain ⟨oc, hoc⟩ : ∃ oc, decide ((uniqB ns).length = ns.length) = oc := ⟨_, rfl⟩
                    rw [hoc] at hgt
                    have hoc2 : decide (((uniqB ns).length : Int) = (ns.length : Int)) = oc := by rw [← hoc]; exact decide_eq_decide.2 Int.ofNat_inj
                    have hoc3 : (((uniqB ns).length : Int) == (ns.length : Int)) = oc := by rw [← hoc2]; rfl
                    have hew : (ew == 0) = oc := by
                      rw [← hoc]
                      cases h : (ew == 0) with
                      | true => exact (decide_eq_true (hu.1 (by simpa using h))).symm
                      | false => exact (decide_eq_false (fun e => by have := hu.2 e; rw [this] at h; cases h)).symm
                    have hew2 : decide (ew = 0) = oc := hew
                    have hvl : V.l = l := by rw [hVl]; rfl
                    have hvn : V.l.length = l.length := by rw [hvl]
                    have hmu : oc = true → U.m.length = l.length := fun h => hml (by rw [h] at hew; simpa using hew)
                    have HMU := Lib.hid hmu; have HVN := Lib.hid hvn; have HVL := Lib.hid hvl; have HLN := Lib.hid hln; have HGT := Lib.hid hgt; have HOC := Lib.hid hoc
                    clear hu hln hml hgt hVl hmu hvn hvl HCASE h10 h11
                    clear hoc
                    have hcl := unique_any ns _ _ WX19 HT312.out (by have := HNL.out; have := HL12.out; omega)
                    have HCL := Lib.hid hcl
                    clear hcl
                    go_wp2_with fail
                    refine Calls.mono HCL.out ?_
                    rintro e w333 ⟨⟨qA, qc, rfl⟩, hbz⟩
                    clear HCL
                    have HB334 := Lib.hid (bel_trans HB310.out hbz)
                    have HT335 := Lib.hid (sl_latL HT311.out hbz)
                    have HT336 := Lib.hid (sl_latL HT312.out hbz)
                    have HK337 := Lib.hid (Below.at hbz HK313.out)
                    have HJ338 := Lib.hid (JR_later HJ314.out hbz)
                    have HK339 := Lib.hid (Below.at hbz HK315.out)
                    have HJ340 := Lib.hid (JR_later HJ316.out hbz)
                    clear HB310 HT311 HT312 HK313 HJ314 HK315 HJ316
                    clear hbz
                    obtain ⟨⟨v0341, v1341, v2341, v3341, v4341⟩, _, hV341⟩ := cells5 HK337.out
                    have hvn2 : ((V.l.length : Int) != (l.length : Int)) = false := by rw [HVN.out]; simp
                    generalize uniqB ns = un at *
                    go_upto_region 35 with (fail)
                    clear hoc2 hoc3
                    go_wp2_with fail
                    clear v0341 v1341 v2341 v3341 v4341 hV341 hvn2 hew hew2 he1 he2 he3 he4
                    go_loopg [22] l.length (fun gg s22 wr => ∃ k : Nat, k ≤ l.length ∧ l.length - k ≤ gg ∧ s22 = .int .i64 k ∧ Aside (Below w333.heap.size w333 wr))
                    case atStart => exact ⟨0, Nat.zero_le _, by omega, rfl, Below.refl _ _⟩
                    case round =>
                      obtain ⟨k, hk, hgg, rfl, hbw⟩ := hrel
                      replace hbw := hbw.out
                      have HBW := Lib.hid hbw
                      clear hbw
                      have hk0 : (0 : Int) ≤ (k : Int) := by omega
                      by_cases hlt : k < l.length
                      case neg =>
                        obtain rfl : k = l.length := by omega
                        clear hgg hlt hk
                        have hd8 : decide ((l.length : Int) < (l.length : Int)) = false := decide_eq_false (by omega)
                        have HB342 := Lib.hid (bel_trans HB334.out HBW.out)
                        have HT343 := Lib.hid (sl_latL HT335.out HBW.out)
                        have HT344 := Lib.hid (sl_latL HT336.out HBW.out)
                        have HK345 := Lib.hid (Below.at HBW.out HK337.out)
                        have HJ346 := Lib.hid (JR_later HJ338.out HBW.out)
                        have HK347 := Lib.hid (Below.at HBW.out HK339.out)
                        have HJ348 := Lib.hid (JR_later HJ340.out HBW.out)
                        clear HB334 HT335 HT336 HK337 HJ338 HK339 HJ340
                        have hcl := first_any wr (HT.out.below HB342.out)
                        have HCL := Lib.hid hcl
                        clear hcl
                        go_wp2_with fail
                        refine Calls.mono HCL.out ?_
                        rintro e w349 ⟨rfl, hbz⟩
                        clear HCL
                        have HB350 := Lib.hid (bel_trans HB342.out hbz)
                        have HT351 := Lib.hid (sl_latL HT343.out hbz)
                        have HT352 := Lib.hid (sl_latL HT344.out hbz)
                        have HK353 := Lib.hid (Below.at hbz HK345.out)
                        have HJ354 := Lib.hid (JR_later HJ346.out hbz)
                        have HK355 := Lib.hid (Below.at hbz HK347.out)
                        have HJ356 := Lib.hid (JR_later HJ348.out hbz)
                        clear HB342 HT343 HT344 HK345 HJ346 HK347 HJ348
                        clear hbz
                        obtain ⟨⟨v0357, v1357, v2357, v3357, v4357⟩, _, hV357⟩ := cells5 HK355.out
                        cases oc with
                        | false =>
                          go_wp2_with fail
                          go_ret
                          exact ⟨rfl, HB350.out⟩
                        | true =>
                          have hmm : U.m.length = l.length := HMU.out rfl
                          have hd9 : decide (U.m.length = l.length) = true := decide_eq_true hmm
                          have hd10 : decide ((U.m.length : Int) = (l.length : Int)) = true := decide_eq_true (by omega)
                          have hd11 : ((U.m.length : Int) == (l.length : Int)) = true := by rw [hmm]; simp
                          clear hmm
                          go_wp2_with fail
                          go_ret
                          exact ⟨rfl, HB350.out⟩
                      case pos =>
                        have hd8 : decide ((k : Int) < (l.length : Int)) = true := decide_eq_true (by omega)
                        have hi1 : (k : Int) < (l.length : Int) := by omega
                        have hi2 : (k : Int) < (V.l.length : Int) := by rw [HVN.out]; omega
                        have hi3 : (k : Int) < (ns.length : Int) := by have := HNL.out; omega
                        obtain ⟨x, hx⟩ : ∃ x, l[k]? = some x := get_ex hlt
                        obtain ⟨nm, hnm⟩ : ∃ nm, ns[k]? = some nm := get_ex (by have := HNL.out; omega)
                        obtain ⟨g, hgp, hpx⟩ := HGT.out k x nm hx hnm
                        have HGP := Lib.hid hgp; have HPX := Lib.hid hpx
                        obtain ⟨AA, cc, hv, _, hcc⟩ := val_cells (jr_listL HJ338.out)
                        obtain ⟨b, o, C1, l1, f1, C2, l2, f2, hA, y1, y2, y3, y4, y5, hjr⟩ := hcc k x (by rw [HVL.out]; exact hx)
                        obtain ⟨AB, cd, hv', _, hcd⟩ := val_cells HT335.out
                        obtain ⟨bN, oN, E1, m1, g1, E2, m2, g2, hB, r0, r1, r2, r3, r4, hjq⟩ := hcd k x hx
                        obtain ⟨AC, ce, hv2, hce⟩ := str_cells HT336.out
                        obtain ⟨bn, on, hC, en⟩ := hce k nm hnm
                        obtain rfl : pA1 = some ⟨b, o, none⟩ := by injection hv with h1 _ _; exact h1.trans hA
                        obtain rfl : A0 = some ⟨bN, oN, none⟩ := by injection hv' with h1 _ _; exact h1.trans hB
                        obtain rfl : B0 = some ⟨bn, on, none⟩ := by injection hv2 with h1 _ _; exact h1.trans hC
                        have HKL := Lib.hid (show LtL X17 b (o + k * 5) bN (oN + k * 5) (.slice (some ⟨b, o, none⟩) V.l.length pc1) (.int .i64 x.k) (.int .i64 x.n) (.string x.s) (.slice C1 l1 f1) (.slice C2 l2 f2) (.int .i64 x.k) (.int .i64 x.n) (.string x.s) (.slice E1 m1 g1) (.slice E2 m2 g2) w333 from
                          ⟨(cells5 HK337.out).1.2.2.2.1, ⟨y1, y2, y3, y4, y5⟩, ⟨r0, r1, r2, r3, r4⟩⟩)
                        have HEN := Lib.hid en
                        have HJR := Lib.hid hjr; have HJQ := Lib.hid hjq
                        clear hx hnm hgp hpx hv hcc hA y1 y2 y3 y4 y5 hjr hv' hcd hB r0 r1 r2 r3 r4 hjq hv2 hce hC en
                        go_wp2_with fail
                        have HBV := Lib.hid (bel_drew HBW.out)
                        refine wp_region_E (by kernel_rfl) ?_
                        clear HBW
                        generalize wr.drew = V6 at *
                        have HRC := Lib.hid (fun w2 (hE : Lat V6 w2) => HKL.out.later (bel_trans HBV.out hE))
                        refine wpAnyE_tk 0 (v := ?_) rfl (by kernel_rfl) (by kernel_rfl) (by kernel_rfl) (by kernel_rfl) ?_ ?_
                        rotate_left
                        · intro w2 hE
                          obtain ⟨z4, ⟨z6, z7, z8, z9, z10⟩, ⟨z11, z12, z13, z14, z15⟩⟩ := HRC.out w2 hE
                          go_simp
                          try (with_reducible rfl)
                        try simp only [List.getElem_toArray, List.getElem_cons_zero, Act.put, List.setIfInBounds_toArray, List.set_cons_zero, List.set_cons_succ]
                        refine wpAnyE_tk 1 (v := ?_) rfl (by kernel_rfl) (by kernel_rfl) (by kernel_rfl) (by kernel_rfl) ?_ ?_
                        rotate_left
                        · intro w2 hE
                          obtain ⟨z4, ⟨z6, z7, z8, z9, z10⟩, ⟨z11, z12, z13, z14, z15⟩⟩ := HRC.out w2 hE
                          go_simp
                          try (with_reducible rfl)
                        try simp only [List.getElem_toArray, List.getElem_cons_zero, List.getElem_cons_succ, Act.put, List.setIfInBounds_toArray, List.set_cons_zero, List.set_cons_succ]
                        refine wpAnyE_tk 2 (v := ?_) rfl (by kernel_rfl) (by kernel_rfl) (by kernel_rfl) (by kernel_rfl) ?_ ?_
                        rotate_left
                        · intro w2 hE
                          obtain ⟨z4, ⟨z6, z7, z8, z9, z10⟩, ⟨z11, z12, z13, z14, z15⟩⟩ := HRC.out w2 hE
                          go_simp
                          try (with_reducible rfl)
                        try simp only [List.getElem_toArray, List.getElem_cons_zero, List.getElem_cons_succ, Act.put, List.setIfInBounds_toArray, List.set_cons_zero, List.set_cons_succ]
                        refine wpAnyE_tk 3 (v := ?_) rfl (by kernel_rfl) (by kernel_rfl) (by kernel_rfl) (by kernel_rfl) ?_ ?_
                        rotate_left
                        · intro w2 hE
                          obtain ⟨z4, ⟨z6, z7, z8, z9, z10⟩, ⟨z11, z12, z13, z14, z15⟩⟩ := HRC.out w2 hE
                          go_simp
                          try (with_reducible rfl)
                        try simp only [List.getElem_toArray, List.getElem_cons_zero, List.getElem_cons_succ, Act.put, List.setIfInBounds_toArray, List.set_cons_zero, List.set_cons_succ]
                        refine wpAnyE_tk 4 (v := ?_) rfl (by kernel_rfl) (by kernel_rfl) (by kernel_rfl) (by kernel_rfl) ?_ ?_
                        rotate_left
                        · intro w2 hE
                          obtain ⟨z4, ⟨z6, z7, z8, z9, z10⟩, ⟨z11, z12, z13, z14, z15⟩⟩ := HRC.out w2 hE
                          go_simp
                          try (with_reducible rfl)
                        try simp only [List.getElem_toArray, List.getElem_cons_zero, List.getElem_cons_succ, Act.put, List.setIfInBounds_toArray, List.set_cons_zero, List.set_cons_succ]
                        refine wpAnyE_tk 5 (v := ?_) rfl (by kernel_rfl) (by kernel_rfl) (by kernel_rfl) (by kernel_rfl) ?_ ?_
                        rotate_left
                        · intro w2 hE
                          obtain ⟨z4, ⟨z6, z7, z8, z9, z10⟩, ⟨z11, z12, z13, z14, z15⟩⟩ := HRC.out w2 hE
                          go_simp
                          try (with_reducible rfl)
                        try simp only [List.getElem_toArray, List.getElem_cons_zero, List.getElem_cons_succ, Act.put, List.setIfInBounds_toArray, List.set_cons_zero, List.set_cons_succ]
                        refine wpAnyE_tk 6 (v := ?_) rfl (by kernel_rfl) (by kernel_rfl) (by kernel_rfl) (by kernel_rfl) ?_ ?_
                        rotate_left
                        · intro w2 hE
                          obtain ⟨z4, ⟨z6, z7, z8, z9, z10⟩, ⟨z11, z12, z13, z14, z15⟩⟩ := HRC.out w2 hE
                          go_simp
                          try (with_reducible rfl)
                        try simp only [List.getElem_toArray, List.getElem_cons_zero, List.getElem_cons_succ, Act.put, List.setIfInBounds_toArray, List.set_cons_zero, List.set_cons_succ]
                        refine wpAnyE_tk 7 (v := ?_) rfl (by kernel_rfl) (by kernel_rfl) (by kernel_rfl) (by kernel_rfl) ?_ ?_
                        rotate_left
                        · intro w2 hE
                          obtain ⟨z4, ⟨z6, z7, z8, z9, z10⟩, ⟨z11, z12, z13, z14, z15⟩⟩ := HRC.out w2 hE
                          go_simp
                          try (with_reducible rfl)
                        try simp only [List.getElem_toArray, List.getElem_cons_zero, List.getElem_cons_succ, Act.put, List.setIfInBounds_toArray, List.set_cons_zero, List.set_cons_succ]
                        refine wpAnyE_tk 8 (v := ?_) rfl (by kernel_rfl) (by kernel_rfl) (by kernel_rfl) (by kernel_rfl) ?_ ?_
                        rotate_left
                        · intro w2 hE
                          obtain ⟨z4, ⟨z6, z7, z8, z9, z10⟩, ⟨z11, z12, z13, z14, z15⟩⟩ := HRC.out w2 hE
                          go_simp
                          try (with_reducible rfl)
                        try simp only [List.getElem_toArray, List.getElem_cons_zero, List.getElem_cons_succ, Act.put, List.setIfInBounds_toArray, List.set_cons_zero, List.set_cons_succ]
                        refine wpAnyE_tk 9 (v := .bool true) rfl (by kernel_rfl) (by kernel_rfl) (by kernel_rfl) (by kernel_rfl) ?_ ?_
                        · intro w2 hE
                          have hsa := same_any x x _ _ _ _ w2 (JR_later HJR.out (bel_trans HBV.out hE)) (JR_later HJQ.out (bel_trans HBV.out hE))
                          rw [same_refl] at hsa
                          have HSA := Lib.hid hsa
                          clear hsa
                          go_simp
                          exact HSA.out.mono fun e w3 ⟨h1, h2⟩ => ⟨h1, h2⟩
                        try simp only [List.getElem_toArray, List.getElem_cons_zero, List.getElem_cons_succ, Act.put, List.setIfInBounds_toArray, List.set_cons_zero, List.set_cons_succ]
                        refine wpAnyE_tk 10 (v := ?_) rfl (by kernel_rfl) (by kernel_rfl) (by kernel_rfl) (by kernel_rfl) ?_ ?_
                        rotate_left
                        · intro w2 hE
                          go_simp
                          try (with_reducible rfl)
                        try simp only [List.getElem_toArray, List.getElem_cons_zero, List.getElem_cons_succ, Act.put, List.setIfInBounds_toArray, List.set_cons_zero, List.set_cons_succ]
                        refine wpAnyE_done (by kernel_rfl) (fun w7 hE7 => ?_) _
                        have HB7 := Lib.hid (bel_trans HBV.out hE7)
                        have HDR := Lib.hid HRC.out
                        clear hE7 HBV HRC HDR
                        go_wp2_with fail
                        have HSS := Lib.hid (show LtS X19 #[.int .i64 U.k, .int .i64 U.n, .string U.s, .slice rA1 U.l.length rc1, .slice rA2 U.m.length rc2] bn (on + k) nm w7.drew from ⟨Below.at (bel_drew HB7.out) HK339.out, cell_later' (bel_drew HB7.out) HEN.out⟩)
                        have HGC := Lib.hid (fun w2 (hb : Below w333.heap.size w333 w2) => get_any U nm _ _ w2 HLN.out (JR_later HJ340.out hb))
                        go_cut [23, 24] (fun s23 s24 wx => s24 = .bool oc ∧ Aside (LtR g w333 s23 wx))
                        case first =>
                          refine PrintLast.wp_region_last_drew (S := LtS X19 #[.int .i64 U.k, .int .i64 U.n, .string U.s, .slice rA1 U.l.length rc1, .slice rA2 U.m.length rc2] bn (on + k) nm) (ds := [10]) (by kernel_rfl) HSS.out (fun hHeld => ?_)
                          refine PrintLast.wpAnyLast_take (i := 0) (v := ?_) rfl (by kernel_rfl) (by kernel_rfl) (by kernel_rfl) (by kernel_rfl) (by kernel_rfl) (fun _ _ _ h => h) (Or.inl ⟨by kernel_rfl, ?_⟩) (by assumption) ?_
                          rotate_left
                          · (intro wX hSw; obtain ⟨z0, z1, z2, z3, z4⟩ := (cells5 hSw.1).1; have z5 := hSw.2; go_simp; try (with_reducible rfl))
                          try simp only [List.getElem_toArray, List.getElem_cons_zero, Act.put, List.setIfInBounds_toArray, List.set_cons_zero, List.set_cons_succ]
                          refine PrintLast.wpAnyLast_take (i := 1) (v := ?_) rfl (by kernel_rfl) (by kernel_rfl) (by kernel_rfl) (by kernel_rfl) (by kernel_rfl) (fun _ _ _ h => h) (Or.inl ⟨by kernel_rfl, ?_⟩) (by assumption) ?_
                          rotate_left
                          · (intro wX hSw; obtain ⟨z0, z1, z2, z3, z4⟩ := (cells5 hSw.1).1; have z5 := hSw.2; go_simp; try (with_reducible rfl))
                          try simp only [List.getElem_toArray, List.getElem_cons_zero, List.getElem_cons_succ, Act.put, List.setIfInBounds_toArray, List.set_cons_zero, List.set_cons_succ]
                          refine PrintLast.wpAnyLast_take (i := 2) (v := ?_) rfl (by kernel_rfl) (by kernel_rfl) (by kernel_rfl) (by kernel_rfl) (by kernel_rfl) (fun _ _ _ h => h) (Or.inl ⟨by kernel_rfl, ?_⟩) (by assumption) ?_
                          rotate_left
                          · (intro wX hSw; obtain ⟨z0, z1, z2, z3, z4⟩ := (cells5 hSw.1).1; have z5 := hSw.2; go_simp; try (with_reducible rfl))
                          try simp only [List.getElem_toArray, List.getElem_cons_zero, List.getElem_cons_succ, Act.put, List.setIfInBounds_toArray, List.set_cons_zero, List.set_cons_succ]
                          refine PrintLast.wpAnyLast_take (i := 3) (v := ?_) rfl (by kernel_rfl) (by kernel_rfl) (by kernel_rfl) (by kernel_rfl) (by kernel_rfl) (fun _ _ _ h => h) (Or.inl ⟨by kernel_rfl, ?_⟩) (by assumption) ?_
                          rotate_left
                          · (intro wX hSw; obtain ⟨z0, z1, z2, z3, z4⟩ := (cells5 hSw.1).1; have z5 := hSw.2; go_simp; try (with_reducible rfl))
                          try simp only [List.getElem_toArray, List.getElem_cons_zero, List.getElem_cons_succ, Act.put, List.setIfInBounds_toArray, List.set_cons_zero, List.set_cons_succ]
                          refine PrintLast.wpAnyLast_take (i := 4) (v := ?_) rfl (by kernel_rfl) (by kernel_rfl) (by kernel_rfl) (by kernel_rfl) (by kernel_rfl) (fun _ _ _ h => h) (Or.inl ⟨by kernel_rfl, ?_⟩) (by assumption) ?_
                          rotate_left
                          · (intro wX hSw; obtain ⟨z0, z1, z2, z3, z4⟩ := (cells5 hSw.1).1; have z5 := hSw.2; go_simp; try (with_reducible rfl))
                          try simp only [List.getElem_toArray, List.getElem_cons_zero, List.getElem_cons_succ, Act.put, List.setIfInBounds_toArray, List.set_cons_zero, List.set_cons_succ]
                          have HH := Lib.hid hHeld
                          have HBD := Lib.hid (bel_drew HB7.out)
                          clear hHeld HSS HB7
                          generalize w7.drew = wq0 at *
                          refine PrintLast.wpAnyLast_ready (rs := [5, 9]) (by kernel_rfl) (by simp) ?_
                          refine PrintLast.AllReadyL.cons rfl (by decide) (fun K hK => ?_) (PrintLast.AllReadyL.cons rfl (by decide) (fun K hK => ?_) PrintLast.AllReadyL.nil)
                          · rw [if_pos (by kernel_rfl)]
                            go_simp
                            have hgc := HGC.out wq0 HBD.out
                            unfold GtRes at hgc
                            rw [HGP.out] at hgc
                            simp only at hgc
                            go_at_call 16; refine hgc.mono ?_; rintro e wq1 ⟨⟨D1, i1, e1, D2, i2, e2, rfl, hjq⟩, hbq⟩
                            clear hgc
                            go_wp2_with fail
                            have HHn := Lib.hid (LtS.later HH.out hbq); have HBDn := Lib.hid (bel_trans HBD.out hbq)
                            have HJP := Lib.hid (JR_bound _ _ hjq)
                            clear hjq hbq HH HBD
                            refine hK.out _ _ HHn.out (fun hHeld => ?_)
                            clear hK K hHeld
                            try simp only [List.getElem_toArray, List.getElem_cons_zero, List.getElem_cons_succ, Act.put, List.setIfInBounds_toArray, List.set_cons_zero, List.set_cons_succ]
                            refine PrintLast.wpAnyLast_any (i := 6) (v := ?_) rfl (Region.noSelect_spec (by kernel_rfl)) (fun _ _ _ h => h) _ _ _ _ (Region.free_spec rfl (by kernel_rfl)) (List.contains_iff_mem.1 (by kernel_rfl)) (Or.inl ⟨by kernel_rfl, ?_⟩) ?_
                            rotate_left
                            · (intro wX; go_simp; try (with_reducible rfl))
                            try simp only [List.getElem_toArray, List.getElem_cons_zero, List.getElem_cons_succ, Act.put, List.setIfInBounds_toArray, List.set_cons_zero, List.set_cons_succ]
                            refine PrintLast.wpAnyLast_any (i := 7) (v := ?_) rfl (Region.noSelect_spec (by kernel_rfl)) (fun _ _ _ h => h) _ _ _ _ (Region.free_spec rfl (by kernel_rfl)) (List.contains_iff_mem.1 (by kernel_rfl)) (Or.inl ⟨by kernel_rfl, ?_⟩) ?_
                            rotate_left
                            · (intro wX; go_simp; try (with_reducible rfl))
                            try simp only [List.getElem_toArray, List.getElem_cons_zero, List.getElem_cons_succ, Act.put, List.setIfInBounds_toArray, List.set_cons_zero, List.set_cons_succ]
                            refine PrintLast.wpAnyLast_any (i := 8) (v := ?_) rfl (Region.noSelect_spec (by kernel_rfl)) (fun _ _ _ h => h) _ _ _ _ (Region.free_spec rfl (by kernel_rfl)) (List.contains_iff_mem.1 (by kernel_rfl)) (Or.inl ⟨by kernel_rfl, ?_⟩) ?_
                            rotate_left
                            · (intro wX; go_simp; try (with_reducible rfl))
                            try simp only [List.getElem_toArray, List.getElem_cons_zero, List.getElem_cons_succ, Act.put, List.setIfInBounds_toArray, List.set_cons_zero, List.set_cons_succ]
                            refine PrintLast.wpAnyLast_ready (rs := [9]) (by kernel_rfl) (by simp) ?_
                            refine PrintLast.AllReadyL.cons rfl (by decide) (fun K hK => ?_) PrintLast.AllReadyL.nil
                            rw [if_pos (by kernel_rfl)]
                            go_simp
                            have hal := bel_alloc (Below.refl wq1.heap.size wq1) (.cells #[.int .i64 0, .int .i64 0, .string ⟨#[]⟩, .slice none 0 0, .slice none 0 0] 28)
                            have HH2 := Lib.hid (LtS.later HHn.out hal); have HBD2 := Lib.hid (bel_trans HBDn.out hal)
                            have HZ9 := Lib.hid (heap_alloc_new wq1 (.cells #[.int .i64 0, .int .i64 0, .string ⟨#[]⟩, .slice none 0 0, .slice none 0 0] 28))
                            have HX := Lib.hid HBDn.out.size
                            have HJX := Lib.hid (JR_mono (F' := fun b => b ≠ wq1.heap.size) (fun b hb => by have := hb.2; omega) _ _ (JR_later HJP.out hal))
                            refine hK.out _ _ HH2.out (fun hHeld => ?_)
                            clear hK K hHeld hal HJP HHn HBDn
                            try simp only [List.getElem_toArray, List.getElem_cons_zero, List.getElem_cons_succ, Act.put, List.setIfInBounds_toArray, List.set_cons_zero, List.set_cons_succ]
                            generalize wq1.heap.size = X23 at *
                            generalize wq1.alloc (.cells #[.int .i64 0, .int .i64 0, .string ⟨#[]⟩, .slice none 0 0, .slice none 0 0] 28) = wq at *
                            obtain ⟨⟨p0, p1, p2, p3, p4⟩, ⟨q0, q1, q2, q3, q4⟩, _⟩ := cells5 HZ9.out
                            have HRR := Lib.hid (lt_end (.int .i64 g.k) (.int .i64 g.n) (.string g.s) (.slice D1 i1 e1) (.slice D2 i2 e2) HZ9.out HJX.out HBD2.out HX.out)
                            clear HJX HZ9 HBD2 HH2 HX
                            refine PrintLast.wpAnyLast_ready (rs := [10]) (by kernel_rfl) (by simp) ?_
                            refine PrintLast.AllReadyL.cons_last rfl (by decide) (fun K hK => ?_) PrintLast.AllReadyL.nil
                            rw [if_pos (by kernel_rfl)]
                            go_simp
                            refine hK.out _ _ ?_
                            clear hK K
                            try simp only [List.getElem_toArray, List.getElem_cons_zero, List.getElem_cons_succ, Act.put, List.setIfInBounds_toArray, List.set_cons_zero, List.set_cons_succ]
                            refine PrintLast.wpAnyLast_any (i := 11) (v := ?_) rfl (Region.noSelect_spec (by kernel_rfl)) (fun _ _ _ h => h) _ _ _ _ (Region.free_spec rfl (by kernel_rfl)) (List.contains_iff_mem.1 (by kernel_rfl)) (Or.inl ⟨by kernel_rfl, ?_⟩) ?_
                            rotate_left
                            · (intro wX; go_simp; try (with_reducible rfl))
                            try simp only [List.getElem_toArray, List.getElem_cons_zero, List.getElem_cons_succ, Act.put, List.setIfInBounds_toArray, List.set_cons_zero, List.set_cons_succ]
                            refine PrintLast.wpAnyLast_done (by kernel_rfl) ?_ _
                            go_wp2_with fail
                            go_meet
                            case rel => exact ⟨rfl, ⟨X23, D1, i1, e1, D2, i2, e2, rfl, HRR.out⟩⟩
                          · rw [if_pos (by kernel_rfl)]
                            go_simp
                            have hal := bel_alloc (Below.refl wq0.heap.size wq0) (.cells #[.int .i64 0, .int .i64 0, .string ⟨#[]⟩, .slice none 0 0, .slice none 0 0] 28)
                            have HHn := Lib.hid (LtS.later HH.out hal); have HBDn := Lib.hid (bel_trans HBD.out hal)
                            have HZn := Lib.hid (heap_alloc_new wq0 (.cells #[.int .i64 0, .int .i64 0, .string ⟨#[]⟩, .slice none 0 0, .slice none 0 0] 28))
                            have HX := Lib.hid HBD.out.size
                            have hsz : (wq0.alloc (.cells #[.int .i64 0, .int .i64 0, .string ⟨#[]⟩, .slice none 0 0, .slice none 0 0] 28)).heap.size = wq0.heap.size + 1 := by show (wq0.heap.push _).size = _; simp
                            have HSZ := Lib.hid hsz
                            refine hK.out _ _ HHn.out (fun hHeld => ?_)
                            clear hK K hHeld hal HH HBD hsz
                            try simp only [List.getElem_toArray, List.getElem_cons_zero, List.getElem_cons_succ, Act.put, List.setIfInBounds_toArray, List.set_cons_zero, List.set_cons_succ]
                            generalize wq0.heap.size = X23 at *
                            generalize wq0.alloc (.cells #[.int .i64 0, .int .i64 0, .string ⟨#[]⟩, .slice none 0 0, .slice none 0 0] 28) = wq1 at *
                            have HH := HHn; have HBD := HBDn
                            clear HHn HBDn
                            refine PrintLast.wpAnyLast_ready (rs := [5]) (by kernel_rfl) (by simp) ?_
                            refine PrintLast.AllReadyL.cons rfl (by decide) (fun K hK => ?_) PrintLast.AllReadyL.nil
                            rw [if_pos (by kernel_rfl)]
                            go_simp
                            have hgc := HGC.out wq1 HBD.out
                            unfold GtRes at hgc
                            rw [HGP.out] at hgc
                            simp only at hgc
                            go_at_call 16; refine hgc.mono ?_; rintro e wq ⟨⟨D1, i1, e1, D2, i2, e2, rfl, hjq⟩, hbq⟩
                            clear hgc
                            go_wp2_with fail
                            have HHn := Lib.hid (LtS.later HH.out hbq); have HBDn := Lib.hid (bel_trans HBD.out hbq)
                            have HJX := Lib.hid (JR_mono (F' := fun b => b ≠ X23) (fun b hb => by have hb2 : wq1.heap.size ≤ b := hb; have := HSZ.out; omega) _ _ hjq)
                            have HZ9 := Lib.hid (Below.at hbq HZn.out)
                            clear hjq hbq HH HBD HSZ HZn
                            have HH2 := HHn; have HBD2 := HBDn
                            clear HHn HBDn
                            refine hK.out _ _ HH2.out (fun hHeld => ?_)
                            clear hK K hHeld
                            try simp only [List.getElem_toArray, List.getElem_cons_zero, List.getElem_cons_succ, Act.put, List.setIfInBounds_toArray, List.set_cons_zero, List.set_cons_succ]
                            refine PrintLast.wpAnyLast_any (i := 6) (v := ?_) rfl (Region.noSelect_spec (by kernel_rfl)) (fun _ _ _ h => h) _ _ _ _ (Region.free_spec rfl (by kernel_rfl)) (List.contains_iff_mem.1 (by kernel_rfl)) (Or.inl ⟨by kernel_rfl, ?_⟩) ?_
                            rotate_left
                            · (intro wX; go_simp; try (with_reducible rfl))
                            try simp only [List.getElem_toArray, List.getElem_cons_zero, List.getElem_cons_succ, Act.put, List.setIfInBounds_toArray, List.set_cons_zero, List.set_cons_succ]
                            refine PrintLast.wpAnyLast_any (i := 7) (v := ?_) rfl (Region.noSelect_spec (by kernel_rfl)) (fun _ _ _ h => h) _ _ _ _ (Region.free_spec rfl (by kernel_rfl)) (List.contains_iff_mem.1 (by kernel_rfl)) (Or.inl ⟨by kernel_rfl, ?_⟩) ?_
                            rotate_left
                            · (intro wX; go_simp; try (with_reducible rfl))
                            try simp only [List.getElem_toArray, List.getElem_cons_zero, List.getElem_cons_succ, Act.put, List.setIfInBounds_toArray, List.set_cons_zero, List.set_cons_succ]
                            refine PrintLast.wpAnyLast_any (i := 8) (v := ?_) rfl (Region.noSelect_spec (by kernel_rfl)) (fun _ _ _ h => h) _ _ _ _ (Region.free_spec rfl (by kernel_rfl)) (List.contains_iff_mem.1 (by kernel_rfl)) (Or.inl ⟨by kernel_rfl, ?_⟩) ?_
                            rotate_left
                            · (intro wX; go_simp; try (with_reducible rfl))
                            try simp only [List.getElem_toArray, List.getElem_cons_zero, List.getElem_cons_succ, Act.put, List.setIfInBounds_toArray, List.set_cons_zero, List.set_cons_succ]
                            obtain ⟨⟨p0, p1, p2, p3, p4⟩, ⟨q0, q1, q2, q3, q4⟩, _⟩ := cells5 HZ9.out
                            have HRR := Lib.hid (lt_end (.int .i64 g.k) (.int .i64 g.n) (.string g.s) (.slice D1 i1 e1) (.slice D2 i2 e2) HZ9.out HJX.out HBD2.out HX.out)
                            clear HJX HZ9 HBD2 HH2 HX
                            refine PrintLast.wpAnyLast_ready (rs := [10]) (by kernel_rfl) (by simp) ?_
                            refine PrintLast.AllReadyL.cons_last rfl (by decide) (fun K hK => ?_) PrintLast.AllReadyL.nil
                            rw [if_pos (by kernel_rfl)]
                            go_simp
                            refine hK.out _ _ ?_
                            clear hK K
                            try simp only [List.getElem_toArray, List.getElem_cons_zero, List.getElem_cons_succ, Act.put, List.setIfInBounds_toArray, List.set_cons_zero, List.set_cons_succ]
                            refine PrintLast.wpAnyLast_any (i := 11) (v := ?_) rfl (Region.noSelect_spec (by kernel_rfl)) (fun _ _ _ h => h) _ _ _ _ (Region.free_spec rfl (by kernel_rfl)) (List.contains_iff_mem.1 (by kernel_rfl)) (Or.inl ⟨by kernel_rfl, ?_⟩) ?_
                            rotate_left
                            · (intro wX; go_simp; try (with_reducible rfl))
                            try simp only [List.getElem_toArray, List.getElem_cons_zero, List.getElem_cons_succ, Act.put, List.setIfInBounds_toArray, List.set_cons_zero, List.set_cons_succ]
                            refine PrintLast.wpAnyLast_done (by kernel_rfl) ?_ _
                            go_wp2_with fail
                            go_meet
                            case rel => exact ⟨rfl, ⟨X23, D1, i1, e1, D2, i2, e2, rfl, HRR.out⟩⟩
                        case rest =>
                          obtain ⟨rfl, hlr⟩ := hcut
                          obtain ⟨X23, D1, i1, e1, D2, i2, e2, rfl, hx23, hj23, hbr⟩ := hlr.out
                          have HX23 := Lib.hid hx23; have HJ23 := Lib.hid hj23; have HBR := Lib.hid hbr
                          clear hlr hx23 hj23 hbr HSS HGC HB7
                          go_wp2_with fail
                          refine wp_region_E (by kernel_rfl) ?_
                          have HBV := Lib.hid (bel_drew HBR.out)
                          have HXV := Lib.hid (show wc.drew.heap[X23]? = _ from HX23.out)
                          have HJV := Lib.hid (JR_later HJ23.out (bel_drew (Below.refl wc.heap.size wc)))
                          clear HBR HX23 HJ23
                          generalize wc.drew = V7 at *
                          cases oc with
                          | false =>
                            refine wpAnyE_tk 0 (v := ?_) rfl (by kernel_rfl) (by kernel_rfl) (by kernel_rfl) (by kernel_rfl) ?_ ?_
                            rotate_left
                            · intro w2 hE
                              go_simp
                              try (with_reducible rfl)
                            try simp only [List.getElem_toArray, List.getElem_cons_zero, Act.put, List.setIfInBounds_toArray, List.set_cons_zero, List.set_cons_succ]
                            refine wpAnyE_tk 1 (v := ?_) rfl (by kernel_rfl) (by kernel_rfl) (by kernel_rfl) (by kernel_rfl) ?_ ?_
                            rotate_left
                            · intro w2 hE
                              go_simp
                              try (with_reducible rfl)
                            try simp only [List.getElem_toArray, List.getElem_cons_zero, List.getElem_cons_succ, Act.put, List.setIfInBounds_toArray, List.set_cons_zero, List.set_cons_succ]
                            refine wpAnyE_sk 2 rfl (by kernel_rfl) (by kernel_rfl) (by kernel_rfl) (by kernel_rfl) ?_
                            try simp only [List.getElem_toArray, List.getElem_cons_zero, List.getElem_cons_succ, Act.put, List.setIfInBounds_toArray, List.set_cons_zero, List.set_cons_succ]
                            refine wpAnyE_sk 3 rfl (by kernel_rfl) (by kernel_rfl) (by kernel_rfl) (by kernel_rfl) ?_
                            try simp only [List.getElem_toArray, List.getElem_cons_zero, List.getElem_cons_succ, Act.put, List.setIfInBounds_toArray, List.set_cons_zero, List.set_cons_succ]
                            refine wpAnyE_sk 4 rfl (by kernel_rfl) (by kernel_rfl) (by kernel_rfl) (by kernel_rfl) ?_
                            try simp only [List.getElem_toArray, List.getElem_cons_zero, List.getElem_cons_succ, Act.put, List.setIfInBounds_toArray, List.set_cons_zero, List.set_cons_succ]
                            refine wpAnyE_sk 5 rfl (by kernel_rfl) (by kernel_rfl) (by kernel_rfl) (by kernel_rfl) ?_
                            try simp only [List.getElem_toArray, List.getElem_cons_zero, List.getElem_cons_succ, Act.put, List.setIfInBounds_toArray, List.set_cons_zero, List.set_cons_succ]
                            refine wpAnyE_sk 6 rfl (by kernel_rfl) (by kernel_rfl) (by kernel_rfl) (by kernel_rfl) ?_
                            try simp only [List.getElem_toArray, List.getElem_cons_zero, List.getElem_cons_succ, Act.put, List.setIfInBounds_toArray, List.set_cons_zero, List.set_cons_succ]
                            refine wpAnyE_sk 7 rfl (by kernel_rfl) (by kernel_rfl) (by kernel_rfl) (by kernel_rfl) ?_
                            try simp only [List.getElem_toArray, List.getElem_cons_zero, List.getElem_cons_succ, Act.put, List.setIfInBounds_toArray, List.set_cons_zero, List.set_cons_succ]
                            refine wpAnyE_sk 8 rfl (by kernel_rfl) (by kernel_rfl) (by kernel_rfl) (by kernel_rfl) ?_
                            try simp only [List.getElem_toArray, List.getElem_cons_zero, List.getElem_cons_succ, Act.put, List.setIfInBounds_toArray, List.set_cons_zero, List.set_cons_succ]
                            refine wpAnyE_sk 9 rfl (by kernel_rfl) (by kernel_rfl) (by kernel_rfl) (by kernel_rfl) ?_
                            try simp only [List.getElem_toArray, List.getElem_cons_zero, List.getElem_cons_succ, Act.put, List.setIfInBounds_toArray, List.set_cons_zero, List.set_cons_succ]
                            refine wpAnyE_sk 10 rfl (by kernel_rfl) (by kernel_rfl) (by kernel_rfl) (by kernel_rfl) ?_
                            try simp only [List.getElem_toArray, List.getElem_cons_zero, List.getElem_cons_succ, Act.put, List.setIfInBounds_toArray, List.set_cons_zero, List.set_cons_succ]
                            refine wpAnyE_sk 11 rfl (by kernel_rfl) (by kernel_rfl) (by kernel_rfl) (by kernel_rfl) ?_
                            try simp only [List.getElem_toArray, List.getElem_cons_zero, List.getElem_cons_succ, Act.put, List.setIfInBounds_toArray, List.set_cons_zero, List.set_cons_succ]
                            refine wpAnyE_sk 12 rfl (by kernel_rfl) (by kernel_rfl) (by kernel_rfl) (by kernel_rfl) ?_
                            try simp only [List.getElem_toArray, List.getElem_cons_zero, List.getElem_cons_succ, Act.put, List.setIfInBounds_toArray, List.set_cons_zero, List.set_cons_succ]
                            refine wpAnyE_tk 13 (v := ?_) rfl (by kernel_rfl) (by kernel_rfl) (by kernel_rfl) (by kernel_rfl) ?_ ?_
                            rotate_left
                            · intro w2 hE
                              go_simp
                              try (with_reducible rfl)
                            try simp only [List.getElem_toArray, List.getElem_cons_zero, List.getElem_cons_succ, Act.put, List.setIfInBounds_toArray, List.set_cons_zero, List.set_cons_succ]
                            refine wpAnyE_done (by kernel_rfl) (fun w8 hE8 => ?_) _
                            have HB8 := Lib.hid (bel_trans HBV.out hE8)
                            clear hE8 HBV HXV HJV HJR HJQ HKL HEN
                            go_wp2_with fail
                            go_roundg (l.length - (k + 1))
                            case measure => omega
                            case rel => exact ⟨k + 1, by omega, by omega, congrArg (Value.int .i64) (by have := HL12.out; first | (unfold wrap64; omega) | omega), HB8.out⟩
                          | true =>
                            obtain rfl := HPX.out rfl
                            have HRC := Lib.hid (fun w2 (hE : Lat V7 w2) => HKL.out.later (bel_trans HBV.out hE))
                            refine wpAnyE_tk 0 (v := ?_) rfl (by kernel_rfl) (by kernel_rfl) (by kernel_rfl) (by kernel_rfl) ?_ ?_
                            rotate_left
                            · intro w2 hE
                              go_simp
                              try (with_reducible rfl)
                            try simp only [List.getElem_toArray, List.getElem_cons_zero, Act.put, List.setIfInBounds_toArray, List.set_cons_zero, List.set_cons_succ]
                            refine wpAnyE_tk 1 (v := ?_) rfl (by kernel_rfl) (by kernel_rfl) (by kernel_rfl) (by kernel_rfl) ?_ ?_
                            rotate_left
                            · intro w2 hE
                              go_simp
                              try (with_reducible rfl)
                            try simp only [List.getElem_toArray, List.getElem_cons_zero, List.getElem_cons_succ, Act.put, List.setIfInBounds_toArray, List.set_cons_zero, List.set_cons_succ]
                            refine wpAnyE_tk 2 (v := ?_) rfl (by kernel_rfl) (by kernel_rfl) (by kernel_rfl) (by kernel_rfl) ?_ ?_
                            rotate_left
                            · intro w2 hE
                              go_simp
                              try (with_reducible rfl)
                            try simp only [List.getElem_toArray, List.getElem_cons_zero, List.getElem_cons_succ, Act.put, List.setIfInBounds_toArray, List.set_cons_zero, List.set_cons_succ]
                            refine wpAnyE_tk 3 (v := ?_) rfl (by kernel_rfl) (by kernel_rfl) (by kernel_rfl) (by kernel_rfl) ?_ ?_
                            rotate_left
                            · intro w2 hE
                              go_simp
                              try (with_reducible rfl)
                            try simp only [List.getElem_toArray, List.getElem_cons_zero, List.getElem_cons_succ, Act.put, List.setIfInBounds_toArray, List.set_cons_zero, List.set_cons_succ]
                            refine wpAnyE_tk 4 (v := ?_) rfl (by kernel_rfl) (by kernel_rfl) (by kernel_rfl) (by kernel_rfl) ?_ ?_
                            rotate_left
                            · intro w2 hE
                              go_simp
                              try (with_reducible rfl)
                            try simp only [List.getElem_toArray, List.getElem_cons_zero, List.getElem_cons_succ, Act.put, List.setIfInBounds_toArray, List.set_cons_zero, List.set_cons_succ]
                            refine wpAnyE_tk 5 (v := ?_) rfl (by kernel_rfl) (by kernel_rfl) (by kernel_rfl) (by kernel_rfl) ?_ ?_
                            rotate_left
                            · intro w2 hE
                              obtain ⟨⟨v0, v1, v2, v3, v4⟩, _, hVV⟩ := cells5 (Below.at hE HXV.out)
                              go_simp
                              try (with_reducible rfl)
                            try simp only [List.getElem_toArray, List.getElem_cons_zero, List.getElem_cons_succ, Act.put, List.setIfInBounds_toArray, List.set_cons_zero, List.set_cons_succ]
                            refine wpAnyE_tk 6 (v := ?_) rfl (by kernel_rfl) (by kernel_rfl) (by kernel_rfl) (by kernel_rfl) ?_ ?_
                            rotate_left
                            · intro w2 hE
                              go_simp
                              try (with_reducible rfl)
                            try simp only [List.getElem_toArray, List.getElem_cons_zero, List.getElem_cons_succ, Act.put, List.setIfInBounds_toArray, List.set_cons_zero, List.set_cons_succ]
                            refine wpAnyE_tk 7 (v := ?_) rfl (by kernel_rfl) (by kernel_rfl) (by kernel_rfl) (by kernel_rfl) ?_ ?_
                            rotate_left
                            · intro w2 hE
                              go_simp
                              try (with_reducible rfl)
                            try simp only [List.getElem_toArray, List.getElem_cons_zero, List.getElem_cons_succ, Act.put, List.setIfInBounds_toArray, List.set_cons_zero, List.set_cons_succ]
                            refine wpAnyE_tk 8 (v := ?_) rfl (by kernel_rfl) (by kernel_rfl) (by kernel_rfl) (by kernel_rfl) ?_ ?_
                            rotate_left
                            · intro w2 hE
                              obtain ⟨z4, ⟨z6, z7, z8, z9, z10⟩, ⟨z11, z12, z13, z14, z15⟩⟩ := HRC.out w2 hE
                              go_simp
                              try (with_reducible rfl)
                            try simp only [List.getElem_toArray, List.getElem_cons_zero, List.getElem_cons_succ, Act.put, List.setIfInBounds_toArray, List.set_cons_zero, List.set_cons_succ]
                            refine wpAnyE_tk 9 (v := ?_) rfl (by kernel_rfl) (by kernel_rfl) (by kernel_rfl) (by kernel_rfl) ?_ ?_
                            rotate_left
                            · intro w2 hE
                              obtain ⟨z4, ⟨z6, z7, z8, z9, z10⟩, ⟨z11, z12, z13, z14, z15⟩⟩ := HRC.out w2 hE
                              go_simp
                              try (with_reducible rfl)
                            try simp only [List.getElem_toArray, List.getElem_cons_zero, List.getElem_cons_succ, Act.put, List.setIfInBounds_toArray, List.set_cons_zero, List.set_cons_succ]
                            refine wpAnyE_tk 10 (v := .bool true) rfl (by kernel_rfl) (by kernel_rfl) (by kernel_rfl) (by kernel_rfl) ?_ ?_
                            · intro w2 hE
                              have hsa := same_any g g _ _ _ _ w2 (JR_later HJV.out hE) (JR_later HJQ.out (bel_trans HBV.out hE))
                              rw [same_refl] at hsa
                              have HSA := Lib.hid hsa
                              clear hsa
                              go_simp
                              exact HSA.out.mono fun e w3 ⟨h1, h2⟩ => ⟨h1, h2⟩
                            try simp only [List.getElem_toArray, List.getElem_cons_zero, List.getElem_cons_succ, Act.put, List.setIfInBounds_toArray, List.set_cons_zero, List.set_cons_succ]
                            refine wpAnyE_tk 11 (v := ?_) rfl (by kernel_rfl) (by kernel_rfl) (by kernel_rfl) (by kernel_rfl) ?_ ?_
                            rotate_left
                            · intro w2 hE
                              go_simp
                              try (with_reducible rfl)
                            try simp only [List.getElem_toArray, List.getElem_cons_zero, List.getElem_cons_succ, Act.put, List.setIfInBounds_toArray, List.set_cons_zero, List.set_cons_succ]
                            refine wpAnyE_tk 12 (v := ?_) rfl (by kernel_rfl) (by kernel_rfl) (by kernel_rfl) (by kernel_rfl) ?_ ?_
                            rotate_left
                            · intro w2 hE
                              go_simp
                              try (with_reducible rfl)
                            try simp only [List.getElem_toArray, List.getElem_cons_zero, List.getElem_cons_succ, Act.put, List.setIfInBounds_toArray, List.set_cons_zero, List.set_cons_succ]
                            refine wpAnyE_tk 13 (v := ?_) rfl (by kernel_rfl) (by kernel_rfl) (by kernel_rfl) (by kernel_rfl) ?_ ?_
                            rotate_left
                            · intro w2 hE
                              go_simp
                              try (with_reducible rfl)
                            try simp only [List.getElem_toArray, List.getElem_cons_zero, List.getElem_cons_succ, Act.put, List.setIfInBounds_toArray, List.set_cons_zero, List.set_cons_succ]
                            clear HRC
                            refine wpAnyE_done (by kernel_rfl) (fun w8 hE8 => ?_) _
                            have HB8 := Lib.hid (bel_trans HBV.out hE8)
                            clear hE8 HBV HXV HJV HJR HJQ HKL HEN
                            go_wp2_with fail
                            go_roundg (l.length - (k + 1))
                            case measure => omega
                            case rel => exact ⟨k + 1, by omega, by omega, congrArg (Value.int .i64) (by have := HL12.out; first | (unfold wrap64; omega) | omega), HB8.out⟩
                  case pos =>
                    have hd7 : decide ((k : Int) < (l.length : Int)) = true := decide_eq_true (by omega)
                    obtain ⟨q, hq⟩ : ∃ q, R[k]? = some q := get_ex (by rw [HRL.out]; exact hlt)
                    have hq2 : P[(k + tn) % l.length]? = some q := by
                      have h := rot_get P tn k (by rw [HPL.out]; exact hlt)
                      rw [← HR.out, HPL.out, hq] at h
                      exact h.symm
                    have hJ : (k + tn) % l.length < l.length := Nat.mod_lt _ (by omega)
                    have hlp : 0 < l.length := by omega
                    obtain ⟨g, cap, hAg, _⟩ := own_pos HO.out (by omega)
                    obtain ⟨rfl, rfl⟩ : A = some ⟨g, 0, none⟩ ∧ c = cap := by simpa using hAg
                    have z0 := own_at HO.out (j := (k + tn) % l.length) (u := .string ⟨(txtM q).toArray⟩) (by rw [List.getElem?_take_of_lt hJ, List.getElem?_map, hq2]; rfl)
                    have hsu : (objL R (k + 1)).length ≤ 20000 := HOB.out _ (by omega)
                    have hsk : (objL R k).length ≤ 20000 := HOB.out _ (by omega)
                    have hsc := objL_succ hq
                    rw [hsc, List.length_append, List.length_append] at hsu
                    have HSC := Lib.hid hsc
                    have hi1 := lw_rem k tn l.length
                    have hi2 : (0 : Int) ≤ (((k + tn) % l.length : Nat) : Int) := by omega
                    have hi3 : (((k + tn) % l.length : Nat) : Int) < (l.length : Int) := by omega
                    have hkt : wrap64 ((k : Int) + (tn : Int)) = (k : Int) + (tn : Int) := lw_sum (by have := HL12.out; omega) HTN.out
                    have hl0 : ¬ (l.length : Int) = 0 := by omega
                    generalize (k + tn) % l.length = J at *
                    generalize hOk : objL R k = Ok at *
                    generalize hTq : txtM q = Tq at *
                    have HOK := Lib.hid hOk; have HTQ := Lib.hid hTq; have HSU := Lib.hid hsu; have HSK := Lib.hid hsk
                    clear hAg hq hq2 hsc hOk hTq hsu hsk
                    go_upto_if 139 with (fail)
                    go_cut [15] from 138 to 141 (fun s15 wx => s15 = .string ⟨(Ok ++ sepL k [32, 44, 10]).toArray⟩ ∧ wx = wr)
                    case first =>
                      rcases Nat.eq_zero_or_pos k with rfl | hk00
                      · have hd8 : decide ((0 : Int) < ((0 : Nat) : Int)) = false := rfl
                        go_wp2_with fail
                        go_meet
                        case rel => exact ⟨congrArg Value.string (by simp [sepL]), rfl⟩
                      · have hd8 : decide ((0 : Int) < (k : Int)) = true := decide_eq_true (by omega)
                        have hd9 : decide (0 < k) = true := decide_eq_true hk00
                        have q1 := fun W : World => str_sum (P := Tryz.prog) Ok [32, 44, 10] W (by have := HSK.out; simp; omega)
                        go_wp2_with fail
                        go_meet
                        case rel => exact ⟨congrArg Value.string (by rw [sepL, if_neg (by omega)]), rfl⟩
                    case rest =>
                      obtain ⟨rfl, rfl⟩ := hcut
                      generalize hSm : Ok ++ sepL k [32, 44, 10] = Sm at *
                      have hsm2 : Sm.length + Tq.length ≤ 20000 := by
                        have h := HSU.out
                        rw [← hSm, List.length_append]
                        omega
                      have q1 := fun W : World => str_sum (P := Tryz.prog) Sm Tq W (by omega)
                      have HSM := Lib.hid hSm
                      generalize hS2 : Sm ++ Tq = S2 at *
                      have HS2 := Lib.hid hS2
                      clear hSm hS2 hsm2
                      go_wp2_with fail
                      clear q1 hi1 hkt
                      go_roundg (l.length - (k + 1))
                      case measure => omega
                      case rel => exact ⟨k + 1, by omega, by omega, congrArg (Value.int .i64) (by have := HL12.out; first | (unfold wrap64; omega) | omega), congrArg Value.string (by rw [HSC.out]), rfl⟩
            case pos =>
              have hd5 : decide ((k : Int) < (l.length : Int)) = true := decide_eq_true (by omega)
              have hi1 : (k : Int) < (l.length : Int) := by omega
              have hi2 : (k : Int) < (ns.length : Int) := by have := HNL.out; omega
              obtain ⟨x, hx⟩ : ∃ x, l[k]? = some x := get_ex hlt
              obtain ⟨nm, hnm⟩ : ∃ nm, ns[k]? = some nm := get_ex (by have := HNL.out; omega)
              have HX := Lib.hid hx; have HNM := Lib.hid hnm
              have HPK := Lib.hid (show P[k]? = some (nm, x) from by rw [HP.out, List.getElem?_zip_eq_some]; exact ⟨hnm, hx⟩)
              obtain ⟨b, o, bn, on, A1, n1, c1, A2, n2, c2, rfl, rfl, hc, hjx⟩ := ls_cells HT3.out HT4.out hx hnm
              have HC := Lib.hid (hc.later HBW.out); have HJX := Lib.hid (JR_later hjx HBW.out)
              clear hx hnm hc hjx
              generalize hS : lstL l k = Sk at *
              have HS := Lib.hid hS
              generalize hZ : szL P k = Zk at *
              have HZ := Lib.hid hZ
              clear hS hZ
              obtain ⟨zn21, z021, z121, z221, z321, z421⟩ := HC.out
              have hcl := few_any x _ _ wr HJX.out
              have HCL := Lib.hid hcl
              clear hcl
              go_wp2_with fail
              refine Calls.mono HCL.out ?_
              clear HCL
              cases hfx : fewB x with
              | false =>
                rintro e w22 ⟨rfl, hbz⟩
                have HB23 := Lib.hid (bel_trans HBB.out hbz)
                have HC24 := Lib.hid (LsC.later HC.out hbz)
                have HJ25 := Lib.hid (JR_later HJX.out hbz)
                have HO26 := Lib.hid (own_laterB HO.out hbz)
                have HB27 := Lib.hid (bel_trans HBW.out hbz)
                have HL28 := Lib.hid (HTW.out.below hbz)
                clear HBB HC HJX HO HBW HTW zn21 z021 z121 z221 z321 z421
                clear hbz hfx
                have hcl := first_any w22 HL28.out
                have HCL := Lib.hid hcl
                clear hcl
                go_wp2_with fail
                refine Calls.mono HCL.out ?_
                rintro e w29 ⟨rfl, hbz⟩
                clear HCL
                have HB30 := Lib.hid (bel_trans HB23.out hbz)
                have HC31 := Lib.hid (LsC.later HC24.out hbz)
                have HJ32 := Lib.hid (JR_later HJ25.out hbz)
                have HO33 := Lib.hid (own_laterB HO26.out hbz)
                have HB34 := Lib.hid (bel_trans HB27.out hbz)
                have HL35 := Lib.hid (HL28.out.below hbz)
                clear HB23 HC24 HJ25 HO26 HB27 HL28
                clear hbz
                go_wp2_with fail
                go_ret
                exact ⟨rfl, HB30.out⟩
              | true =>
                rintro e w22 ⟨rfl, hbz⟩
                have HB36 := Lib.hid (bel_trans HBB.out hbz)
                have HC37 := Lib.hid (LsC.later HC.out hbz)
                have HJ38 := Lib.hid (JR_later HJX.out hbz)
                have HO39 := Lib.hid (own_laterB HO.out hbz)
                have HB40 := Lib.hid (bel_trans HBW.out hbz)
                have HL41 := Lib.hid (HTW.out.below hbz)
                clear HBB HC HJX HO HBW HTW zn21 z021 z121 z221 z321 z421
                have HFX := Lib.hid hfx
                clear hbz hfx
                obtain ⟨zn42, z042, z142, z242, z342, z442⟩ := HC37.out
                have hcl := May_any x _ _ w22 HJ38.out HL41.out
                have HCL := Lib.hid hcl
                clear hcl
                go_wp2_with fail
                refine Calls.mono HCL.out ?_
                clear HCL
                cases hmx : mayJ 64 x with
                | false =>
                  rintro e w43 ⟨rfl, hbz⟩
                  have HB44 := Lib.hid (bel_trans HB36.out hbz)
                  have HC45 := Lib.hid (LsC.later HC37.out hbz)
                  have HJ46 := Lib.hid (JR_later HJ38.out hbz)
                  have HO47 := Lib.hid (own_laterB HO39.out hbz)
                  have HB48 := Lib.hid (bel_trans HB40.out hbz)
                  have HL49 := Lib.hid (HL41.out.below hbz)
                  clear HB36 HC37 HJ38 HO39 HB40 HL41 zn42 z042 z142 z242 z342 z442
                  clear hbz hmx
                  have hcl := first_any w43 HL49.out
                  have HCL := Lib.hid hcl
                  clear hcl
                  go_wp2_with fail
                  refine Calls.mono HCL.out ?_
                  rintro e w50 ⟨rfl, hbz⟩
                  clear HCL
                  have HB51 := Lib.hid (bel_trans HB44.out hbz)
                  have HC52 := Lib.hid (LsC.later HC45.out hbz)
                  have HJ53 := Lib.hid (JR_later HJ46.out hbz)
                  have HO54 := Lib.hid (own_laterB HO47.out hbz)
                  have HB55 := Lib.hid (bel_trans HB48.out hbz)
                  have HL56 := Lib.hid (HL49.out.below hbz)
                  clear HB44 HC45 HJ46 HO47 HB48 HL49
                  clear hbz
                  go_wp2_with fail
                  go_ret
                  exact ⟨rfl, HB51.out⟩
                | true =>
                  rintro e w43 ⟨rfl, hbz⟩
                  have HB57 := Lib.hid (bel_trans HB36.out hbz)
                  have HC58 := Lib.hid (LsC.later HC37.out hbz)
                  have HJ59 := Lib.hid (JR_later HJ38.out hbz)
                  have HO60 := Lib.hid (own_laterB HO39.out hbz)
                  have HB61 := Lib.hid (bel_trans HB40.out hbz)
                  have HL62 := Lib.hid (HL41.out.below hbz)
                  clear HB36 HC37 HJ38 HO39 HB40 HL41 zn42 z042 z142 z242 z342 z442
                  have HMX := Lib.hid hmx
                  clear hbz hmx
                  obtain ⟨zn63, z063, z163, z263, z363, z463⟩ := HC58.out
                  by_cases hnz : 100 < nm.size
                  · have hd6 : decide (100 < (nm.size : Int)) = true := decide_eq_true (by omega)
                    have hcl := first_any w43 HL62.out
                    have HCL := Lib.hid hcl
                    clear hcl
                    go_wp2_with fail
                    refine Calls.mono HCL.out ?_
                    rintro e w64 ⟨rfl, hbz⟩
                    clear HCL
                    have HB65 := Lib.hid (bel_trans HB57.out hbz)
                    have HC66 := Lib.hid (LsC.later HC58.out hbz)
                    have HJ67 := Lib.hid (JR_later HJ59.out hbz)
                    have HO68 := Lib.hid (own_laterB HO60.out hbz)
                    have HB69 := Lib.hid (bel_trans HB61.out hbz)
                    have HL70 := Lib.hid (HL62.out.below hbz)
                    clear HB57 HC58 HJ59 HO60 HB61 HL62 zn63 z063 z163 z263 z363 z463
                    clear hbz
                    go_wp2_with fail
                    go_ret
                    exact ⟨rfl, HB65.out⟩
                  · have hd6 : decide (100 < (nm.size : Int)) = false := decide_eq_false (by omega)
                    have hcx : 0 < countB 100 x 12000 := of_decide_eq_true (show decide (0 < countB 100 x 12000) = true from HFX.out)
                    have HLN := Lib.hid (few_len hcx HMX.out)
                    have HNZ := Lib.hid hnz
                    clear hcx hnz
                    have hcl := print_ok x _ _ w43 HJ59.out HL62.out HMX.out (by have := HLN.out; omega)
                    have HCL := Lib.hid hcl
                    clear hcl
                    go_wp2_with fail
                    refine Calls.mono HCL.out ?_
                    rintro e w71 ⟨P1, p1, rfl, hs1, hbz⟩
                    clear HCL
                    have HB72 := Lib.hid (bel_trans HB57.out hbz)
                    have HC73 := Lib.hid (LsC.later HC58.out hbz)
                    have HJ74 := Lib.hid (JR_later HJ59.out hbz)
                    have HO75 := Lib.hid (own_laterB HO60.out hbz)
                    have HB76 := Lib.hid (bel_trans HB61.out hbz)
                    have HL77 := Lib.hid (HL62.out.below hbz)
                    clear HB57 HC58 HJ59 HO60 HB61 HL62 zn63 z063 z163 z263 z363 z463
                    have HS78 := Lib.hid (hs1)
                    clear hbz hs1
                    obtain ⟨zn79, z079, z179, z279, z379, z479⟩ := HC73.out
                    have hnz2 : nm.size ≤ 100 := by have := HNZ.out; omega
                    cases hsh : shortB nm with
                    | false =>
                      have hcl := Print_bad (wordV nm) [.int .i64 5, .int .i64 0, .string nm, .slice none 0 0, .slice none 0 0] (fun _ => True) w71 (JR_text _ _ nm (by omega)) HL77.out (by rw [may_wordV_iff]; exact hsh)
                      have HCL := Lib.hid hcl
                      clear hcl
                      go_wp2_with fail
                      refine Calls.mono HCL.out ?_
                      rintro e w80 ⟨rfl, hbz⟩
                      clear HCL
                      have HB81 := Lib.hid (bel_trans HB72.out hbz)
                      have HC82 := Lib.hid (LsC.later HC73.out hbz)
                      have HJ83 := Lib.hid (JR_later HJ74.out hbz)
                      have HO84 := Lib.hid (own_laterB HO75.out hbz)
                      have HB85 := Lib.hid (bel_trans HB76.out hbz)
                      have HL86 := Lib.hid (HL77.out.below hbz)
                      have HS87 := Lib.hid (bsl_latL HS78.out hbz)
                      clear HB72 HC73 HJ74 HO75 HB76 HL77 HS78 zn79 z079 z179 z279 z379 z479
                      clear hbz hsh
                      have hcl := first_any w80 HL86.out
                      have HCL := Lib.hid hcl
                      clear hcl
                      go_wp2_with fail
                      refine Calls.mono HCL.out ?_
                      rintro e w88 ⟨rfl, hbz⟩
                      clear HCL
                      have HB89 := Lib.hid (bel_trans HB81.out hbz)
                      have HC90 := Lib.hid (LsC.later HC82.out hbz)
                      have HJ91 := Lib.hid (JR_later HJ83.out hbz)
                      have HO92 := Lib.hid (own_laterB HO84.out hbz)
                      have HB93 := Lib.hid (bel_trans HB85.out hbz)
                      have HL94 := Lib.hid (HL86.out.below hbz)
                      have HS95 := Lib.hid (bsl_latL HS87.out hbz)
                      clear HB81 HC82 HJ83 HO84 HB85 HL86 HS87
                      clear hbz
                      go_wp2_with fail
                      go_ret
                      exact ⟨rfl, HB89.out⟩
                    | true =>
                      have hcl := print_txt nm w71 HL77.out hsh hnz2
                      have HCL := Lib.hid hcl
                      clear hcl
                      go_wp2_with fail
                      refine Calls.mono HCL.out ?_
                      rintro e w96 ⟨Q1, q1, rfl, hs2, hbz⟩
                      clear HCL
                      have HB97 := Lib.hid (bel_trans HB72.out hbz)
                      have HC98 := Lib.hid (LsC.later HC73.out hbz)
                      have HJ99 := Lib.hid (JR_later HJ74.out hbz)
                      have HO100 := Lib.hid (own_laterB HO75.out hbz)
                      have HB101 := Lib.hid (bel_trans HB76.out hbz)
                      have HL102 := Lib.hid (HL77.out.below hbz)
                      have HS103 := Lib.hid (bsl_latL HS78.out hbz)
                      clear HB72 HC73 HJ74 HO75 HB76 HL77 HS78 zn79 z079 z179 z279 z379 z479
                      have HS104 := Lib.hid (hs2)
                      have HSH := Lib.hid hsh
                      clear hbz hs2 hsh hnz2
                      have hzk : Zk ≤ 5000000 ∧ Sk.length ≤ 5000001 := by
                        have h1 := szL_mono P k (fun q hq => (HALL.out q hq).2.2)
                        have h2 := lst_len ns l k HNL.out
                        rw [← HP.out, HS.out, HZ.out] at h2
                        rw [HZ.out] at h1
                        have := HL12.out
                        omega
                      have HZK := Lib.hid hzk
                      clear hzk
                      go_upto_if 105 with (fail)
                      go_cut [7] from 104 to 107 (fun s7 wx => s7 = .string ⟨(Sk ++ sepL k [44]).toArray⟩ ∧ wx = w96)
                      case first =>
                        by_cases hk00 : k = 0
                        · have hd7 : decide ((0 : Int) < (k : Int)) = false := decide_eq_false (by omega)
                          have hd8 : decide (0 < k) = false := decide_eq_false (by omega)
                          go_wp2_with fail
                          go_meet
                          case rel => exact ⟨congrArg Value.string (by simp [sepL, hk00]), rfl⟩
                        · have hd7 : decide ((0 : Int) < (k : Int)) = true := decide_eq_true (by omega)
                          have hd8 : decide (0 < k) = true := decide_eq_true (by omega)
                          have q1 := fun W : World => str_sum (P := Tryz.prog) Sk [44] W (by have := HZK.out; simp; omega)
                          go_wp2_with fail
                          go_meet
                          case rel => exact ⟨congrArg Value.string (by simp [sepL, hk00]), rfl⟩
                      case rest =>
                        obtain ⟨rfl, rfl⟩ := hcut
                        have hsl : (Sk ++ sepL k [44]).length ≤ 5000002 := by
                          have := HZK.out
                          unfold sepL
                          split <;> simp <;> omega
                        generalize hSm : Sk ++ sepL k [44] = Sm at *
                        have hqz := (short_len HSH.out).1
                        generalize hBx : printB 64 x = Bx at *
                        generalize hQn : quoteB nm = Qn at *
                        have hq2 : Qn.length ≤ 602 := by have := HNZ.out; omega
                        have hb2 : Bx.length ≤ 360000 := HLN.out
                        have hcb := HS103.out.conv
                        have hcq := HS104.out.conv
                        have q1 := fun W : World => str_sum (P := Tryz.prog) Sm Bx W (by omega)
                        have q2 := fun W : World => str_sum (P := Tryz.prog) Qn [58] W (by simp; omega)
                        have q3 := fun W : World => str_sum (P := Tryz.prog) (Qn ++ [58]) Bx W (by simp; omega)
                        have hT : Qn ++ [58] ++ Bx = txtM (nm, x) := by unfold txtM prMem; rw [hBx, hQn]; simp
                        generalize hQ2 : Qn ++ [58] = Q2 at *
                        generalize hTX : Q2 ++ Bx = TX at *
                        generalize hS2 : Sm ++ Bx = S2 at *
                        have HTX := Lib.hid hT; have HSM := Lib.hid hSm; have HBX := Lib.hid hBx; have HQN := Lib.hid hQn; have HS2 := Lib.hid hS2
                        have HQB := Lib.hid (And.intro hq2 hb2)
                        clear hT hSm hBx hQn hS2 hQ2 hTX hqz hsl
                        have z1 : wrap64 ((Zk : Int) + (Bx.length : Int)) = (Zk : Int) + (Bx.length : Int) := by have := HZK.out; unfold wrap64; omega
                        have z2 : wrap64 ((Zk : Int) + (Bx.length : Int) + (Qn.length : Int)) = (Zk : Int) + (Bx.length : Int) + (Qn.length : Int) := by have := HZK.out; unfold wrap64; omega
                        have z3 : wrap64 ((Zk : Int) + (Bx.length : Int) + (Qn.length : Int) + 3) = (Zk : Int) + (Bx.length : Int) + (Qn.length : Int) + 3 := by have := HZK.out; unfold wrap64; omega
                        have hsrc : ∀ j u, [Value.string ⟨TX.toArray⟩][j]? = some u → (wc.alloc (.cells #[.string ⟨TX.toArray⟩] 9)).cell? ((⟨wc.heap.size, 0, none⟩ : Addr).add j) = some u := fun j u hj => by
                          rw [Addr.add_lit, Nat.zero_add]; exact cell_newB wc #[.string ⟨TX.toArray⟩] 9 j u (by simpa using hj)
                        have hbA : Below w1.heap.size w1 (wc.alloc (.cells #[.string ⟨TX.toArray⟩] 9)) := bel_alloc HB101.out _
                        have hown := own_laterB HO100.out (bel_alloc (Below.refl wc.heap.size wc) (.cells #[.string ⟨TX.toArray⟩] 9))
                        have s1 : k + 1 ≤ maxLen := by have := HL12.out; simp only [maxLen]; omega
                        have s2 : (k + 1) * 16 ≤ 140737488355328 := by have := HL12.out; omega
                        have SR := Lib.hid hsrc; have OA := Lib.hid hown; have S1 := Lib.hid s1; have S2' := Lib.hid s2; have S3 := Lib.hid hbA.size; have HBA := Lib.hid hbA
                        have HTK := Lib.hid (show (P.map fun q => Value.string ⟨(txtM q).toArray⟩).take (k + 1) = (P.map fun q => Value.string ⟨(txtM q).toArray⟩).take k ++ [Value.string ⟨TX.toArray⟩] from take_snoc' (by rw [List.getElem?_map, HPK.out, HTX.out]; rfl))
                        clear hsrc hbA hown s1 s2 hq2 hb2
                        obtain ⟨i1, zi1, zy0, zy1, zy2⟩ := info_parts strInfo
                        go_wp2_with (at_builtin; refine wpList_append_ownB rfl _ _ 54 rfl w1.heap.size 9 i1 _ 1 16 Tryz.underlying54 zi1 zy0 zy1 zy2 rfl (by decide) _ k _ rfl OA.out ⟨wc.heap.size, 0, none⟩ 1 1 [.string ⟨TX.toArray⟩] rfl rfl SR.out (by intro u hu; rw [List.mem_singleton.1 hu]; rfl) S1.out S2'.out S3.out ?_)
                        intro v6 w6 ho6 hg6 _
                        have hb6 : Below w1.heap.size w1 w6 := bel_grown HBA.out hg6 (fun j hj => (OA.out.lt j hj).1)
                        rw [← HTK.out] at ho6
                        obtain ⟨A6, c6, rfl⟩ := own_sliceB ho6
                        have HO6 := Lib.hid ho6; have HB6 := Lib.hid hb6
                        clear ho6 hg6 hb6 SR OA S1 S2' S3 HBA HTK zi1 zy0 zy1 zy2 hcb hcq q1 q2 q3
                        go_wp2_with fail
                        have Z3 := Lib.hid z3
                        clear z1 z2 z3
                        go_roundg (l.length - (k + 1))
                        case measure => omega
                        case rel => exact ⟨k + 1, by omega, by omega, congrArg (Value.int .i64) (by have := HL12.out; first | (unfold wrap64; omega) | omega),
                          congrArg Value.string (by rw [lstL_succ HX.out, HS.out, HSM.out, HBX.out, HS2.out]),
                          congrArg (Value.int .i64) (Z3.out.trans (by rw [szL_succ HPK.out, HZ.out, HBX.out, HQN.out]; omega)), A6, c6, rfl, HO6.out, HB6.out, fun q hq => by
                            rw [take_snoc' HPK.out, List.mem_append] at hq
                            rcases hq with hq | hq
                            · exact HALL.out q hq
                            · rw [List.mem_singleton.1 hq]
                              refine ⟨HMX.out, HSH.out, ?_, ?_⟩
                              · show (printB 64 x).length ≤ 360000; rw [HBX.out]; exact HQB.out.2
                              · show (quoteB nm).length ≤ 1000; rw [HQN.out]; have := HQB.out.1; omega⟩
end Go.Proofs.YtjjgbgojlhaapaaGreatDoor
