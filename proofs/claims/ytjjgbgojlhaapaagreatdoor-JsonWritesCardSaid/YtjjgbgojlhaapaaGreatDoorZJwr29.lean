/- Parts of the proof: Go, Km, Ex. -/
import Derived.Test.YtjjgbgojlhaapaaGreatDoorZJwr28
import Derived.Test.YtjjgbgojlhaapaaGreatDoorZJwr25
import Derived.Test.YtjjgbgojlhaapaaGreatDoorZJwr22
import Derived.Test.YtjjgbgojlhaapaaGreatDoorZJwr0
import Derived.OrdersHeld
import Derived.Deep.Quiet
import Derived.Deep.RegionHeld3
namespace Go.Proofs.YtjjgbgojlhaapaaGreatDoor
open Go.RowKit Go.Lib

theorem rmay_all : ∀ d : Nat, d ≤ 1000000 → RmAt d
  | 0, _ => fun x cs F w _ h => rmay_zero x cs F w h
  | d + 1, hd => fun x cs F w hsm h => by
    have e : ((d + 1 : Nat) : Int) = (d : Int) + 1 := by omega
    rw [e]
    exact rmay_succ d (by omega) (rmay_all d (by omega)) x cs F w hsm h
set_option maxRecDepth 100000 in
theorem rMay_any (x : JV) (cs : List Value) (F : Nat → Prop) (w : World) (hsm : SmJ x) (h : JR w F x cs) :
    Calls Tryz.prog 23 #[.agg cs.toArray] w fun e w' => e = .returned (.bool (mayJ 64 x)) ∧ Below w.heap.size w w' := by
  have hbA : Below w.heap.size w (w.alloc (.cells cs.toArray 35)) := bel_alloc (Below.refl _ _) _
  have hc := rmay_all 64 (by omega) x cs F _ hsm (JR_later h hbA)
  obtain ⟨A1, n1, c1, A2, n2, c2, rfl⟩ := JR_form h
  have HC := Lib.hid hc; have HB := Lib.hid hbA
  clear hc h hbA
  go_enter Tryz.func23, Tryz.ntmps23
  go_wp2_with fail
  refine Calls.mono HC.out ?_
  rintro e w2 ⟨rfl, hb⟩
  go_wp2_with fail
  go_ret
  exact ⟨rfl, bel_trans HB.out hb⟩
set_option maxRecDepth 100000 in
set_option maxHeartbeats 4000000 in
theorem rPrint_bad (x : JV) (cs : List Value) (F : Nat → Prop) (w : World) (hsm : SmJ x) (h : JR w F x cs) (hm : mayJ 64 x = false) :
    Calls Tryz.prog 15 #[.agg cs.toArray] w fun e w' => e = .returned (.tuple #[.slice none 0 0, .int .i64 4]) ∧ Below w.heap.size w w' := by
  have hbA : Below w.heap.size w (w.alloc (.cells cs.toArray 35)) := bel_alloc (Below.refl _ _) _
  have hc := rMay_any x cs F _ hsm (JR_later h hbA)
  rw [hm] at hc
  obtain ⟨A1, n1, c1, A2, n2, c2, rfl⟩ := JR_form h
  have HC := Lib.hid hc; have HB := Lib.hid hbA
  clear hc h hbA
  go_enter Tryz.func15, Tryz.ntmps15
  go_wp2_with fail
  refine Calls.mono HC.out ?_
  rintro e w2 ⟨rfl, hb⟩
  go_wp2_with fail
  go_ret2
  exact ⟨rfl, bel_trans HB.out hb⟩
set_option maxRecDepth 100000 in
set_option maxHeartbeats 4000000 in
theorem rPrint_good (x : JV) (cs : List Value) (F : Nat → Prop) (w : World) (hsm : SmJ x) (h : JR w F x cs) (hm : mayJ 64 x = true) (hlen : (printB 64 x).length ≤ 1000000000) :
    Calls Tryz.prog 15 #[.agg cs.toArray] w fun e w' => (∃ g c, e = .returned (.tuple #[.slice (some ⟨g, 0, none⟩) (printB 64 x).length c, .int .i64 0]) ∧ ((printB 64 x).length ≤ c ∧ c ≤ 9223372036854775807) ∧ ∀ j (hj : j < (printB 64 x).length), w'.cell? ((⟨g, 0, none⟩ : Addr).add j) = some (.int .u8 ((printB 64 x)[j].toNat : Int))) ∧ Below w.heap.size w w' := by
  have hbA : Below w.heap.size w (w.alloc (.cells cs.toArray 35)) := bel_alloc (Below.refl _ _) _
  have hc := rMay_any x cs F _ hsm (JR_later h hbA)
  rw [hm] at hc
  have hp := fun w0 (h0 : Below w.heap.size w w0) => print1_at 64 x cs F w0 hm (JR_later h h0) hlen
  obtain ⟨A1, n1, c1, A2, n2, c2, rfl⟩ := JR_form h
  have n0 := cell_newB w #[.int .i64 x.k, .int .i64 x.n, .string x.s, .slice A1 n1 c1, .slice A2 n2 c2] 35 0 _ rfl
  have m1 := cell_newB w #[.int .i64 x.k, .int .i64 x.n, .string x.s, .slice A1 n1 c1, .slice A2 n2 c2] 35 1 _ rfl
  have m2 := cell_newB w #[.int .i64 x.k, .int .i64 x.n, .string x.s, .slice A1 n1 c1, .slice A2 n2 c2] 35 2 _ rfl
  have m3 := cell_newB w #[.int .i64 x.k, .int .i64 x.n, .string x.s, .slice A1 n1 c1, .slice A2 n2 c2] 35 3 _ rfl
  have m4 := cell_newB w #[.int .i64 x.k, .int .i64 x.n, .string x.s, .slice A1 n1 c1, .slice A2 n2 c2] 35 4 _ rfl
  have HC := Lib.hid hc; have HB := Lib.hid hbA; have HP := Lib.hid hp; have HL := Lib.hid hlen
  clear hc h hbA hp hlen hm
  generalize printB 64 x = P at *
  go_enter Tryz.func15, Tryz.ntmps15
  go_wp2_with fail
  refine Calls.mono HC.out ?_
  rintro e w2 ⟨rfl, hb⟩
  have l0 := cell_later' hb n0
  have l1 := cell_later' hb m1
  have l2 := cell_later' hb m2
  have l3 := cell_later' hb m3
  have l4 := cell_later' hb m4
  have hz : w.heap.size < w2.heap.size := World.block_lt_of_cell? _ _ l0
  have HB2 := Lib.hid (bel_trans HB.out hb)
  clear n0 m1 m2 m3 m4 hb
  go_wp2_with fail
  refine Calls.mono (HP.out w2 HB2.out) ?_
  rintro e w4 ⟨rfl, hb4⟩
  have HB4 := Lib.hid (bel_trans HB2.out hb4)
  clear hb4
  go_wp2_with fail
  rw [run_bytes_of_string w4 _ _ 5 _ Tryz.underlying9 Tryz.underlying22 Tryz.underlying5]
  simp only [Result.andThen]
  rw [Oper.upon_value]
  have hcc := bytesRow_cell w4 P
  have hb5 := fun o => (bel_drew HB4.out).alloc (B := w.heap.size) (by have := HB4.out.size; exact this) o
  have HC5 := Lib.hid hcc; have HB5 := Lib.hid hb5
  clear hcc hb5
  go_wp2_with fail
  go_ret2
  exact ⟨⟨w4.heap.size, grownCap w4 P.length 0 5, rfl, ⟨grownCap_ge _ _ _ _, by have := grownCap_le_maxLen w4 P.length 0 5 (by have := HL.out; simp only [maxLen]; omega); simpa [maxLen] using this⟩, fun j hj => HC5.out _ _ _ j hj⟩, HB5.out _⟩
end Go.Proofs.YtjjgbgojlhaapaaGreatDoor
namespace Go.Proofs.YtjjgbgojlhaapaaGreatDoor
open Go.RowKit Go.Lib

/-- what a call of Member1 on a tree says: the value found lies where it lay -/
def RgRes (x : JV) (nm : ByteArray) (F : Nat → Prop) (w : World) (z : Ending) (w' : World) : Prop := (∃ (A1 : Option Addr) (n1 c1 : Nat) (A2 : Option Addr) (n2 c2 : Nat),
  z = .returned (.tuple #[.agg #[.int .i64 (getB nm (memsOf x)).1.k, .int .i64 (getB nm (memsOf x)).1.n, .string (getB nm (memsOf x)).1.s, .slice A1 n1 c1, .slice A2 n2 c2], .bool (getB nm (memsOf x)).2]) ∧
  JR w' F (getB nm (memsOf x)).1 [.int .i64 (getB nm (memsOf x)).1.k, .int .i64 (getB nm (memsOf x)).1.n, .string (getB nm (memsOf x)).1.s, .slice A1 n1 c1, .slice A2 n2 c2]) ∧ Below w.heap.size w w'
set_option maxRecDepth 100000 in
set_option maxHeartbeats 8000000 in
theorem member1_any (x : JV) (name : ByteArray) (cs : List Value) (F : Nat → Prop) (w : World) (h : JR w F x cs) :
    Calls Tryz.prog 17 #[.agg cs.toArray, .string name] w (RgRes x name F w) := by
  obtain ⟨vl, vm, ⟨rfl, hsz⟩, hl, hm⟩ := JR_iff.1 h
  obtain ⟨A1, c1, rfl⟩ := hl.form
  have hbA : Below w.heap.size w ((w.alloc (.cells #[.int .i64 x.k, .int .i64 x.n, .string x.s, .slice A1 x.l.length c1, vm] 35)).alloc (.cells #[.int .i64 0, .int .i64 0, .string ⟨#[]⟩, .slice none 0 0, .slice none 0 0] 35)) := bel_alloc (bel_alloc (Below.refl _ _) _) _
  obtain ⟨A2, c2, rfl, _, hem⟩ := mem_cells (hm.bound.below hbA)
  have hP := heap_alloc2_old w (.cells #[.int .i64 x.k, .int .i64 x.n, .string x.s, .slice A1 x.l.length c1, .slice A2 x.m.length c2] 35) (.cells #[.int .i64 0, .int .i64 0, .string ⟨#[]⟩, .slice none 0 0, .slice none 0 0] 35)
  have hB := heap_alloc2_new w (.cells #[.int .i64 x.k, .int .i64 x.n, .string x.s, .slice A1 x.l.length c1, .slice A2 x.m.length c2] 35) (.cells #[.int .i64 0, .int .i64 0, .string ⟨#[]⟩, .slice none 0 0, .slice none 0 0] 35)
  generalize hW : (w.alloc (.cells #[.int .i64 x.k, .int .i64 x.n, .string x.s, .slice A1 x.l.length c1, .slice A2 x.m.length c2] 35)).alloc (.cells #[.int .i64 0, .int .i64 0, .string ⟨#[]⟩, .slice none 0 0, .slice none 0 0] 35) = W1 at *
  have HW := Lib.hid hW; have HM := Lib.hid hem; have HBA := Lib.hid hbA; have HB := Lib.hid hB
  obtain ⟨⟨p0, p1, p2, p3, p4⟩, _, hPw⟩ := cells5 hP
  obtain ⟨⟨b0, b1, b2, b3, b4⟩, ⟨g0, g1, g2, g3, g4⟩, hBw⟩ := cells5 hB
  clear hW hem hbA hP hB hl hm h hsz
  go_enter Tryz.func17, Tryz.ntmps17
  go_upto_region 1 with (fail)
  rw [HW.out]
  go_wp2_with fail
  go_loopg [6] x.m.length (fun gg s6 wr => ∃ k : Nat, k ≤ x.m.length ∧ x.m.length - k ≤ gg ∧ s6 = .int .i64 k ∧ wr = W1 ∧ Aside (x.k = 7 → ∀ q ∈ x.m.take k, (q.1.toList == name.toList) = false) ∧ Aside (x.k ≠ 7 → k = 0))
  case atStart => exact ⟨0, Nat.zero_le _, by omega, rfl, rfl, fun _ _ h => (by cases h), fun _ => rfl⟩
  case round =>
    obtain ⟨k, hk, hgg, rfl, rfl, hno, hk0⟩ := hrel
    by_cases hgo : k < x.m.length ∧ x.k = 7
    · obtain ⟨hlt, hk7⟩ := hgo
      have hltz : (k : Int) < (x.m.length : Int) := by omega
      have hltd : decide ((k : Int) < (x.m.length : Int)) = true := decide_eq_true hltz
      have d7 : (x.k == 7) = true := by simpa using hk7
      have hkz : (0 : Int) ≤ (k : Int) := by omega
      obtain ⟨⟨nm, q⟩, hx⟩ : ∃ p, x.m[k]? = some p := get_ex hlt
      obtain ⟨b, o, C1, k1, f1, C2, k2, f2, rfl, hnz, r0, r1, r2, r3, r4, r5, hjq⟩ := HM.out k nm q hx
      have HX := Lib.hid hx; have HNO := Lib.hid hno; have HJQ := Lib.hid hjq
      clear hnz hx hno hjq
      cases hnm : (nm.toList == name.toList) with
      | true =>
        have hne : nm.toList = name.toList := eq_of_beq hnm
        have hG : getB name (memsOf x) = (q, true) := by
          have hm2 : memsOf x = x.m.take k ++ (nm, q) :: x.m.drop (k + 1) := by
            unfold memsOf
            rw [if_pos hk7, ← drop_of_get HX.out, List.take_append_drop]
          rw [hm2]
          exact getB_hit (q := (nm, q)) hnm (HNO.out hk7)
        have hf := set5 (.int .i64 q.k) (.int .i64 q.n) (.string q.s) (.slice C1 k1 f1) (.slice C2 k2 f2) HB.out
        have hbF := bel_set (p := ⟨w.heap.size + 1, 4, none⟩) (bel_set (p := ⟨w.heap.size + 1, 3, none⟩) (bel_set (p := ⟨w.heap.size + 1, 2, none⟩) (bel_set (p := ⟨w.heap.size + 1, 1, none⟩) (bel_set (p := ⟨w.heap.size + 1, 0, none⟩) HBA.out (Nat.le_succ _) (.int .i64 q.k)) (Nat.le_succ _) (.int .i64 q.n)) (Nat.le_succ _) (.string q.s)) (Nat.le_succ _) (.slice C1 k1 f1)) (Nat.le_succ _) (.slice C2 k2 f2)
        have hjF : JR (((((wr.setCell ⟨w.heap.size + 1, 0, none⟩ (.int .i64 q.k)).setCell ⟨w.heap.size + 1, 1, none⟩ (.int .i64 q.n)).setCell ⟨w.heap.size + 1, 2, none⟩ (.string q.s)).setCell ⟨w.heap.size + 1, 3, none⟩ (.slice C1 k1 f1)).setCell ⟨w.heap.size + 1, 4, none⟩ (.slice C2 k2 f2)) F q [.int .i64 q.k, .int .i64 q.n, .string q.s, .slice C1 k1 f1, .slice C2 k2 f2] :=
          JR_mono (fun b hb => hb.1) _ _ (JR_frame (fun b hb => set5_other _ _ _ _ _ (by have := hb.2; omega)) _ _ HJQ.out)
        have HF5 := Lib.hid hf; have HBF := Lib.hid hbF; have HJF := Lib.hid hjF; have HG := Lib.hid hG
        clear hf hbF hjF hG
        go_wp2_with fail
        obtain ⟨⟨y0, y1, y2, y3, y4⟩, _, _⟩ := cells5 HF5.out
        refine bodyPost_ret (v := .tuple #[.agg #[.int .i64 q.k, .int .i64 q.n, .string q.s, .slice C1 k1 f1, .slice C2 k2 f2], .bool true]) (by simp [results, Tryz.f17, go_sem, y0, y1, y2, y3, y4]) rfl ?_
        exact ⟨⟨C1, k1, f1, C2, k2, f2, by rw [HG.out], by rw [HG.out]; exact HJF.out⟩, HBF.out⟩
      | false =>
        have hne : ¬ nm.toList = name.toList := by simpa using hnm
        go_wp2_with fail
        go_roundg (x.m.length - (k + 1))
        case measure => omega
        case rel => exact ⟨k + 1, by omega, by omega, by simp, rfl, fun _ r hr => by
          rw [take_snoc' HX.out] at hr
          rcases List.mem_append.1 hr with hr | hr
          · exact HNO.out hk7 r hr
          · obtain rfl := List.mem_singleton.1 hr
            exact hnm, fun h => absurd hk7 h⟩
    · have hG : getB name (memsOf x) = (zeroV, false) := by
        by_cases hk7 : x.k = 7
        · unfold memsOf
          rw [if_pos hk7]
          have hkl : x.m.length ≤ k := Nat.le_of_not_lt (fun h => hgo ⟨h, hk7⟩)
          have h1 := hno hk7
          rw [List.take_of_length_le hkl] at h1
          exact getB_none h1
        · unfold memsOf
          rw [if_neg hk7]
          rfl
      have hf := set5 (.int .i64 0) (.int .i64 0) (.string ⟨#[]⟩) (.slice none 0 0) (.slice none 0 0) HB.out
      have hbF := bel_set (p := ⟨w.heap.size + 1, 4, none⟩) (bel_set (p := ⟨w.heap.size + 1, 3, none⟩) (bel_set (p := ⟨w.heap.size + 1, 2, none⟩) (bel_set (p := ⟨w.heap.size + 1, 1, none⟩) (bel_set (p := ⟨w.heap.size + 1, 0, none⟩) HBA.out (Nat.le_succ _) (.int .i64 0)) (Nat.le_succ _) (.int .i64 0)) (Nat.le_succ _) (.string ⟨#[]⟩)) (Nat.le_succ _) (.slice none 0 0)) (Nat.le_succ _) (.slice none 0 0)
      have HF5 := Lib.hid hf; have HBF := Lib.hid hbF; have HG := Lib.hid hG
      clear hf hbF hG hno hk0
      by_cases hlt : k < x.m.length
      · have hltz : (k : Int) < (x.m.length : Int) := by omega
        have hltd : decide ((k : Int) < (x.m.length : Int)) = true := decide_eq_true hltz
        have d7 : (x.k == 7) = false := by simpa using fun h => hgo ⟨hlt, h⟩
        clear hgo
        go_wp2_with fail
        obtain ⟨⟨y0, y1, y2, y3, y4⟩, _, _⟩ := cells5 HF5.out
        refine bodyPost_ret (v := .tuple #[.agg #[.int .i64 0, .int .i64 0, .string ⟨#[]⟩, .slice none 0 0, .slice none 0 0], .bool false]) (by simp [results, Tryz.f17, go_sem, y0, y1, y2, y3, y4]) rfl ?_
        exact ⟨⟨none, 0, 0, none, 0, 0, by rw [HG.out]; rfl, by rw [HG.out]; exact zero_jr _ _⟩, HBF.out⟩
      · have hltz : ¬ (k : Int) < (x.m.length : Int) := by omega
        have hltd : decide ((k : Int) < (x.m.length : Int)) = false := decide_eq_false hltz
        clear hgo
        go_wp2_with fail
        obtain ⟨⟨y0, y1, y2, y3, y4⟩, _, _⟩ := cells5 HF5.out
        refine bodyPost_ret (v := .tuple #[.agg #[.int .i64 0, .int .i64 0, .string ⟨#[]⟩, .slice none 0 0, .slice none 0 0], .bool false]) (by simp [results, Tryz.f17, go_sem, y0, y1, y2, y3, y4]) rfl ?_
        exact ⟨⟨none, 0, 0, none, 0, 0, by rw [HG.out]; rfl, by rw [HG.out]; exact zero_jr _ _⟩, HBF.out⟩
theorem str_cells {w : World} {F : Nat → Prop} {v : Value} {xs : List ByteArray} (hs : Sl strTy w F v xs) : ∃ A c, v = .slice A xs.length c ∧ ∀ k s, xs[k]? = some s → ∃ b o, A = some ⟨b, o, none⟩ ∧ w.cell? ⟨b, o + k, none⟩ = some (.string s) := by
  rcases hs with ⟨rfl, A, c, rfl⟩ | ⟨b, o, c, rfl, _, _, _, cs, h1, h2⟩
  · exact ⟨A, c, rfl, fun k s h => by simp at h⟩
  · refine ⟨_, c, rfl, fun k s h => ⟨b, o, rfl, h2 k _ ?_⟩⟩
    have e : ∀ (xs : List ByteArray) (cs : List Value), Chunks strTy w F xs cs → cs = xs.map Value.string := fun xs => by
      induction xs with
      | nil => exact fun cs h => h
      | cons x xs ih =>
        rintro cs ⟨c, r, rfl, h1, h2⟩
        have h1' : c = [.string x] := h1
        rw [h1', ih r h2]; rfl
    rw [e _ _ h1, List.getElem?_map, h]; rfl
set_option maxRecDepth 100000 in
set_option maxHeartbeats 4000000 in
theorem texts_any (va vb : Value) (l : List ByteArray) (F F' : Nat → Prop) (w : World) (ha : Sl strTy w F va l) (hb : Sl strTy w F' vb l) (hl : l.length ≤ 1000000) :
    Calls Tryz.prog 24 #[va, vb] w fun e w' => e = .returned (.bool true) ∧ Below w.heap.size w w' := by
  obtain ⟨A1, c1, rfl, hea⟩ := str_cells ha
  obtain ⟨A2, c2, rfl, heb⟩ := str_cells hb
  have HA := Lib.hid hea; have HB := Lib.hid heb
  clear ha hb hea heb
  generalize hn : l.length = n at *
  have Hn := Lib.hid hn
  clear hn
  go_enter Tryz.func24, Tryz.ntmps24
  go_wp2_with fail
  go_loopg [5] n (fun gg s5 wr => ∃ k : Nat, k ≤ n ∧ n - k ≤ gg ∧ s5 = .int .i64 k ∧ Aside (Below w.heap.size w wr))
  case atStart => exact ⟨0, Nat.zero_le _, by omega, rfl, Below.refl _ _⟩
  case round =>
    obtain ⟨k, hk, hgg, rfl, hbw⟩ := hrel
    by_cases hlt : k < n
    · have hltz : (k : Int) < (n : Int) := by omega
      have hkz : (0 : Int) ≤ (k : Int) := by omega
      obtain ⟨s, hx⟩ : ∃ p, l[k]? = some p := get_ex (by have := Hn.out; omega)
      obtain ⟨b, o, rfl, e1⟩ := HA.out k s hx
      obtain ⟨b', o', rfl, e2⟩ := HB.out k s hx
      have r1 := cell_later' hbw e1
      have r2 := cell_later' hbw e2
      have HBW := Lib.hid hbw
      clear e1 e2 hx hbw
      go_wp2_with fail
      go_quiet (fail)
      go_wp2_with fail
      go_roundg (n - (k + 1))
      case measure => omega
      case rel => exact ⟨k + 1, by omega, by omega, by simp, bel_drewN HBW.out _⟩
    · have hltz : ¬ (k : Int) < (n : Int) := by omega
      go_wp2_with fail
      go_ret
      exact ⟨rfl, hbw⟩
/-- what a print of a tree hands back -/
def prB (x : JV) : List UInt8 := if mayJ 64 x then printB 64 x else []
def PrRes (x : JV) (w : World) (z : Ending) (w' : World) : Prop := (∃ (A : Option Addr) (c : Nat), z = .returned (.tuple #[.slice A (prB x).length c, .int .i64 (if mayJ 64 x then 0 else 4)]) ∧ BSl w' (fun _ => True) (.slice A (prB x).length c) ⟨(prB x).toArray⟩) ∧ Below w.heap.size w w'
theorem print_both (x : JV) (cs : List Value) (F : Nat → Prop) (w : World) (h : JR w F x cs) (hT : Tabs w) (hlen : mayJ 64 x = true → (printB 64 x).length ≤ 1000000000) : Calls Tryz.prog 14 #[.agg cs.toArray] w (PrRes x w) := by
  cases hm : mayJ 64 x with
  | true =>
    have hp : prB x = printB 64 x := by unfold prB; rw [hm]; rfl
    refine (Print_good x cs F w h hT hm (by have := hlen hm; omega)).mono ?_
    rintro e w' ⟨⟨g, c, rfl, hc⟩, hb⟩
    refine ⟨⟨some ⟨g, 0, none⟩, c, by rw [hp, hm]; rfl, ?_⟩, hb⟩
    rw [hp]
    refine .inl ⟨g, 0, c, by rw [list_size], trivial, fun i hi => ?_⟩
    have h := hc i (by rw [list_size] at hi; exact hi)
    rw [Addr.add_mid] at h
    exact h
  | false =>
    have hp : prB x = [] := by unfold prB; rw [hm]; rfl
    refine (Print_bad x cs F w h hT hm).mono ?_
    rintro e w' ⟨rfl, hb⟩
    exact ⟨⟨none, 0, by rw [hp, hm]; rfl, .inr ⟨by rw [hp]; rfl, none, 0, by rw [hp]; rfl⟩⟩, hb⟩
theorem rprint_both (x : JV) (cs : List Value) (F : Nat → Prop) (w : World) (hsm : SmJ x) (h : JR w F x cs) (hlen : mayJ 64 x = true → (printB 64 x).length ≤ 1000000000) : Calls Tryz.prog 15 #[.agg cs.toArray] w (PrRes x w) := by
  cases hm : mayJ 64 x with
  | true =>
    have hp : prB x = printB 64 x := by unfold prB; rw [hm]; rfl
    refine (rPrint_good x cs F w hsm h hm (hlen hm)).mono ?_
    rintro e w' ⟨⟨g, c, rfl, _, hc⟩, hb⟩
    refine ⟨⟨some ⟨g, 0, none⟩, c, by rw [hp, hm]; rfl, ?_⟩, hb⟩
    rw [hp]
    refine .inl ⟨g, 0, c, by rw [list_size], trivial, fun i hi => ?_⟩
    have h := hc i (by rw [list_size] at hi; exact hi)
    rw [Addr.add_mid] at h
    exact h
  | false =>
    have hp : prB x = [] := by unfold prB; rw [hm]; rfl
    refine (rPrint_bad x cs F w hsm h hm).mono ?_
    rintro e w' ⟨rfl, hb⟩
    exact ⟨⟨none, 0, by rw [hp, hm]; rfl, .inr ⟨by rw [hp]; rfl, none, 0, by rw [hp]; rfl⟩⟩, hb⟩
/-! what is few is small -/
theorem SmJs_of : ∀ {l : List JV}, (∀ y ∈ l, SmJ y) → SmJs l
  | [], _ => trivial
  | x :: xs, h => ⟨h x (List.mem_cons_self ..), SmJs_of fun y hy => h y (List.mem_cons_of_mem _ hy)⟩
theorem SmJm_of : ∀ {l : List (ByteArray × JV)}, (∀ q ∈ l, q.1.size ≤ 1000000 ∧ SmJ q.2) → SmJm l
  | [], _ => trivial
  | (nm, x) :: xs, h => ⟨h (nm, x) (List.mem_cons_self ..), SmJm_of fun q hq => h q (List.mem_cons_of_mem _ hq)⟩
theorem count_sm : ∀ (d : Nat) (x : JV) (n : Int), n ≤ 1000000 → 0 < countB d x n → SmJ x
  | 0, _, _, _, h => by simp [countB] at h
  | d + 1, x, n, hn, h => by
    simp only [countB] at h
    have hc := (cap_range x.s).1
    have h1 := cnt_down x.m (fun p _ k hk => by
      have := count_down d p.2 _ hk
      have := (cap_range p.1).1
      omega) _ h
    have h2 := cnt_down x.l (fun p _ k hk => count_down d p k hk) _ h1.1.2
    have hcs : x.s.size ≤ 1000000 := by
      have h3 : cap20 x.s < 1000000 := by omega
      unfold cap20 at h3
      omega
    obtain ⟨k0, n0, s, l, m⟩ := x
    simp only [SmJ]
    refine ⟨hcs, SmJs_of fun y hy => ?_, SmJm_of fun q hq => ?_⟩
    · obtain ⟨k, k1, k2⟩ := h2.2 y hy
      exact count_sm d y k (by omega) k2
    · obtain ⟨k, k1, k2⟩ := h1.2 q hq
      have h4 := (cap_range q.1).1
      have h5 := count_down d q.2 _ k2
      refine ⟨?_, count_sm d q.2 _ (by omega) k2⟩
      have h6 : cap20 q.1 < 1000000 := by omega
      unfold cap20 at h6
      omega
end Go.Proofs.YtjjgbgojlhaapaaGreatDoor
namespace Go.Proofs.YtjjgbgojlhaapaaGreatDoor
open Go.RowKit Go.Lib
section
variable {P : Program} {ops : Array Oper} {Q : Exit → Act → World → Prop} {md : Region.Mode} {E : World → World → Prop}

/-- in every world later than w the operation yields v and leaves a later world -/
def QuietE (P : Program) (ops : Array Oper) (E : World → World → Prop) (o : Oper) (v : Value) (a : Act) (w : World) : Prop :=
  (Region.wanted o (yielded ops a.tmps) = true ∧ ∀ w2, E w w2 → o.quietAt P a (E w2) w2 v) ∨
  (Region.wanted o (yielded ops a.tmps) = false ∧ v = undef)
/-- a frame that reads alike for the operation -/
def SameFor (ops : Array Oper) (o : Oper) (a a' : Act) : Prop :=
  execOp a'.eval o = execOp a.eval o ∧ Region.wanted o (yielded ops a'.tmps) = Region.wanted o (yielded ops a.tmps)
theorem QuietE.same {o : Oper} {v : Value} {a a' : Act} {w : World} (hy : QuietE P ops E o v a w) (h : SameFor ops o a a') : QuietE P ops E o v a' w := by
  unfold QuietE Oper.quietAt at *
  rw [h.1, h.2]
  exact hy
theorem QuietE.later {o : Oper} {v : Value} {a : Act} {w w2 : World} (ht : ∀ a b c, E a b → E b c → E a c) (hy : QuietE P ops E o v a w) (h : E w w2) : QuietE P ops E o v a w2 :=
  hy.imp (fun ⟨h1, h2⟩ => ⟨h1, fun w3 h3 => h2 w3 (ht _ _ _ h h3)⟩) id
theorem QuietE.wpOp {i : Nat} {o : Oper} {v : Value} {a : Act} {w w2 : World} (hr : ∀ w, E w w) (hi : ops[i]? = some o) (hy : QuietE P ops E o v a w) (hE : E w w2)
    {K : Act → World → Prop} (h : ∀ w3, E w2 w3 → K (a.put o.dst v) w3) : wpOp P ops Q i K a w2 := by
  unfold Go.wpOp
  simp only [hi]
  rcases hy with ⟨hw, hv⟩ | ⟨hw, rfl⟩
  · simp only [hw, if_true]
    refine .inl ?_
    have h3 := hv w2 hE
    unfold Oper.quietAt at h3
    unfold Oper.wp
    generalize (execOp a.eval o).run P w2 = r at *
    cases r with
    | ok n w' =>
      cases n <;> simp only [Oper.quietUpon] at h3 <;> simp only [Oper.upon]
      case value u => obtain ⟨rfl, rfl⟩ := h3; exact h _ (hr _)
      case skip => obtain ⟨rfl, rfl⟩ := h3; exact h _ (hr _)
      case enter f args =>
        obtain ⟨rfl, hc⟩ := h3
        exact hc.mono fun e w'' ⟨he, hw''⟩ => by subst he; exact h _ hw''
    | halt x w' => simp only [Oper.quietUpon] at h3
  · simp only [hw, Bool.false_eq_true, if_false]; exact h _ (hr _)
/-- what another operation leaves reads alike for this one -/
theorem wpOp_same {j : Nat} {oi oj : Oper} (hj : ops[j]? = some oj) (hap : oi.apart ops oj = true) (hsi : ∀ cs b, oi.op ≠ .select cs b)
    {K : Act → World → Prop} {a : Act} {w : World} (h : wpOp P ops Q j K a w) : wpOp P ops Q j (fun a' w' => SameFor ops oi a a' ∧ K a' w') a w := by
  obtain ⟨_, _, h3⟩ := Oper.apart_spec hap
  have keep : ∀ u, SameFor ops oi a (a.put oj.dst u) := fun u => ⟨execOp_put oi hsi a oj.dst u h3, wanted_put oi a oj.dst u h3⟩
  unfold Go.wpOp at *
  simp only [hj] at *
  split
  · rename_i hw
    simp only [hw, if_true] at h
    rcases h with h | h
    case inr => exact .inr h
    refine .inl ?_
    unfold Oper.wp at *
    generalize (execOp a.eval oj).run P w = r at *
    cases r with
    | ok n w' =>
      cases n <;> simp only [Oper.upon] at h ⊢
      case value u => exact ⟨keep u, h⟩
      case skip => exact ⟨keep _, h⟩
      case defer d => exact ⟨⟨execOp_put oi hsi { a with defers := d :: a.defers } oj.dst undef h3, wanted_put oi { a with defers := d :: a.defers } oj.dst undef h3⟩, h⟩
      case enter f args =>
        refine Calls.mono h fun e w'' he => ?_
        cases e with
        | returned u => exact ⟨keep u, he⟩
        | panicked c => exact he
        | outgrown => exact he
      case row row args => exact Rows.mono h fun u w'' he => ⟨keep u, he⟩
    | halt x w' => cases x <;> simp only [Oper.upon] at h ⊢ <;> exact h
  · rename_i hw
    simp only [hw] at h
    exact ⟨keep _, h⟩

/-- whatever order is picked from here on, from every later world -/
def wpAnyE (P : Program) (md : Region.Mode) (ops : Array Oper) (Q : Exit → Act → World → Prop) (E : World → World → Prop) : Nat → Array Bool → Act → World → Prop
  | 0, listed, a, w => ∀ w2, E w w2 → Region.ready md ops listed = [] ∧ Q .normal a w2
  | fuel + 1, listed, a, w => ∀ w2, E w w2 →
    (Region.ready md ops listed = [] → Q .normal a w2) ∧
    ∀ i ∈ Region.ready md ops listed, wpOp P ops Q i (fun a' w' => E w2 w' ∧ wpAnyE P md ops Q E fuel (listed.setIfInBounds i true) a' w') a w2
theorem wpAnyE.later (ht : ∀ a b c, E a b → E b c → E a c) : ∀ {fuel : Nat} {listed : Array Bool} {a : Act} {w w2 : World}, wpAnyE P md ops Q E fuel listed a w → E w w2 → wpAnyE P md ops Q E fuel listed a w2
  | 0, _, _, _, _, h, h2 => fun w3 h3 => h w3 (ht _ _ _ h2 h3)
  | _ + 1, _, _, _, _, h, h2 => fun w3 h3 => h w3 (ht _ _ _ h2 h3)
theorem wpAny_of_E (hr : ∀ w, E w w) : ∀ (fuel : Nat) (listed : Array Bool) (a : Act) (w : World), wpAnyE P md ops Q E fuel listed a w → wpAny P md ops Q fuel listed a w
  | 0, _, _, w, h => h w (hr w)
  | fuel + 1, _, _, w, h => ⟨(h w (hr w)).1, fun i hi => wpOp_mono (fun a' w' h' => wpAny_of_E hr fuel _ a' w' h'.2) ((h w (hr w)).2 i hi)⟩
theorem wpAnyE_first (hr : ∀ w, E w w) (ht : ∀ a b c, E a b → E b c → E a c) {i : Nat} {oi : Oper} {v : Value} (hi : ops[i]? = some oi) (hsel : ∀ (j : Nat) (o : Oper) cs b, ops[j]? = some o → o.op ≠ .select cs b)
    (hQ : ∀ c a w, Q (.panic c) (a.put oi.dst v) w → Q (.panic c) a w) :
    ∀ (fuel : Nat) (listed : Array Bool) (a : Act) (w : World),
      (∀ j oj, ops[j]? = some oj → j ≠ i → listed.getD j true = false → (∀ e ∈ oj.after, Region.binds md e = true → e.on ≠ i) → oi.apart ops oj = true) →
      i ∈ Region.ready md ops listed → QuietE P ops E oi v a w →
      wpAnyE P md ops Q E fuel (listed.setIfInBounds i true) (a.put oi.dst v) w → wpAnyE P md ops Q E (fuel + 1) listed a w := by
  intro fuel
  induction fuel with
  | zero =>
    intro listed a w _ hrd hy H w2 hE
    refine ⟨fun h => (by rw [h] at hrd; cases hrd), fun j hj => ?_⟩
    by_cases hji : j = i
    · subst hji; exact hy.wpOp hr hi hE fun w3 h3 => ⟨h3, H.later ht (ht _ _ _ hE h3)⟩
    · have := ready_mono hj hji
      rw [(H w2 hE).1] at this
      cases this
  | succ fuel ih =>
    intro listed a w hfree hrd hy H w2 hE
    refine ⟨fun h => (by rw [h] at hrd; cases hrd), fun j hj => ?_⟩
    by_cases hji : j = i
    · subst hji; exact hy.wpOp hr hi hE fun w3 h3 => ⟨h3, H.later ht (ht _ _ _ hE h3)⟩
    · have h1 := (H w2 hE).2 j (ready_mono hj hji)
      obtain ⟨hjun, oj, hoj, hall⟩ := mem_ready.1 hj
      have hnot : ∀ e ∈ oj.after, Region.binds md e = true → e.on ≠ i := fun e he hb heq => by
        have h1 := hall e he hb
        have h0 := (mem_ready.1 hrd).1
        rw [heq] at h1
        rcases Nat.lt_or_ge i listed.size with h' | h'
        · simp [h'] at h0 h1; rw [h0] at h1; cases h1
        · simp [Array.getElem?_eq_none h'] at h1
      have hap := hfree j oj hoj hji hjun hnot
      have hyF : YieldsIf P ops (fun _ => False) oi v a := hy.imp (fun ⟨hw, _⟩ => ⟨hw, fun _ h => h.elim⟩) id
      have h2 := wpOp_same hoj hap (fun cs b => hsel i oi cs b hi) (wpOp_putIf hoj hap (fun cs b => hsel i oi cs b hi) (fun cs b => hsel j oj cs b hoj) hQ hyF h1)
      have hfree' : ∀ k ok, ops[k]? = some ok → k ≠ i → (listed.setIfInBounds j true).getD k true = false →
          (∀ e ∈ ok.after, Region.binds md e = true → e.on ≠ i) → oi.apart ops ok = true := fun k ok hk hki hun hno => by
        refine hfree k ok hk hki ?_ hno
        by_cases hjk : j = k
        · subst hjk; exact hjun
        · rw [getD_set_ne true hjk] at hun; exact hun
      refine wpOp_mono (fun a' w' h3 => ⟨h3.2.2.1, ih (listed.setIfInBounds j true) a' w' hfree' (ready_mono hrd (Ne.symm hji)) ((hy.later ht (ht _ _ _ hE h3.2.2.1)).same h3.1) ?_⟩) h2
      rw [Array.setIfInBounds_comm _ _ hji]
      exact h3.2.2.2
end
/-- later: what stood stands -/
def Lat (w w2 : World) : Prop := Below w.heap.size w w2
theorem Lat.refl (w : World) : Lat w w := Below.refl _ _
theorem Lat.trans (a b c : World) (h : Lat a b) (k : Lat b c) : Lat a c := Below.trans h (Below.mono k (Below.size h))
section
variable {P : Program} {ops : Array Oper} {Q : Exit → Act → World → Prop} {md : Region.Mode}
theorem wpAnyE_take {i : Nat} {oi : Oper} {v : Value} {fuel : Nat} {listed : Array Bool} {a : Act} {w : World} (hi : ops[i]? = some oi)
    (hs : Region.noSelect ops = true) (hf : Region.free md ops listed i = true) (hr : (Region.ready md ops listed).contains i = true)
    (hQ : ∀ c a w, Q (.panic c) (a.put oi.dst v) w → Q (.panic c) a w) (hy : QuietE P ops Lat oi v a w)
    (h : wpAnyE P md ops Q Lat fuel (listed.setIfInBounds i true) (a.put oi.dst v) w) : wpAnyE P md ops Q Lat (fuel + 1) listed a w :=
  wpAnyE_first Lat.refl Lat.trans hi (Region.noSelect_spec hs) hQ fuel listed a w (Region.free_spec hi hf) (by simpa using hr) hy h
/-- wanted, one value -/
theorem wpAnyE_tk (i : Nat) {oi : Oper} {v : Value} {fuel : Nat} {listed : Array Bool} {a : Act} {w : World} (hi : ops[i]? = some oi)
    (hs : Region.noSelect ops = true) (hf : Region.free md ops listed i = true) (hr : (Region.ready md ops listed).contains i = true)
    (hw : Region.wanted oi (yielded ops a.tmps) = true) (hy : ∀ w2, Lat w w2 → oi.quietAt P a (Lat w2) w2 v)
    (h : wpAnyE P md ops Q Lat fuel (listed.setIfInBounds i true) (a.put oi.dst v) w) (hQ : ∀ c a w, Q (.panic c) (a.put oi.dst v) w → Q (.panic c) a w := by exact fun _ _ _ h => h) : wpAnyE P md ops Q Lat (fuel + 1) listed a w :=
  wpAnyE_take hi hs hf hr hQ (.inl ⟨hw, hy⟩) h
/-- not wanted -/
theorem wpAnyE_sk (i : Nat) {oi : Oper} {fuel : Nat} {listed : Array Bool} {a : Act} {w : World} (hi : ops[i]? = some oi)
    (hs : Region.noSelect ops = true) (hf : Region.free md ops listed i = true) (hr : (Region.ready md ops listed).contains i = true)
    (hw : Region.wanted oi (yielded ops a.tmps) = false)
    (h : wpAnyE P md ops Q Lat fuel (listed.setIfInBounds i true) (a.put oi.dst undef) w) (hQ : ∀ c a w, Q (.panic c) (a.put oi.dst undef) w → Q (.panic c) a w := by exact fun _ _ _ h => h) : wpAnyE P md ops Q Lat (fuel + 1) listed a w :=
  wpAnyE_take hi hs hf hr hQ (.inr ⟨hw, rfl⟩) h
/-- the next operation is forced: from a later world -/
theorem wpAnyE_one {i : Nat} {o : Oper} {fuel : Nat} {listed : Array Bool} {a : Act} {w : World} (hr : Region.ready md ops listed = [i]) (ho : ops[i]? = some o)
    (h : ∀ w2, Lat w w2 → ∀ K' : Act → World → Prop, Hid (∀ a' w', Lat w2 w' → wpAnyE P md ops Q Lat fuel (listed.setIfInBounds i true) a' w' → K' a' w') → if Region.wanted o (yielded ops a.tmps) = true then Oper.wp P o a w2 K' Q else K' (a.put o.dst undef) w2) :
    wpAnyE P md ops Q Lat (fuel + 1) listed a w :=
  fun w2 h2 => ⟨fun h0 => (by rw [hr] at h0; cases h0), fun j hj => by
    rw [hr] at hj
    obtain rfl : j = i := by simpa using hj
    exact wpOp_step ho (fun K' hK => h w2 h2 K' (Lib.hid (fun a' w' h3 h4 => hK a' w' ⟨h3, h4⟩)))⟩
theorem wpAnyE_done {listed : Array Bool} {a : Act} {w : World} (hr : Region.ready md ops listed = []) (h : ∀ w2, Lat w w2 → Q .normal a w2) :
    ∀ fuel, wpAnyE P md ops Q Lat fuel listed a w
  | 0 => fun w2 h2 => ⟨hr, h w2 h2⟩
  | _ + 1 => fun w2 h2 => ⟨fun _ => h w2 h2, by rw [hr]; simp⟩
theorem wp_region_E {id : Nat} {a : Act} {w : World} (hm : P.follows .mixedOrders = true)
    (h : wpAnyE P .any ops Q Lat ops.size (Array.replicate ops.size false) a w.drew) : (Code.region id ops true).wp P Q a w :=
  wp_region_any hm (wpAny_of_E Lat.refl _ _ _ _ h)
end
end Go.Proofs.YtjjgbgojlhaapaaGreatDoor
