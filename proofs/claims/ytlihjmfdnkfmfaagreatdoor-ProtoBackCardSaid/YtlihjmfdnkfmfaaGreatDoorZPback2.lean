/- Parts of the proof: Ja, Open, Tb. -/
import Derived.Test.YtlihjmfdnkfmfaaGreatDoorZPback0
import Derived.Test.YtlihjmfdnkfmfaaGreatDoorProg
import Derived.Test.YtlihjmfdnkfmfaaGreatDoorZPback1
import Derived.Deep.DeepCutAuto
import Derived.Lib.AppendIntMem
import Derived.Deep.RegionHeld3
import Derived.Deep.Slices
import Derived.ChangeSame
import Derived.SizedLaws
import Derived.Test.YtlihjmfdnkfmfaaGreatDoorRows
import Derived.ProofKit
import Derived.PinnedBridge
import Derived.Lay
import Derived.Lib.LaidU8T
import Derived.SevenTiedAt
import Derived.LaidOnce
import Derived.Lib.SmallJoins
import Derived.OpenShut
import Derived.ShutString
import Derived.ChangeOld
namespace Go.Proofs.YtlihjmfdnkfmfaaGreatDoor
open Go.RowKit

/-- the library's tables stand -/
structure Tabs (w : World) : Prop where
  u8 : Lib.Utf8Tabs 0 1 w
  pow : Lib.TabIs Tryz.prog w "internal/strconv.uint64pow10" .u64 Lib.pow10Tab
theorem Tabs.below {w w' : World} (h : Tabs w) (hb : Below w.heap.size w w') : Tabs w' := ⟨Utf8Tabs_below h.u8 hb, Lib.tabBelow_of_tabIs h.pow w' hb⟩

def validB (s : ByteArray) : Bool := Lib.validD s.data.toList
theorem valid_any (s : ByteArray) (w : World) (hs : s.size ≤ 9223372036854775807) (hT : Tabs w) :
    Calls Tryz.prog 132 #[.string s] w fun e w' => e = .returned (.bool (validB s)) ∧ Below w.heap.size w w' := by
  have hv := Tryz.utf8_ValidString s w hs hT.u8
  go_enter Tryz.func132, Tryz.ntmps132
  go_wp2_with fail
  refine Calls.mono hv ?_
  rintro e w' ⟨rfl, hb⟩
  go_wp2_with fail
  go_ret
  exact ⟨rfl, hb⟩

def shortB (s : ByteArray) : Bool := validB s && decide (s.size ≤ 8000)
theorem short_any (s : ByteArray) (w : World) (hs : s.size ≤ 9223372036854775807) (hT : Tabs w) :
    Calls Tryz.prog 193 #[.string s] w fun e w' => e = .returned (.bool (shortB s)) ∧ Below w.heap.size w w' := by
  have hv := valid_any s w hs hT
  unfold shortB
  cases h1 : validB s with
  | false =>
    rw [h1] at hv
    go_enter Tryz.func193, Tryz.ntmps193
    go_wp2_with fail
    refine Calls.mono hv ?_
    rintro e w' ⟨rfl, hb⟩
    go_wp2_with fail
    go_ret
    exact ⟨rfl, hb⟩
  | true =>
    rw [h1] at hv
    go_enter Tryz.func193, Tryz.ntmps193
    go_wp2_with fail
    refine Calls.mono hv ?_
    rintro e w' ⟨rfl, hb⟩
    go_wp2_with fail
    go_ret
    exact ⟨ret_bool (by simp; omega), hb⟩

def leB (a b : ByteArray) : Bool := Op.bytesLess a.toList b.toList || a.toList == b.toList
def badK (x : JV) : Bool :=
  decide (x.k < 1) || decide (7 < x.k) || (x.n != 0 && x.k != 4) || (!x.s.toList.isEmpty && x.k != 5) || (decide (0 < x.l.length) && x.k != 6) || (decide (0 < x.m.length) && x.k != 7)

def membersB : Option ByteArray → List (ByteArray × JV) → Bool
  | _, [] => true
  | p, (nm, _) :: r => shortB nm && (match p with | some q => !leB nm q | none => true) && membersB (some nm) r
def rangeB (x : JV) : Bool := decide (-9007199254740991 ≤ x.n) && decide (x.n ≤ 9007199254740991) && shortB x.s
def oneB (x : JV) : Bool := !badK x && membersB none x.m && rangeB x

def prevNm (l : List (ByteArray × JV)) (k : Nat) : Option ByteArray := match k with | 0 => none | k + 1 => (l[k]?).map (·.1)
theorem mem_step {l : List (ByteArray × JV)} {k : Nat} {nm : ByteArray} {y : JV} (h : membersB none l = membersB (prevNm l k) (l.drop k)) (hx : l[k]? = some (nm, y)) (hs : shortB nm = true) (hl : ∀ q, prevNm l k = some q → leB nm q = false) :
    membersB none l = membersB (prevNm l (k + 1)) (l.drop (k + 1)) := by
  rw [h, drop_of_get hx]
  show (shortB nm && _ && _) = membersB ((l[k]?).map (·.1)) _
  rw [hx, hs]
  cases hp : prevNm l k with
  | none => simp
  | some q => simp [hl q hp]
theorem mem_fail1 {l : List (ByteArray × JV)} {k : Nat} {nm : ByteArray} {y : JV} (h : membersB none l = membersB (prevNm l k) (l.drop k)) (hx : l[k]? = some (nm, y)) (hs : shortB nm = false) : membersB none l = false := by
  rw [h, drop_of_get hx]; simp [membersB, hs]
theorem mem_fail2 {l : List (ByteArray × JV)} {k : Nat} {nm q : ByteArray} {y : JV} (h : membersB none l = membersB (prevNm l k) (l.drop k)) (hx : l[k]? = some (nm, y)) (hp : prevNm l k = some q) (hl : leB nm q = true) : membersB none l = false := by
  rw [h, drop_of_get hx]; simp [membersB, hp, hl]
theorem mem_end {l : List (ByteArray × JV)} {k : Nat} (h : membersB none l = membersB (prevNm l k) (l.drop k)) (hx : l.length = k) : membersB none l = true := by
  subst hx
  rw [h]; simp [membersB]
/-- the first test's ways -/
theorem badK_ways (x : JV) :
    (badK x = true ∧ decide (x.k < 1) = true) ∨
    (badK x = true ∧ decide (x.k < 1) = false ∧ decide (7 < x.k) = true) ∨
    (badK x = false ∧ decide (x.k < 1) = false ∧ decide (7 < x.k) = false ∧ (x.n != 0) = false ∧ (!x.s.toList.isEmpty) = false ∧ decide (0 < x.l.length) = false ∧ decide (0 < x.m.length) = false) ∨
    (badK x = true ∧ decide (x.k < 1) = false ∧ decide (7 < x.k) = false ∧ (x.n != 0) = false ∧ (!x.s.toList.isEmpty) = false ∧ decide (0 < x.l.length) = false ∧ decide (0 < x.m.length) = true ∧ (x.k != 7) = true) ∨
    (badK x = false ∧ decide (x.k < 1) = false ∧ decide (7 < x.k) = false ∧ (x.n != 0) = false ∧ (!x.s.toList.isEmpty) = false ∧ decide (0 < x.l.length) = false ∧ decide (0 < x.m.length) = true ∧ (x.k != 7) = false) ∨
    (badK x = true ∧ decide (x.k < 1) = false ∧ decide (7 < x.k) = false ∧ (x.n != 0) = false ∧ (!x.s.toList.isEmpty) = false ∧ decide (0 < x.l.length) = true ∧ (x.k != 6) = true) ∨
    (badK x = false ∧ decide (x.k < 1) = false ∧ decide (7 < x.k) = false ∧ (x.n != 0) = false ∧ (!x.s.toList.isEmpty) = false ∧ decide (0 < x.l.length) = true ∧ (x.k != 6) = false ∧ decide (0 < x.m.length) = false) ∨
    (badK x = true ∧ decide (x.k < 1) = false ∧ decide (7 < x.k) = false ∧ (x.n != 0) = false ∧ (!x.s.toList.isEmpty) = false ∧ decide (0 < x.l.length) = true ∧ (x.k != 6) = false ∧ decide (0 < x.m.length) = true ∧ (x.k != 7) = true) ∨
    (badK x = true ∧ decide (x.k < 1) = false ∧ decide (7 < x.k) = false ∧ (x.n != 0) = false ∧ (!x.s.toList.isEmpty) = true ∧ (x.k != 5) = true) ∨
    (badK x = false ∧ decide (x.k < 1) = false ∧ decide (7 < x.k) = false ∧ (x.n != 0) = false ∧ (!x.s.toList.isEmpty) = true ∧ (x.k != 5) = false ∧ decide (0 < x.l.length) = false ∧ decide (0 < x.m.length) = false) ∨
    (badK x = true ∧ decide (x.k < 1) = false ∧ decide (7 < x.k) = false ∧ (x.n != 0) = false ∧ (!x.s.toList.isEmpty) = true ∧ (x.k != 5) = false ∧ decide (0 < x.l.length) = false ∧ decide (0 < x.m.length) = true ∧ (x.k != 7) = true) ∨
    (badK x = true ∧ decide (x.k < 1) = false ∧ decide (7 < x.k) = false ∧ (x.n != 0) = false ∧ (!x.s.toList.isEmpty) = true ∧ (x.k != 5) = false ∧ decide (0 < x.l.length) = true ∧ (x.k != 6) = true) ∨
    (badK x = true ∧ decide (x.k < 1) = false ∧ decide (7 < x.k) = false ∧ (x.n != 0) = true ∧ (x.k != 4) = true) ∨
    (badK x = false ∧ decide (x.k < 1) = false ∧ decide (7 < x.k) = false ∧ (x.n != 0) = true ∧ (x.k != 4) = false ∧ (!x.s.toList.isEmpty) = false ∧ decide (0 < x.l.length) = false ∧ decide (0 < x.m.length) = false) ∨
    (badK x = true ∧ decide (x.k < 1) = false ∧ decide (7 < x.k) = false ∧ (x.n != 0) = true ∧ (x.k != 4) = false ∧ (!x.s.toList.isEmpty) = false ∧ decide (0 < x.l.length) = false ∧ decide (0 < x.m.length) = true ∧ (x.k != 7) = true) ∨
    (badK x = true ∧ decide (x.k < 1) = false ∧ decide (7 < x.k) = false ∧ (x.n != 0) = true ∧ (x.k != 4) = false ∧ (!x.s.toList.isEmpty) = false ∧ decide (0 < x.l.length) = true ∧ (x.k != 6) = true) ∨
    (badK x = true ∧ decide (x.k < 1) = false ∧ decide (7 < x.k) = false ∧ (x.n != 0) = true ∧ (x.k != 4) = false ∧ (!x.s.toList.isEmpty) = true ∧ (x.k != 5) = true) := by
  rcases Bool.eq_false_or_eq_true (decide (x.k < 1)) with h0 | h0
  · exact .inl ⟨by simp [badK, *], by assumption⟩
  · skip
    rcases Bool.eq_false_or_eq_true (decide (7 < x.k)) with h1 | h1
    · exact .inr (.inl ⟨by simp [badK, *], by assumption, by assumption⟩)
    · skip
      rcases Bool.eq_false_or_eq_true ((x.n != 0)) with h2 | h2
      · rcases Bool.eq_false_or_eq_true ((x.k != 4)) with k2 | k2
        · exact .inr (.inr (.inr (.inr (.inr (.inr (.inr (.inr (.inr (.inr (.inr (.inr (.inl ⟨by simp [badK, *], by assumption, by assumption, by assumption, by assumption⟩))))))))))))
        · skip
          rcases Bool.eq_false_or_eq_true ((!x.s.toList.isEmpty)) with h3 | h3
          · rcases Bool.eq_false_or_eq_true ((x.k != 5)) with k3 | k3
            · exact .inr (.inr (.inr (.inr (.inr (.inr (.inr (.inr (.inr (.inr (.inr (.inr (.inr (.inr (.inr (.inr (⟨by simp [badK, *], by assumption, by assumption, by assumption, by assumption, by assumption, by assumption⟩))))))))))))))))
            · exfalso; simp at *; omega
          · skip
            rcases Bool.eq_false_or_eq_true (decide (0 < x.l.length)) with h4 | h4
            · rcases Bool.eq_false_or_eq_true ((x.k != 6)) with k4 | k4
              · exact .inr (.inr (.inr (.inr (.inr (.inr (.inr (.inr (.inr (.inr (.inr (.inr (.inr (.inr (.inr (.inl ⟨by simp [badK, *], by assumption, by assumption, by assumption, by assumption, by assumption, by assumption, by assumption⟩)))))))))))))))
              · exfalso; simp at *; omega
            · skip
              rcases Bool.eq_false_or_eq_true (decide (0 < x.m.length)) with h5 | h5
              · rcases Bool.eq_false_or_eq_true ((x.k != 7)) with k5 | k5
                · exact .inr (.inr (.inr (.inr (.inr (.inr (.inr (.inr (.inr (.inr (.inr (.inr (.inr (.inr (.inl ⟨by simp [badK, *], by assumption, by assumption, by assumption, by assumption, by assumption, by assumption, by assumption, by assumption⟩))))))))))))))
                · exfalso; simp at *; omega
              · skip
                exact .inr (.inr (.inr (.inr (.inr (.inr (.inr (.inr (.inr (.inr (.inr (.inr (.inr (.inl ⟨by simp [badK, *], by assumption, by assumption, by assumption, by assumption, by assumption, by assumption, by assumption⟩)))))))))))))
      · skip
        rcases Bool.eq_false_or_eq_true ((!x.s.toList.isEmpty)) with h3 | h3
        · rcases Bool.eq_false_or_eq_true ((x.k != 5)) with k3 | k3
          · exact .inr (.inr (.inr (.inr (.inr (.inr (.inr (.inr (.inl ⟨by simp [badK, *], by assumption, by assumption, by assumption, by assumption, by assumption⟩))))))))
          · skip
            rcases Bool.eq_false_or_eq_true (decide (0 < x.l.length)) with h4 | h4
            · rcases Bool.eq_false_or_eq_true ((x.k != 6)) with k4 | k4
              · exact .inr (.inr (.inr (.inr (.inr (.inr (.inr (.inr (.inr (.inr (.inr (.inl ⟨by simp [badK, *], by assumption, by assumption, by assumption, by assumption, by assumption, by assumption, by assumption⟩)))))))))))
              · exfalso; simp at *; omega
            · skip
              rcases Bool.eq_false_or_eq_true (decide (0 < x.m.length)) with h5 | h5
              · rcases Bool.eq_false_or_eq_true ((x.k != 7)) with k5 | k5
                · exact .inr (.inr (.inr (.inr (.inr (.inr (.inr (.inr (.inr (.inr (.inl ⟨by simp [badK, *], by assumption, by assumption, by assumption, by assumption, by assumption, by assumption, by assumption, by assumption⟩))))))))))
                · exfalso; simp at *; omega
              · skip
                exact .inr (.inr (.inr (.inr (.inr (.inr (.inr (.inr (.inr (.inl ⟨by simp [badK, *], by assumption, by assumption, by assumption, by assumption, by assumption, by assumption, by assumption⟩)))))))))
        · skip
          rcases Bool.eq_false_or_eq_true (decide (0 < x.l.length)) with h4 | h4
          · rcases Bool.eq_false_or_eq_true ((x.k != 6)) with k4 | k4
            · exact .inr (.inr (.inr (.inr (.inr (.inl ⟨by simp [badK, *], by assumption, by assumption, by assumption, by assumption, by assumption, by assumption⟩)))))
            · skip
              rcases Bool.eq_false_or_eq_true (decide (0 < x.m.length)) with h5 | h5
              · rcases Bool.eq_false_or_eq_true ((x.k != 7)) with k5 | k5
                · exact .inr (.inr (.inr (.inr (.inr (.inr (.inr (.inl ⟨by simp [badK, *], by assumption, by assumption, by assumption, by assumption, by assumption, by assumption, by assumption, by assumption⟩)))))))
                · exfalso; simp at *; omega
              · skip
                exact .inr (.inr (.inr (.inr (.inr (.inr (.inl ⟨by simp [badK, *], by assumption, by assumption, by assumption, by assumption, by assumption, by assumption, by assumption⟩))))))
          · skip
            rcases Bool.eq_false_or_eq_true (decide (0 < x.m.length)) with h5 | h5
            · rcases Bool.eq_false_or_eq_true ((x.k != 7)) with k5 | k5
              · exact .inr (.inr (.inr (.inl ⟨by simp [badK, *], by assumption, by assumption, by assumption, by assumption, by assumption, by assumption, by assumption⟩)))
              · skip
                exact .inr (.inr (.inr (.inr (.inl ⟨by simp [badK, *], by assumption, by assumption, by assumption, by assumption, by assumption, by assumption, by assumption⟩))))
            · skip
              exact .inr (.inr (.inl ⟨by simp [badK, *], by assumption, by assumption, by assumption, by assumption, by assumption, by assumption⟩))

set_option maxRecDepth 100000 in
set_option maxHeartbeats 4000000 in
theorem one_any (x : JV) (cs : List Value) (F : Nat → Prop) (w : World) (h : JR w F x cs) (hT : Tabs w) :
    Calls Tryz.prog 161 #[.agg cs.toArray] w fun e w' => e = .returned (.bool (oneB x)) ∧ Below w.heap.size w w' := by
  obtain ⟨vl, vm, ⟨rfl, hsz⟩, hl, hm⟩ := JR_iff.1 h
  obtain ⟨A1, c1, rfl⟩ := hl.form
  obtain ⟨A2, c2, rfl⟩ := hm.form
  have Hm := Lib.hid hm; have HT := Lib.hid hT; have Hs := Lib.hid hsz
  clear hl hm h hT hsz
  go_enter Tryz.func161, Tryz.ntmps161
  go_upto_region 1 with fail
  go_cut [54] (fun s54 wx => s54 = .bool (badK x) ∧ wx = w.alloc (.cells #[.int .i64 x.k, .int .i64 x.n, .string x.s, .slice A1 x.l.length c1, .slice A2 x.m.length c2] 43))
  case first =>
    rcases badK_ways x with ⟨hb, q0⟩ | ⟨hb, q0, q1⟩ | ⟨hb, q0, q1, q2, q3, q4, q5⟩ | ⟨hb, q0, q1, q2, q3, q4, q5, q6⟩ | ⟨hb, q0, q1, q2, q3, q4, q5, q6⟩ | ⟨hb, q0, q1, q2, q3, q4, q5⟩ | ⟨hb, q0, q1, q2, q3, q4, q5, q6⟩ | ⟨hb, q0, q1, q2, q3, q4, q5, q6, q7⟩ | ⟨hb, q0, q1, q2, q3, q4⟩ | ⟨hb, q0, q1, q2, q3, q4, q5, q6⟩ | ⟨hb, q0, q1, q2, q3, q4, q5, q6, q7⟩ | ⟨hb, q0, q1, q2, q3, q4, q5, q6⟩ | ⟨hb, q0, q1, q2, q3⟩ | ⟨hb, q0, q1, q2, q3, q4, q5, q6⟩ | ⟨hb, q0, q1, q2, q3, q4, q5, q6, q7⟩ | ⟨hb, q0, q1, q2, q3, q4, q5, q6⟩ | ⟨hb, q0, q1, q2, q3, q4, q5⟩
    all_goals
      have HB := Lib.hid hb
      clear hb
      go_wp2
      go_meet
      exact ⟨by rw [HB.out], rfl⟩
  case rest =>
    obtain ⟨rfl, rfl⟩ := hcut
    have n0 := cell_newB w #[.int .i64 x.k, .int .i64 x.n, .string x.s, .slice A1 x.l.length c1, .slice A2 x.m.length c2] 43 1 _ rfl
    have s0 := cell_newB w #[.int .i64 x.k, .int .i64 x.n, .string x.s, .slice A1 x.l.length c1, .slice A2 x.m.length c2] 43 2 _ rfl
    have m0 := cell_newB w #[.int .i64 x.k, .int .i64 x.n, .string x.s, .slice A1 x.l.length c1, .slice A2 x.m.length c2] 43 4 _ rfl
    have hbW : Below w.heap.size w (w.alloc (.cells #[.int .i64 x.k, .int .i64 x.n, .string x.s, .slice A1 x.l.length c1, .slice A2 x.m.length c2] 43)) := bel_alloc (Below.refl _ _) _
    generalize w.alloc (.cells #[.int .i64 x.k, .int .i64 x.n, .string x.s, .slice A1 x.l.length c1, .slice A2 x.m.length c2] 43) = W at *
    cases hbad : badK x with
    | true =>
      have hone : oneB x = false := by simp [oneB, hbad]
      have HO := Lib.hid hone
      clear hbad hone
      go_wp2_with fail
      go_ret
      exact ⟨ret_bool HO.out.symm, hbW⟩
    | false =>
      have hone : oneB x = (membersB none x.m && rangeB x) := by simp [oneB, hbad]
      have HO := Lib.hid hone
      clear hbad hone
      obtain ⟨A2', c2', hA2, hn63, hel⟩ := mem_cells Hm.out
      obtain ⟨rfl, _, rfl⟩ : A2 = A2' ∧ True ∧ c2 = c2' := by simpa using hA2
      have Hel := Lib.hid hel
      clear hel hA2
      generalize hn : x.m.length = n at *
      have Hn := Lib.hid hn
      clear hn
      have hzW : w.heap.size < W.heap.size := World.block_lt_of_cell? _ _ n0
      go_wp2_with fail
      go_loopg [3, 4, 58] n (fun gg _ _ s58 wr => ∃ k : Nat, k ≤ n ∧ n - k ≤ gg ∧ s58 = .int .i64 k ∧ Aside (Below W.heap.size W wr) ∧ Aside (membersB none x.m = membersB (prevNm x.m k) (x.m.drop k)))
      case atStart => exact ⟨0, Nat.zero_le _, by omega, rfl, Below.refl _ _, rfl⟩
      case round =>
        obtain ⟨k, hk, hgg, rfl, HB, HA⟩ := hrel
        have hbw := bel_trans hbW HB.out
        have n1 := cell_later' HB.out n0
        have s1 := cell_later' HB.out s0
        have m1 := cell_later' HB.out m0
        have hzr : w.heap.size < wr.heap.size := World.block_lt_of_cell? _ _ n1
        have hTr := HT.out.below hbw
        by_cases hlt : k < n
        · have hltz : (k : Int) < (n : Int) := by omega
          obtain ⟨⟨nm, y⟩, hx⟩ : ∃ p, x.m[k]? = some p := get_ex (by have := Hn.out; omega)
          obtain ⟨b, o, B1, k1, d1, B2, k2, d2, rfl, hnz, e0, e1, e2, e3, e4, e5, hjr⟩ := Hel.out k nm y hx
          have r0 := cell_later' hbw e0
          have r1 := cell_later' hbw e1
          have r2 := cell_later' hbw e2
          have r3 := cell_later' hbw e3
          have r4 := cell_later' hbw e4
          have r5 := cell_later' hbw e5
          have hbr : b < wr.heap.size := World.block_lt_of_cell? _ _ r0
          have hshort := fun V hV => short_any nm V hnz (hTr.below (w' := V) hV)
          have HX := Lib.hid hx
          clear hx hjr e0 e1 e2 e3 e4 e5 hTr hnz
          cases hsn : shortB nm with
          | false =>
            rw [hsn] at hshort
            have HS := Lib.hid hshort; have HN := Lib.hid hsn
            clear hshort hsn
            go_wp2_with fail
            have cm := cell_newB wr #[.string nm, .int .i64 y.k, .int .i64 y.n, .string y.s, .slice B1 k1 d1, .slice B2 k2 d2] 49 0 _ rfl
            have hbV : Below wr.heap.size wr (wr.alloc (.cells #[.string nm, .int .i64 y.k, .int .i64 y.n, .string y.s, .slice B1 k1 d1, .slice B2 k2 d2] 49)) := bel_alloc (Below.refl _ _) _
            generalize wr.alloc (.cells #[.string nm, .int .i64 y.k, .int .i64 y.n, .string y.s, .slice B1 k1 d1, .slice B2 k2 d2] 49) = V at *
            go_cut [82] (fun s82 wx => s82 = .bool true ∧ Aside (Below wr.heap.size wr wx))
            case first =>
              refine wp_region_held_drew (S := fun w' => Below wr.heap.size wr w' ∧ w'.cell? ⟨wr.heap.size, 0, none⟩ = some (.string nm)) (by kernel_rfl) ?_ (fun hHeld => ?_)
              · first | exact ⟨bel_drew hbV, by simpa using cm⟩ | (go_split_ands; exact ⟨bel_trans (by assumption) (by assumption), cell_later' (by assumption) (by assumption)⟩)
              refine tkq 0 rfl (by assumption) ?_
              try simp only [lay]
              refine tkq 1 rfl (by assumption) ?_
              try simp only [lay]
              refine wpAnyH_ready (rs := [2]) (by kernel_rfl) (by simp) ?_
              refine AllReadyH.cons rfl (fun K hK => ?_) AllReadyH.nil
              rw [if_pos (by kernel_rfl)]
              go_simp
              go_at_call 193; refine (HS.out _ ?_).mono ?_; (go_split_ands; assumption); rintro e w5 ⟨rfl, hb5⟩
              go_wp2_with fail
              refine hK.out _ _ ?_ (fun hHeld => ?_)
              · first | exact ⟨bel_drew hbV, by simpa using cm⟩ | (go_split_ands; exact ⟨bel_trans (by assumption) (by assumption), cell_later' (by assumption) (by assumption)⟩)
              clear hK K
              try simp only [lay]
              refine tkq 3 rfl (by assumption) ?_
              try simp only [lay]
              refine tkq 4 rfl (by assumption) ?_
              try simp only [lay]
              refine skq 5 rfl (by assumption) ?_
              try simp only [lay]
              refine skq 6 rfl (by assumption) ?_
              try simp only [lay]
              refine skq 7 rfl (by assumption) ?_
              try simp only [lay]
              refine skq 8 rfl (by assumption) ?_
              try simp only [lay]
              refine skq 9 rfl (by assumption) ?_
              try simp only [lay]
              refine skq 10 rfl (by assumption) ?_
              try simp only [lay]
              refine skq 11 rfl (by assumption) ?_
              try simp only [lay]
              refine skq 12 rfl (by assumption) ?_
              try simp only [lay]
              refine skq 13 rfl (by assumption) ?_
              try simp only [lay]
              refine skq 14 rfl (by assumption) ?_
              try simp only [lay]
              refine skq 15 rfl (by assumption) ?_
              try simp only [lay]
              refine skq 16 rfl (by assumption) ?_
              try simp only [lay]
              refine skq 17 rfl (by assumption) ?_
              try simp only [lay]
              refine skq 18 rfl (by assumption) ?_
              try simp only [lay]
              refine tkq 19 rfl (by assumption) ?_
              try simp only [lay]
              refine wpAnyH_done (by kernel_rfl) ?_ _
              go_wp2_with fail
              go_meet
              exact ⟨rfl, hHeld.1⟩
            case rest =>
              obtain ⟨rfl, HB5⟩ := hcut
              go_wp2_with fail
              go_ret
              exact ⟨ret_bool (by rw [HO.out, mem_fail1 HA HX.out HN.out]; rfl), bel_trans hbw HB5⟩
          | true =>
            rw [hsn] at hshort
            have HS := Lib.hid hshort; have HN := Lib.hid hsn
            clear hshort hsn
            rcases Nat.eq_zero_or_pos k with hk0 | hk0
            · have hz : decide (0 < k) = false := by simp [hk0]
              have hz2 : decide ((0 : Int) < (k : Int)) = false := by simp [hk0]
              have HK := Lib.hid hk0
              clear hk0
              go_wp2_with fail
              have cm := cell_newB wr #[.string nm, .int .i64 y.k, .int .i64 y.n, .string y.s, .slice B1 k1 d1, .slice B2 k2 d2] 49 0 _ rfl
              have hbV : Below wr.heap.size wr (wr.alloc (.cells #[.string nm, .int .i64 y.k, .int .i64 y.n, .string y.s, .slice B1 k1 d1, .slice B2 k2 d2] 49)) := bel_alloc (Below.refl _ _) _
              generalize wr.alloc (.cells #[.string nm, .int .i64 y.k, .int .i64 y.n, .string y.s, .slice B1 k1 d1, .slice B2 k2 d2] 49) = V at *
              go_cut [82] (fun s82 wx => s82 = .bool false ∧ Aside (Below wr.heap.size wr wx))
              case first =>
                refine wp_region_held_drew (S := fun w' => Below wr.heap.size wr w' ∧ w'.cell? ⟨wr.heap.size, 0, none⟩ = some (.string nm)) (by kernel_rfl) ?_ (fun hHeld => ?_)
                · first | exact ⟨bel_drew hbV, by simpa using cm⟩ | (go_split_ands; exact ⟨bel_trans (by assumption) (by assumption), cell_later' (by assumption) (by assumption)⟩)
                refine tkq 0 rfl (by assumption) ?_
                try simp only [lay]
                refine tkq 1 rfl (by assumption) ?_
                try simp only [lay]
                refine wpAnyH_ready (rs := [2]) (by kernel_rfl) (by simp) ?_
                refine AllReadyH.cons rfl (fun K hK => ?_) AllReadyH.nil
                rw [if_pos (by kernel_rfl)]
                go_simp
                go_at_call 193; refine (HS.out _ ?_).mono ?_; (go_split_ands; assumption); rintro e w5 ⟨rfl, hb5⟩
                go_wp2_with fail
                refine hK.out _ _ ?_ (fun hHeld => ?_)
                · first | exact ⟨bel_drew hbV, by simpa using cm⟩ | (go_split_ands; exact ⟨bel_trans (by assumption) (by assumption), cell_later' (by assumption) (by assumption)⟩)
                clear hK K
                try simp only [lay]
                refine tkq 3 rfl (by assumption) ?_
                try simp only [lay]
                refine tkq 4 rfl (by assumption) ?_
                try simp only [lay]
                refine tkq 5 rfl (by assumption) ?_
                try simp only [lay]
                refine tkq 6 rfl (by assumption) ?_
                try simp only [lay]
                refine tkq 7 rfl (by assumption) ?_
                try simp only [lay]
                refine skq 8 rfl (by assumption) ?_
                try simp only [lay]
                refine skq 9 rfl (by assumption) ?_
                try simp only [lay]
                refine skq 10 rfl (by assumption) ?_
                try simp only [lay]
                refine skq 11 rfl (by assumption) ?_
                try simp only [lay]
                refine skq 12 rfl (by assumption) ?_
                try simp only [lay]
                refine skq 13 rfl (by assumption) ?_
                try simp only [lay]
                refine skq 14 rfl (by assumption) ?_
                try simp only [lay]
                refine skq 15 rfl (by assumption) ?_
                try simp only [lay]
                refine skq 16 rfl (by assumption) ?_
                try simp only [lay]
                refine skq 17 rfl (by assumption) ?_
                try simp only [lay]
                refine tkq 18 rfl (by assumption) ?_
                try simp only [lay]
                refine tkq 19 rfl (by assumption) ?_
                try simp only [lay]
                refine wpAnyH_done (by kernel_rfl) ?_ _
                go_wp2_with fail
                go_meet
                exact ⟨rfl, hHeld.1⟩
              case rest =>
                obtain ⟨rfl, HB5⟩ := hcut
                go_wp2_with fail
                go_roundg (n - (k + 1))
                case measure => omega
                case rel => exact ⟨k + 1, by omega, by omega, by simp, bel_trans HB.out HB5, mem_step HA HX.out HN.out (by rw [HK.out]; simp [prevNm])⟩
            · obtain ⟨j, hj⟩ : ∃ j, k = j + 1 := ⟨k - 1, by omega⟩
              obtain ⟨⟨q, y'⟩, hxq⟩ : ∃ p, x.m[j]? = some p := get_ex (by have := Hn.out; omega)
              obtain ⟨b', o', _, _, _, _, _, _, hbo, hqz, f0, _⟩ := Hel.out j q y' hxq
              obtain ⟨rfl, rfl⟩ : b = b' ∧ o = o' := by simpa using hbo
              have g0 := cell_later' hbw f0
              have hw : IntKind.i64.wrap ((k : Int) - 1) = (j : Int) := by rw [IntWalk.i64_in _ (by omega)]; omega
              have hz : (0 : Int) < (k : Int) := by omega
              have hj0 : (0 : Int) ≤ (j : Int) := by omega
              have hjn : (j : Int) < (n : Int) := by omega
              have hprev : prevNm x.m k = some q := by rw [hj]; simp [prevNm, hxq]
              have HJ := Lib.hid hj; have HP := Lib.hid hprev
              clear hj hprev hxq hbo f0 hqz
              go_wp2_with fail
              have cm := cell_newB wr #[.string nm, .int .i64 y.k, .int .i64 y.n, .string y.s, .slice B1 k1 d1, .slice B2 k2 d2] 49 0 _ rfl
              have hbV : Below wr.heap.size wr (wr.alloc (.cells #[.string nm, .int .i64 y.k, .int .i64 y.n, .string y.s, .slice B1 k1 d1, .slice B2 k2 d2] 49)) := bel_alloc (Below.refl _ _) _
              have g1 := cell_later' hbV g0
              have m2 := cell_later' hbV m1
              generalize wr.alloc (.cells #[.string nm, .int .i64 y.k, .int .i64 y.n, .string y.s, .slice B1 k1 d1, .slice B2 k2 d2] 49) = V at *
              go_cut [82] (fun s82 wx => s82 = .bool (leB nm q) ∧ Aside (Below wr.heap.size wr wx))
              case first =>
                refine wp_region_held_drew (S := fun w' => Below wr.heap.size wr w' ∧ w'.cell? ⟨wr.heap.size, 0, none⟩ = some (.string nm) ∧ w'.cell? ⟨w.heap.size, 4, none⟩ = some (.slice (some ⟨b, o, none⟩) n c2) ∧ w'.cell? ⟨b, o + j * 6, none⟩ = some (.string q)) (by kernel_rfl) ?_ (fun hHeld => ?_)
                · first | exact ⟨bel_drew hbV, by simpa using cm, by simpa using m2, by simpa using g1⟩ | (go_split_ands; exact ⟨bel_trans (by assumption) (by assumption), cell_later' (by assumption) (by assumption), cell_later' (by assumption) (by assumption), cell_later' (by assumption) (by assumption)⟩)
                refine tkq 0 rfl (by assumption) ?_
                try simp only [lay]
                refine tkq 1 rfl (by assumption) ?_
                try simp only [lay]
                refine wpAnyH_ready (rs := [2]) (by kernel_rfl) (by simp) ?_
                refine AllReadyH.cons rfl (fun K hK => ?_) AllReadyH.nil
                rw [if_pos (by kernel_rfl)]
                go_simp
                go_at_call 193; refine (HS.out _ ?_).mono ?_; (go_split_ands; assumption); rintro e w5 ⟨rfl, hb5⟩
                go_wp2_with fail
                refine hK.out _ _ ?_ (fun hHeld => ?_)
                · first | exact ⟨bel_drew hbV, by simpa using cm, by simpa using m2, by simpa using g1⟩ | (go_split_ands; exact ⟨bel_trans (by assumption) (by assumption), cell_later' (by assumption) (by assumption), cell_later' (by assumption) (by assumption), cell_later' (by assumption) (by assumption)⟩)
                clear hK K
                try simp only [lay]
                refine tkq 3 rfl (by assumption) ?_
                try simp only [lay]
                refine tkq 4 rfl (by assumption) ?_
                try simp only [lay]
                refine tkq 5 rfl (by assumption) ?_
                try simp only [lay]
                refine tkq 6 rfl (by assumption) ?_
                try simp only [lay]
                refine tkq 7 rfl (by assumption) ?_
                try simp only [lay]
                refine tkq 8 rfl (by assumption) ?_
                try simp only [lay]
                refine tkq 9 rfl (by assumption) ?_
                try simp only [lay]
                refine tkq 10 rfl (by assumption) ?_
                try simp only [lay]
                refine tkq 11 rfl (by assumption) ?_
                try simp only [lay]
                refine tkq 12 rfl (by assumption) ?_
                try simp only [lay]
                refine tkq 13 rfl (by assumption) ?_
                try simp only [lay]
                refine tkq 14 rfl (by assumption) ?_
                try simp only [lay]
                refine tkq 15 rfl (by assumption) ?_
                try simp only [lay]
                refine tkq 16 rfl (by assumption) ?_
                try simp only [lay]
                refine tkq 17 rfl (by assumption) ?_
                try simp only [lay]
                refine tkq 18 rfl (by assumption) ?_
                try simp only [lay]
                refine tkq 19 rfl (by assumption) ?_
                try simp only [lay]
                refine wpAnyH_done (by kernel_rfl) ?_ _
                go_wp2_with fail
                go_meet
                exact ⟨rfl, hHeld.1⟩
              case rest =>
                obtain ⟨rfl, HB5⟩ := hcut
                cases hle : leB nm q with
                | true =>
                  have HL := Lib.hid hle
                  clear hle
                  go_wp2_with fail
                  go_ret
                  exact ⟨ret_bool (by rw [HO.out, mem_fail2 HA HX.out HP.out HL.out]; rfl), bel_trans hbw HB5⟩
                | false =>
                  have HL := Lib.hid hle
                  clear hle
                  go_wp2_with fail
                  go_roundg (n - (k + 1))
                  case measure => omega
                  case rel => exact ⟨k + 1, by omega, by omega, by simp, bel_trans HB.out HB5, mem_step HA HX.out HN.out (by intro q' hq'; rw [HP.out] at hq'; cases hq'; exact HL.out)⟩
        · have hmem := mem_end HA.out (by have := Hn.out; omega : x.m.length = k)
          have hltz : ¬ ((k : Int) < (n : Int)) := by omega
          have hshort := fun V hV => short_any x.s V Hs.out (hTr.below (w' := V) hV)
          have HM := Lib.hid hmem; have HS := Lib.hid hshort
          clear hmem hshort hTr
          rcases Bool.eq_false_or_eq_true (decide (-9007199254740991 ≤ x.n)) with h1 | h1
          · rcases Bool.eq_false_or_eq_true (decide (x.n ≤ 9007199254740991)) with h2 | h2
            · have HR := Lib.hid (show rangeB x = shortB x.s by simp only [rangeB, h1, h2, Bool.true_and])
              go_wp2_with fail
              refine (HS.out _ (Below.refl _ _)).mono ?_
              rintro e w5 ⟨rfl, hb5⟩
              go_wp2_with fail
              go_ret
              exact ⟨ret_bool (by rw [HO.out, HM.out, HR.out]; rfl), bel_trans hbw hb5⟩
            · have HR := Lib.hid (show rangeB x = false by simp only [rangeB, h1, h2, Bool.true_and, Bool.false_and])
              go_wp2_with fail
              go_ret
              exact ⟨ret_bool (by rw [HO.out, HM.out, HR.out]; rfl), hbw⟩
          · have HR := Lib.hid (show rangeB x = false by simp only [rangeB, h1, Bool.false_and])
            go_wp2_with fail
            go_ret
            exact ⟨ret_bool (by rw [HO.out, HM.out, HR.out]; rfl), hbw⟩
end Go.Proofs.YtlihjmfdnkfmfaaGreatDoor
namespace Go.Proofs.YtlihjmfdnkfmfaaGreatDoor
open Go.RowKit Go.Deep Go.ChangeShapes Go.WideShapes

section
variable {H : Type} {enc : TypeId × Value → H} {P : Program} {w : World} {base : Nat} {spare : Nat → Bool} {held : Bool}

end
end Go.Proofs.YtlihjmfdnkfmfaaGreatDoor
namespace Go.Proofs.YtlihjmfdnkfmfaaGreatDoor
open Go.RowKit Go.Lib Go.ChangeShapes Go.WideShapes Go.ChangeAt

theorem own : ownKnob Tryz.prog.godebug = none := by kernel_rfl
theorem laidOut : laidOutB Tryz.prog = true := by kernel_rfl
theorem tabIs_of_reads {P : Program} {W : World} {name : String} {k : IntKind} {zs : List Int} {g : Nat} {t e : TypeId} {n : Nat}
    (hg : P.globalNamed name = some g) (hty : (P.globals[g]?).map (·.type) = some t) (ht : P.underlying t = some (.array n e)) (he : P.underlying e = some (.int k)) (hce : P.cellsOf e = 1) (hct : P.cellsOf t = n)
    (h : VarReads P W name (tabData k zs)) : TabIs P W name k zs := by
  obtain ⟨g', t', cs, fuel, p, hg', ht', hvar, hd⟩ := h
  obtain rfl := Option.some.inj (hg.symm.trans hg')
  obtain rfl := Option.some.inj (hty.symm.trans ht')
  unfold TabIs
  rw [hvar, ← cells_of_tab ht he hce hct hd]
theorem accept_eq : Rows.laid_unicode_utf8_acceptRanges = acceptData := by kernel_rfl
theorem pow_eq : Rows.laid_internal_strconv_uint64pow10 = (tabData .u64 pow10Tab : DataW Unit) := by kernel_rfl
/-- the library's tables stand -/
theorem tabs_of_reads {W : World} (h1 : VarReads Tryz.prog W "unicode/utf8.first" Pinned.utf8First) (h2 : VarReads Tryz.prog W "unicode/utf8.acceptRanges" Rows.laid_unicode_utf8_acceptRanges)
    (h3 : VarReads Tryz.prog W "internal/strconv.uint64pow10" Rows.laid_internal_strconv_uint64pow10) : Tabs W := by
  refine ⟨?_, ?_⟩
  · exact utf8Tabs_of_readsT (U8Types.of196 Tryz.lays196) ⟨by kernel_rfl, by kernel_rfl, by kernel_rfl, by kernel_rfl, by kernel_rfl, by kernel_rfl, by kernel_rfl⟩ (Pinned.utf8First_eq ▸ h1) (accept_eq ▸ h2)
  · exact tabIs_of_reads (g := 3) (t := 288) (e := 247) (n := 20) (by kernel_rfl) (by kernel_rfl) Tryz.underlying288 Tryz.underlying247 (by kernel_rfl) (by kernel_rfl) (pow_eq ▸ h3)
end Go.Proofs.YtlihjmfdnkfmfaaGreatDoor
