/- Marks: the document's side: mayMarks, dominates, Covers; Marks and same. -/
import Derived.Test.YtopfdnflejbgaaaMkN
namespace Go.Proofs.Ytopfdnflejbgaaa
open Go.RowKit

set_option maxHeartbeats 8000000 in
theorem refMay_any (sv : Value) (F : Nat → Prop) (xs : List Mk) (w : World) (hs : Sl mkTy w F sv xs) :
    Calls Try.prog 19 #[sv] w fun e w' => e = .returned (.bool (mayB xs)) ∧ Below w.heap.size w w' := by
  rcases hs with ⟨rfl, A, c, rfl⟩ | ⟨b, o, c, rfl, hFb, hlc, hcm, hel⟩
  · go_enter Try.func19, Try.ntmps19
    go_wp2
    go_loop [3] (fun k => k = .int .i64 0) (fun _ => 0)
    case atStart => rfl
    case round =>
      subst hrel
      go_wp2
      go_ret
      exact ⟨rfl, Below.refl _ _⟩
  · have hc := mk_cells hel
    clear hel
    generalize hn : xs.length = n at *
    have Hn := Lib.hid hn; clear hn
    go_enter Try.func19, Try.ntmps19
    go_wp2
    go_loopg [3] n (fun gg s8 wr => ∃ kk : Nat, kk ≤ n ∧ n - kk ≤ gg ∧ s8 = .int .i64 kk ∧ Aside (Below w.heap.size w wr) ∧ Aside (okFrom none xs = okFrom (prevOf xs kk) (xs.drop kk)))
    case atStart => exact ⟨0, Nat.zero_le _, by omega, rfl, Below.refl _ w, rfl⟩
    case round =>
      obtain ⟨kk, hkk, hg, rfl, BW, A⟩ := hrel
      have hz := BW.out.size
      by_cases hlt : kk < n
      · have hltz : (kk : Int) < (n : Int) := by omega
        obtain ⟨x, hx⟩ : ∃ x, xs[kk]? = some x := ⟨xs[kk]'(by have := Hn.out; omega), List.getElem?_eq_getElem _⟩
        have l0 := cell_later' BW.out (hc kk x hx).1
        have l1 := cell_later' BW.out (hc kk x hx).2
        rcases Nat.eq_zero_or_pos kk with hk0 | hk0
        · subst hk0
          clear hc
          rw [Nat.zero_mul, Nat.add_zero] at l0 l1
          have Hx := Lib.hid hx; clear hx
          have HA := Lib.hid A.out; clear A
          rcases okOne_cases x with ⟨ho, h1, h2, h3, h4⟩ | ⟨ho, h | ⟨h, g⟩ | ⟨h, g, i⟩ | ⟨h, g, i, j⟩⟩
          · have Ho := Lib.hid ho; clear ho
            go_wp2
            go_quiet (fail)
            go_wp2
            go_roundg (n - 1)
            case measure => omega
            case rel =>
              refine ⟨1, by omega, by omega, by go_num, ?_, ok_step HA.out Hx.out Ho.out (fun a ha => by cases ha)⟩
              show Below _ _ _
              repeat (first | exact BW.out | apply bel_alloc | apply bel_drewN | apply bel_drew | (refine bel_set ?_ (by simp; omega) _))
          all_goals
            have Ho := Lib.hid ho; clear ho
            go_wp2
            go_quiet (fail)
            go_wp2
            go_ret
            refine ⟨ret_bool (ok_fail1 HA.out Hx.out Ho.out).symm, ?_⟩
            repeat (first | exact BW.out | apply bel_alloc | apply bel_drewN | apply bel_drew | (refine bel_set ?_ (by simp; omega) _))
        · obtain ⟨m, rfl⟩ : ∃ m, kk = m + 1 := ⟨kk - 1, by omega⟩
          obtain ⟨a, ha⟩ : ∃ x, xs[m]? = some x := ⟨xs[m]'(by have := Hn.out; omega), List.getElem?_eq_getElem _⟩
          have m0 := cell_later' BW.out (hc m a ha).1
          have m1 := cell_later' BW.out (hc m a ha).2
          have hbw : b < wr.heap.size := World.block_lt_of_cell? wr _ m0
          have e1 : (((m + 1 : Nat) : Int) - 1).toNat = m := by omega
          clear hc
          have Hx := Lib.hid hx; clear hx
          have Ha := Lib.hid ha; clear ha
          have HA := Lib.hid A.out; clear A
          have g0 : decide (0 < ((m + 1 : Nat) : Int)) = true := by simp
          have g8 : decide (0 < (m : Int) + 1) = true := by simp
          have hmi : (m : Int) < (n : Int) := by omega
          have hw1 : IntKind.i64.wrap ((m : Int) + 1 - 1) = (m : Int) := by rw [Int.add_sub_cancel]; exact IntWalk.i64_in _ (by omega)
          have hw2 : IntKind.i64.wrap (m : Int) = (m : Int) := IntWalk.i64_in _ (by omega)
          rcases okOne_cases x with ⟨ho, h1, h2, h3, h4⟩ | ⟨ho, h | ⟨h, g⟩ | ⟨h, g, i⟩ | ⟨h, g, i, j⟩⟩
          · have Ho := Lib.hid ho; clear ho
            rcases okTwo_cases a x with ⟨ho, h5, h6⟩ | ⟨ho, h5 | ⟨h5, h6⟩⟩
            · have Ho2 := Lib.hid ho; clear ho
              go_wp2
              go_quiet (fail)
              go_wp2
              go_roundg (n - (m + 1 + 1))
              case measure => omega
              case rel =>
                refine ⟨m + 1 + 1, by omega, by omega, by go_num, ?_, ok_step HA.out Hx.out Ho.out (fun b hb => by obtain rfl := Option.some.inj (Ha.out.symm.trans hb); exact Ho2.out)⟩
                show Below _ _ _
                repeat (first | exact BW.out | apply bel_alloc | apply bel_drewN | apply bel_drew | (refine bel_set ?_ (by simp; omega) _))
            all_goals
              have Ho2 := Lib.hid ho; clear ho
              go_wp2
              go_quiet (fail)
              go_wp2
              go_ret
              refine ⟨ret_bool (ok_fail2 HA.out Hx.out Ha.out Ho2.out).symm, ?_⟩
              repeat (first | exact BW.out | apply bel_alloc | apply bel_drewN | apply bel_drew | (refine bel_set ?_ (by simp; omega) _))
          all_goals
            have Ho := Lib.hid ho; clear ho
            go_wp2
            go_quiet (fail)
            go_wp2
            go_ret
            refine ⟨ret_bool (ok_fail1 HA.out Hx.out Ho.out).symm, ?_⟩
            repeat (first | exact BW.out | apply bel_alloc | apply bel_drewN | apply bel_drew | (refine bel_set ?_ (by simp; omega) _))
      · have hltz : ¬ (kk : Int) < (n : Int) := by omega
        have : kk = n := by omega
        subst this
        go_wp2
        go_ret
        exact ⟨ret_bool (by rw [ok_end A.out Hn.out, Hn.out]; simp; omega), BW.out⟩
set_option maxHeartbeats 400000 in
theorem refDom_any (m x : Mk) (w : World) :
    Calls Try.prog 20 #[.agg #[.int .i64 m.t, .int .i64 m.u], .agg #[.int .i64 x.t, .int .i64 x.u]] w fun e w' => e = .returned (.bool (domB m x)) ∧ Below w.heap.size w w' := by
  have hb : Below w.heap.size w ((w.alloc (.cells #[.int .i64 m.t, .int .i64 m.u] 33)).alloc (.cells #[.int .i64 x.t, .int .i64 x.u] 33)) := bel_alloc (bel_alloc (Below.refl _ _) _) _
  unfold domB
  cases h1 : decide (x.t ≤ m.t)
  all_goals
    go_enter Try.func20, Try.ntmps20
    go_wp2
    go_ret
    exact ⟨rfl, hb⟩


set_option maxHeartbeats 1000000 in
theorem refCovers_any (sv : Value) (num when : Int) (F : Nat → Prop) (xs : List Mk) (w : World) (hs : Sl mkTy w F sv xs) :
    Calls Try.prog 11 #[sv, .int .i64 num, .int .i64 when] w fun e w' => e = .returned (.bool (xs.any (covB num when))) ∧ Below w.heap.size w w' := by
  rcases hs with ⟨rfl, A, c, rfl⟩ | ⟨b, o, c, rfl, hFb, hlc, hcm, hel⟩
  · go_enter Try.func11, Try.ntmps11
    go_wp2
    go_loop [7] (fun k => k = .int .i64 0) (fun _ => 0)
    case atStart => rfl
    case round =>
      subst hrel
      go_wp2
      go_ret
      exact ⟨rfl, Below.refl _ _⟩
  · have hc := mk_cells hel
    clear hel
    generalize hn : xs.length = n at *
    have Hn := Lib.hid hn; clear hn
    go_enter Try.func11, Try.ntmps11
    go_wp2
    go_loopg [7] n (fun gg s7 wr => ∃ kk : Nat, kk ≤ n ∧ n - kk ≤ gg ∧ s7 = .int .i64 kk ∧ Aside (Below w.heap.size w wr) ∧ Aside (∀ j y, j < kk → xs[j]? = some y → covB num when y = false))
    case atStart => exact ⟨0, Nat.zero_le _, by omega, rfl, Below.refl _ w, fun j y hj => absurd hj (Nat.not_lt_zero _)⟩
    case round =>
      obtain ⟨kk, hkk, hg, rfl, BW, A⟩ := hrel
      by_cases hlt : kk < n
      · have hltz : (kk : Int) < (n : Int) := by omega
        obtain ⟨x, hx⟩ : ∃ x, xs[kk]? = some x := get_ex (by have := Hn.out; omega)
        have l0 := cell_later' BW.out (hc kk x hx).1
        have l1 := cell_later' BW.out (hc kk x hx).2
        clear hc
        have Hx := Lib.hid hx; clear hx
        cases h1 : decide (when ≤ x.t) with
        | false =>
          have H1 := Lib.hid h1
          go_wp2
          go_roundg (n - (kk + 1))
          case measure => omega
          case rel =>
            refine ⟨kk + 1, by omega, by omega, by go_num, BW.out, (show Aside _ from fun j y hj hy => ?_)⟩
            rcases Nat.lt_or_ge j kk with h | h
            · exact A.out j y h hy
            · obtain rfl : j = kk := by omega
              obtain rfl := Option.some.inj (Hx.out.symm.trans hy)
              simp [covB, H1.out]
        | true =>
          cases h2 : decide (num < x.u) with
          | false =>
            have H1 := Lib.hid h1; have H2 := Lib.hid h2
            go_wp2
            go_roundg (n - (kk + 1))
            case measure => omega
            case rel =>
              refine ⟨kk + 1, by omega, by omega, by go_num, BW.out, (show Aside _ from fun j y hj hy => ?_)⟩
              rcases Nat.lt_or_ge j kk with h | h
              · exact A.out j y h hy
              · obtain rfl : j = kk := by omega
                obtain rfl := Option.some.inj (Hx.out.symm.trans hy)
                simp [covB, H2.out]
          | true =>
            have hcv : covB num when x = true := by simp [covB, h1, h2]
            have hr : xs.any (covB num when) = true := List.any_eq_true.2 ⟨x, List.mem_of_getElem? Hx.out, hcv⟩
            have HR := Lib.hid hr
            clear hcv hr
            go_wp2
            go_ret
            exact ⟨ret_bool HR.out.symm, BW.out⟩
      · have hltz : ¬ (kk : Int) < (n : Int) := by omega
        have hr : xs.any (covB num when) = false := by
          rw [List.any_eq_false]
          intro x hx
          obtain ⟨j, hj, rfl⟩ := List.mem_iff_getElem.1 hx
          have := A.out j xs[j] (by have := Hn.out; omega) (List.getElem?_eq_getElem _)
          simp [this]
        have HR := Lib.hid hr
        clear hr
        go_wp2
        go_ret
        exact ⟨ret_bool HR.out.symm, BW.out⟩
end Go.Proofs.Ytopfdnflejbgaaa
