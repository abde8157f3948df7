/- Marks: the functions of rows that look at marks, and slices' functions with a predicate on marks. -/
import Derived.Test.YtjjgbgojlhaapaaDoorLib
import Derived.Test.YtjjgbgojlhaapaaDoorProg
namespace Go.Proofs.YtjjgbgojlhaapaaDoor
open Go.RowKit

structure Mk where
  t : Int
  u : Int
deriving DecidableEq
instance : Inhabited Mk := ⟨⟨0, 0⟩⟩

def mkTy : Ty Mk where
  sz := 2
  pos := by decide
  R := fun _ _ x cs => cs = [.int .i64 x.t, .int .i64 x.u]
  len := by rintro _ _ _ _ rfl; rfl
  one := by rintro _ _ _ _ rfl u hu; simp at hu; rcases hu with rfl | rfl <;> rfl
  mono := fun _ h => h
  frame := fun _ h => h
  bound := fun h => h

theorem mk_cells {w : World} {F : Nat → Prop} {xs : List Mk} {b o : Nat} (h : ∃ cs, Chunks mkTy w F xs cs ∧ ∀ j u, cs[j]? = some u → w.cell? ⟨b, o + j, none⟩ = some u) :
    ∀ j x, xs[j]? = some x → w.cell? ⟨b, o + j * 2, none⟩ = some (.int .i64 x.t) ∧ w.cell? ⟨b, o + j * 2 + 1, none⟩ = some (.int .i64 x.u) := by
  obtain ⟨cs, h1, h2⟩ := h
  intro j x hj
  obtain ⟨c, rfl, h3⟩ := h1.get j x hj
  exact ⟨h2 _ _ (h3 0 _ rfl), h2 _ _ (h3 1 _ rfl)⟩

/-- a predicate on marks, as a function value -/
def Pred1 (fv : Value) (p : Mk → Bool) (w : World) : Prop :=
  ∃ g fst cap, fv = .func (.func g) fst cap ∧ (∀ args w, (callFunc g args).run Tryd.prog w = .ok (.enter g args) w) ∧
    ∀ (W : World) (x : Mk), Below w.heap.size w W → Calls Tryd.prog g (fst ++ #[.agg #[.int .i64 x.t, .int .i64 x.u]] ++ cap) W fun e w' => e = .returned (.bool (p x)) ∧ Below W.heap.size W w'

def idxOf (p : Mk → Bool) (xs : List Mk) : Int := match xs.findIdx? p with | some i => i | none => -1

theorem idxOf_hit (p : Mk → Bool) (xs : List Mk) (k : Nat) (x : Mk) (hx : xs[k]? = some x) (hp : p x = true) (h : ∀ j y, j < k → xs[j]? = some y → p y = false) : idxOf p xs = k := by
  unfold idxOf
  have hk : k < xs.length := by
    rcases Nat.lt_or_ge k xs.length with h1 | h1
    · exact h1
    · simp [List.getElem?_eq_none h1] at hx
  have : xs.findIdx? p = some k := by
    rw [List.findIdx?_eq_some_iff_getElem]
    refine ⟨hk, ?_, fun j hj => ?_⟩
    · have : xs[k] = x := by simpa [List.getElem?_eq_getElem hk] using hx
      rw [this]; exact hp
    · have := h j xs[j] hj (List.getElem?_eq_getElem _)
      simp [this]
  rw [this]
theorem idxOf_miss (p : Mk → Bool) (xs : List Mk) (h : ∀ j y, j < xs.length → xs[j]? = some y → p y = false) : idxOf p xs = -1 := by
  unfold idxOf
  have : xs.findIdx? p = none := by
    rw [List.findIdx?_eq_none_iff]
    intro x hx
    obtain ⟨i, hi, rfl⟩ := List.mem_iff_getElem.1 hx
    exact h i _ hi (List.getElem?_eq_getElem _)
  rw [this]
set_option maxHeartbeats 400000 in
theorem indexFunc_any (fv sv : Value) (p : Mk → Bool) (F : Nat → Prop) (xs : List Mk) (w : World) (hs : Sl mkTy w F sv xs) (hf : Pred1 fv p w) :
    Calls Tryd.prog 63 #[sv, fv] w fun e w' => e = .returned (.int .i64 (idxOf p xs)) ∧ Below w.heap.size w w' := by
  obtain ⟨g, fst, cap, rfl, eg, hp⟩ := hf
  rcases hs with ⟨rfl, A, c, rfl⟩ | ⟨b, o, c, rfl, hFb, hlc, hcm, hel⟩
  · go_enter Tryd.func63, Tryd.ntmps63
    go_wp2
    go_loop [5, 8] (fun _ k => k = .int .i64 0) (fun _ _ => 0)
    case atStart => rfl
    case round =>
      subst hrel
      go_wp2
      go_ret
      exact ⟨rfl, Below.refl _ _⟩
  · have hc := mk_cells hel
    clear hel
    generalize hn : xs.length = n at *
    have Hn := Lib.hid hn; clear hn
    go_enter Tryd.func63, Tryd.ntmps63
    go_wp2
    go_loopg [5, 8] n (fun gg _ s8 wr => ∃ kk : Nat, kk ≤ n ∧ n - kk ≤ gg ∧ s8 = .int .i64 kk ∧ Aside (Below w.heap.size w wr) ∧ Aside (∀ j x, j < kk → xs[j]? = some x → p x = false))
    case atStart => exact ⟨0, Nat.zero_le _, by omega, rfl, Below.refl _ w, fun j x hj => absurd hj (Nat.not_lt_zero _)⟩
    case round =>
      obtain ⟨kk, hkk, hg, rfl, BW, A⟩ := hrel
      by_cases hlt : kk < n
      · have hltz : (kk : Int) < (n : Int) := by omega
        obtain ⟨x, hx⟩ : ∃ x, xs[kk]? = some x := ⟨xs[kk]'(by have := Hn.out; omega), List.getElem?_eq_getElem _⟩
        have l0 := cell_later' BW.out (hc kk x hx).1
        have l1 := cell_later' BW.out (hc kk x hx).2
        have hcall := hp wr x BW.out
        clear hc hp
        have Hx := Lib.hid hx; clear hx
        cases hq : p x with
        | true =>
          rw [hq] at hcall
          have Hq := Lib.hid hq; clear hq
          go_wp2_with fail
          refine Calls.mono hcall ?_
          rintro e w' ⟨rfl, hb'⟩
          go_wp2_with fail
          go_ret
          exact ⟨ret_i64 (idxOf_hit p xs kk x Hx.out Hq.out A.out).symm, BW.out.trans (hb'.mono BW.out.size)⟩
        | false =>
          rw [hq] at hcall
          have Hq := Lib.hid hq; clear hq
          go_wp2_with fail
          refine Calls.mono hcall ?_
          rintro e w' ⟨rfl, hb'⟩
          go_wp2_with fail
          go_roundg (n - (kk + 1))
          case measure => omega
          case rel =>
            refine ⟨kk + 1, by omega, by omega, by go_num, BW.out.trans (hb'.mono BW.out.size), (show Aside _ from fun j y hj hy => ?_)⟩
            by_cases e : j = kk
            · subst e
              obtain rfl := Option.some.inj (Hx.out.symm.trans hy)
              exact Hq.out
            · exact A.out j y (by omega) hy
      · have hltz : ¬ (kk : Int) < (n : Int) := by omega
        have : kk = n := by omega
        subst this
        go_wp2
        go_ret
        exact ⟨ret_i64 (idxOf_miss p xs (fun j y hj hy => A.out j y (by have := Hn.out; omega) hy)).symm, BW.out⟩
def okOne (x : Mk) : Bool := decide (0 ≤ x.t) && decide (x.t ≤ 1099511627776) && decide (1 ≤ x.u) && decide (x.u ≤ 1000000)
def okTwo (a x : Mk) : Bool := decide (x.t < a.t) && decide (a.u < x.u)
/-- may marks be, from a place on, behind another one -/
def okFrom : Option Mk → List Mk → Bool
  | _, [] => true
  | p, x :: r => okOne x && (match p with | some a => okTwo a x | none => true) && okFrom (some x) r
def mayB (l : List Mk) : Bool := okFrom none l && decide (l.length ≤ 8)

theorem okOne_cases (x : Mk) : (okOne x = true ∧ decide (x.t < 0) = false ∧ decide (1099511627776 < x.t) = false ∧ decide (x.u < 1) = false ∧ decide (1000000 < x.u) = false) ∨
    (okOne x = false ∧ ((decide (x.t < 0) = true) ∨ (decide (x.t < 0) = false ∧ decide (1099511627776 < x.t) = true) ∨ (decide (x.t < 0) = false ∧ decide (1099511627776 < x.t) = false ∧ decide (x.u < 1) = true) ∨
      (decide (x.t < 0) = false ∧ decide (1099511627776 < x.t) = false ∧ decide (x.u < 1) = false ∧ decide (1000000 < x.u) = true))) := by
  have : okOne x = true ↔ (¬ x.t < 0 ∧ ¬ 1099511627776 < x.t ∧ ¬ x.u < 1 ∧ ¬ 1000000 < x.u) := by simp [okOne]; omega
  simp only [decide_eq_false_iff_not, decide_eq_true_eq]
  cases h : okOne x
  · have h2 : ¬ (¬ x.t < 0 ∧ ¬ 1099511627776 < x.t ∧ ¬ x.u < 1 ∧ ¬ 1000000 < x.u) := by rw [← this, h]; simp
    right; refine ⟨rfl, ?_⟩; omega
  · exact .inl ⟨rfl, this.1 h⟩
theorem okTwo_cases (a x : Mk) : (okTwo a x = true ∧ decide (a.t ≤ x.t) = false ∧ decide (x.u ≤ a.u) = false) ∨ (okTwo a x = false ∧ ((decide (a.t ≤ x.t) = true) ∨ (decide (a.t ≤ x.t) = false ∧ decide (x.u ≤ a.u) = true))) := by
  have : okTwo a x = true ↔ (¬ a.t ≤ x.t ∧ ¬ x.u ≤ a.u) := by simp [okTwo]
  simp only [decide_eq_false_iff_not, decide_eq_true_eq]
  cases h : okTwo a x
  · have h2 : ¬ (¬ a.t ≤ x.t ∧ ¬ x.u ≤ a.u) := by rw [← this, h]; simp
    right; refine ⟨rfl, ?_⟩; omega
  · exact .inl ⟨rfl, this.1 h⟩

def prevOf (xs : List Mk) (k : Nat) : Option Mk := match k with | 0 => none | k + 1 => xs[k]?
theorem ok_step {xs : List Mk} {k : Nat} {x : Mk} (h : okFrom none xs = okFrom (prevOf xs k) (xs.drop k)) (hx : xs[k]? = some x) (ho : okOne x = true) (ht : ∀ a, prevOf xs k = some a → okTwo a x = true) :
    okFrom none xs = okFrom (prevOf xs (k + 1)) (xs.drop (k + 1)) := by
  rw [h, drop_of_get hx]
  show (okOne x && _ && _) = okFrom (xs[k]?) _
  rw [hx, ho]
  cases hp : prevOf xs k with
  | none => simp
  | some a => simp [ht a hp]
theorem ok_fail1 {xs : List Mk} {k : Nat} {x : Mk} (h : okFrom none xs = okFrom (prevOf xs k) (xs.drop k)) (hx : xs[k]? = some x) (ho : okOne x = false) : mayB xs = false := by
  rw [mayB, h, drop_of_get hx]; simp [okFrom, ho]
theorem ok_fail2 {xs : List Mk} {k : Nat} {x a : Mk} (h : okFrom none xs = okFrom (prevOf xs k) (xs.drop k)) (hx : xs[k]? = some x) (hp : prevOf xs k = some a) (ho : okTwo a x = false) : mayB xs = false := by
  rw [mayB, h, drop_of_get hx]; simp [okFrom, ho, hp]
theorem ok_end {xs : List Mk} {k : Nat} (h : okFrom none xs = okFrom (prevOf xs k) (xs.drop k)) (hx : xs.length = k) : mayB xs = decide (xs.length ≤ 8) := by
  subst hx
  rw [mayB, h]; simp [okFrom]

set_option maxHeartbeats 8000000 in
theorem may_any (sv : Value) (F : Nat → Prop) (xs : List Mk) (w : World) (hs : Sl mkTy w F sv xs) :
    Calls Tryd.prog 32 #[sv] w fun e w' => e = .returned (.bool (mayB xs)) ∧ Below w.heap.size w w' := by
  rcases hs with ⟨rfl, A, c, rfl⟩ | ⟨b, o, c, rfl, hFb, hlc, hcm, hel⟩
  · go_enter Tryd.func32, Tryd.ntmps32
    go_wp2
    go_loop [7] (fun k => k = .int .i64 0) (fun _ => 0)
    case atStart => rfl
    case round =>
      subst hrel
      go_wp2
      go_ret
      exact ⟨rfl, Below.refl _ _⟩
  · have hc := mk_cells hel
    clear hel
    generalize hn : xs.length = n at *
    have Hn := Lib.hid hn; clear hn
    go_enter Tryd.func32, Tryd.ntmps32
    go_wp2
    go_loopg [7] n (fun gg s8 wr => ∃ kk : Nat, kk ≤ n ∧ n - kk ≤ gg ∧ s8 = .int .i64 kk ∧ Aside (Below w.heap.size w wr) ∧ Aside (okFrom none xs = okFrom (prevOf xs kk) (xs.drop kk)))
    case atStart => exact ⟨0, Nat.zero_le _, by omega, rfl, Below.refl _ w, rfl⟩
    case round =>
      obtain ⟨kk, hkk, hg, rfl, BW, A⟩ := hrel
      have hz := BW.out.size
      by_cases hlt : kk < n
      · have hltz : (kk : Int) < (n : Int) := by omega
        obtain ⟨x, hx⟩ : ∃ x, xs[kk]? = some x := ⟨xs[kk]'(by have := Hn.out; omega), List.getElem?_eq_getElem _⟩
        have l0 := cell_later' BW.out (hc kk x hx).1
        have l1 := cell_later' BW.out (hc kk x hx).2
        rcases Nat.eq_zero_or_pos kk with hk0 | hk0
        · subst hk0
          clear hc
          rw [Nat.zero_mul, Nat.add_zero] at l0 l1
          have Hx := Lib.hid hx; clear hx
          have HA := Lib.hid A.out; clear A
          rcases okOne_cases x with ⟨ho, h1, h2, h3, h4⟩ | ⟨ho, h | ⟨h, g⟩ | ⟨h, g, i⟩ | ⟨h, g, i, j⟩⟩
          · have Ho := Lib.hid ho; clear ho
            go_wp2
            go_quiet (fail)
            go_wp2
            go_roundg (n - 1)
            case measure => omega
            case rel =>
              refine ⟨1, by omega, by omega, by go_num, ?_, ok_step HA.out Hx.out Ho.out (fun a ha => by cases ha)⟩
              show Below _ _ _
              repeat (first | exact BW.out | apply bel_alloc | apply bel_drewN | apply bel_drew | (refine bel_set ?_ (by simp; omega) _))
          all_goals
            have Ho := Lib.hid ho; clear ho
            go_wp2
            go_quiet (fail)
            go_wp2
            go_ret
            refine ⟨ret_bool (ok_fail1 HA.out Hx.out Ho.out).symm, ?_⟩
            repeat (first | exact BW.out | apply bel_alloc | apply bel_drewN | apply bel_drew | (refine bel_set ?_ (by simp; omega) _))
        · obtain ⟨m, rfl⟩ : ∃ m, kk = m + 1 := ⟨kk - 1, by omega⟩
          obtain ⟨a, ha⟩ : ∃ x, xs[m]? = some x := ⟨xs[m]'(by have := Hn.out; omega), List.getElem?_eq_getElem _⟩
          have m0 := cell_later' BW.out (hc m a ha).1
          have m1 := cell_later' BW.out (hc m a ha).2
          have hbw : b < wr.heap.size := World.block_lt_of_cell? wr _ m0
          have e1 : (((m + 1 : Nat) : Int) - 1).toNat = m := by omega
          clear hc
          have Hx := Lib.hid hx; clear hx
          have Ha := Lib.hid ha; clear ha
          have HA := Lib.hid A.out; clear A
          have g0 : decide (0 < ((m + 1 : Nat) : Int)) = true := by simp
          have g8 : decide (0 < (m : Int) + 1) = true := by simp
          have hmi : (m : Int) < (n : Int) := by omega
          have hw1 : IntKind.i64.wrap ((m : Int) + 1 - 1) = (m : Int) := by rw [Int.add_sub_cancel]; exact IntWalk.i64_in _ (by omega)
          have hw2 : IntKind.i64.wrap (m : Int) = (m : Int) := IntWalk.i64_in _ (by omega)
          rcases okOne_cases x with ⟨ho, h1, h2, h3, h4⟩ | ⟨ho, h | ⟨h, g⟩ | ⟨h, g, i⟩ | ⟨h, g, i, j⟩⟩
          · have Ho := Lib.hid ho; clear ho
            rcases okTwo_cases a x with ⟨ho, h5, h6⟩ | ⟨ho, h5 | ⟨h5, h6⟩⟩
            · have Ho2 := Lib.hid ho; clear ho
              go_wp2
              go_quiet (fail)
              go_wp2
              go_roundg (n - (m + 1 + 1))
              case measure => omega
              case rel =>
                refine ⟨m + 1 + 1, by omega, by omega, by go_num, ?_, ok_step HA.out Hx.out Ho.out (fun b hb => by obtain rfl := Option.some.inj (Ha.out.symm.trans hb); exact Ho2.out)⟩
                show Below _ _ _
                repeat (first | exact BW.out | apply bel_alloc | apply bel_drewN | apply bel_drew | (refine bel_set ?_ (by simp; omega) _))
            all_goals
              have Ho2 := Lib.hid ho; clear ho
              go_wp2
              go_quiet (fail)
              go_wp2
              go_ret
              refine ⟨ret_bool (ok_fail2 HA.out Hx.out Ha.out Ho2.out).symm, ?_⟩
              repeat (first | exact BW.out | apply bel_alloc | apply bel_drewN | apply bel_drew | (refine bel_set ?_ (by simp; omega) _))
          all_goals
            have Ho := Lib.hid ho; clear ho
            go_wp2
            go_quiet (fail)
            go_wp2
            go_ret
            refine ⟨ret_bool (ok_fail1 HA.out Hx.out Ho.out).symm, ?_⟩
            repeat (first | exact BW.out | apply bel_alloc | apply bel_drewN | apply bel_drew | (refine bel_set ?_ (by simp; omega) _))
      · have hltz : ¬ (kk : Int) < (n : Int) := by omega
        have : kk = n := by omega
        subst this
        go_wp2
        go_ret
        exact ⟨ret_bool (by rw [ok_end A.out Hn.out, Hn.out]; simp; omega), BW.out⟩
end Go.Proofs.YtjjgbgojlhaapaaDoor
