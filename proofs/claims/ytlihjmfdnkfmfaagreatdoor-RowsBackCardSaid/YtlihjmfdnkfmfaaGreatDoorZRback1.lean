/- Parts of the proof: Mk, Open, Jv. -/
import Derived.Test.YtlihjmfdnkfmfaaGreatDoorZRback0
import Derived.Test.YtlihjmfdnkfmfaaGreatDoorProg
import Derived.Deep.Slices
import Derived.ChangeSame
import Derived.SizedLaws
namespace Go.Proofs.YtlihjmfdnkfmfaaGreatDoor
open Go.RowKit

structure Mk where
  t : Int
  u : Int
deriving DecidableEq
instance : Inhabited Mk := ⟨⟨0, 0⟩⟩

def mkTy : Ty Mk where
  sz := 2
  pos := by decide
  R := fun _ _ x cs => cs = [.int .i64 x.t, .int .i64 x.u]
  len := by rintro _ _ _ _ rfl; rfl
  one := by rintro _ _ _ _ rfl u hu; simp at hu; rcases hu with rfl | rfl <;> rfl
  mono := fun _ h => h
  frame := fun _ h => h
  bound := fun h => h

theorem mk_cells {w : World} {F : Nat → Prop} {xs : List Mk} {b o : Nat} (h : ∃ cs, Chunks mkTy w F xs cs ∧ ∀ j u, cs[j]? = some u → w.cell? ⟨b, o + j, none⟩ = some u) :
    ∀ j x, xs[j]? = some x → w.cell? ⟨b, o + j * 2, none⟩ = some (.int .i64 x.t) ∧ w.cell? ⟨b, o + j * 2 + 1, none⟩ = some (.int .i64 x.u) := by
  obtain ⟨cs, h1, h2⟩ := h
  intro j x hj
  obtain ⟨c, rfl, h3⟩ := h1.get j x hj
  exact ⟨h2 _ _ (h3 0 _ rfl), h2 _ _ (h3 1 _ rfl)⟩

/-- a predicate on marks, as a function value -/
def Pred1 (fv : Value) (p : Mk → Bool) (w : World) : Prop :=
  ∃ g fst cap, fv = .func (.func g) fst cap ∧ (∀ args w, (callFunc g args).run Tryz.prog w = .ok (.enter g args) w) ∧
    ∀ (W : World) (x : Mk), Below w.heap.size w W → Calls Tryz.prog g (fst ++ #[.agg #[.int .i64 x.t, .int .i64 x.u]] ++ cap) W fun e w' => e = .returned (.bool (p x)) ∧ Below W.heap.size W w'

def idxOf (p : Mk → Bool) (xs : List Mk) : Int := match xs.findIdx? p with | some i => i | none => -1

theorem idxOf_hit (p : Mk → Bool) (xs : List Mk) (k : Nat) (x : Mk) (hx : xs[k]? = some x) (hp : p x = true) (h : ∀ j y, j < k → xs[j]? = some y → p y = false) : idxOf p xs = k := by
  unfold idxOf
  have hk : k < xs.length := by
    rcases Nat.lt_or_ge k xs.length with h1 | h1
    · exact h1
    · simp [List.getElem?_eq_none h1] at hx
  have : xs.findIdx? p = some k := by
    rw [List.findIdx?_eq_some_iff_getElem]
    refine ⟨hk, ?_, fun j hj => ?_⟩
    · have : xs[k] = x := by simpa [List.getElem?_eq_getElem hk] using hx
      rw [this]; exact hp
    · have := h j xs[j] hj (List.getElem?_eq_getElem _)
      simp [this]
  rw [this]
theorem idxOf_miss (p : Mk → Bool) (xs : List Mk) (h : ∀ j y, j < xs.length → xs[j]? = some y → p y = false) : idxOf p xs = -1 := by
  unfold idxOf
  have : xs.findIdx? p = none := by
    rw [List.findIdx?_eq_none_iff]
    intro x hx
    obtain ⟨i, hi, rfl⟩ := List.mem_iff_getElem.1 hx
    exact h i _ hi (List.getElem?_eq_getElem _)
  rw [this]
set_option maxHeartbeats 400000 in
theorem indexFunc_any (fv sv : Value) (p : Mk → Bool) (F : Nat → Prop) (xs : List Mk) (w : World) (hs : Sl mkTy w F sv xs) (hf : Pred1 fv p w) :
    Calls Tryz.prog 166 #[sv, fv] w fun e w' => e = .returned (.int .i64 (idxOf p xs)) ∧ Below w.heap.size w w' := by
  obtain ⟨g, fst, cap, rfl, eg, hp⟩ := hf
  rcases hs with ⟨rfl, A, c, rfl⟩ | ⟨b, o, c, rfl, hFb, hlc, hcm, hel⟩
  · go_enter Tryz.func166, Tryz.ntmps166
    go_wp2
    go_loop [5, 8] (fun _ k => k = .int .i64 0) (fun _ _ => 0)
    case atStart => rfl
    case round =>
      subst hrel
      go_wp2
      go_ret
      exact ⟨rfl, Below.refl _ _⟩
  · have hc := mk_cells hel
    clear hel
    generalize hn : xs.length = n at *
    have Hn := Lib.hid hn; clear hn
    go_enter Tryz.func166, Tryz.ntmps166
    go_wp2
    go_loopg [5, 8] n (fun gg _ s8 wr => ∃ kk : Nat, kk ≤ n ∧ n - kk ≤ gg ∧ s8 = .int .i64 kk ∧ Aside (Below w.heap.size w wr) ∧ Aside (∀ j x, j < kk → xs[j]? = some x → p x = false))
    case atStart => exact ⟨0, Nat.zero_le _, by omega, rfl, Below.refl _ w, fun j x hj => absurd hj (Nat.not_lt_zero _)⟩
    case round =>
      obtain ⟨kk, hkk, hg, rfl, BW, A⟩ := hrel
      by_cases hlt : kk < n
      · have hltz : (kk : Int) < (n : Int) := by omega
        obtain ⟨x, hx⟩ : ∃ x, xs[kk]? = some x := ⟨xs[kk]'(by have := Hn.out; omega), List.getElem?_eq_getElem _⟩
        have l0 := cell_later' BW.out (hc kk x hx).1
        have l1 := cell_later' BW.out (hc kk x hx).2
        have hcall := hp wr x BW.out
        clear hc hp
        have Hx := Lib.hid hx; clear hx
        cases hq : p x with
        | true =>
          rw [hq] at hcall
          have Hq := Lib.hid hq; clear hq
          go_wp2_with fail
          refine Calls.mono hcall ?_
          rintro e w' ⟨rfl, hb'⟩
          go_wp2_with fail
          go_ret
          exact ⟨ret_i64 (idxOf_hit p xs kk x Hx.out Hq.out A.out).symm, BW.out.trans (hb'.mono BW.out.size)⟩
        | false =>
          rw [hq] at hcall
          have Hq := Lib.hid hq; clear hq
          go_wp2_with fail
          refine Calls.mono hcall ?_
          rintro e w' ⟨rfl, hb'⟩
          go_wp2_with fail
          go_roundg (n - (kk + 1))
          case measure => omega
          case rel =>
            refine ⟨kk + 1, by omega, by omega, by go_num, BW.out.trans (hb'.mono BW.out.size), (show Aside _ from fun j y hj hy => ?_)⟩
            by_cases e : j = kk
            · subst e
              obtain rfl := Option.some.inj (Hx.out.symm.trans hy)
              exact Hq.out
            · exact A.out j y (by omega) hy
      · have hltz : ¬ (kk : Int) < (n : Int) := by omega
        have : kk = n := by omega
        subst this
        go_wp2
        go_ret
        exact ⟨ret_i64 (idxOf_miss p xs (fun j y hj hy => A.out j y (by have := Hn.out; omega) hy)).symm, BW.out⟩
def okOne (x : Mk) : Bool := decide (0 ≤ x.t) && decide (x.t ≤ 1099511627776) && decide (1 ≤ x.u) && decide (x.u ≤ 1000000)
def okTwo (a x : Mk) : Bool := decide (x.t < a.t) && decide (a.u < x.u)
/-- may marks be, from a place on, behind another one -/
def okFrom : Option Mk → List Mk → Bool
  | _, [] => true
  | p, x :: r => okOne x && (match p with | some a => okTwo a x | none => true) && okFrom (some x) r
def mayB (l : List Mk) : Bool := okFrom none l && decide (l.length ≤ 8)

theorem okOne_cases (x : Mk) : (okOne x = true ∧ decide (x.t < 0) = false ∧ decide (1099511627776 < x.t) = false ∧ decide (x.u < 1) = false ∧ decide (1000000 < x.u) = false) ∨
    (okOne x = false ∧ ((decide (x.t < 0) = true) ∨ (decide (x.t < 0) = false ∧ decide (1099511627776 < x.t) = true) ∨ (decide (x.t < 0) = false ∧ decide (1099511627776 < x.t) = false ∧ decide (x.u < 1) = true) ∨
      (decide (x.t < 0) = false ∧ decide (1099511627776 < x.t) = false ∧ decide (x.u < 1) = false ∧ decide (1000000 < x.u) = true))) := by
  have : okOne x = true ↔ (¬ x.t < 0 ∧ ¬ 1099511627776 < x.t ∧ ¬ x.u < 1 ∧ ¬ 1000000 < x.u) := by simp [okOne]; omega
  simp only [decide_eq_false_iff_not, decide_eq_true_eq]
  cases h : okOne x
  · have h2 : ¬ (¬ x.t < 0 ∧ ¬ 1099511627776 < x.t ∧ ¬ x.u < 1 ∧ ¬ 1000000 < x.u) := by rw [← this, h]; simp
    right; refine ⟨rfl, ?_⟩; omega
  · exact .inl ⟨rfl, this.1 h⟩
theorem okTwo_cases (a x : Mk) : (okTwo a x = true ∧ decide (a.t ≤ x.t) = false ∧ decide (x.u ≤ a.u) = false) ∨ (okTwo a x = false ∧ ((decide (a.t ≤ x.t) = true) ∨ (decide (a.t ≤ x.t) = false ∧ decide (x.u ≤ a.u) = true))) := by
  have : okTwo a x = true ↔ (¬ a.t ≤ x.t ∧ ¬ x.u ≤ a.u) := by simp [okTwo]
  simp only [decide_eq_false_iff_not, decide_eq_true_eq]
  cases h : okTwo a x
  · have h2 : ¬ (¬ a.t ≤ x.t ∧ ¬ x.u ≤ a.u) := by rw [← this, h]; simp
    right; refine ⟨rfl, ?_⟩; omega
  · exact .inl ⟨rfl, this.1 h⟩

def prevOf (xs : List Mk) (k : Nat) : Option Mk := match k with | 0 => none | k + 1 => xs[k]?
theorem ok_step {xs : List Mk} {k : Nat} {x : Mk} (h : okFrom none xs = okFrom (prevOf xs k) (xs.drop k)) (hx : xs[k]? = some x) (ho : okOne x = true) (ht : ∀ a, prevOf xs k = some a → okTwo a x = true) :
    okFrom none xs = okFrom (prevOf xs (k + 1)) (xs.drop (k + 1)) := by
  rw [h, drop_of_get hx]
  show (okOne x && _ && _) = okFrom (xs[k]?) _
  rw [hx, ho]
  cases hp : prevOf xs k with
  | none => simp
  | some a => simp [ht a hp]
theorem ok_fail1 {xs : List Mk} {k : Nat} {x : Mk} (h : okFrom none xs = okFrom (prevOf xs k) (xs.drop k)) (hx : xs[k]? = some x) (ho : okOne x = false) : mayB xs = false := by
  rw [mayB, h, drop_of_get hx]; simp [okFrom, ho]
theorem ok_fail2 {xs : List Mk} {k : Nat} {x a : Mk} (h : okFrom none xs = okFrom (prevOf xs k) (xs.drop k)) (hx : xs[k]? = some x) (hp : prevOf xs k = some a) (ho : okTwo a x = false) : mayB xs = false := by
  rw [mayB, h, drop_of_get hx]; simp [okFrom, ho, hp]
theorem ok_end {xs : List Mk} {k : Nat} (h : okFrom none xs = okFrom (prevOf xs k) (xs.drop k)) (hx : xs.length = k) : mayB xs = decide (xs.length ≤ 8) := by
  subst hx
  rw [mayB, h]; simp [okFrom]

set_option maxHeartbeats 8000000 in
theorem may_any (sv : Value) (F : Nat → Prop) (xs : List Mk) (w : World) (hs : Sl mkTy w F sv xs) :
    Calls Tryz.prog 99 #[sv] w fun e w' => e = .returned (.bool (mayB xs)) ∧ Below w.heap.size w w' := by
  rcases hs with ⟨rfl, A, c, rfl⟩ | ⟨b, o, c, rfl, hFb, hlc, hcm, hel⟩
  · go_enter Tryz.func99, Tryz.ntmps99
    go_wp2
    go_loop [7] (fun k => k = .int .i64 0) (fun _ => 0)
    case atStart => rfl
    case round =>
      subst hrel
      go_wp2
      go_ret
      exact ⟨rfl, Below.refl _ _⟩
  · have hc := mk_cells hel
    clear hel
    generalize hn : xs.length = n at *
    have Hn := Lib.hid hn; clear hn
    go_enter Tryz.func99, Tryz.ntmps99
    go_wp2
    go_loopg [7] n (fun gg s8 wr => ∃ kk : Nat, kk ≤ n ∧ n - kk ≤ gg ∧ s8 = .int .i64 kk ∧ Aside (Below w.heap.size w wr) ∧ Aside (okFrom none xs = okFrom (prevOf xs kk) (xs.drop kk)))
    case atStart => exact ⟨0, Nat.zero_le _, by omega, rfl, Below.refl _ w, rfl⟩
    case round =>
      obtain ⟨kk, hkk, hg, rfl, BW, A⟩ := hrel
      have hz := BW.out.size
      by_cases hlt : kk < n
      · have hltz : (kk : Int) < (n : Int) := by omega
        obtain ⟨x, hx⟩ : ∃ x, xs[kk]? = some x := ⟨xs[kk]'(by have := Hn.out; omega), List.getElem?_eq_getElem _⟩
        have l0 := cell_later' BW.out (hc kk x hx).1
        have l1 := cell_later' BW.out (hc kk x hx).2
        rcases Nat.eq_zero_or_pos kk with hk0 | hk0
        · subst hk0
          clear hc
          rw [Nat.zero_mul, Nat.add_zero] at l0 l1
          have Hx := Lib.hid hx; clear hx
          have HA := Lib.hid A.out; clear A
          rcases okOne_cases x with ⟨ho, h1, h2, h3, h4⟩ | ⟨ho, h | ⟨h, g⟩ | ⟨h, g, i⟩ | ⟨h, g, i, j⟩⟩
          · have Ho := Lib.hid ho; clear ho
            go_wp2
            go_quiet (fail)
            go_wp2
            go_roundg (n - 1)
            case measure => omega
            case rel =>
              refine ⟨1, by omega, by omega, by go_num, ?_, ok_step HA.out Hx.out Ho.out (fun a ha => by cases ha)⟩
              show Below _ _ _
              repeat (first | exact BW.out | apply bel_alloc | apply bel_drewN | apply bel_drew | (refine bel_set ?_ (by simp; omega) _))
          all_goals
            have Ho := Lib.hid ho; clear ho
            go_wp2
            go_quiet (fail)
            go_wp2
            go_ret
            refine ⟨ret_bool (ok_fail1 HA.out Hx.out Ho.out).symm, ?_⟩
            repeat (first | exact BW.out | apply bel_alloc | apply bel_drewN | apply bel_drew | (refine bel_set ?_ (by simp; omega) _))
        · obtain ⟨m, rfl⟩ : ∃ m, kk = m + 1 := ⟨kk - 1, by omega⟩
          obtain ⟨a, ha⟩ : ∃ x, xs[m]? = some x := ⟨xs[m]'(by have := Hn.out; omega), List.getElem?_eq_getElem _⟩
          have m0 := cell_later' BW.out (hc m a ha).1
          have m1 := cell_later' BW.out (hc m a ha).2
          have hbw : b < wr.heap.size := World.block_lt_of_cell? wr _ m0
          have e1 : (((m + 1 : Nat) : Int) - 1).toNat = m := by omega
          clear hc
          have Hx := Lib.hid hx; clear hx
          have Ha := Lib.hid ha; clear ha
          have HA := Lib.hid A.out; clear A
          have g0 : decide (0 < ((m + 1 : Nat) : Int)) = true := by simp
          have g8 : decide (0 < (m : Int) + 1) = true := by simp
          have hmi : (m : Int) < (n : Int) := by omega
          have hw1 : IntKind.i64.wrap ((m : Int) + 1 - 1) = (m : Int) := by rw [Int.add_sub_cancel]; exact IntWalk.i64_in _ (by omega)
          have hw2 : IntKind.i64.wrap (m : Int) = (m : Int) := IntWalk.i64_in _ (by omega)
          rcases okOne_cases x with ⟨ho, h1, h2, h3, h4⟩ | ⟨ho, h | ⟨h, g⟩ | ⟨h, g, i⟩ | ⟨h, g, i, j⟩⟩
          · have Ho := Lib.hid ho; clear ho
            rcases okTwo_cases a x with ⟨ho, h5, h6⟩ | ⟨ho, h5 | ⟨h5, h6⟩⟩
            · have Ho2 := Lib.hid ho; clear ho
              go_wp2
              go_quiet (fail)
              go_wp2
              go_roundg (n - (m + 1 + 1))
              case measure => omega
              case rel =>
                refine ⟨m + 1 + 1, by omega, by omega, by go_num, ?_, ok_step HA.out Hx.out Ho.out (fun b hb => by obtain rfl := Option.some.inj (Ha.out.symm.trans hb); exact Ho2.out)⟩
                show Below _ _ _
                repeat (first | exact BW.out | apply bel_alloc | apply bel_drewN | apply bel_drew | (refine bel_set ?_ (by simp; omega) _))
            all_goals
              have Ho2 := Lib.hid ho; clear ho
              go_wp2
              go_quiet (fail)
              go_wp2
              go_ret
              refine ⟨ret_bool (ok_fail2 HA.out Hx.out Ha.out Ho2.out).symm, ?_⟩
              repeat (first | exact BW.out | apply bel_alloc | apply bel_drewN | apply bel_drew | (refine bel_set ?_ (by simp; omega) _))
          all_goals
            have Ho := Lib.hid ho; clear ho
            go_wp2
            go_quiet (fail)
            go_wp2
            go_ret
            refine ⟨ret_bool (ok_fail1 HA.out Hx.out Ho.out).symm, ?_⟩
            repeat (first | exact BW.out | apply bel_alloc | apply bel_drewN | apply bel_drew | (refine bel_set ?_ (by simp; omega) _))
      · have hltz : ¬ (kk : Int) < (n : Int) := by omega
        have : kk = n := by omega
        subst this
        go_wp2
        go_ret
        exact ⟨ret_bool (by rw [ok_end A.out Hn.out, Hn.out]; simp; omega), BW.out⟩
end Go.Proofs.YtlihjmfdnkfmfaaGreatDoor
namespace Go.Proofs.YtlihjmfdnkfmfaaGreatDoor
open Go.RowKit Go.Deep Go.ChangeShapes Go.WideShapes

section
variable {H : Type} {enc : TypeId × Value → H} {P : Program} {w : World} {base : Nat} {spare : Nat → Bool} {held : Bool}

theorem opens_slice {α : Type} {T : Ty α} {t e : TypeId} (ht : P.underlying t = some (.slice e)) (hsz : P.cellsOf e = T.sz)
    (hel : ∀ n cs y, DataW.trod enc P w base spare held n e cs = some y → ∃ x, T.R w (fun _ => True) x cs) {n : Nat} {v : Value} {y : DataW H × List MemPlace}
    (h : DataW.trod enc P w base spare held n t [v] = some y) :
    ∃ xs : List α, Sl T w (fun _ => True) v xs ∧ ((y.1 = .nil ∧ xs = []) ∨ ∃ elems rest, y.1 = .slice elems rest ∧ elems.length = xs.length) := by
  rcases open_slice ht h with ⟨h0, rfl⟩ | ⟨a, len, cap, m, k, D, Pl, h0, hb, hl, hm, hmm, rfl, hi⟩
  · obtain rfl : v = .slice none 0 0 := by simpa using h0
    exact ⟨[], Sl.nil none 0, .inl ⟨rfl, rfl⟩⟩
  · obtain rfl : v = .slice (some a) len cap := by simpa using h0
    have hlm : len ≤ m := by rw [hmm]; split <;> omega
    have hcell : ∀ i, i < len → ∃ x cs, T.R w (fun _ => True) x cs ∧ cs.length = T.sz ∧ ∀ j u, cs[j]? = some u → w.cell? ((a.add (i * T.sz)).add j) = some u := by
      intro i hil
      obtain ⟨cs, hc, ht'⟩ := hi i (by omega)
      obtain ⟨x, hx⟩ := hel _ _ _ ht'
      obtain ⟨_, hlen, hcc⟩ := World.cells?_some hc
      refine ⟨x, cs, hx, T.len hx, fun j u hj => ?_⟩
      have := lt_of_get hj
      rw [hsz] at hcc
      rw [hcc j (by rw [← T.len hx]; exact this)]
      exact hj
    rcases Nat.eq_zero_or_pos len with h00 | hp
    · subst h00
      exact ⟨[], Sl.nil (some a) cap, .inr ⟨_, _, rfl, by simp⟩⟩
    · obtain ⟨b, o, rfl⟩ : ∃ b o, a = ⟨b, o, none⟩ := by
        obtain ⟨x, cs, hx, hlc, hc⟩ := hcell 0 hp
        have := hc 0 (cs[0]'(by rw [hlc]; exact T.pos)) (List.getElem?_eq_getElem _)
        rw [Nat.zero_mul] at this
        have e1 : (a.add 0).add 0 = a := by simp [Addr.add]
        rw [e1] at this
        obtain ⟨b, o, sp⟩ := a
        refine ⟨b, o, ?_⟩
        cases sp with
        | none => rfl
        | some q =>
          exfalso
          unfold World.cell? at this
          split at this <;> simp at this
      have hbuild : ∀ l, l ≤ len → ∃ (xs : List α) (cs : List Value), xs.length = l ∧ Chunks T w (fun _ => True) xs cs ∧ ∀ j u, cs[j]? = some u → w.cell? ⟨b, o + j, none⟩ = some u := by
        intro l
        induction l with
        | zero => intro _; exact ⟨[], [], rfl, rfl, fun j u hj => by simp at hj⟩
        | succ l ih =>
          intro hll
          obtain ⟨xs, cs, h1, h2, h3⟩ := ih (by omega)
          obtain ⟨x, c, h4, h5, h6⟩ := hcell l (by omega)
          refine ⟨xs ++ [x], cs ++ c, by simp [h1], h2.append (Chunks.single h4), fun j u hj => ?_⟩
          have hcl : cs.length = l * T.sz := by rw [h2.len, h1]
          rcases Nat.lt_or_ge j cs.length with hj2 | hj2
          · rw [List.getElem?_append_left hj2] at hj
            exact h3 j u hj
          · rw [List.getElem?_append_right hj2] at hj
            have := h6 _ _ hj
            rw [Addr.add_lit, Addr.add_lit] at this
            rw [show o + j = o + l * T.sz + (j - cs.length) by omega]
            exact this
      obtain ⟨xs, cs, h1, h2, h3⟩ := hbuild len (Nat.le_refl _)
      refine ⟨xs, .inr ⟨b, o, cap, by rw [h1], trivial, by omega, by simpa [maxLen] using hm, cs, h2, h3⟩, .inr ⟨_, _, rfl, by simp [h1]⟩⟩

end
end Go.Proofs.YtlihjmfdnkfmfaaGreatDoor
namespace Go.Proofs.YtlihjmfdnkfmfaaGreatDoor
open Go.RowKit

inductive JV where
  | mk (k n : Int) (s : ByteArray) (l : List JV) (m : List (ByteArray × JV))
namespace JV
def k : JV → Int | mk k _ _ _ _ => k
def n : JV → Int | mk _ n _ _ _ => n
def s : JV → ByteArray | mk _ _ s _ _ => s
def l : JV → List JV | mk _ _ _ l _ => l
def m : JV → List (ByteArray × JV) | mk _ _ _ _ m => m
end JV

mutual
def JR (w : World) (F : Nat → Prop) : JV → List Value → Prop
  | .mk k n s l m, cs => ∃ vl vm, (cs = [.int .i64 k, .int .i64 n, .string s, vl, vm] ∧ s.size ≤ 9223372036854775807) ∧
      ((l = [] ∧ ∃ A c, vl = .slice A 0 c) ∨ (∃ b o c, vl = .slice (some ⟨b, o, none⟩) l.length c ∧ F b ∧ l.length ≤ c ∧ c ≤ 9223372036854775807 ∧ ∃ cs, JRs w F l cs ∧ ∀ j u, cs[j]? = some u → w.cell? ⟨b, o + j, none⟩ = some u)) ∧
      ((m = [] ∧ ∃ A c, vm = .slice A 0 c) ∨ (∃ b o c, vm = .slice (some ⟨b, o, none⟩) m.length c ∧ F b ∧ m.length ≤ c ∧ c ≤ 9223372036854775807 ∧ ∃ cs, JRm w F m cs ∧ ∀ j u, cs[j]? = some u → w.cell? ⟨b, o + j, none⟩ = some u))
def JRs (w : World) (F : Nat → Prop) : List JV → List Value → Prop
  | [], cs => cs = []
  | x :: xs, cs => ∃ c r, cs = c ++ r ∧ JR w F x c ∧ JRs w F xs r
def JRm (w : World) (F : Nat → Prop) : List (ByteArray × JV) → List Value → Prop
  | [], cs => cs = []
  | (nm, x) :: xs, cs => ∃ c r, (cs = (.string nm :: c) ++ r ∧ nm.size ≤ 9223372036854775807) ∧ JR w F x c ∧ JRm w F xs r
end

mutual
theorem JR_mono {w : World} {F F' : Nat → Prop} (h : ∀ k, F k → F' k) : ∀ (x : JV) (cs : List Value), JR w F x cs → JR w F' x cs
  | .mk k n s l m, cs, hx => by
    simp only [JR] at hx ⊢
    obtain ⟨vl, vm, e, h1, h2⟩ := hx
    refine ⟨vl, vm, e, ?_, ?_⟩
    · rcases h1 with h1 | ⟨b, o, c, e1, e2, e3, e4, cs', e5, e6⟩
      · exact .inl h1
      · exact .inr ⟨b, o, c, e1, h _ e2, e3, e4, cs', JRs_mono h l cs' e5, e6⟩
    · rcases h2 with h1 | ⟨b, o, c, e1, e2, e3, e4, cs', e5, e6⟩
      · exact .inl h1
      · exact .inr ⟨b, o, c, e1, h _ e2, e3, e4, cs', JRm_mono h m cs' e5, e6⟩
theorem JRs_mono {w : World} {F F' : Nat → Prop} (h : ∀ k, F k → F' k) : ∀ (x : List JV) (cs : List Value), JRs w F x cs → JRs w F' x cs
  | [], cs, hx => by simpa only [JRs] using hx
  | x :: xs, cs, hx => by
    simp only [JRs] at hx ⊢
    obtain ⟨c, r, e, h1, h2⟩ := hx
    exact ⟨c, r, e, JR_mono h x c h1, JRs_mono h xs r h2⟩
theorem JRm_mono {w : World} {F F' : Nat → Prop} (h : ∀ k, F k → F' k) : ∀ (x : List (ByteArray × JV)) (cs : List Value), JRm w F x cs → JRm w F' x cs
  | [], cs, hx => by simpa only [JRm] using hx
  | (nm, x) :: xs, cs, hx => by
    simp only [JRm] at hx ⊢
    obtain ⟨c, r, e, h1, h2⟩ := hx
    exact ⟨c, r, e, JR_mono h x c h1, JRm_mono h xs r h2⟩
end

mutual
theorem JR_frame {w w' : World} {F : Nat → Prop} (h : ∀ k, F k → w'.heap[k]? = w.heap[k]?) : ∀ (x : JV) (cs : List Value), JR w F x cs → JR w' F x cs
  | .mk k n s l m, cs, hx => by
    simp only [JR] at hx ⊢
    obtain ⟨vl, vm, e, h1, h2⟩ := hx
    refine ⟨vl, vm, e, ?_, ?_⟩
    · rcases h1 with h1 | ⟨b, o, c, e1, e2, e3, e4, cs', e5, e6⟩
      · exact .inl h1
      · exact .inr ⟨b, o, c, e1, e2, e3, e4, cs', JRs_frame h l cs' e5, fun j u hj => (World.cell?_of_block (w := w) (a := ⟨b, o + j, none⟩) (h b e2)).trans (e6 j u hj)⟩
    · rcases h2 with h1 | ⟨b, o, c, e1, e2, e3, e4, cs', e5, e6⟩
      · exact .inl h1
      · exact .inr ⟨b, o, c, e1, e2, e3, e4, cs', JRm_frame h m cs' e5, fun j u hj => (World.cell?_of_block (w := w) (a := ⟨b, o + j, none⟩) (h b e2)).trans (e6 j u hj)⟩
theorem JRs_frame {w w' : World} {F : Nat → Prop} (h : ∀ k, F k → w'.heap[k]? = w.heap[k]?) : ∀ (x : List JV) (cs : List Value), JRs w F x cs → JRs w' F x cs
  | [], cs, hx => by simpa only [JRs] using hx
  | x :: xs, cs, hx => by
    simp only [JRs] at hx ⊢
    obtain ⟨c, r, e, h1, h2⟩ := hx
    exact ⟨c, r, e, JR_frame h x c h1, JRs_frame h xs r h2⟩
theorem JRm_frame {w w' : World} {F : Nat → Prop} (h : ∀ k, F k → w'.heap[k]? = w.heap[k]?) : ∀ (x : List (ByteArray × JV)) (cs : List Value), JRm w F x cs → JRm w' F x cs
  | [], cs, hx => by simpa only [JRm] using hx
  | (nm, x) :: xs, cs, hx => by
    simp only [JRm] at hx ⊢
    obtain ⟨c, r, e, h1, h2⟩ := hx
    exact ⟨c, r, e, JR_frame h x c h1, JRm_frame h xs r h2⟩
end

theorem JR_form {w : World} {F : Nat → Prop} {x : JV} {cs : List Value} (h : JR w F x cs) : ∃ A1 n1 c1 A2 n2 c2, cs = [.int .i64 x.k, .int .i64 x.n, .string x.s, .slice A1 n1 c1, .slice A2 n2 c2] := by
  obtain ⟨k, n, s, l, m⟩ := x
  simp only [JR] at h
  obtain ⟨vl, vm, ⟨rfl, _⟩, h1, h2⟩ := h
  rcases h1 with ⟨_, A, c, rfl⟩ | ⟨b, o, c, rfl, _⟩ <;> rcases h2 with ⟨_, A', c', rfl⟩ | ⟨b', o', c', rfl, _⟩ <;> exact ⟨_, _, _, _, _, _, rfl⟩
theorem JR_len {w : World} {F : Nat → Prop} {x : JV} {cs : List Value} (h : JR w F x cs) : cs.length = 5 := by
  obtain ⟨_, _, _, _, _, _, rfl⟩ := JR_form h; rfl
theorem JR_one {w : World} {F : Nat → Prop} {x : JV} {cs : List Value} (h : JR w F x cs) : ∀ u ∈ cs, u.oneCell' = true := by
  obtain ⟨_, _, _, _, _, _, rfl⟩ := JR_form h
  intro u hu
  simp at hu
  rcases hu with rfl | rfl | rfl | rfl | rfl <;> rfl

mutual
theorem JR_bound {w : World} {F : Nat → Prop} : ∀ (x : JV) (cs : List Value), JR w F x cs → JR w (fun k => F k ∧ k < w.heap.size) x cs
  | .mk k n s l m, cs, hx => by
    simp only [JR] at hx ⊢
    obtain ⟨vl, vm, e, h1, h2⟩ := hx
    refine ⟨vl, vm, e, ?_, ?_⟩
    · rcases h1 with h1 | ⟨b, o, c, e1, e2, e3, e4, cs', e5, e6⟩
      · exact .inl h1
      · match l, e1, e3, e5 with
        | [], e1, _, _ => exact .inl ⟨rfl, _, _, e1⟩
        | x :: xs, e1, e3, e5 =>
          refine .inr ⟨b, o, c, e1, ⟨e2, ?_⟩, e3, e4, cs', JRs_bound (x :: xs) cs' e5, e6⟩
          simp only [JRs] at e5
          obtain ⟨c1, r1, rfl, hc1, _⟩ := e5
          have hl := JR_len hc1
          match c1, hl with
          | u :: _, _ => exact World.block_lt_of_cell? w _ (e6 0 u rfl)
    · rcases h2 with h1 | ⟨b, o, c, e1, e2, e3, e4, cs', e5, e6⟩
      · exact .inl h1
      · match m, e1, e3, e5 with
        | [], e1, _, _ => exact .inl ⟨rfl, _, _, e1⟩
        | (nm, x) :: xs, e1, e3, e5 =>
          refine .inr ⟨b, o, c, e1, ⟨e2, ?_⟩, e3, e4, cs', JRm_bound ((nm, x) :: xs) cs' e5, e6⟩
          simp only [JRm] at e5
          obtain ⟨c1, r1, ⟨rfl, _⟩, hc1, _⟩ := e5
          exact World.block_lt_of_cell? w _ (e6 0 _ rfl)
theorem JRs_bound {w : World} {F : Nat → Prop} : ∀ (x : List JV) (cs : List Value), JRs w F x cs → JRs w (fun k => F k ∧ k < w.heap.size) x cs
  | [], cs, hx => by simpa only [JRs] using hx
  | x :: xs, cs, hx => by
    simp only [JRs] at hx ⊢
    obtain ⟨c, r, e, h1, h2⟩ := hx
    exact ⟨c, r, e, JR_bound x c h1, JRs_bound xs r h2⟩
theorem JRm_bound {w : World} {F : Nat → Prop} : ∀ (x : List (ByteArray × JV)) (cs : List Value), JRm w F x cs → JRm w (fun k => F k ∧ k < w.heap.size) x cs
  | [], cs, hx => by simpa only [JRm] using hx
  | (nm, x) :: xs, cs, hx => by
    simp only [JRm] at hx ⊢
    obtain ⟨c, r, e, h1, h2⟩ := hx
    exact ⟨c, r, e, JR_bound x c h1, JRm_bound xs r h2⟩
end

def jvTy : Ty JV where
  sz := 5
  pos := by decide
  R := JR
  len := JR_len
  one := JR_one
  mono := fun h hx => JR_mono h _ _ hx
  frame := fun h hx => JR_frame h _ _ hx
  bound := fun hx => JR_bound _ _ hx

def memTy : Ty (ByteArray × JV) where
  sz := 6
  pos := by decide
  R := fun w F x cs => ∃ c, (cs = .string x.1 :: c ∧ x.1.size ≤ 9223372036854775807) ∧ JR w F x.2 c
  len := by rintro w F x cs ⟨c, ⟨rfl, _⟩, h⟩; simp [JR_len h]
  one := by
    rintro w F x cs ⟨c, ⟨rfl, _⟩, h⟩ u hu
    rcases List.mem_cons.1 hu with rfl | hu
    · rfl
    · exact JR_one h u hu
  mono := by rintro w F F' x cs hF ⟨c, e, h⟩; exact ⟨c, e, JR_mono hF _ _ h⟩
  frame := by rintro w w' F x cs hF ⟨c, e, h⟩; exact ⟨c, e, JR_frame hF _ _ h⟩
  bound := by rintro w F x cs ⟨c, e, h⟩; exact ⟨c, e, JR_bound _ _ h⟩

theorem JRs_chunks {w : World} {F : Nat → Prop} : ∀ (xs : List JV) (cs : List Value), JRs w F xs cs ↔ Chunks jvTy w F xs cs
  | [], cs => by simp only [JRs, Chunks]
  | x :: xs, cs => by
    simp only [JRs, Chunks]
    constructor
    · rintro ⟨c, r, e, h1, h2⟩; exact ⟨c, r, e, h1, (JRs_chunks xs r).1 h2⟩
    · rintro ⟨c, r, e, h1, h2⟩; exact ⟨c, r, e, h1, (JRs_chunks xs r).2 h2⟩
theorem JRm_chunks {w : World} {F : Nat → Prop} : ∀ (xs : List (ByteArray × JV)) (cs : List Value), JRm w F xs cs ↔ Chunks memTy w F xs cs
  | [], cs => by simp only [JRm, Chunks]
  | (nm, x) :: xs, cs => by
    simp only [JRm, Chunks]
    constructor
    · rintro ⟨c, r, ⟨e, hz⟩, h1, h2⟩; exact ⟨.string nm :: c, r, e, ⟨c, ⟨rfl, hz⟩, h1⟩, (JRm_chunks xs r).1 h2⟩
    · rintro ⟨c0, r, e, ⟨c, ⟨e0, hz⟩, h1⟩, h2⟩; exact ⟨c, r, ⟨by rw [e, e0], hz⟩, h1, (JRm_chunks xs r).2 h2⟩

/-- a value's cells -/
theorem JR_iff {w : World} {F : Nat → Prop} {x : JV} {cs : List Value} : JR w F x cs ↔ ∃ vl vm, (cs = [.int .i64 x.k, .int .i64 x.n, .string x.s, vl, vm] ∧ x.s.size ≤ 9223372036854775807) ∧ Sl jvTy w F vl x.l ∧ Sl memTy w F vm x.m := by
  obtain ⟨k, n, s, l, m⟩ := x
  simp only [JR, Sl, JRs_chunks, JRm_chunks]
  rfl

/-- a member's cells -/
theorem mem_cells {w : World} {F : Nat → Prop} {v : Value} {xs : List (ByteArray × JV)} (hs : Sl memTy w F v xs) : ∃ A c, v = .slice A xs.length c ∧ xs.length ≤ 9223372036854775807 ∧ ∀ k nm y, xs[k]? = some (nm, y) → ∃ b o A1 n1 c1 A2 n2 c2, A = some ⟨b, o, none⟩ ∧ nm.size ≤ 9223372036854775807 ∧
    w.cell? ⟨b, o + k * 6, none⟩ = some (.string nm) ∧ w.cell? ⟨b, o + k * 6 + 1, none⟩ = some (.int .i64 y.k) ∧ w.cell? ⟨b, o + k * 6 + 2, none⟩ = some (.int .i64 y.n) ∧ w.cell? ⟨b, o + k * 6 + 3, none⟩ = some (.string y.s) ∧
    w.cell? ⟨b, o + k * 6 + 4, none⟩ = some (.slice A1 n1 c1) ∧ w.cell? ⟨b, o + k * 6 + 5, none⟩ = some (.slice A2 n2 c2) ∧ JR w F y [.int .i64 y.k, .int .i64 y.n, .string y.s, .slice A1 n1 c1, .slice A2 n2 c2] := by
  rcases hs with ⟨rfl, A, c, rfl⟩ | ⟨b, o, c', rfl, _, h3, h4, cs, h1, h2⟩
  · exact ⟨A, c, rfl, by simp, fun k nm y hk => by simp at hk⟩
  · refine ⟨_, _, rfl, by omega, fun k nm y hk => ?_⟩
    obtain ⟨c0, ⟨c1, ⟨rfl, hz⟩, hj⟩, hg⟩ := h1.get k (nm, y) hk
    obtain ⟨A1, n1, c1, A2, n2, c2, rfl⟩ := JR_form hj
    have g := fun i u (hi : (Value.string nm :: [.int .i64 y.k, .int .i64 y.n, .string y.s, .slice A1 n1 c1, .slice A2 n2 c2])[i]? = some u) => h2 _ _ (hg i u hi)
    exact ⟨b, o, A1, n1, c1, A2, n2, c2, rfl, hz, g 0 _ rfl, g 1 _ rfl, g 2 _ rfl, g 3 _ rfl, g 4 _ rfl, g 5 _ rfl, hj⟩
/-- an element's cells -/
theorem val_cells {w : World} {F : Nat → Prop} {v : Value} {xs : List JV} (hs : Sl jvTy w F v xs) : ∃ A c, v = .slice A xs.length c ∧ xs.length ≤ 9223372036854775807 ∧ ∀ k y, xs[k]? = some y → ∃ b o A1 n1 c1 A2 n2 c2, A = some ⟨b, o, none⟩ ∧
    w.cell? ⟨b, o + k * 5, none⟩ = some (.int .i64 y.k) ∧ w.cell? ⟨b, o + k * 5 + 1, none⟩ = some (.int .i64 y.n) ∧ w.cell? ⟨b, o + k * 5 + 2, none⟩ = some (.string y.s) ∧
    w.cell? ⟨b, o + k * 5 + 3, none⟩ = some (.slice A1 n1 c1) ∧ w.cell? ⟨b, o + k * 5 + 4, none⟩ = some (.slice A2 n2 c2) ∧ JR w F y [.int .i64 y.k, .int .i64 y.n, .string y.s, .slice A1 n1 c1, .slice A2 n2 c2] := by
  rcases hs with ⟨rfl, A, c, rfl⟩ | ⟨b, o, c', rfl, _, h3, h4, cs, h1, h2⟩
  · exact ⟨A, c, rfl, by simp, fun k y hk => by simp at hk⟩
  · refine ⟨_, _, rfl, by omega, fun k y hk => ?_⟩
    obtain ⟨c0, hj, hg⟩ := h1.get k y hk
    obtain ⟨A1, n1, c1, A2, n2, c2, rfl⟩ := JR_form hj
    have g := fun i u (hi : [Value.int .i64 y.k, .int .i64 y.n, .string y.s, .slice A1 n1 c1, .slice A2 n2 c2][i]? = some u) => h2 _ _ (hg i u hi)
    exact ⟨b, o, A1, n1, c1, A2, n2, c2, rfl, g 0 _ rfl, g 1 _ rfl, g 2 _ rfl, g 3 _ rfl, g 4 _ rfl, hj⟩
theorem cell_newB (w : World) (cs : Array Value) (t : TypeId) (i : Nat) (v : Value) (h : cs.toList[i]? = some v) : (w.alloc (.cells cs t)).cell? ⟨w.heap.size, i, none⟩ = some v := by
  have := heap_alloc_new w (.cells cs t)
  unfold World.cell?
  simp only [this]
  rw [Array.getElem?_toList] at h
  exact h
end Go.Proofs.YtlihjmfdnkfmfaaGreatDoor
