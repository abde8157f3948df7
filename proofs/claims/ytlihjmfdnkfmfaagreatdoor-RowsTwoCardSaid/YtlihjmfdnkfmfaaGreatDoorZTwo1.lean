/- Parts of the proof: Mk, Open, Jv, Shelf. -/
import Derived.Test.YtlihjmfdnkfmfaaGreatDoorZTwo0
import Derived.Test.YtlihjmfdnkfmfaaGreatDoorProg
import Derived.Deep.Slices
import Derived.ChangeSame
import Derived.SizedLaws
import Derived.Shelf.Strings.Builder1
import Derived.Shelf.Small.Bits
import Derived.Shelf.Small.Strs
import Derived.Shelf.Strings.BuilderF
import Derived.Shelf.Strings.BuilderK
import Derived.Shelf.Strings.BuilderRune
import Derived.Shelf.Utf8.AppendRune
import Derived.Shelf.Utf8.AppendRunePlain
import Derived.Shelf.Strconv.Itoa0
import Derived.Shelf.Strconv.Itoa1
import Derived.Shelf.LaysM
import Derived.Shelf.Strconv.Itoa2
import Derived.Shelf.Strconv.Itoa3
import Derived.Shelf.Strings.Search1
import Derived.Shelf.Unicode.Decode
import Derived.Shelf.Unicode.DecodeSlow
import Derived.Shelf.Unicode.DecodeAny
import Derived.Shelf.Slices.Turned
import Derived.Shelf.Unicode.ValidAny
namespace Go.Proofs.YtlihjmfdnkfmfaaGreatDoor
open Go.RowKit

structure Mk where
  t : Int
  u : Int
deriving DecidableEq
instance : Inhabited Mk := ⟨⟨0, 0⟩⟩

def mkTy : Ty Mk where
  sz := 2
  pos := by decide
  R := fun _ _ x cs => cs = [.int .i64 x.t, .int .i64 x.u]
  len := by rintro _ _ _ _ rfl; rfl
  one := by rintro _ _ _ _ rfl u hu; simp at hu; rcases hu with rfl | rfl <;> rfl
  mono := fun _ h => h
  frame := fun _ h => h
  bound := fun h => h

theorem mk_cells {w : World} {F : Nat → Prop} {xs : List Mk} {b o : Nat} (h : ∃ cs, Chunks mkTy w F xs cs ∧ ∀ j u, cs[j]? = some u → w.cell? ⟨b, o + j, none⟩ = some u) :
    ∀ j x, xs[j]? = some x → w.cell? ⟨b, o + j * 2, none⟩ = some (.int .i64 x.t) ∧ w.cell? ⟨b, o + j * 2 + 1, none⟩ = some (.int .i64 x.u) := by
  obtain ⟨cs, h1, h2⟩ := h
  intro j x hj
  obtain ⟨c, rfl, h3⟩ := h1.get j x hj
  exact ⟨h2 _ _ (h3 0 _ rfl), h2 _ _ (h3 1 _ rfl)⟩

/-- a predicate on marks, as a function value -/
def Pred1 (fv : Value) (p : Mk → Bool) (w : World) : Prop :=
  ∃ g fst cap, fv = .func (.func g) fst cap ∧ (∀ args w, (callFunc g args).run Tryz.prog w = .ok (.enter g args) w) ∧
    ∀ (W : World) (x : Mk), Below w.heap.size w W → Calls Tryz.prog g (fst ++ #[.agg #[.int .i64 x.t, .int .i64 x.u]] ++ cap) W fun e w' => e = .returned (.bool (p x)) ∧ Below W.heap.size W w'

def idxOf (p : Mk → Bool) (xs : List Mk) : Int := match xs.findIdx? p with | some i => i | none => -1

theorem idxOf_hit (p : Mk → Bool) (xs : List Mk) (k : Nat) (x : Mk) (hx : xs[k]? = some x) (hp : p x = true) (h : ∀ j y, j < k → xs[j]? = some y → p y = false) : idxOf p xs = k := by
  unfold idxOf
  have hk : k < xs.length := by
    rcases Nat.lt_or_ge k xs.length with h1 | h1
    · exact h1
    · simp [List.getElem?_eq_none h1] at hx
  have : xs.findIdx? p = some k := by
    rw [List.findIdx?_eq_some_iff_getElem]
    refine ⟨hk, ?_, fun j hj => ?_⟩
    · have : xs[k] = x := by simpa [List.getElem?_eq_getElem hk] using hx
      rw [this]; exact hp
    · have := h j xs[j] hj (List.getElem?_eq_getElem _)
      simp [this]
  rw [this]
theorem idxOf_miss (p : Mk → Bool) (xs : List Mk) (h : ∀ j y, j < xs.length → xs[j]? = some y → p y = false) : idxOf p xs = -1 := by
  unfold idxOf
  have : xs.findIdx? p = none := by
    rw [List.findIdx?_eq_none_iff]
    intro x hx
    obtain ⟨i, hi, rfl⟩ := List.mem_iff_getElem.1 hx
    exact h i _ hi (List.getElem?_eq_getElem _)
  rw [this]
set_option maxHeartbeats 400000 in
theorem indexFunc_any (fv sv : Value) (p : Mk → Bool) (F : Nat → Prop) (xs : List Mk) (w : World) (hs : Sl mkTy w F sv xs) (hf : Pred1 fv p w) :
    Calls Tryz.prog 166 #[sv, fv] w fun e w' => e = .returned (.int .i64 (idxOf p xs)) ∧ Below w.heap.size w w' := by
  obtain ⟨g, fst, cap, rfl, eg, hp⟩ := hf
  rcases hs with ⟨rfl, A, c, rfl⟩ | ⟨b, o, c, rfl, hFb, hlc, hcm, hel⟩
  · go_enter Tryz.func166, Tryz.ntmps166
    go_wp2
    go_loop [5, 8] (fun _ k => k = .int .i64 0) (fun _ _ => 0)
    case atStart => rfl
    case round =>
      subst hrel
      go_wp2
      go_ret
      exact ⟨rfl, Below.refl _ _⟩
  · have hc := mk_cells hel
    clear hel
    generalize hn : xs.length = n at *
    have Hn := Lib.hid hn; clear hn
    go_enter Tryz.func166, Tryz.ntmps166
    go_wp2
    go_loopg [5, 8] n (fun gg _ s8 wr => ∃ kk : Nat, kk ≤ n ∧ n - kk ≤ gg ∧ s8 = .int .i64 kk ∧ Aside (Below w.heap.size w wr) ∧ Aside (∀ j x, j < kk → xs[j]? = some x → p x = false))
    case atStart => exact ⟨0, Nat.zero_le _, by omega, rfl, Below.refl _ w, fun j x hj => absurd hj (Nat.not_lt_zero _)⟩
    case round =>
      obtain ⟨kk, hkk, hg, rfl, BW, A⟩ := hrel
      by_cases hlt : kk < n
      · have hltz : (kk : Int) < (n : Int) := by omega
        obtain ⟨x, hx⟩ : ∃ x, xs[kk]? = some x := ⟨xs[kk]'(by have := Hn.out; omega), List.getElem?_eq_getElem _⟩
        have l0 := cell_later' BW.out (hc kk x hx).1
        have l1 := cell_later' BW.out (hc kk x hx).2
        have hcall := hp wr x BW.out
        clear hc hp
        have Hx := Lib.hid hx; clear hx
        cases hq : p x with
        | true =>
          rw [hq] at hcall
          have Hq := Lib.hid hq; clear hq
          go_wp2_with fail
          refine Calls.mono hcall ?_
          rintro e w' ⟨rfl, hb'⟩
          go_wp2_with fail
          go_ret
          exact ⟨ret_i64 (idxOf_hit p xs kk x Hx.out Hq.out A.out).symm, BW.out.trans (hb'.mono BW.out.size)⟩
        | false =>
          rw [hq] at hcall
          have Hq := Lib.hid hq; clear hq
          go_wp2_with fail
          refine Calls.mono hcall ?_
          rintro e w' ⟨rfl, hb'⟩
          go_wp2_with fail
          go_roundg (n - (kk + 1))
          case measure => omega
          case rel =>
            refine ⟨kk + 1, by omega, by omega, by go_num, BW.out.trans (hb'.mono BW.out.size), (show Aside _ from fun j y hj hy => ?_)⟩
            by_cases e : j = kk
            · subst e
              obtain rfl := Option.some.inj (Hx.out.symm.trans hy)
              exact Hq.out
            · exact A.out j y (by omega) hy
      · have hltz : ¬ (kk : Int) < (n : Int) := by omega
        have : kk = n := by omega
        subst this
        go_wp2
        go_ret
        exact ⟨ret_i64 (idxOf_miss p xs (fun j y hj hy => A.out j y (by have := Hn.out; omega) hy)).symm, BW.out⟩
def okOne (x : Mk) : Bool := decide (0 ≤ x.t) && decide (x.t ≤ 1099511627776) && decide (1 ≤ x.u) && decide (x.u ≤ 1000000)
def okTwo (a x : Mk) : Bool := decide (x.t < a.t) && decide (a.u < x.u)
/-- may marks be, from a place on, behind another one -/
def okFrom : Option Mk → List Mk → Bool
  | _, [] => true
  | p, x :: r => okOne x && (match p with | some a => okTwo a x | none => true) && okFrom (some x) r
def mayB (l : List Mk) : Bool := okFrom none l && decide (l.length ≤ 8)

theorem okOne_cases (x : Mk) : (okOne x = true ∧ decide (x.t < 0) = false ∧ decide (1099511627776 < x.t) = false ∧ decide (x.u < 1) = false ∧ decide (1000000 < x.u) = false) ∨
    (okOne x = false ∧ ((decide (x.t < 0) = true) ∨ (decide (x.t < 0) = false ∧ decide (1099511627776 < x.t) = true) ∨ (decide (x.t < 0) = false ∧ decide (1099511627776 < x.t) = false ∧ decide (x.u < 1) = true) ∨
      (decide (x.t < 0) = false ∧ decide (1099511627776 < x.t) = false ∧ decide (x.u < 1) = false ∧ decide (1000000 < x.u) = true))) := by
  have : okOne x = true ↔ (¬ x.t < 0 ∧ ¬ 1099511627776 < x.t ∧ ¬ x.u < 1 ∧ ¬ 1000000 < x.u) := by simp [okOne]; omega
  simp only [decide_eq_false_iff_not, decide_eq_true_eq]
  cases h : okOne x
  · have h2 : ¬ (¬ x.t < 0 ∧ ¬ 1099511627776 < x.t ∧ ¬ x.u < 1 ∧ ¬ 1000000 < x.u) := by rw [← this, h]; simp
    right; refine ⟨rfl, ?_⟩; omega
  · exact .inl ⟨rfl, this.1 h⟩
theorem okTwo_cases (a x : Mk) : (okTwo a x = true ∧ decide (a.t ≤ x.t) = false ∧ decide (x.u ≤ a.u) = false) ∨ (okTwo a x = false ∧ ((decide (a.t ≤ x.t) = true) ∨ (decide (a.t ≤ x.t) = false ∧ decide (x.u ≤ a.u) = true))) := by
  have : okTwo a x = true ↔ (¬ a.t ≤ x.t ∧ ¬ x.u ≤ a.u) := by simp [okTwo]
  simp only [decide_eq_false_iff_not, decide_eq_true_eq]
  cases h : okTwo a x
  · have h2 : ¬ (¬ a.t ≤ x.t ∧ ¬ x.u ≤ a.u) := by rw [← this, h]; simp
    right; refine ⟨rfl, ?_⟩; omega
  · exact .inl ⟨rfl, this.1 h⟩

def prevOf (xs : List Mk) (k : Nat) : Option Mk := match k with | 0 => none | k + 1 => xs[k]?
theorem ok_step {xs : List Mk} {k : Nat} {x : Mk} (h : okFrom none xs = okFrom (prevOf xs k) (xs.drop k)) (hx : xs[k]? = some x) (ho : okOne x = true) (ht : ∀ a, prevOf xs k = some a → okTwo a x = true) :
    okFrom none xs = okFrom (prevOf xs (k + 1)) (xs.drop (k + 1)) := by
  rw [h, drop_of_get hx]
  show (okOne x && _ && _) = okFrom (xs[k]?) _
  rw [hx, ho]
  cases hp : prevOf xs k with
  | none => simp
  | some a => simp [ht a hp]
theorem ok_fail1 {xs : List Mk} {k : Nat} {x : Mk} (h : okFrom none xs = okFrom (prevOf xs k) (xs.drop k)) (hx : xs[k]? = some x) (ho : okOne x = false) : mayB xs = false := by
  rw [mayB, h, drop_of_get hx]; simp [okFrom, ho]
theorem ok_fail2 {xs : List Mk} {k : Nat} {x a : Mk} (h : okFrom none xs = okFrom (prevOf xs k) (xs.drop k)) (hx : xs[k]? = some x) (hp : prevOf xs k = some a) (ho : okTwo a x = false) : mayB xs = false := by
  rw [mayB, h, drop_of_get hx]; simp [okFrom, ho, hp]
theorem ok_end {xs : List Mk} {k : Nat} (h : okFrom none xs = okFrom (prevOf xs k) (xs.drop k)) (hx : xs.length = k) : mayB xs = decide (xs.length ≤ 8) := by
  subst hx
  rw [mayB, h]; simp [okFrom]

set_option maxHeartbeats 8000000 in
theorem may_any (sv : Value) (F : Nat → Prop) (xs : List Mk) (w : World) (hs : Sl mkTy w F sv xs) :
    Calls Tryz.prog 99 #[sv] w fun e w' => e = .returned (.bool (mayB xs)) ∧ Below w.heap.size w w' := by
  rcases hs with ⟨rfl, A, c, rfl⟩ | ⟨b, o, c, rfl, hFb, hlc, hcm, hel⟩
  · go_enter Tryz.func99, Tryz.ntmps99
    go_wp2
    go_loop [7] (fun k => k = .int .i64 0) (fun _ => 0)
    case atStart => rfl
    case round =>
      subst hrel
      go_wp2
      go_ret
      exact ⟨rfl, Below.refl _ _⟩
  · have hc := mk_cells hel
    clear hel
    generalize hn : xs.length = n at *
    have Hn := Lib.hid hn; clear hn
    go_enter Tryz.func99, Tryz.ntmps99
    go_wp2
    go_loopg [7] n (fun gg s8 wr => ∃ kk : Nat, kk ≤ n ∧ n - kk ≤ gg ∧ s8 = .int .i64 kk ∧ Aside (Below w.heap.size w wr) ∧ Aside (okFrom none xs = okFrom (prevOf xs kk) (xs.drop kk)))
    case atStart => exact ⟨0, Nat.zero_le _, by omega, rfl, Below.refl _ w, rfl⟩
    case round =>
      obtain ⟨kk, hkk, hg, rfl, BW, A⟩ := hrel
      have hz := BW.out.size
      by_cases hlt : kk < n
      · have hltz : (kk : Int) < (n : Int) := by omega
        obtain ⟨x, hx⟩ : ∃ x, xs[kk]? = some x := ⟨xs[kk]'(by have := Hn.out; omega), List.getElem?_eq_getElem _⟩
        have l0 := cell_later' BW.out (hc kk x hx).1
        have l1 := cell_later' BW.out (hc kk x hx).2
        rcases Nat.eq_zero_or_pos kk with hk0 | hk0
        · subst hk0
          clear hc
          rw [Nat.zero_mul, Nat.add_zero] at l0 l1
          have Hx := Lib.hid hx; clear hx
          have HA := Lib.hid A.out; clear A
          rcases okOne_cases x with ⟨ho, h1, h2, h3, h4⟩ | ⟨ho, h | ⟨h, g⟩ | ⟨h, g, i⟩ | ⟨h, g, i, j⟩⟩
          · have Ho := Lib.hid ho; clear ho
            go_wp2
            go_quiet (fail)
            go_wp2
            go_roundg (n - 1)
            case measure => omega
            case rel =>
              refine ⟨1, by omega, by omega, by go_num, ?_, ok_step HA.out Hx.out Ho.out (fun a ha => by cases ha)⟩
              show Below _ _ _
              repeat (first | exact BW.out | apply bel_alloc | apply bel_drewN | apply bel_drew | (refine bel_set ?_ (by simp; omega) _))
          all_goals
            have Ho := Lib.hid ho; clear ho
            go_wp2
            go_quiet (fail)
            go_wp2
            go_ret
            refine ⟨ret_bool (ok_fail1 HA.out Hx.out Ho.out).symm, ?_⟩
            repeat (first | exact BW.out | apply bel_alloc | apply bel_drewN | apply bel_drew | (refine bel_set ?_ (by simp; omega) _))
        · obtain ⟨m, rfl⟩ : ∃ m, kk = m + 1 := ⟨kk - 1, by omega⟩
          obtain ⟨a, ha⟩ : ∃ x, xs[m]? = some x := ⟨xs[m]'(by have := Hn.out; omega), List.getElem?_eq_getElem _⟩
          have m0 := cell_later' BW.out (hc m a ha).1
          have m1 := cell_later' BW.out (hc m a ha).2
          have hbw : b < wr.heap.size := World.block_lt_of_cell? wr _ m0
          have e1 : (((m + 1 : Nat) : Int) - 1).toNat = m := by omega
          clear hc
          have Hx := Lib.hid hx; clear hx
          have Ha := Lib.hid ha; clear ha
          have HA := Lib.hid A.out; clear A
          have g0 : decide (0 < ((m + 1 : Nat) : Int)) = true := by simp
          have g8 : decide (0 < (m : Int) + 1) = true := by simp
          have hmi : (m : Int) < (n : Int) := by omega
          have hw1 : IntKind.i64.wrap ((m : Int) + 1 - 1) = (m : Int) := by rw [Int.add_sub_cancel]; exact IntWalk.i64_in _ (by omega)
          have hw2 : IntKind.i64.wrap (m : Int) = (m : Int) := IntWalk.i64_in _ (by omega)
          rcases okOne_cases x with ⟨ho, h1, h2, h3, h4⟩ | ⟨ho, h | ⟨h, g⟩ | ⟨h, g, i⟩ | ⟨h, g, i, j⟩⟩
          · have Ho := Lib.hid ho; clear ho
            rcases okTwo_cases a x with ⟨ho, h5, h6⟩ | ⟨ho, h5 | ⟨h5, h6⟩⟩
            · have Ho2 := Lib.hid ho; clear ho
              go_wp2
              go_quiet (fail)
              go_wp2
              go_roundg (n - (m + 1 + 1))
              case measure => omega
              case rel =>
                refine ⟨m + 1 + 1, by omega, by omega, by go_num, ?_, ok_step HA.out Hx.out Ho.out (fun b hb => by obtain rfl := Option.some.inj (Ha.out.symm.trans hb); exact Ho2.out)⟩
                show Below _ _ _
                repeat (first | exact BW.out | apply bel_alloc | apply bel_drewN | apply bel_drew | (refine bel_set ?_ (by simp; omega) _))
            all_goals
              have Ho2 := Lib.hid ho; clear ho
              go_wp2
              go_quiet (fail)
              go_wp2
              go_ret
              refine ⟨ret_bool (ok_fail2 HA.out Hx.out Ha.out Ho2.out).symm, ?_⟩
              repeat (first | exact BW.out | apply bel_alloc | apply bel_drewN | apply bel_drew | (refine bel_set ?_ (by simp; omega) _))
          all_goals
            have Ho := Lib.hid ho; clear ho
            go_wp2
            go_quiet (fail)
            go_wp2
            go_ret
            refine ⟨ret_bool (ok_fail1 HA.out Hx.out Ho.out).symm, ?_⟩
            repeat (first | exact BW.out | apply bel_alloc | apply bel_drewN | apply bel_drew | (refine bel_set ?_ (by simp; omega) _))
      · have hltz : ¬ (kk : Int) < (n : Int) := by omega
        have : kk = n := by omega
        subst this
        go_wp2
        go_ret
        exact ⟨ret_bool (by rw [ok_end A.out Hn.out, Hn.out]; simp; omega), BW.out⟩
end Go.Proofs.YtlihjmfdnkfmfaaGreatDoor
namespace Go.Proofs.YtlihjmfdnkfmfaaGreatDoor
open Go.RowKit Go.Deep Go.ChangeShapes Go.WideShapes

section
variable {H : Type} {enc : TypeId × Value → H} {P : Program} {w : World} {base : Nat} {spare : Nat → Bool} {held : Bool}

end
end Go.Proofs.YtlihjmfdnkfmfaaGreatDoor
namespace Go.Proofs.YtlihjmfdnkfmfaaGreatDoor
open Go.RowKit

inductive JV where
  | mk (k n : Int) (s : ByteArray) (l : List JV) (m : List (ByteArray × JV))
namespace JV
def k : JV → Int | mk k _ _ _ _ => k
def n : JV → Int | mk _ n _ _ _ => n
def s : JV → ByteArray | mk _ _ s _ _ => s
def l : JV → List JV | mk _ _ _ l _ => l
def m : JV → List (ByteArray × JV) | mk _ _ _ _ m => m
end JV

mutual
def JR (w : World) (F : Nat → Prop) : JV → List Value → Prop
  | .mk k n s l m, cs => ∃ vl vm, (cs = [.int .i64 k, .int .i64 n, .string s, vl, vm] ∧ s.size ≤ 9223372036854775807) ∧
      ((l = [] ∧ ∃ A c, vl = .slice A 0 c) ∨ (∃ b o c, vl = .slice (some ⟨b, o, none⟩) l.length c ∧ F b ∧ l.length ≤ c ∧ c ≤ 9223372036854775807 ∧ ∃ cs, JRs w F l cs ∧ ∀ j u, cs[j]? = some u → w.cell? ⟨b, o + j, none⟩ = some u)) ∧
      ((m = [] ∧ ∃ A c, vm = .slice A 0 c) ∨ (∃ b o c, vm = .slice (some ⟨b, o, none⟩) m.length c ∧ F b ∧ m.length ≤ c ∧ c ≤ 9223372036854775807 ∧ ∃ cs, JRm w F m cs ∧ ∀ j u, cs[j]? = some u → w.cell? ⟨b, o + j, none⟩ = some u))
def JRs (w : World) (F : Nat → Prop) : List JV → List Value → Prop
  | [], cs => cs = []
  | x :: xs, cs => ∃ c r, cs = c ++ r ∧ JR w F x c ∧ JRs w F xs r
def JRm (w : World) (F : Nat → Prop) : List (ByteArray × JV) → List Value → Prop
  | [], cs => cs = []
  | (nm, x) :: xs, cs => ∃ c r, (cs = (.string nm :: c) ++ r ∧ nm.size ≤ 9223372036854775807) ∧ JR w F x c ∧ JRm w F xs r
end

mutual
theorem JR_mono {w : World} {F F' : Nat → Prop} (h : ∀ k, F k → F' k) : ∀ (x : JV) (cs : List Value), JR w F x cs → JR w F' x cs
  | .mk k n s l m, cs, hx => by
    simp only [JR] at hx ⊢
    obtain ⟨vl, vm, e, h1, h2⟩ := hx
    refine ⟨vl, vm, e, ?_, ?_⟩
    · rcases h1 with h1 | ⟨b, o, c, e1, e2, e3, e4, cs', e5, e6⟩
      · exact .inl h1
      · exact .inr ⟨b, o, c, e1, h _ e2, e3, e4, cs', JRs_mono h l cs' e5, e6⟩
    · rcases h2 with h1 | ⟨b, o, c, e1, e2, e3, e4, cs', e5, e6⟩
      · exact .inl h1
      · exact .inr ⟨b, o, c, e1, h _ e2, e3, e4, cs', JRm_mono h m cs' e5, e6⟩
theorem JRs_mono {w : World} {F F' : Nat → Prop} (h : ∀ k, F k → F' k) : ∀ (x : List JV) (cs : List Value), JRs w F x cs → JRs w F' x cs
  | [], cs, hx => by simpa only [JRs] using hx
  | x :: xs, cs, hx => by
    simp only [JRs] at hx ⊢
    obtain ⟨c, r, e, h1, h2⟩ := hx
    exact ⟨c, r, e, JR_mono h x c h1, JRs_mono h xs r h2⟩
theorem JRm_mono {w : World} {F F' : Nat → Prop} (h : ∀ k, F k → F' k) : ∀ (x : List (ByteArray × JV)) (cs : List Value), JRm w F x cs → JRm w F' x cs
  | [], cs, hx => by simpa only [JRm] using hx
  | (nm, x) :: xs, cs, hx => by
    simp only [JRm] at hx ⊢
    obtain ⟨c, r, e, h1, h2⟩ := hx
    exact ⟨c, r, e, JR_mono h x c h1, JRm_mono h xs r h2⟩
end

mutual
theorem JR_frame {w w' : World} {F : Nat → Prop} (h : ∀ k, F k → w'.heap[k]? = w.heap[k]?) : ∀ (x : JV) (cs : List Value), JR w F x cs → JR w' F x cs
  | .mk k n s l m, cs, hx => by
    simp only [JR] at hx ⊢
    obtain ⟨vl, vm, e, h1, h2⟩ := hx
    refine ⟨vl, vm, e, ?_, ?_⟩
    · rcases h1 with h1 | ⟨b, o, c, e1, e2, e3, e4, cs', e5, e6⟩
      · exact .inl h1
      · exact .inr ⟨b, o, c, e1, e2, e3, e4, cs', JRs_frame h l cs' e5, fun j u hj => (World.cell?_of_block (w := w) (a := ⟨b, o + j, none⟩) (h b e2)).trans (e6 j u hj)⟩
    · rcases h2 with h1 | ⟨b, o, c, e1, e2, e3, e4, cs', e5, e6⟩
      · exact .inl h1
      · exact .inr ⟨b, o, c, e1, e2, e3, e4, cs', JRm_frame h m cs' e5, fun j u hj => (World.cell?_of_block (w := w) (a := ⟨b, o + j, none⟩) (h b e2)).trans (e6 j u hj)⟩
theorem JRs_frame {w w' : World} {F : Nat → Prop} (h : ∀ k, F k → w'.heap[k]? = w.heap[k]?) : ∀ (x : List JV) (cs : List Value), JRs w F x cs → JRs w' F x cs
  | [], cs, hx => by simpa only [JRs] using hx
  | x :: xs, cs, hx => by
    simp only [JRs] at hx ⊢
    obtain ⟨c, r, e, h1, h2⟩ := hx
    exact ⟨c, r, e, JR_frame h x c h1, JRs_frame h xs r h2⟩
theorem JRm_frame {w w' : World} {F : Nat → Prop} (h : ∀ k, F k → w'.heap[k]? = w.heap[k]?) : ∀ (x : List (ByteArray × JV)) (cs : List Value), JRm w F x cs → JRm w' F x cs
  | [], cs, hx => by simpa only [JRm] using hx
  | (nm, x) :: xs, cs, hx => by
    simp only [JRm] at hx ⊢
    obtain ⟨c, r, e, h1, h2⟩ := hx
    exact ⟨c, r, e, JR_frame h x c h1, JRm_frame h xs r h2⟩
end

theorem JR_form {w : World} {F : Nat → Prop} {x : JV} {cs : List Value} (h : JR w F x cs) : ∃ A1 n1 c1 A2 n2 c2, cs = [.int .i64 x.k, .int .i64 x.n, .string x.s, .slice A1 n1 c1, .slice A2 n2 c2] := by
  obtain ⟨k, n, s, l, m⟩ := x
  simp only [JR] at h
  obtain ⟨vl, vm, ⟨rfl, _⟩, h1, h2⟩ := h
  rcases h1 with ⟨_, A, c, rfl⟩ | ⟨b, o, c, rfl, _⟩ <;> rcases h2 with ⟨_, A', c', rfl⟩ | ⟨b', o', c', rfl, _⟩ <;> exact ⟨_, _, _, _, _, _, rfl⟩
theorem JR_len {w : World} {F : Nat → Prop} {x : JV} {cs : List Value} (h : JR w F x cs) : cs.length = 5 := by
  obtain ⟨_, _, _, _, _, _, rfl⟩ := JR_form h; rfl
theorem JR_one {w : World} {F : Nat → Prop} {x : JV} {cs : List Value} (h : JR w F x cs) : ∀ u ∈ cs, u.oneCell' = true := by
  obtain ⟨_, _, _, _, _, _, rfl⟩ := JR_form h
  intro u hu
  simp at hu
  rcases hu with rfl | rfl | rfl | rfl | rfl <;> rfl

mutual
theorem JR_bound {w : World} {F : Nat → Prop} : ∀ (x : JV) (cs : List Value), JR w F x cs → JR w (fun k => F k ∧ k < w.heap.size) x cs
  | .mk k n s l m, cs, hx => by
    simp only [JR] at hx ⊢
    obtain ⟨vl, vm, e, h1, h2⟩ := hx
    refine ⟨vl, vm, e, ?_, ?_⟩
    · rcases h1 with h1 | ⟨b, o, c, e1, e2, e3, e4, cs', e5, e6⟩
      · exact .inl h1
      · match l, e1, e3, e5 with
        | [], e1, _, _ => exact .inl ⟨rfl, _, _, e1⟩
        | x :: xs, e1, e3, e5 =>
          refine .inr ⟨b, o, c, e1, ⟨e2, ?_⟩, e3, e4, cs', JRs_bound (x :: xs) cs' e5, e6⟩
          simp only [JRs] at e5
          obtain ⟨c1, r1, rfl, hc1, _⟩ := e5
          have hl := JR_len hc1
          match c1, hl with
          | u :: _, _ => exact World.block_lt_of_cell? w _ (e6 0 u rfl)
    · rcases h2 with h1 | ⟨b, o, c, e1, e2, e3, e4, cs', e5, e6⟩
      · exact .inl h1
      · match m, e1, e3, e5 with
        | [], e1, _, _ => exact .inl ⟨rfl, _, _, e1⟩
        | (nm, x) :: xs, e1, e3, e5 =>
          refine .inr ⟨b, o, c, e1, ⟨e2, ?_⟩, e3, e4, cs', JRm_bound ((nm, x) :: xs) cs' e5, e6⟩
          simp only [JRm] at e5
          obtain ⟨c1, r1, ⟨rfl, _⟩, hc1, _⟩ := e5
          exact World.block_lt_of_cell? w _ (e6 0 _ rfl)
theorem JRs_bound {w : World} {F : Nat → Prop} : ∀ (x : List JV) (cs : List Value), JRs w F x cs → JRs w (fun k => F k ∧ k < w.heap.size) x cs
  | [], cs, hx => by simpa only [JRs] using hx
  | x :: xs, cs, hx => by
    simp only [JRs] at hx ⊢
    obtain ⟨c, r, e, h1, h2⟩ := hx
    exact ⟨c, r, e, JR_bound x c h1, JRs_bound xs r h2⟩
theorem JRm_bound {w : World} {F : Nat → Prop} : ∀ (x : List (ByteArray × JV)) (cs : List Value), JRm w F x cs → JRm w (fun k => F k ∧ k < w.heap.size) x cs
  | [], cs, hx => by simpa only [JRm] using hx
  | (nm, x) :: xs, cs, hx => by
    simp only [JRm] at hx ⊢
    obtain ⟨c, r, e, h1, h2⟩ := hx
    exact ⟨c, r, e, JR_bound x c h1, JRm_bound xs r h2⟩
end

def jvTy : Ty JV where
  sz := 5
  pos := by decide
  R := JR
  len := JR_len
  one := JR_one
  mono := fun h hx => JR_mono h _ _ hx
  frame := fun h hx => JR_frame h _ _ hx
  bound := fun hx => JR_bound _ _ hx

def memTy : Ty (ByteArray × JV) where
  sz := 6
  pos := by decide
  R := fun w F x cs => ∃ c, (cs = .string x.1 :: c ∧ x.1.size ≤ 9223372036854775807) ∧ JR w F x.2 c
  len := by rintro w F x cs ⟨c, ⟨rfl, _⟩, h⟩; simp [JR_len h]
  one := by
    rintro w F x cs ⟨c, ⟨rfl, _⟩, h⟩ u hu
    rcases List.mem_cons.1 hu with rfl | hu
    · rfl
    · exact JR_one h u hu
  mono := by rintro w F F' x cs hF ⟨c, e, h⟩; exact ⟨c, e, JR_mono hF _ _ h⟩
  frame := by rintro w w' F x cs hF ⟨c, e, h⟩; exact ⟨c, e, JR_frame hF _ _ h⟩
  bound := by rintro w F x cs ⟨c, e, h⟩; exact ⟨c, e, JR_bound _ _ h⟩

theorem JRs_chunks {w : World} {F : Nat → Prop} : ∀ (xs : List JV) (cs : List Value), JRs w F xs cs ↔ Chunks jvTy w F xs cs
  | [], cs => by simp only [JRs, Chunks]
  | x :: xs, cs => by
    simp only [JRs, Chunks]
    constructor
    · rintro ⟨c, r, e, h1, h2⟩; exact ⟨c, r, e, h1, (JRs_chunks xs r).1 h2⟩
    · rintro ⟨c, r, e, h1, h2⟩; exact ⟨c, r, e, h1, (JRs_chunks xs r).2 h2⟩
theorem JRm_chunks {w : World} {F : Nat → Prop} : ∀ (xs : List (ByteArray × JV)) (cs : List Value), JRm w F xs cs ↔ Chunks memTy w F xs cs
  | [], cs => by simp only [JRm, Chunks]
  | (nm, x) :: xs, cs => by
    simp only [JRm, Chunks]
    constructor
    · rintro ⟨c, r, ⟨e, hz⟩, h1, h2⟩; exact ⟨.string nm :: c, r, e, ⟨c, ⟨rfl, hz⟩, h1⟩, (JRm_chunks xs r).1 h2⟩
    · rintro ⟨c0, r, e, ⟨c, ⟨e0, hz⟩, h1⟩, h2⟩; exact ⟨c, r, ⟨by rw [e, e0], hz⟩, h1, (JRm_chunks xs r).2 h2⟩

/-- a value's cells -/
theorem JR_iff {w : World} {F : Nat → Prop} {x : JV} {cs : List Value} : JR w F x cs ↔ ∃ vl vm, (cs = [.int .i64 x.k, .int .i64 x.n, .string x.s, vl, vm] ∧ x.s.size ≤ 9223372036854775807) ∧ Sl jvTy w F vl x.l ∧ Sl memTy w F vm x.m := by
  obtain ⟨k, n, s, l, m⟩ := x
  simp only [JR, Sl, JRs_chunks, JRm_chunks]
  rfl

/-- a member's cells -/
theorem mem_cells {w : World} {F : Nat → Prop} {v : Value} {xs : List (ByteArray × JV)} (hs : Sl memTy w F v xs) : ∃ A c, v = .slice A xs.length c ∧ xs.length ≤ 9223372036854775807 ∧ ∀ k nm y, xs[k]? = some (nm, y) → ∃ b o A1 n1 c1 A2 n2 c2, A = some ⟨b, o, none⟩ ∧ nm.size ≤ 9223372036854775807 ∧
    w.cell? ⟨b, o + k * 6, none⟩ = some (.string nm) ∧ w.cell? ⟨b, o + k * 6 + 1, none⟩ = some (.int .i64 y.k) ∧ w.cell? ⟨b, o + k * 6 + 2, none⟩ = some (.int .i64 y.n) ∧ w.cell? ⟨b, o + k * 6 + 3, none⟩ = some (.string y.s) ∧
    w.cell? ⟨b, o + k * 6 + 4, none⟩ = some (.slice A1 n1 c1) ∧ w.cell? ⟨b, o + k * 6 + 5, none⟩ = some (.slice A2 n2 c2) ∧ JR w F y [.int .i64 y.k, .int .i64 y.n, .string y.s, .slice A1 n1 c1, .slice A2 n2 c2] := by
  rcases hs with ⟨rfl, A, c, rfl⟩ | ⟨b, o, c', rfl, _, h3, h4, cs, h1, h2⟩
  · exact ⟨A, c, rfl, by simp, fun k nm y hk => by simp at hk⟩
  · refine ⟨_, _, rfl, by omega, fun k nm y hk => ?_⟩
    obtain ⟨c0, ⟨c1, ⟨rfl, hz⟩, hj⟩, hg⟩ := h1.get k (nm, y) hk
    obtain ⟨A1, n1, c1, A2, n2, c2, rfl⟩ := JR_form hj
    have g := fun i u (hi : (Value.string nm :: [.int .i64 y.k, .int .i64 y.n, .string y.s, .slice A1 n1 c1, .slice A2 n2 c2])[i]? = some u) => h2 _ _ (hg i u hi)
    exact ⟨b, o, A1, n1, c1, A2, n2, c2, rfl, hz, g 0 _ rfl, g 1 _ rfl, g 2 _ rfl, g 3 _ rfl, g 4 _ rfl, g 5 _ rfl, hj⟩
/-- an element's cells -/
theorem val_cells {w : World} {F : Nat → Prop} {v : Value} {xs : List JV} (hs : Sl jvTy w F v xs) : ∃ A c, v = .slice A xs.length c ∧ xs.length ≤ 9223372036854775807 ∧ ∀ k y, xs[k]? = some y → ∃ b o A1 n1 c1 A2 n2 c2, A = some ⟨b, o, none⟩ ∧
    w.cell? ⟨b, o + k * 5, none⟩ = some (.int .i64 y.k) ∧ w.cell? ⟨b, o + k * 5 + 1, none⟩ = some (.int .i64 y.n) ∧ w.cell? ⟨b, o + k * 5 + 2, none⟩ = some (.string y.s) ∧
    w.cell? ⟨b, o + k * 5 + 3, none⟩ = some (.slice A1 n1 c1) ∧ w.cell? ⟨b, o + k * 5 + 4, none⟩ = some (.slice A2 n2 c2) ∧ JR w F y [.int .i64 y.k, .int .i64 y.n, .string y.s, .slice A1 n1 c1, .slice A2 n2 c2] := by
  rcases hs with ⟨rfl, A, c, rfl⟩ | ⟨b, o, c', rfl, _, h3, h4, cs, h1, h2⟩
  · exact ⟨A, c, rfl, by simp, fun k y hk => by simp at hk⟩
  · refine ⟨_, _, rfl, by omega, fun k y hk => ?_⟩
    obtain ⟨c0, hj, hg⟩ := h1.get k y hk
    obtain ⟨A1, n1, c1, A2, n2, c2, rfl⟩ := JR_form hj
    have g := fun i u (hi : [Value.int .i64 y.k, .int .i64 y.n, .string y.s, .slice A1 n1 c1, .slice A2 n2 c2][i]? = some u) => h2 _ _ (hg i u hi)
    exact ⟨b, o, A1, n1, c1, A2, n2, c2, rfl, g 0 _ rfl, g 1 _ rfl, g 2 _ rfl, g 3 _ rfl, g 4 _ rfl, hj⟩
theorem cell_newB (w : World) (cs : Array Value) (t : TypeId) (i : Nat) (v : Value) (h : cs.toList[i]? = some v) : (w.alloc (.cells cs t)).cell? ⟨w.heap.size, i, none⟩ = some v := by
  have := heap_alloc_new w (.cells cs t)
  unfold World.cell?
  simp only [this]
  rw [Array.getElem?_toList] at h
  exact h
end Go.Proofs.YtlihjmfdnkfmfaaGreatDoor
namespace Go.Proofs
open Go.Shelf
def Tryz.lays169_ren : Go.Shelf.Ren := ⟨fun | 169 => 72 | n => n, fun | 70 => 152 | 9 => 9 | 0 => 0 | 72 => 154 | 37 => 22 | 127 => 210 | 3 => 3 | 5 => 5 | n => n, fun | n => n⟩
theorem Tryz.lays169 : Go.Proofs.Lays.n169 Tryz.prog Tryz.lays169_ren := {
  mixed := by kernel_rfl
  f169 := Tryz.func72.trans (congrArg some (by kernel_rfl))
  t0 := Tryz.underlying0
  a0 := Tryz.isAgg0
  z0 := Tryz.sizeOf0
  v0 := Tryz.zeroValue0
  t3 := Tryz.underlying3
  a3 := Tryz.isAgg3
  z3 := Tryz.sizeOf3
  v3 := Tryz.zeroValue3
  t9 := Tryz.underlying9
  a9 := Tryz.isAgg9
  z9 := Tryz.sizeOf9
  v9 := Tryz.zeroValue9
  t37 := Tryz.underlying22
  a37 := Tryz.isAgg22
  z37 := Tryz.sizeOf22
  v37 := Tryz.zeroValue22
  t70 := Tryz.underlying152
  a70 := Tryz.isAgg152
  z70 := Tryz.sizeOf152
  v70 := Tryz.zeroValue152
  t72 := Tryz.underlying154
  a72 := Tryz.isAgg154
  z72 := Tryz.sizeOf154
  v72 := Tryz.zeroValue154
  t127 := Tryz.underlying210
  a127 := Tryz.isAgg210
  z127 := Tryz.sizeOf210
  v127 := Tryz.zeroValue210 }
theorem Tryz.Builder_Extra_169 : Builder.Extra Tryz.prog Tryz.lays169_ren := {
  sizeBuilder := by kernel_rfl
  liesBuilder := by kernel_rfl
  t5 := Tryz.underlying5
  a5 := Tryz.isAgg5
  z5 := Tryz.sizeOf5
  v5 := Tryz.zeroValue5
  infoByte := by kernel_rfl
  cellsByte := by kernel_rfl
  sizeByte := by kernel_rfl
  neB5 := by decide }
open Go.RowKit in
/-- (*strings.Builder).String: "String returns the accumulated string.": WHATEVER THE BUILDER HOLDS. (LAID: no walk: one application.) -/
theorem Tryz.Builder_String_any (B b : Nat) (l : List UInt8) (w : World) (h : Lib.IsBuilder 154 5 B b (Lib.byteCells l) w) (hBw : B ≤ w.heap.size) :
    Calls Tryz.prog 72 #[.pointer (some ⟨b, 0, none⟩)] w fun e w' => e = .returned (.string ⟨l.toArray⟩) ∧ Below B w w' := Any.Builder_String_any Tryz.lays169 Tryz.Builder_Extra_169 B b l w h hBw
def Tryz.lays137_ren : Go.Shelf.Ren := ⟨fun | 137 => 114 | 217 => 154 | 266 => 187 | n => n, fun | 9 => 9 | 5 => 5 | 3 => 3 | n => n, fun | n => n⟩
theorem Tryz.lays137 : Go.Proofs.Lays.n137 Tryz.prog Tryz.lays137_ren := {
  mixed := by kernel_rfl
  f137 := Tryz.func114.trans (congrArg some (by kernel_rfl))
  f217 := Tryz.func154.trans (congrArg some (by kernel_rfl))
  f266 := Tryz.func187.trans (congrArg some (by kernel_rfl))
  t3 := Tryz.underlying3
  a3 := Tryz.isAgg3
  z3 := Tryz.sizeOf3
  v3 := Tryz.zeroValue3
  t5 := Tryz.underlying5
  a5 := Tryz.isAgg5
  z5 := Tryz.sizeOf5
  v5 := Tryz.zeroValue5
  t9 := Tryz.underlying9
  a9 := Tryz.isAgg9
  z9 := Tryz.sizeOf9
  v9 := Tryz.zeroValue9 }
open Go.RowKit in
/-- strings.IndexByte: "IndexByte returns the index of the first instance of c in s, or -1 if c is not present in s.": IT RETURNS 'Lib.indexByte s c'; the world is as it was. (LAID: no walk: one application.) -/
theorem Tryz.strings_IndexByte (s : ByteArray) (c : Int) (w : World) :
    Calls Tryz.prog 114 #[.string s, .int .u8 c] w fun e w' => e = .returned (.int .i64 (Lib.indexByte s.data.toList c.toNat.toUInt8)) ∧ w' = w := Any.strings_IndexByte Tryz.lays137 s c w
def Tryz.lays242_ren : Go.Shelf.Ren := ⟨fun | 242 => 210 | 278 => 221 | n => n, fun | 37 => 22 | 21 => 21 | 51 => 245 | 4 => 4 | 5 => 5 | 46 => 226 | n => n, fun | n => n⟩
theorem Tryz.lays242 : Go.Proofs.Lays.n242 Tryz.prog Tryz.lays242_ren := {
  mixed := by kernel_rfl
  f242 := Tryz.func210.trans (congrArg some (by kernel_rfl))
  f278 := Tryz.func221.trans (congrArg some (by kernel_rfl))
  t4 := Tryz.underlying4
  a4 := Tryz.isAgg4
  z4 := Tryz.sizeOf4
  v4 := Tryz.zeroValue4
  t5 := Tryz.underlying5
  a5 := Tryz.isAgg5
  z5 := Tryz.sizeOf5
  v5 := Tryz.zeroValue5
  t21 := Tryz.underlying21
  a21 := Tryz.isAgg21
  z21 := Tryz.sizeOf21
  v21 := Tryz.zeroValue21
  t37 := Tryz.underlying22
  a37 := Tryz.isAgg22
  z37 := Tryz.sizeOf22
  v37 := Tryz.zeroValue22
  t46 := Tryz.underlying226
  a46 := Tryz.isAgg226
  z46 := Tryz.sizeOf226
  v46 := Tryz.zeroValue226
  t51 := Tryz.underlying245
  a51 := Tryz.isAgg245
  z51 := Tryz.sizeOf245
  v51 := Tryz.zeroValue245 }
open Go.RowKit in
/-- unicode/utf8.AppendRune: "AppendRune appends the UTF-8 encoding of r to the end of p and returns the extended buffer. If the rune is out of range, it appends the encoding of RuneError.": ONTO A ROW OF BYTES THAT THE CALL OWNS (its head frozen or not): EVERY int32: 'Lib.runeCells r' goes in behind what the row holds; the world: one new block (the bytes as the call's variadic argument), then what 'append' does to the row. (LAID: no walk: one application.) -/
theorem Tryz.utf8_AppendRune_plain (B : Nat) (v : Value) (n : Nat) (xs : List Value) (r : Int) (hr0 : -2147483648 ≤ r) (hr1 : r ≤ 2147483647) (w : World) (hown : w.ownsRow B 5 1 v n xs) (hlen : n + 4 ≤ 140737488355328) (hBw : B ≤ w.heap.size) :
    Calls Tryz.prog 210 #[v, .int .i32 r] w fun e w' => ∃ v', e = .returned v' ∧ w'.ownsRow B 5 1 v' (n + (Lib.runeCells r).length) (xs ++ Lib.runeCells r) ∧ ∃ o, (w.alloc o).grownBy w' v.ownBlock := Any.utf8_AppendRune_plain Tryz.lays242 (by kernel_rfl) B v n xs r hr0 hr1 w hown hlen hBw
def Tryz.laysM171_ren : Go.Shelf.Ren := ⟨fun | 171 => 122 | 243 => 163 | 246 => 195 | 283 => 212 | 284 => 213 | 285 => 214 | 286 => 215 | 129 => 184 | 317 => 223 | 318 => 224 | 319 => 225 | 320 => 226 | 337 => 228 | 338 => 229 | n => n, fun | 3 => 3 | 9 => 9 | 2 => 2 | 4 => 4 | 171 => 275 | 0 => 0 | 53 => 247 | 37 => 22 | 5 => 5 | 173 => 277 | 212 => 288 | 51 => 245 | 20 => 20 | 213 => 289 | 46 => 226 | 232 => 292 | 233 => 293 | n => n, fun | 17 => 3 | 18 => 4 | 19 => 5 | n => n⟩
theorem Tryz.laysM171 : Go.Proofs.LaysM.n171 Tryz.prog Tryz.laysM171_ren := {
  mixed := by kernel_rfl
  f129 := Tryz.func184.trans (congrArg some (by kernel_rfl))
  f171 := Tryz.func122.trans (congrArg some (by kernel_rfl))
  f243 := Tryz.func163.trans (congrArg some (by kernel_rfl))
  f246 := Tryz.func195.trans (congrArg some (by kernel_rfl))
  f283 := Tryz.func212.trans (congrArg some (by kernel_rfl))
  f284 := Tryz.func213.trans (congrArg some (by kernel_rfl))
  f285 := Tryz.func214.trans (congrArg some (by kernel_rfl))
  f286 := Tryz.func215.trans (congrArg some (by kernel_rfl))
  f317 := Tryz.func223.trans (congrArg some (by kernel_rfl))
  f318 := Tryz.func224.trans (congrArg some (by kernel_rfl))
  f319 := Tryz.func225.trans (congrArg some (by kernel_rfl))
  f320 := Tryz.func226.trans (congrArg some (by kernel_rfl))
  f337 := Tryz.func228.trans (congrArg some (by kernel_rfl))
  f338 := Tryz.func229.trans (congrArg some (by kernel_rfl))
  t0 := Tryz.underlying0
  a0 := Tryz.isAgg0
  z0 := Tryz.sizeOf0
  v0 := Tryz.zeroValue0
  t2 := Tryz.underlying2
  a2 := Tryz.isAgg2
  z2 := Tryz.sizeOf2
  v2 := Tryz.zeroValue2
  t3 := Tryz.underlying3
  a3 := Tryz.isAgg3
  z3 := Tryz.sizeOf3
  v3 := Tryz.zeroValue3
  t4 := Tryz.underlying4
  a4 := Tryz.isAgg4
  z4 := Tryz.sizeOf4
  v4 := Tryz.zeroValue4
  t5 := Tryz.underlying5
  a5 := Tryz.isAgg5
  z5 := Tryz.sizeOf5
  v5 := Tryz.zeroValue5
  t9 := Tryz.underlying9
  a9 := Tryz.isAgg9
  z9 := Tryz.sizeOf9
  v9 := Tryz.zeroValue9
  t20 := Tryz.underlying20
  a20 := Tryz.isAgg20
  z20 := Tryz.sizeOf20
  v20 := Tryz.zeroValue20
  t37 := Tryz.underlying22
  a37 := Tryz.isAgg22
  z37 := Tryz.sizeOf22
  v37 := Tryz.zeroValue22
  t46 := Tryz.underlying226
  a46 := Tryz.isAgg226
  z46 := Tryz.sizeOf226
  v46 := Tryz.zeroValue226
  t51 := Tryz.underlying245
  a51 := Tryz.isAgg245
  z51 := Tryz.sizeOf245
  v51 := Tryz.zeroValue245
  t53 := Tryz.underlying247
  a53 := Tryz.isAgg247
  z53 := Tryz.sizeOf247
  v53 := Tryz.zeroValue247
  t171 := Tryz.underlying275
  a171 := Tryz.isAgg275
  z171 := Tryz.sizeOf275
  v171 := Tryz.zeroValue275
  t173 := Tryz.underlying277
  a173 := Tryz.isAgg277
  z173 := Tryz.sizeOf277
  v173 := Tryz.zeroValue277
  t212 := Tryz.underlying288
  a212 := Tryz.isAgg288
  z212 := Tryz.sizeOf288
  v212 := Tryz.zeroValue288
  t213 := Tryz.underlying289
  a213 := Tryz.isAgg289
  z213 := Tryz.sizeOf289
  t232 := Tryz.underlying292
  a232 := Tryz.isAgg292
  z232 := Tryz.sizeOf292
  v232 := Tryz.zeroValue292
  t233 := Tryz.underlying293
  a233 := Tryz.isAgg293
  z233 := Tryz.sizeOf293
  v233 := Tryz.zeroValue293
  g17 := by kernel_rfl
  g18 := by kernel_rfl
  g19 := by kernel_rfl
  i0 := by kernel_rfl
  i2 := by kernel_rfl
  i3 := by kernel_rfl
  i4 := by kernel_rfl
  i5 := by kernel_rfl
  i9 := by kernel_rfl
  i20 := by kernel_rfl
  i37 := by kernel_rfl
  i46 := by kernel_rfl
  i51 := by kernel_rfl
  i53 := by kernel_rfl
  i171 := by kernel_rfl
  i173 := by kernel_rfl
  i212 := by kernel_rfl
  i232 := by kernel_rfl
  i233 := by kernel_rfl
  m17 := by kernel_rfl
  m18 := by kernel_rfl
  m19 := by kernel_rfl }
open Go.RowKit Go.Sort Go.Lib in
/-- strconv.Itoa: "Itoa is equivalent to FormatInt(int64(i), 10).": i's DECIMAL NUMERAL ('Lib.itoa': a '-' where i is negative, then the digits), FOR EVERY int. The world behind the call: the world before it, new blocks behind the heap (the library's 'var a [24]byte'), draws. (LAID: no walk: one application.) -/
theorem Tryz.strconv_Itoa (n : Int) (h0 : -9223372036854775808 ≤ n) (h1 : n ≤ 9223372036854775807) (w : World) (htab : Lib.TabIs Tryz.prog w "internal/strconv.uint64pow10" .u64 Lib.pow10Tab) :
    Calls Tryz.prog 122 #[.int .i64 n] w fun e w' => e = .returned (.string ⟨(Lib.itoa n).toArray⟩) ∧ ∃ k os, w' = grow (w.drewN k) os := Any.strconv_Itoa Tryz.laysM171 n h0 h1 w htab
def Tryz.lays197_ren : Go.Shelf.Ren := ⟨fun | 197 => 209 | 260 => 220 | n => n, fun | 9 => 9 | 21 => 21 | 3 => 3 | 4 => 4 | 5 => 5 | 105 => 272 | 119 => 260 | 0 => 0 | 46 => 226 | 139 => 263 | 138 => 262 | n => n, fun | 3 => 0 | 4 => 1 | n => n⟩
theorem Tryz.lays197 : Go.Proofs.Lays.n197 Tryz.prog Tryz.lays197_ren := {
  mixed := by kernel_rfl
  f197 := Tryz.func209.trans (congrArg some (by kernel_rfl))
  f260 := Tryz.func220.trans (congrArg some (by kernel_rfl))
  t0 := Tryz.underlying0
  a0 := Tryz.isAgg0
  z0 := Tryz.sizeOf0
  v0 := Tryz.zeroValue0
  t3 := Tryz.underlying3
  a3 := Tryz.isAgg3
  z3 := Tryz.sizeOf3
  v3 := Tryz.zeroValue3
  t4 := Tryz.underlying4
  a4 := Tryz.isAgg4
  z4 := Tryz.sizeOf4
  v4 := Tryz.zeroValue4
  t5 := Tryz.underlying5
  a5 := Tryz.isAgg5
  z5 := Tryz.sizeOf5
  v5 := Tryz.zeroValue5
  t9 := Tryz.underlying9
  a9 := Tryz.isAgg9
  z9 := Tryz.sizeOf9
  v9 := Tryz.zeroValue9
  t21 := Tryz.underlying21
  a21 := Tryz.isAgg21
  z21 := Tryz.sizeOf21
  v21 := Tryz.zeroValue21
  t46 := Tryz.underlying226
  a46 := Tryz.isAgg226
  z46 := Tryz.sizeOf226
  v46 := Tryz.zeroValue226
  t105 := Tryz.underlying272
  a105 := Tryz.isAgg272
  z105 := Tryz.sizeOf272
  v105 := Tryz.zeroValue272
  t119 := Tryz.underlying260
  a119 := Tryz.isAgg260
  z119 := Tryz.sizeOf260
  t138 := Tryz.underlying262
  a138 := Tryz.isAgg262
  z138 := Tryz.sizeOf262
  v138 := Tryz.zeroValue262
  t139 := Tryz.underlying263
  a139 := Tryz.isAgg263
  z139 := Tryz.sizeOf263
  v139 := Tryz.zeroValue263
  g3 := by kernel_rfl
  g4 := by kernel_rfl }
open Go.RowKit Go.Lib in
/-- **unicode/utf8.DecodeRuneInString AT EVERY STRING.** (LAID: no walk: one application.) -/
theorem Tryz.utf8_DecodeRuneInString (s : ByteArray) (w : World) (hT : Lib.Utf8Tabs 0 1 w) :
    Calls Tryz.prog 209 #[.string s] w fun e w' => e = .returned (.tuple #[.int .i32 (Lib.decodeGo s).1, .int .i64 (Lib.decodeGo s).2]) ∧ Below w.heap.size w w' := Any.utf8_DecodeRuneInString Tryz.lays197 s w hT
def Tryz.lays196_ren : Go.Shelf.Ren := ⟨fun | 196 => 169 | 259 => 198 | n => n, fun | 9 => 9 | 4 => 4 | 3 => 3 | 5 => 5 | 12 => 12 | 119 => 260 | 0 => 0 | 46 => 226 | 139 => 263 | 138 => 262 | 53 => 247 | n => n, fun | 3 => 0 | 4 => 1 | n => n⟩
theorem Tryz.lays196 : Go.Proofs.Lays.n196 Tryz.prog Tryz.lays196_ren := {
  mixed := by kernel_rfl
  f196 := Tryz.func169.trans (congrArg some (by kernel_rfl))
  f259 := Tryz.func198.trans (congrArg some (by kernel_rfl))
  t0 := Tryz.underlying0
  a0 := Tryz.isAgg0
  z0 := Tryz.sizeOf0
  v0 := Tryz.zeroValue0
  t3 := Tryz.underlying3
  a3 := Tryz.isAgg3
  z3 := Tryz.sizeOf3
  v3 := Tryz.zeroValue3
  t4 := Tryz.underlying4
  a4 := Tryz.isAgg4
  z4 := Tryz.sizeOf4
  v4 := Tryz.zeroValue4
  t5 := Tryz.underlying5
  a5 := Tryz.isAgg5
  z5 := Tryz.sizeOf5
  v5 := Tryz.zeroValue5
  t9 := Tryz.underlying9
  a9 := Tryz.isAgg9
  z9 := Tryz.sizeOf9
  v9 := Tryz.zeroValue9
  t12 := Tryz.underlying12
  a12 := Tryz.isAgg12
  z12 := Tryz.sizeOf12
  v12 := Tryz.zeroValue12
  t46 := Tryz.underlying226
  a46 := Tryz.isAgg226
  z46 := Tryz.sizeOf226
  v46 := Tryz.zeroValue226
  t53 := Tryz.underlying247
  a53 := Tryz.isAgg247
  z53 := Tryz.sizeOf247
  v53 := Tryz.zeroValue247
  t119 := Tryz.underlying260
  a119 := Tryz.isAgg260
  z119 := Tryz.sizeOf260
  t138 := Tryz.underlying262
  a138 := Tryz.isAgg262
  z138 := Tryz.sizeOf262
  v138 := Tryz.zeroValue262
  t139 := Tryz.underlying263
  a139 := Tryz.isAgg263
  z139 := Tryz.sizeOf263
  v139 := Tryz.zeroValue263
  g3 := by kernel_rfl
  g4 := by kernel_rfl }
open Go.RowKit in
/-- unicode/utf8.ValidString. -/
theorem Tryz.utf8_ValidString (s : ByteArray) (w : World) (hs : s.size ≤ 9223372036854775807) (hT : Lib.Utf8Tabs 0 1 w) :
    Calls Tryz.prog 169 #[.string s] w fun e w' => e = .returned (.bool (Lib.validD s.data.toList)) ∧ Below w.heap.size w w' := Any.utf8_ValidString Tryz.lays196 s w hs hT
end Go.Proofs
