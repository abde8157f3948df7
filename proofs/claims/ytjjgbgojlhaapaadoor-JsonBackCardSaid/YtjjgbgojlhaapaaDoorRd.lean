/- json's reader: its state in memory; fail, blanks, see, wants, digit, any. -/
import Derived.Test.YtjjgbgojlhaapaaDoorSb
import Derived.Test.YtjjgbgojlhaapaaDoorShelf
namespace Go.Proofs.YtjjgbgojlhaapaaDoor
open Go.RowKit Go.Lib

theorem heap_setCell_row {w : World} {g i : Nat} {cs : Array Value} {T : TypeId} {fz : Nat × Nat} {v : Value} (h : w.heap[g]? = some (.cells cs T fz)) : (w.setCell ⟨g, i, none⟩ v).heap[g]? = some (.cells (cs.setIfInBounds i v) T fz) := by
  simp [World.setCell, Array.getElem?_modify, h]

/-- a reader of type T lies in block R: its text, its place, its error -/
def RdAt (T : TypeId) (R : Nat) (s : ByteArray) (p : Nat) (e : Int) (w : World) : Prop :=
  w.heap[R]? = some (.cells #[.string s, .int .i64 p, .int .i64 e] T (0, 0))
/-- what a method leaves -/
def RdPost (T : TypeId) (R : Nat) (s : ByteArray) (p : Nat) (e : Int) (w w' : World) : Prop := RdAt T R s p e w' ∧ w.grownBy w' (some R)
section
variable {T : TypeId} {R p p' : Nat} {s : ByteArray} {e e' : Int} {w w' w1 w2 : World}
theorem RdAt.cells (h : RdAt T R s p e w) : w.cell? ⟨R, 0, none⟩ = some (.string s) ∧ w.cell? ⟨R, 1, none⟩ = some (.int .i64 p) ∧ w.cell? ⟨R, 2, none⟩ = some (.int .i64 e) ∧ w.frozen? ⟨R, 0, none⟩ = false ∧ w.frozen? ⟨R, 1, none⟩ = false ∧ w.frozen? ⟨R, 2, none⟩ = false ∧ R < w.heap.size := by
  have h' : w.heap[R]? = _ := h
  refine ⟨by rw [Lib.cell_of_heap h']; rfl, by rw [Lib.cell_of_heap h']; rfl, by rw [Lib.cell_of_heap h']; rfl, by simp [World.frozen?, h'], by simp [World.frozen?, h'], by simp [World.frozen?, h'], (Array.getElem?_eq_some_iff.1 h').1⟩
theorem RdAt.set1 (h : RdAt T R s p e w) (q : Nat) : RdAt T R s q e (w.setCell ⟨R, 1, none⟩ (.int .i64 q)) := by
  exact heap_setCell_row (i := 1) (v := .int .i64 q) h
theorem RdAt.set2 (h : RdAt T R s p e w) (q : Int) : RdAt T R s p q (w.setCell ⟨R, 2, none⟩ (.int .i64 q)) := by
  exact heap_setCell_row (i := 2) (v := .int .i64 q) h
theorem RdAt.below (h : RdAt T R s p e w) (hb : Below w.heap.size w w') : RdAt T R s p e w' := (hb.block R (Array.getElem?_eq_some_iff.1 h).1).trans h
theorem RdAt.drewN (h : RdAt T R s p e w) (n : Nat) : RdAt T R s p e (w.drewN n) := h
theorem RdAt.drew (h : RdAt T R s p e w) : RdAt T R s p e w.drew := h
theorem RdAt.post (h : RdAt T R s p e w) : RdPost T R s p e w w := ⟨h, grown_refl _ _⟩
theorem RdPost.trans (h : RdPost T R s p e w w1) (k : RdPost T R s p' e' w1 w2) : RdPost T R s p' e' w w2 := ⟨k.1, grown_trans h.2 k.2⟩
theorem RdPost.below (h : RdPost T R s p e w w1) (hb : Below w1.heap.size w1 w2) : RdPost T R s p e w w2 := ⟨h.1.below hb, grown_trans h.2 (grown_of_bel hb _)⟩
theorem RdPost.set1 (h : RdPost T R s p e w w1) (q : Nat) : RdPost T R s q e w (w1.setCell ⟨R, 1, none⟩ (.int .i64 q)) := ⟨h.1.set1 q, grown_trans h.2 (grown_set _)⟩
theorem RdPost.set2 (h : RdPost T R s p e w w1) (q : Int) : RdPost T R s p q w (w1.setCell ⟨R, 2, none⟩ (.int .i64 q)) := ⟨h.1.set2 q, grown_trans h.2 (grown_set _)⟩
theorem RdPost.drew (h : RdPost T R s p e w w1) : RdPost T R s p e w w1.drew := ⟨h.1, grown_trans h.2 ⟨rfl, rfl, rfl, Nat.le_refl _, fun _ _ _ => rfl⟩⟩
theorem RdPost.drewN (h : RdPost T R s p e w w1) (n : Nat) : RdPost T R s p e w (w1.drewN n) := ⟨h.1, grown_drewN h.2 n⟩
end

/-! the plain reader -/
/-- a state: the place, the error -/
structure St where
  p : Nat
  e : Int
def St.fail (x : St) (e : Int) : St := if x.e = 0 then ⟨x.p, e⟩ else x
def St.step (x : St) : St := ⟨x.p + 1, x.e⟩
def byteAt (s : ByteArray) (p : Nat) : UInt8 := s.data.toList.getD p 0
def isBlank (c : UInt8) : Bool := [32, 9, 10, 13].contains c
def skipB (s : ByteArray) : Nat → Nat → Nat
  | 0, p => p
  | fuel + 1, p => if p < s.size && isBlank (byteAt s p) then skipB s fuel (p + 1) else p
def St.blanks (s : ByteArray) (x : St) : St := ⟨skipB s (s.size - x.p) x.p, x.e⟩
def St.see (s : ByteArray) (x : St) : UInt8 × St :=
  let y := x.blanks s
  if s.size ≤ y.p then (0, y.fail 2) else (byteAt s y.p, y)
def St.wants (s : ByteArray) (x : St) (c : UInt8) : St :=
  let r := x.see s
  (if r.2.e = 0 ∧ r.1 ≠ c then r.2.fail 4 else r.2).step

set_option maxHeartbeats 1000000 in
theorem fail_any (R : Nat) (s : ByteArray) (x : St) (e' : Int) (w : World) (h : RdAt 96 R s x.p x.e w) :
    Calls Tryd.prog 55 #[.pointer (some ⟨R, 0, none⟩), .int .i64 e'] w fun z w' => z = .returned (.tuple #[]) ∧ RdPost 96 R s (x.fail e').p (x.fail e').e w w' := by
  obtain ⟨_, _, l2, _, _, f2, hR⟩ := h.cells
  obtain ⟨p, e⟩ := x
  unfold St.fail
  simp only at *
  by_cases h0 : e = 0
  · subst h0
    have hp := h.post.set2 e'
    have HP := Lib.hid hp
    clear hp h
    go_enter Tryd.func55, Tryd.ntmps55
    go_wp2
    go_end0
    exact ⟨rfl, HP.out⟩
  · have hne : (e == 0) = false := by simpa using h0
    rw [if_neg h0]
    have HP := Lib.hid h.post
    clear h
    go_enter Tryd.func55, Tryd.ntmps55
    go_wp2
    go_end0
    exact ⟨rfl, HP.out⟩

theorem skip_step {s : ByteArray} {q : Nat} (h : q < s.size) (hb : isBlank (byteAt s q) = true) : skipB s (s.size - q) q = skipB s (s.size - (q + 1)) (q + 1) := by
  have e : s.size - q = (s.size - (q + 1)) + 1 := by omega
  rw [e]; simp [skipB, h, hb]
theorem skip_stop {s : ByteArray} {q : Nat} (h : ¬ q < s.size ∨ isBlank (byteAt s q) = false) : skipB s (s.size - q) q = q := by
  cases hn : s.size - q with
  | zero => rfl
  | succ n =>
    rcases h with h | h
    · omega
    · simp [skipB, h]
theorem idx_blank (c : UInt8) (w : World) : Calls Tryd.prog 70 #[.string ⟨#[32, 9, 10, 13]⟩, .int .u8 (c.toNat : Int)] w fun e w' => e = .returned (.int .i64 (Lib.indexByte [32, 9, 10, 13] c)) ∧ w' = w := by
  have := Tryd.strings_IndexByte ⟨#[32, 9, 10, 13]⟩ (c.toNat : Int) w
  simpa using this
theorem idx_iff (l : List UInt8) (c : UInt8) : (0 ≤ Lib.indexByte l c) ↔ l.contains c = true := by
  induction l with
  | nil => simp [Lib.indexByte]
  | cons b l ih =>
    have hge := Lib.indexByte_ge l c
    simp only [Lib.indexByte, List.contains_cons, Bool.or_eq_true]
    by_cases h : b = c
    · subst h; simp
    · have h1 : (b == c) = false := by simpa using h
      have h2 : (c == b) = false := by simpa using fun e => h e.symm
      rw [h1, h2]
      simp only [Bool.false_eq_true, if_false, false_or]
      rw [← ih]
      by_cases h3 : Lib.indexByte l c = -1
      · rw [h3]; simp
      · have h4 : (Lib.indexByte l c == -1) = false := by simpa using h3
        rw [h4]; simp; omega
theorem idx_blank_iff (c : UInt8) : (0 ≤ Lib.indexByte [32, 9, 10, 13] c) ↔ isBlank c = true := idx_iff _ c
theorem get_byte {s : ByteArray} {q : Nat} (h : q < s.size) : s[q] = byteAt s q := by
  unfold byteAt
  rw [List.getD_eq_getElem?_getD, List.getElem?_eq_getElem (by simpa using h)]
  rfl

set_option maxHeartbeats 4000000 in
theorem blanks_any (R : Nat) (s : ByteArray) (x : St) (w : World) (hs : s.size ≤ 1000000) (h : RdAt 96 R s x.p x.e w) :
    Calls Tryd.prog 54 #[.pointer (some ⟨R, 0, none⟩)] w fun z w' => z = .returned (.tuple #[]) ∧ RdPost 96 R s (x.blanks s).p (x.blanks s).e w w' := by
  obtain ⟨p, e⟩ := x
  unfold St.blanks
  simp only at *
  have HP := Lib.hid h.post
  clear h
  generalize hfin : skipB s (s.size - p) p = fin at *
  have HFIN := Lib.hid hfin
  clear hfin
  go_enter Tryd.func54, Tryd.ntmps54
  go_wp2_with fail
  go_loopg [] (s.size - p) (fun gg wr => ∃ q : Nat, s.size - q ≤ gg ∧ Aside (skipB s (s.size - q) q = fin) ∧ Aside (RdPost 96 R s q e w wr))
  case atStart => exact ⟨p, Nat.le_refl _, HFIN.out, HP.out⟩
  case round =>
    obtain ⟨q, hgg, HF, HR⟩ := hrel
    obtain ⟨l0, l1, l2, f0, f1, f2, hRw⟩ := HR.out.1.cells
    by_cases hlt : q < s.size
    · have hltz : (q : Int) < (s.size : Int) := by omega
      have hd : decide ((q : Int) < (s.size : Int)) = true := by simpa using hltz
      have hq0 : (0 : Int) ≤ (q : Int) := by omega
      have hgb := get_byte hlt
      have hc := fun W => idx_blank (byteAt s q) W
      have hiff := idx_blank_iff (byteAt s q)
      generalize Lib.indexByte [32, 9, 10, 13] (byteAt s q) = k at *
      cases hb : isBlank (byteAt s q) with
      | true =>
        have hk : decide ((0 : Int) ≤ k) = true := by simpa using hiff.2 hb
        have HS := Lib.hid (skip_step hlt hb); have HC := Lib.hid hc
        clear hb hiff hc
        go_wp2_with fail
        go_quiet ((go_at_call 70; exact Calls.quiet_of_same (HC.out _)))
        go_wp2_with fail
        go_roundg (s.size - (q + 1))
        case measure => omega
        case rel => exact ⟨q + 1, Nat.le_refl _, by rw [← HS.out]; exact HF.out, RdPost.set1 (RdPost.drewN HR.out _) _⟩
      | false =>
        have hk : decide ((0 : Int) ≤ k) = false := by
          have : ¬ 0 ≤ k := fun h => by rw [hiff.1 h] at hb; cases hb
          simpa using this
        have HS := Lib.hid (skip_stop (s := s) (q := q) (.inr hb)); have HC := Lib.hid hc
        clear hb hiff hc
        go_wp2_with fail
        go_quiet ((go_at_call 70; exact Calls.quiet_of_same (HC.out _)))
        go_wp2_with fail
        go_end0
        exact ⟨rfl, by rw [← HF.out, HS.out]; exact RdPost.drewN HR.out _⟩
    · have hltz : ¬ (q : Int) < (s.size : Int) := by omega
      have hd : decide ((q : Int) < (s.size : Int)) = false := by simpa using hltz
      have HS := Lib.hid (skip_stop (s := s) (q := q) (.inl hlt))
      go_wp2_with fail
      go_quiet (fail)
      go_wp2_with fail
      go_end0
      exact ⟨rfl, by rw [← HF.out, HS.out]; exact RdPost.drewN HR.out _⟩

theorem skip_le {s : ByteArray} : ∀ (f p : Nat), p ≤ skipB s f p ∧ (p ≤ s.size → skipB s f p ≤ s.size)
  | 0, p => by simp [skipB]
  | f + 1, p => by
    simp only [skipB]
    split
    · rename_i h
      have := skip_le (s := s) f (p + 1)
      simp at h
      omega
    · omega
set_option maxHeartbeats 4000000 in
theorem see_any (R : Nat) (s : ByteArray) (x : St) (w : World) (hs : s.size ≤ 1000000) (h : RdAt 96 R s x.p x.e w) :
    Calls Tryd.prog 69 #[.pointer (some ⟨R, 0, none⟩)] w fun z w' => z = .returned (.int .u8 ((x.see s).1.toNat : Int)) ∧ RdPost 96 R s (x.see s).2.p (x.see s).2.e w w' := by
  have hb := blanks_any R s x w hs h
  have HB := Lib.hid hb
  unfold St.see
  clear hb h
  generalize x.blanks s = y at *
  obtain ⟨p, e⟩ := y
  simp only at *
  by_cases hlt : p < s.size
  · have hltz : (p : Int) < (s.size : Int) := by omega
    have hd : decide ((s.size : Int) ≤ (p : Int)) = false := by simpa using hltz
    have hd2 : decide ((p : Int) < (s.size : Int)) = true := by simpa using hltz
    have hq0 : (0 : Int) ≤ (p : Int) := by omega
    have hgb := get_byte hlt
    rw [if_neg (by omega)]
    go_enter Tryd.func69, Tryd.ntmps69
    go_wp2_with fail
    refine Calls.mono HB.out ?_
    rintro z w1 ⟨rfl, hp⟩
    obtain ⟨l0, l1, l2, _, _, _, hRw⟩ := hp.1.cells
    have HP := Lib.hid hp
    clear hp
    go_wp2_with fail
    go_quiet (fail)
    go_wp2_with fail
    go_quiet (fail)
    go_wp2_with fail
    go_ret
    exact ⟨rfl, RdPost.drewN (RdPost.drewN HP.out _) _⟩
  · have hltz : ¬ (p : Int) < (s.size : Int) := by omega
    have hd : decide ((s.size : Int) ≤ (p : Int)) = true := by simp; omega
    rw [if_pos (by omega)]
    go_enter Tryd.func69, Tryd.ntmps69
    go_wp2_with fail
    refine Calls.mono HB.out ?_
    rintro z w1 ⟨rfl, hp⟩
    obtain ⟨l0, l1, l2, _, _, _, hRw⟩ := hp.1.cells
    have hf := fun n => fail_any R s ⟨p, e⟩ 2 (w1.drewN n) (hp.1.drewN n)
    have HP := Lib.hid hp; have HF := Lib.hid hf
    clear hp hf
    go_wp2_with fail
    go_quiet (fail)
    go_wp2_with fail
    refine Calls.mono (HF.out _) ?_
    rintro z w2 ⟨rfl, hp2⟩
    go_wp2_with fail
    go_ret
    exact ⟨rfl, RdPost.trans (RdPost.drewN HP.out _) hp2⟩

theorem i64_step {p : Nat} (h : p ≤ 2000000) : IntKind.i64.wrap ((p : Int) + 1) = ((p + 1 : Nat) : Int) := by rw [IntWalk.i64_in _ (by omega)]; simp
set_option maxHeartbeats 4000000 in
theorem wants_any (R : Nat) (s : ByteArray) (x : St) (c : UInt8) (w : World) (hs : s.size ≤ 1000000) (hp1 : x.p ≤ 1000001) (h : RdAt 96 R s x.p x.e w) :
    Calls Tryd.prog 88 #[.pointer (some ⟨R, 0, none⟩), .int .u8 (c.toNat : Int)] w fun z w' => z = .returned (.tuple #[]) ∧ RdPost 96 R s (x.wants s c).p (x.wants s c).e w w' := by
  have hb := see_any R s x w hs h
  have HB := Lib.hid hb
  have hle : (x.see s).2.p ≤ 1000001 := by
    have := skip_le (s := s) (s.size - x.p) x.p
    have key : (x.see s).2.p = skipB s (s.size - x.p) x.p := by
      unfold St.see St.blanks St.fail
      simp only
      split <;> (try split) <;> rfl
    rw [key]
    by_cases h2 : x.p ≤ s.size
    · have := this.2 h2; omega
    · rw [skip_stop (.inl (by omega))]; omega
  unfold St.wants
  clear hb h
  generalize x.see s = r at *
  obtain ⟨b, ⟨p, e⟩⟩ := r
  simp only at *
  have hst := i64_step (p := p) (by omega)
  by_cases he : e = 0
  · subst he
    by_cases hbc : b = c
    · subst hbc
      have hne : (((b.toNat : Int)) != ((b.toNat : Int))) = false := by simp
      simp only [ne_eq, not_true_eq_false, and_false, if_false]
      go_enter Tryd.func88, Tryd.ntmps88
      go_wp2_with fail
      refine Calls.mono HB.out ?_
      rintro z w1 ⟨rfl, hp⟩
      obtain ⟨l0, l1, l2, _, f1, _, hRw⟩ := hp.1.cells
      have HP := Lib.hid hp
      clear hp
      go_wp2_with fail
      go_end0
      exact ⟨rfl, RdPost.set1 HP.out (p + 1)⟩
    · have hne : (((b.toNat : Int)) != ((c.toNat : Int))) = true := by
        have : b.toNat ≠ c.toNat := fun h => hbc (UInt8.toNat_inj.1 h)
        simp; omega
      simp only [ne_eq, hbc, not_false_eq_true, and_self, if_true]
      go_enter Tryd.func88, Tryd.ntmps88
      go_wp2_with fail
      refine Calls.mono HB.out ?_
      rintro z w1 ⟨rfl, hp⟩
      obtain ⟨l0, l1, l2, _, f1, _, hRw⟩ := hp.1.cells
      have hf := fail_any R s ⟨p, 0⟩ 4 w1 hp.1
      have HP := Lib.hid hp; have HF := Lib.hid hf
      clear hp hf
      go_wp2_with fail
      refine Calls.mono HF.out ?_
      rintro z w2 ⟨rfl, hp2⟩
      have hpp := RdPost.trans HP.out hp2
      simp only [St.fail, if_true] at hpp
      obtain ⟨l0, l1, l2, _, f1, _, hRw⟩ := hpp.1.cells
      have HPP := Lib.hid hpp
      clear hpp hp2
      go_wp2_with fail
      go_end0
      exact ⟨rfl, RdPost.set1 HPP.out (p + 1)⟩
  · have hne : (e == 0) = false := by simpa using he
    simp only [he, false_and, if_false]
    go_enter Tryd.func88, Tryd.ntmps88
    go_wp2_with fail
    refine Calls.mono HB.out ?_
    rintro z w1 ⟨rfl, hp⟩
    obtain ⟨l0, l1, l2, _, f1, _, hRw⟩ := hp.1.cells
    have HP := Lib.hid hp
    clear hp
    go_wp2_with fail
    go_end0
    exact ⟨rfl, RdPost.set1 HP.out (p + 1)⟩

def anyB (s : ByteArray) (l : List UInt8) (p : Nat) : Bool := decide (p < s.size) && l.contains (byteAt s p)
def isDigit (c : UInt8) : Bool := decide (48 ≤ c.toNat) && decide (c.toNat ≤ 57)
def digitB (s : ByteArray) (p : Nat) : Bool := decide (p < s.size) && isDigit (byteAt s p)
theorem idx_any (l : ByteArray) (c : UInt8) (w : World) : Calls Tryd.prog 70 #[.string l, .int .u8 (c.toNat : Int)] w fun e w' => e = .returned (.int .i64 (Lib.indexByte l.data.toList c)) ∧ w' = w := by
  have := Tryd.strings_IndexByte l (c.toNat : Int) w
  simpa using this
set_option maxHeartbeats 4000000 in
theorem any_any (R : Nat) (s l : ByteArray) (p : Nat) (e : Int) (w : World) (h : RdAt 96 R s p e w) :
    Calls Tryd.prog 92 #[.pointer (some ⟨R, 0, none⟩), .string l] w fun z w' => z = .returned (.bool (anyB s l.data.toList p)) ∧ RdPost 96 R s p e w w' := by
  obtain ⟨l0, l1, l2, _, _, _, hRw⟩ := h.cells
  have HP := Lib.hid h.post
  clear h
  unfold anyB
  by_cases hlt : p < s.size
  · have hltz : (p : Int) < (s.size : Int) := by omega
    have hd : decide ((p : Int) < (s.size : Int)) = true := by simpa using hltz
    have hq0 : (0 : Int) ≤ (p : Int) := by omega
    have hgb := get_byte hlt
    have hc := fun W => idx_any l (byteAt s p) W
    have hiff := idx_iff l.data.toList (byteAt s p)
    have hk : decide ((0 : Int) ≤ Lib.indexByte l.data.toList (byteAt s p)) = l.data.toList.contains (byteAt s p) := by
      rw [Bool.eq_iff_iff, ← hiff]; simp
    generalize Lib.indexByte l.data.toList (byteAt s p) = k at *
    generalize l.data.toList.contains (byteAt s p) = kb at *
    have HC := Lib.hid hc
    clear hiff hc
    rw [show decide (p < s.size) = true from by simpa using hlt, Bool.true_and]
    go_enter Tryd.func92, Tryd.ntmps92
    go_wp2_with fail
    go_quiet ((go_at_call 70; exact Calls.quiet_of_same (HC.out _)))
    go_wp2_with fail
    go_ret
    exact ⟨rfl, RdPost.drewN HP.out _⟩
  · have hltz : ¬ (p : Int) < (s.size : Int) := by omega
    have hd : decide ((p : Int) < (s.size : Int)) = false := by simpa using hltz
    rw [show decide (p < s.size) = false from by simpa using hlt, Bool.false_and]
    go_enter Tryd.func92, Tryd.ntmps92
    go_wp2_with fail
    go_quiet (fail)
    go_wp2_with fail
    go_ret
    exact ⟨rfl, RdPost.drewN HP.out _⟩
set_option maxHeartbeats 4000000 in
theorem digit_any (R : Nat) (s : ByteArray) (p : Nat) (e : Int) (w : World) (h : RdAt 96 R s p e w) :
    Calls Tryd.prog 93 #[.pointer (some ⟨R, 0, none⟩)] w fun z w' => z = .returned (.bool (digitB s p)) ∧ RdPost 96 R s p e w w' := by
  obtain ⟨l0, l1, l2, _, _, _, hRw⟩ := h.cells
  have HP := Lib.hid h.post
  clear h
  unfold digitB isDigit
  by_cases hlt : p < s.size
  · have hltz : (p : Int) < (s.size : Int) := by omega
    have hd : decide ((p : Int) < (s.size : Int)) = true := by simpa using hltz
    have hq0 : (0 : Int) ≤ (p : Int) := by omega
    have hgb := get_byte hlt
    rw [show decide (p < s.size) = true from by simpa using hlt, Bool.true_and]
    generalize byteAt s p = c at *
    by_cases h48 : 48 ≤ c.toNat
    · have d48 : decide ((48 : Int) ≤ (c.toNat : Int)) = true := by simp; omega
      rw [show decide (48 ≤ c.toNat) = true from by simpa using h48, Bool.true_and]
      have d57 : decide ((c.toNat : Int) ≤ (57 : Int)) = decide (c.toNat ≤ 57) := by rw [Bool.eq_iff_iff]; simp; omega
      generalize decide (c.toNat ≤ 57) = k at *
      go_enter Tryd.func93, Tryd.ntmps93
      go_wp2_with fail
      go_quiet (fail)
      go_wp2_with fail
      go_ret
      exact ⟨rfl, RdPost.drewN HP.out _⟩
    · have d48 : decide ((48 : Int) ≤ (c.toNat : Int)) = false := by simp; omega
      rw [show decide (48 ≤ c.toNat) = false from by simpa using h48, Bool.false_and]
      go_enter Tryd.func93, Tryd.ntmps93
      go_wp2_with fail
      go_quiet (fail)
      go_wp2_with fail
      go_ret
      exact ⟨rfl, RdPost.drewN HP.out _⟩
  · have hltz : ¬ (p : Int) < (s.size : Int) := by omega
    have hd : decide ((p : Int) < (s.size : Int)) = false := by simpa using hltz
    rw [show decide (p < s.size) = false from by simpa using hlt, Bool.false_and]
    go_enter Tryd.func93, Tryd.ntmps93
    go_wp2_with fail
    go_quiet (fail)
    go_wp2_with fail
    go_ret
    exact ⟨rfl, RdPost.drewN HP.out _⟩
end Go.Proofs.YtjjgbgojlhaapaaDoor
