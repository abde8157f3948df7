/- Parts of the proof: Fv. -/
import Derived.Test.YtjjgbgojlhaapaaGreatDoorZReads21
import Derived.Test.YtjjgbgojlhaapaaGreatDoorZReads13
import Derived.Test.YtjjgbgojlhaapaaGreatDoorZReads17
namespace Go.Proofs.YtjjgbgojlhaapaaGreatDoor
open Go.RowKit Go.Lib

/-! the document's functions -/
def wordR (s : ByteArray) (l : List UInt8) (k : Int) (x : St) : JV × St := if (wordIn s l x).1 then (.mk k 0 ⟨#[]⟩ [] [], ⟨x.p + l.length, x.e⟩) else (zeroV, ⟨x.p, (wordIn s l x).2.e⟩)
def numLoopR (s : ByteArray) (zero : Bool) : Nat → Nat → Int → Nat → Bool × Int × Nat
  | 0, _, n, p => (true, n, p)
  | f + 1, k, n, p => if digitB s p then (if zero && decide (0 < k) then (false, n, p) else numLoopR s zero f (k + 1) (min (10 * n + ((byteAt s p).toNat - 48 : Int)) 288230376151711744) (p + 1)) else (true, n, p)
def numEndR (s : ByteArray) (neg : Bool) (e : Int) (r : Bool × Int × Nat) : JV × St :=
  if r.1 = false then (zeroV, St.fail ⟨r.2.2, e⟩ 4)
  else if anyB s [46, 101, 69] r.2.2 then (zeroV, St.fail ⟨r.2.2, e⟩ 4)
  else if 9007199254740991 < r.2.1 then (zeroV, St.fail ⟨r.2.2, e⟩ 1)
  else (numV (if neg then -r.2.1 else r.2.1), ⟨r.2.2, e⟩)
def numAtR (s : ByteArray) (neg : Bool) (x : St) : JV × St :=
  if s.size ≤ x.p then (zeroV, x.fail 2)
  else if digitB s x.p = false then (zeroV, x.fail 4)
  else numEndR s neg x.e (numLoopR s (byteAt s x.p == 48) (s.size - x.p) 0 0 x.p)
def numR (s : ByteArray) (x : St) : JV × St := if byteAt s x.p = 45 then numAtR s true x.step else numAtR s false x
def textD (s : ByteArray) (x : St) : List UInt8 × St :=
  if (unquoteB s x.p).2.2 ≠ 0 then ([], x.fail (unquoteB s x.p).2.2)
  else ((unquoteB s x.p).1, if 8000 < (unquoteB s x.p).1.length then St.fail ⟨(unquoteB s x.p).2.1, x.e⟩ 3 else ⟨(unquoteB s x.p).2.1, x.e⟩)
def nextD (s : ByteArray) (c : UInt8) (x : St) : Bool × St :=
  let y := x.blanks s
  if y.e ≠ 0 then (false, y) else if s.size ≤ y.p then (false, y.fail 2) else if byteAt s y.p ≠ 44 ∧ byteAt s y.p ≠ c then (false, y.fail 4) else (byteAt s y.p == 44, y.step)
def emptyD (s : ByteArray) (c : UInt8) (x : St) : Bool × St :=
  let y := x.step.blanks s
  if y.p < s.size ∧ byteAt s y.p = c then (true, y.step) else (false, y)
def listLoopD (s : ByteArray) (pv : St → JV × St) : Nat → List JV → St → List JV × St
  | 0, acc, x => (acc, x)
  | f + 1, acc, x => if (nextD s 93 (pv x).2).1 then listLoopD s pv f (acc ++ [(pv x).1]) (nextD s 93 (pv x).2).2 else (acc ++ [(pv x).1], (nextD s 93 (pv x).2).2)
def listD (s : ByteArray) (pv : St → JV × St) (x : St) : JV × St :=
  let m := emptyD s 93 x
  if m.1 then (listV [], m.2) else (listV (listLoopD s pv (s.size + 1 - m.2.p) [] m.2).1, (listLoopD s pv (s.size + 1 - m.2.p) [] m.2).2)
/-- where a name belongs -/
def placeR (nm : ByteArray) (l : List (ByteArray × JV)) : Nat := (l.takeWhile fun q => Op.bytesLess q.1.toList nm.toList).length
def dupR (nm : ByteArray) (l : List (ByteArray × JV)) : Bool := match l[placeR nm l]? with
  | none => false
  | some q => q.1.toList == nm.toList
def insR (m : ByteArray × JV) (l : List (ByteArray × JV)) : List (ByteArray × JV) := l.take (placeR m.1 l) ++ m :: l.drop (placeR m.1 l)
def objLoopD (s : ByteArray) (pv : St → JV × St) : Nat → List (ByteArray × JV) → St → JV × St
  | 0, acc, x => (objV acc, x)
  | f + 1, acc, x =>
    let t := textD s (x.blanks s)
    let nm : ByteArray := ⟨t.1.toArray⟩
    if t.2.e = 0 ∧ dupR nm acc = true then (zeroV, t.2.fail 4)
    else if (t.2.blanks s).e ≠ 0 then (objV acc, t.2.blanks s)
    else if s.size ≤ (t.2.blanks s).p then (zeroV, (t.2.blanks s).fail 2)
    else if byteAt s (t.2.blanks s).p ≠ 58 then (zeroV, (t.2.blanks s).fail 4)
    else if (nextD s 125 (pv (t.2.blanks s).step).2).1 then objLoopD s pv f (insR (nm, (pv (t.2.blanks s).step).1) acc) (nextD s 125 (pv (t.2.blanks s).step).2).2
    else (objV (insR (nm, (pv (t.2.blanks s).step).1) acc), (nextD s 125 (pv (t.2.blanks s).step).2).2)
def objectD (s : ByteArray) (pv : St → JV × St) (x : St) : JV × St :=
  let m := emptyD s 125 x
  if m.1 then (objV [], m.2) else objLoopD s pv (s.size + 1 - m.2.p) [] m.2
def valueD (s : ByteArray) : Nat → St → JV × St
  | d, x =>
    let y := x.blanks s
    let c := byteAt s y.p
    if s.size ≤ y.p then (zeroV, y.fail 2)
    else if opens.contains c = false then (zeroV, y.fail 4)
    else match d with
    | 0 => (zeroV, y.fail 10)
    | d + 1 =>
      if c = 110 then wordR s [110, 117, 108, 108] 1 y
      else if c = 102 then wordR s [102, 97, 108, 115, 101] 2 y
      else if c = 116 then wordR s [116, 114, 117, 101] 3 y
      else if c = 34 then (wordV ⟨(textD s y).1.toArray⟩, (textD s y).2)
      else if c = 91 then listD s (valueD s d) y
      else if c = 123 then objectD s (valueD s d) y
      else numR s y
def parseD (s : ByteArray) : JV × Int :=
  if 20000 < s.size then (zeroV, 3)
  else if (endB s (valueD s 64 ⟨0, 0⟩).2).e ≠ 0 then (zeroV, (endB s (valueD s 64 ⟨0, 0⟩).2).e)
  else ((valueD s 64 ⟨0, 0⟩).1, 0)

/-! they agree -/
/-- two states that agree: the same error; with none, the same place -/
def Ag (x y : St) : Prop := x.e = y.e ∧ (x.e = 0 → x.p = y.p)
def AgV {α : Type} (r q : α × St) : Prop := r.2.e = q.2.e ∧ (r.2.e = 0 → r.1 = q.1 ∧ r.2.p = q.2.p)
theorem AgV.rfl' {α : Type} (r : α × St) : AgV r r := ⟨rfl, fun _ => ⟨rfl, rfl⟩⟩
theorem AgV.err {α : Type} {r q : α × St} {e : Int} (he : e ≠ 0) (h1 : r.2.e = e) (h2 : q.2.e = e) : AgV r q := ⟨h1.trans h2.symm, fun h => absurd (h1.symm.trans h) he⟩
theorem fail0 {x : St} (h : x.e = 0) (e : Int) : (x.fail e).e = e := by unfold St.fail; rw [if_pos h]
theorem fail1 {x : St} (h : x.e ≠ 0) (e : Int) : x.fail e = x := by unfold St.fail; rw [if_neg h]
theorem st_eq {x y : St} (h1 : x.p = y.p) (h2 : x.e = y.e) : x = y := by cases x; cases y; simp_all
theorem skip_end (s : ByteArray) : ∀ (f p : Nat), s.size - p ≤ f → ¬ skipB s f p < s.size ∨ isBlank (byteAt s (skipB s f p)) = false
  | 0, p, h => .inl (by simp only [skipB]; omega)
  | f + 1, p, h => by
    simp only [skipB]
    by_cases h1 : p < s.size
    · rcases hb : isBlank (byteAt s p) with _ | _
      · have e : ¬ ((decide (p < s.size) && false) = true) := by simp
        rw [if_neg e]
        exact .inr hb
      · have e : (decide (p < s.size) && true) = true := by simp [h1]
        rw [if_pos e]
        exact skip_end s f (p + 1) (by omega)
    · have e : ¬ ((decide (p < s.size) && isBlank (byteAt s p)) = true) := by simp [h1]
      rw [if_neg e]
      exact .inl h1
theorem blanks_idem (s : ByteArray) (x : St) : (x.blanks s).blanks s = x.blanks s := by
  unfold St.blanks
  simp only
  rw [skip_stop (skip_end s _ _ (Nat.le_refl _))]
theorem blanks_e (s : ByteArray) (x : St) : (x.blanks s).e = x.e := rfl
theorem blanks_le {s : ByteArray} {x : St} (h : x.p ≤ s.size) : x.p ≤ (x.blanks s).p ∧ (x.blanks s).p ≤ s.size := ⟨(skip_le _ _).1, (skip_le _ _).2 h⟩
theorem see_def (s : ByteArray) (x : St) : x.see s = if s.size ≤ (x.blanks s).p then (0, (x.blanks s).fail 2) else (byteAt s (x.blanks s).p, x.blanks s) := rfl
theorem see_of {s : ByteArray} {x : St} (h : ¬ s.size ≤ (x.blanks s).p) : x.see s = (byteAt s (x.blanks s).p, x.blanks s) := by rw [see_def, if_neg h]
theorem see_no {s : ByteArray} {x : St} (h : s.size ≤ (x.blanks s).p) : x.see s = (0, (x.blanks s).fail 2) := by rw [see_def, if_pos h]
theorem wants_of {s : ByteArray} {x : St} {c : UInt8} (h : ¬ s.size ≤ (x.blanks s).p) (h0 : x.e = 0) : x.wants s c = if byteAt s (x.blanks s).p = c then (x.blanks s).step else ((x.blanks s).fail 4).step := by
  unfold St.wants
  rw [see_of h]
  simp only
  by_cases hc : byteAt s (x.blanks s).p = c
  · rw [if_pos hc, if_neg (by rintro ⟨_, h2⟩; exact h2 hc)]
  · rw [if_neg hc, if_pos ⟨h0, hc⟩]
theorem wants_no {s : ByteArray} {x : St} {c : UInt8} (h : s.size ≤ (x.blanks s).p) (h0 : x.e = 0) : (x.wants s c).e = 2 := by
  unfold St.wants
  rw [see_no h]
  simp only
  have h2 : ((x.blanks s).fail 2).e = 2 := fail0 (x := x.blanks s) h0 2
  rw [if_neg (by rw [h2]; rintro ⟨h3, _⟩; exact absurd h3 (by decide))]
  exact h2
theorem word_in (s : ByteArray) : ∀ (l : List UInt8) (x : St), (wordIn s l x).1 = true → (wordIn s l x).2.p = x.p + l.length ∧ (wordIn s l x).2.e = x.e
  | [], _, _ => ⟨rfl, rfl⟩
  | c :: l, x, h => by
    simp only [wordIn] at h ⊢
    split at h
    · cases h
    · rename_i h1
      rw [if_neg h1]
      split at h
      · cases h
      · rename_i h2
        rw [if_neg h2]
        have := word_in s l x.step h
        exact ⟨by rw [this.1]; simp only [St.step, List.length_cons]; omega, this.2⟩
theorem word_no (s : ByteArray) : ∀ (l : List UInt8) (x : St), (wordIn s l x).1 = false → (wordIn s l x).2.e ≠ 0
  | [], _, h => by cases h
  | c :: l, x, h => by
    simp only [wordIn] at h ⊢
    split
    · exact fail_not ne2
    · rename_i h1
      rw [if_neg h1] at h
      split
      · exact fail_not ne4
      · rename_i h2
        rw [if_neg h2] at h
        exact word_no s l x.step h
theorem word_D (s : ByteArray) (l : List UInt8) (k : Int) (x : St) (_h0 : x.e = 0) : AgV (wordR s l k x) (wordB s l k x) := by
  unfold wordR wordB
  rcases h : (wordIn s l x).1 with _ | _
  · rw [if_neg (by decide), if_neg (by decide)]
    exact ⟨rfl, fun he => absurd he (word_no s l x h)⟩
  · rw [if_pos rfl, if_pos rfl]
    obtain ⟨k1, k2⟩ := word_in s l x h
    exact ⟨by simp only; rw [k2], fun _ => ⟨rfl, by simp only; rw [k1]⟩⟩
theorem numLoop_nz (s : ByteArray) (fr : Nat) : ∀ (f k : Nat) (b : Int) (p : Nat), 0 ≤ b → (numLoopR s false f k b p).1 = true ∧ numLoop s false fr f (min b 9007199254740992) p = (min (numLoopR s false f k b p).2.1 9007199254740992, (numLoopR s false f k b p).2.2)
  | 0, k, b, p, _ => ⟨rfl, rfl⟩
  | f + 1, k, b, p, hb => by
    simp only [numLoopR, numLoop, Bool.false_and, Bool.not_false, Bool.and_true, Bool.false_eq_true, if_false]
    rcases hd : digitB s p with _ | _
    · rw [if_neg (by decide), if_neg (by decide)]
      exact ⟨rfl, rfl⟩
    · rw [if_pos rfl, if_pos rfl]
      have h48 : 48 ≤ (byteAt s p).toNat := by
        unfold digitB isDigit at hd
        simp at hd
        omega
      have ih := numLoop_nz s fr f (k + 1) (min (10 * b + ((byteAt s p).toNat - 48 : Int)) 288230376151711744) (p + 1) (by omega)
      have e : min (min b 9007199254740992 * 10 + ((byteAt s p).toNat - 48 : Int)) 9007199254740992 = min (min (10 * b + ((byteAt s p).toNat - 48 : Int)) 288230376151711744) 9007199254740992 := by omega
      rw [e]
      exact ih
theorem numEndR_ok (s : ByteArray) (neg : Bool) (e n : Int) (p : Nat) : numEndR s neg e (true, n, p) = if anyB s [46, 101, 69] p = true then (zeroV, St.fail ⟨p, e⟩ 4) else if 9007199254740991 < n then (zeroV, St.fail ⟨p, e⟩ 1) else (numV (if neg then -n else n), ⟨p, e⟩) := rfl
theorem numEndR_no (s : ByteArray) (neg : Bool) (e n : Int) (p : Nat) : numEndR s neg e (false, n, p) = (zeroV, St.fail ⟨p, e⟩ 4) := rfl
theorem numAt_D (s : ByteArray) (neg : Bool) (x : St) (h0 : x.e = 0) : AgV (numAtR s neg x) (numEnd s neg (numStart s x)) := by
  unfold numAtR numStart
  by_cases h1 : s.size ≤ x.p
  · rw [if_pos h1, if_pos h1]
    refine AgV.err (e := 2) (by decide) (fail0 h0 2) ?_
    have h2 : (x.fail 2).e = 2 := fail0 h0 2
    unfold numEnd
    simp only
    split
    · exact (congrArg St.e (fail1 (by show (x.fail 2).e ≠ 0; rw [h2]; decide) 4)).trans h2
    · split
      · exact (congrArg St.e (fail1 (by show (x.fail 2).e ≠ 0; rw [h2]; decide) 1)).trans h2
      · exact h2
  · rw [if_neg h1, if_neg h1]
    rcases hd : digitB s x.p with _ | _
    · rw [if_pos rfl]
      refine AgV.err (e := 4) (by decide) (fail0 h0 4) ?_
      unfold numEnd
      simp only [numLoop_stop (s := s) (z := anyB s [48] x.p) (fr := x.p) (p := x.p) (n := 0) (.inl hd)]
      rw [if_pos (.inl trivial)]
      exact fail0 h0 4
    · rw [if_neg (by decide)]
      have hz : anyB s [48] x.p = (byteAt s x.p == 48) := by
        unfold anyB
        rw [decide_eq_true (by omega : x.p < s.size)]
        simp
        rfl
      unfold numEnd
      simp only
      rw [hz]
      obtain ⟨f, hf⟩ : ∃ f, s.size - x.p = f + 1 := ⟨s.size - x.p - 1, by omega⟩
      rw [hf]
      rcases hzz : byteAt s x.p == 48 with _ | _
      · have k := numLoop_nz s x.p (f + 1) 0 0 x.p (Int.le_refl _)
        have hp : x.p < (numLoopR s false (f + 1) 0 0 x.p).2.2 := by
          have h3 := (numLoop_range s false x.p f (min (0 * 10 + ((byteAt s x.p).toNat - 48 : Int)) 9007199254740992) (x.p + 1) (by unfold digitB isDigit at hd; simp at hd; omega) (by omega)).2.2.1
          have h4 : numLoop s false x.p (f + 1) 0 x.p = numLoop s false x.p f (min (0 * 10 + ((byteAt s x.p).toNat - 48 : Int)) 9007199254740992) (x.p + 1) := by
            simp only [numLoop, hd, Bool.false_and, Bool.not_false, Bool.and_true, if_true]
          rw [show min (0 : Int) 9007199254740992 = 0 from by decide] at k
          rw [← h4, k.2] at h3
          exact h3
        rw [show min (0 : Int) 9007199254740992 = 0 from by decide] at k
        rw [k.2]
        unfold numEndR
        rw [if_neg (by rw [k.1]; decide)]
        simp only [Bool.false_eq_true, false_and, or_false]
        generalize numLoopR s false (f + 1) 0 0 x.p = r at *
        obtain ⟨r1, n, p⟩ := r
        simp only at *
        by_cases h5 : anyB s [46, 101, 69] p = true
        · rw [if_pos h5, if_pos (show (p = x.p ∨ anyB s [46, 101, 69] p = true) from Or.inr h5)]
          exact AgV.err (e := 4) (by decide) (fail0 (x := ⟨p, x.e⟩) h0 4) (fail0 (x := ⟨p, x.e⟩) h0 4)
        · rw [if_neg h5, if_neg (show ¬ (p = x.p ∨ anyB s [46, 101, 69] p = true) from fun h => h.elim (fun h => by omega) h5)]
          by_cases h6 : 9007199254740991 < n
          · rw [if_pos h6, if_pos (show 9007199254740991 < min n 9007199254740992 by omega)]
            exact AgV.err (e := 1) (by decide) (fail0 (x := ⟨p, x.e⟩) h0 1) (fail0 (x := ⟨p, x.e⟩) h0 1)
          · rw [if_neg h6, if_neg (show ¬ 9007199254740991 < min n 9007199254740992 by omega)]
            refine ⟨rfl, fun _ => ⟨?_, rfl⟩⟩
            simp only
            congr 1
            cases neg <;> simp <;> omega
      · have h48 : byteAt s x.p = 48 := by simpa using hzz
        have e1 : numLoop s true x.p (f + 1) 0 x.p = (0, x.p + 1) := by
          simp only [numLoop, hd, h48]
          simp
          cases f with
          | zero => rfl
          | succ f => simp only [numLoop]; simp; decide
        rw [e1]
        simp only [true_and]
        have hne : ¬ (x.p + 1 = x.p) := by omega
        simp only [hne, false_or]
        have e2 : numLoopR s true (f + 1) 0 0 x.p = (if digitB s (x.p + 1) then (false, 0, x.p + 1) else (true, 0, x.p + 1)) := by
          simp only [numLoopR, hd, h48]
          simp
          cases f with
          | zero =>
            have : digitB s (x.p + 1) = false := by unfold digitB; rw [decide_eq_false (by omega)]; rfl
            rw [this]
            rfl
          | succ f => simp only [numLoopR]; simp; rw [show min (0 : Int) 288230376151711744 = 0 from by decide]
        rw [e2]
        rcases hd2 : digitB s (x.p + 1) with _ | _
        · rw [if_neg Bool.false_ne_true, numEndR_ok]
          by_cases h5 : anyB s [46, 101, 69] (x.p + 1) = true
          · rw [if_pos h5, if_pos (show (anyB s [46, 101, 69] (x.p + 1) = true ∨ false = true) from .inl h5)]
            exact AgV.err (e := 4) (by decide) (fail0 (x := ⟨x.p + 1, x.e⟩) h0 4) (fail0 (x := ⟨x.p + 1, x.e⟩) h0 4)
          · rw [if_neg h5, if_neg (show ¬ (anyB s [46, 101, 69] (x.p + 1) = true ∨ false = true) from fun h => h.elim h5 Bool.false_ne_true), if_neg (show ¬ ((9007199254740991 : Int) < 0) by decide), if_neg (show ¬ ((9007199254740991 : Int) < 0) by decide)]
            refine ⟨rfl, fun _ => ⟨?_, rfl⟩⟩
            simp only
            cases neg <;> rfl
        · rw [if_pos rfl, numEndR_no, if_pos (show (anyB s [46, 101, 69] (x.p + 1) = true ∨ true = true) from .inr rfl)]
          exact AgV.err (e := 4) (by decide) (fail0 (x := ⟨x.p + 1, x.e⟩) h0 4) (fail0 (x := ⟨x.p + 1, x.e⟩) h0 4)
theorem num_D (s : ByteArray) (x : St) (hp : x.p < s.size) (h0 : x.e = 0) : AgV (numR s x) (numberB s x) := by
  have e : anyB s [45] x.p = (byteAt s x.p == 45) := by
    unfold anyB
    rw [decide_eq_true hp]
    simp
    rfl
  unfold numR numberB
  rw [e]
  by_cases h : byteAt s x.p = 45
  · rw [if_pos h, h]
    exact numAt_D s true x.step h0
  · have h' : (byteAt s x.p == 45) = false := by simpa using h
    rw [if_neg h, h']
    exact numAt_D s false x h0
theorem text_D (s : ByteArray) (x : St) (h0 : x.e = 0) : AgV (textD s x) (textB s x) := by
  unfold textD textB
  have e0 : ¬ x.e ≠ 0 := by simpa using h0
  by_cases h1 : (unquoteB s x.p).2.2 = 0
  · have e : ¬ (unquoteB s x.p).2.2 ≠ 0 := by simpa using h1
    rw [if_neg e, if_neg e0, if_neg e]
    by_cases h2 : 8000 < (unquoteB s x.p).1.length
    · rw [if_pos h2, if_pos h2]
      exact AgV.err (e := 3) (by decide) (fail0 (x := ⟨(unquoteB s x.p).2.1, x.e⟩) h0 3) rfl
    · rw [if_neg h2, if_neg h2]
      exact ⟨h0, fun _ => ⟨rfl, rfl⟩⟩
  · rw [if_pos h1, if_neg e0, if_pos h1]
    exact AgV.err h1 (fail0 h0 _) rfl
/-- a parser of values that agrees with another, and goes forth -/
def PvD (s : ByteArray) (pd pv : St → JV × St) : Prop := ∀ x : St, x.e = 0 → x.p ≤ s.size → AgV (pd x) (pv x)
/-- what stands behind a part, as the program reads it -/
def tailB (s : ByteArray) (c : UInt8) (y : St) : Bool × St := if (y.see s).1 = c then (false, (y.see s).2.step) else if (y.see s).2.e ≠ 0 then (false, (y.see s).2) else (true, (y.see s).2.wants s 44)
theorem tail_D {s : ByteArray} {c : UInt8} {y : St} (h0 : y.e = 0) (hc : c ≠ 0 ∧ c ≠ 44) : nextD s c y = tailB s c y ∨ ((nextD s c y).1 = false ∧ (nextD s c y).2.e = 4 ∧ (tailB s c y).1 = true ∧ (tailB s c y).2.e = 4) := by
  unfold nextD tailB
  simp only
  have e0 : ¬ (y.blanks s).e ≠ 0 := fun h => h h0
  rw [if_neg e0]
  by_cases h1 : s.size ≤ (y.blanks s).p
  · have h2 : ((y.blanks s).fail 2).e = 2 := fail0 (x := y.blanks s) h0 2
    have h3 : ((y.blanks s).fail 2).e ≠ 0 := by rw [h2]; decide
    rw [if_pos h1, see_no h1]
    simp only
    rw [if_neg (show ¬ (0 : UInt8) = c from fun h => hc.1 h.symm), if_pos h3]
    exact .inl rfl
  · rw [if_neg h1, see_of h1]
    simp only
    by_cases hcc : byteAt s (y.blanks s).p = c
    · have h44 : ¬ (byteAt s (y.blanks s).p ≠ 44 ∧ byteAt s (y.blanks s).p ≠ c) := fun h => h.2 hcc
      have hb : (byteAt s (y.blanks s).p == 44) = false := by rw [hcc]; simpa using hc.2
      rw [if_neg h44, if_pos hcc, hb]
      exact .inl rfl
    · rw [if_neg hcc, if_neg e0, wants_of (x := y.blanks s) (by rw [blanks_idem]; exact h1) h0, blanks_idem]
      by_cases h44 : byteAt s (y.blanks s).p = 44
      · have hn : ¬ (byteAt s (y.blanks s).p ≠ 44 ∧ byteAt s (y.blanks s).p ≠ c) := fun h => h.1 h44
        have hb : (byteAt s (y.blanks s).p == 44) = true := by rw [h44]; rfl
        rw [if_neg hn, if_pos h44, hb]
        exact .inl rfl
      · rw [if_pos (show (byteAt s (y.blanks s).p ≠ 44 ∧ byteAt s (y.blanks s).p ≠ c) from ⟨h44, hcc⟩), if_neg h44]
        exact .inr ⟨rfl, fail0 (x := y.blanks s) h0 4, rfl, fail0 (x := y.blanks s) h0 4⟩
theorem next_err {s : ByteArray} {c : UInt8} {y : St} (h : y.e ≠ 0) : nextD s c y = (false, y.blanks s) := by
  unfold nextD
  simp only
  rw [if_pos (show (y.blanks s).e ≠ 0 from h)]
theorem next_p {s : ByteArray} {c : UInt8} {y : St} (h : y.p ≤ s.size) : (nextD s c y).2.p ≤ s.size := by
  have hb := blanks_le h
  unfold nextD
  simp only
  split
  · exact hb.2
  · split
    · rw [fail_p]; exact hb.2
    · split
      · rw [fail_p]; exact hb.2
      · simp only [St.step]; omega
theorem next_e {s : ByteArray} {c : UInt8} {y : St} (h0 : y.e = 0) (h : (nextD s c y).1 = true) : (nextD s c y).2.e = 0 := by
  unfold nextD at h ⊢
  simp only at h ⊢
  split at h
  · cases h
  · rename_i h1
    rw [if_neg h1]
    split at h
    · cases h
    · rename_i h2
      rw [if_neg h2]
      split at h
      · cases h
      · rename_i h3
        rw [if_neg h3]
        exact h0
theorem listLoop_tail {s : ByteArray} {pv : St → JV × St} {x : St} (f : Nat) (acc : List JV) (h0 : x.e = 0) (he : (pv x).2.e = 0) :
    listLoop s pv (f + 1) acc x = if (tailB s 93 (pv x).2).1 then listLoop s pv f (acc ++ [(pv x).1]) (tailB s 93 (pv x).2).2 else (acc ++ [(pv x).1], (tailB s 93 (pv x).2).2) := by
  simp only [listLoop, tailB]
  rw [if_neg (show ¬ x.e ≠ 0 from fun h => h h0), if_neg (show ¬ (pv x).2.e ≠ 0 from fun h => h he)]
  by_cases h1 : ((pv x).2.see s).1 = 93
  · simp [h1]
  · by_cases h2 : ((pv x).2.see s).2.e = 0
    · simp [h1, h2]
    · simp [h1, h2]
theorem listLoop_bad {s : ByteArray} {pv : St → JV × St} {x : St} (f : Nat) (acc : List JV) (h : x.e ≠ 0) : listLoop s pv f acc x = (acc, x) := by
  cases f with
  | zero => rfl
  | succ f => simp only [listLoop]; rw [if_pos h]
theorem list_D {s : ByteArray} {pd pv : St → JV × St} (h : PvD s pd pv) (hg : GoodV s pv) : ∀ (f : Nat) (acc : List JV) (x : St), x.e = 0 → x.p ≤ s.size → AgV (listLoopD s pd f acc x) (listLoop s pv f acc x)
  | 0, _, _, _, _ => AgV.rfl' _
  | f + 1, acc, x, h0, hp => by
    obtain ⟨k1, k2⟩ := h x h0 hp
    have hgx := hg x h0 hp
    simp only [listLoopD]
    by_cases he : (pv x).2.e = 0
    · rw [listLoop_tail f acc h0 he]
      obtain ⟨k3, k4⟩ := k2 (k1.trans he)
      have es : (pd x).2 = (pv x).2 := st_eq k4 k1
      rw [es, k3]
      have hpl := hgx.1 he
      rcases tail_D (s := s) (c := 93) he (by decide) with ht | ⟨t1, t2, t3, t4⟩
      · rw [← ht]
        rcases hn : (nextD s 93 (pv x).2).1 with _ | _
        · rw [if_neg Bool.false_ne_true, if_neg Bool.false_ne_true]
          exact AgV.rfl' _
        · rw [if_pos rfl, if_pos rfl]
          exact list_D h hg f _ _ (next_e he hn) (next_p hpl.2)
      · rw [t1, t3, if_neg Bool.false_ne_true, if_pos rfl, listLoop_bad f _ (by rw [t4]; decide)]
        exact AgV.err (e := 4) (by decide) t2 t4
    · have hde : (pd x).2.e ≠ 0 := by rw [k1]; exact he
      have hb : listLoop s pv (f + 1) acc x = (acc ++ [(pv x).1], (pv x).2) := by
        simp only [listLoop]
        rw [if_neg (show ¬ x.e ≠ 0 from fun h => h h0), if_pos he]
      rw [next_err hde, if_neg Bool.false_ne_true, hb]
      exact ⟨k1, fun h => absurd h hde⟩
/-- members in order: the place of a name -/
theorem place_lt (nm : ByteArray) : ∀ (l : List (ByteArray × JV)), (∀ q ∈ l.take (placeR nm l), q.1.toList < nm.toList) ∧ (∀ q, l[placeR nm l]? = some q → ¬ q.1.toList < nm.toList) ∧ placeR nm l ≤ l.length
  | [] => by simp [placeR]
  | q :: l => by
    have ih := place_lt nm l
    unfold placeR at ih ⊢
    by_cases h : Op.bytesLess q.1.toList nm.toList = true
    · rw [List.takeWhile_cons_of_pos (p := fun q : ByteArray × JV => Op.bytesLess q.1.toList nm.toList) h]
      refine ⟨fun r hr => ?_, fun r hr => ih.2.1 r (by simpa using hr), by simpa using ih.2.2⟩
      rw [List.length_cons, List.take_succ_cons] at hr
      rcases List.mem_cons.1 hr with rfl | hr
      · exact (less_iff _ _).1 h
      · exact ih.1 r hr
    · rw [List.takeWhile_cons_of_neg (p := fun q : ByteArray × JV => Op.bytesLess q.1.toList nm.toList) h]
      refine ⟨fun r hr => by simp at hr, fun r hr => ?_, by simp⟩
      have : q = r := by simpa using hr
      subst this
      exact fun h2 => h ((less_iff _ _).2 h2)
theorem dup_mem {nm : ByteArray} {l : List (ByteArray × JV)} (hl : l.Pairwise NmLt) : dupR nm l = true ↔ ∃ q ∈ l, q.1.toList = nm.toList := by
  obtain ⟨h1, h2, h3⟩ := place_lt nm l
  unfold dupR
  generalize placeR nm l = k at *
  constructor
  · intro h
    rcases hq : l[k]? with _ | q
    · rw [hq] at h; cases h
    · rw [hq] at h
      exact ⟨q, List.mem_of_getElem? hq, by simpa using h⟩
  · rintro ⟨q, hq, he⟩
    obtain ⟨j, hj, rfl⟩ := List.mem_iff_getElem.1 hq
    have hjk : ¬ j < k := fun hlt => by
      have := h1 l[j] (by rw [List.mem_take_iff_getElem]; exact ⟨j, by omega, rfl⟩)
      rw [he] at this
      exact List.lt_irrefl _ this
    have hk : k < l.length := by omega
    rw [List.getElem?_eq_getElem hk]
    have hnk := h2 l[k] (List.getElem?_eq_getElem hk)
    by_cases hkj : k = j
    · subst hkj; simpa using he
    · exfalso
      have : NmLt l[k] l[j] := List.pairwise_iff_getElem.1 hl k j hk hj (by omega)
      unfold NmLt at this
      rw [he] at this
      exact hnk this
theorem ins_R_mem (m q : ByteArray × JV) (l : List (ByteArray × JV)) : q ∈ insR m l ↔ q = m ∨ q ∈ l := by
  unfold insR
  rw [List.mem_append, List.mem_cons]
  constructor
  · rintro (h | h | h)
    · exact .inr (List.mem_of_mem_take h)
    · exact .inl h
    · exact .inr (List.mem_of_mem_drop h)
  · rintro (h | h)
    · exact .inr (.inl h)
    · rw [← List.take_append_drop (placeR m.1 l) l] at h
      rcases List.mem_append.1 h with h | h
      · exact .inl h
      · exact .inr (.inr h)
theorem ins_R_rising (m : ByteArray × JV) {l : List (ByteArray × JV)} (hl : l.Pairwise NmLt) (hn : ∀ q ∈ l, q.1.toList ≠ m.1.toList) : (insR m l).Pairwise NmLt := by
  obtain ⟨h1, h2, h3⟩ := place_lt m.1 l
  unfold insR
  generalize placeR m.1 l = k at *
  have hd : ∀ q ∈ l.drop k, NmLt m q := fun q hq => by
    obtain ⟨j, hj, rfl⟩ := List.mem_iff_getElem.1 hq
    rw [List.length_drop] at hj
    rw [List.getElem_drop]
    have hk : k < l.length := by omega
    have hnk := h2 l[k] (List.getElem?_eq_getElem hk)
    have h5 : m.1.toList < l[k].1.toList := lt_of_ne hnk (hn _ (List.getElem_mem hk))
    cases j with
    | zero => simpa [NmLt] using h5
    | succ j =>
      have h6 : NmLt l[k] l[k + (j + 1)] := List.pairwise_iff_getElem.1 hl k (k + (j + 1)) hk (by omega) (by omega)
      exact List.lt_trans h5 h6
  have htd : ∀ q ∈ l.take k, ∀ r ∈ l.drop k, NmLt q r := by
    have := hl
    rw [← List.take_append_drop k l] at this
    exact fun q hq r hr => (List.pairwise_append.1 this).2.2 q hq r hr
  refine List.pairwise_append.2 ⟨hl.sublist (List.take_sublist _ _), List.pairwise_cons.2 ⟨hd, hl.sublist (List.drop_sublist _ _)⟩, fun q hq r hr => ?_⟩
  rcases List.mem_cons.1 hr with rfl | hr
  · exact h1 q hq
  · exact htd q hq r hr
/-- two rows in order with the same members are one -/
theorem rising_eq : ∀ (l m : List (ByteArray × JV)), l.Pairwise NmLt → m.Pairwise NmLt → (∀ q, q ∈ l ↔ q ∈ m) → l = m
  | [], [], _, _, _ => rfl
  | [], r :: m, _, _, h => absurd ((h r).2 (List.mem_cons_self ..)) (by simp)
  | r :: l, [], _, _, h => absurd ((h r).1 (List.mem_cons_self ..)) (by simp)
  | a :: l, b :: m, hl, hm, h => by
    have hl' := List.pairwise_cons.1 hl
    have hm' := List.pairwise_cons.1 hm
    have irr : ∀ q : ByteArray × JV, ¬ NmLt q q := fun q => List.lt_irrefl _
    have hab : a = b := by
      rcases List.mem_cons.1 ((h a).1 (List.mem_cons_self ..)) with h1 | h1
      · exact h1
      · rcases List.mem_cons.1 ((h b).2 (List.mem_cons_self ..)) with h2 | h2
        · exact h2.symm
        · exact absurd (List.lt_trans (hl'.1 b h2) (hm'.1 a h1)) (List.lt_irrefl _)
    subst hab
    congr 1
    refine rising_eq l m hl'.2 hm'.2 fun q => ⟨fun hq => ?_, fun hq => ?_⟩
    · rcases List.mem_cons.1 ((h q).1 (List.mem_cons_of_mem _ hq)) with rfl | h1
      · exact absurd (hl'.1 _ hq) (irr _)
      · exact h1
    · rcases List.mem_cons.1 ((h q).2 (List.mem_cons_of_mem _ hq)) with rfl | h1
      · exact absurd (hm'.1 _ hq) (irr _)
      · exact h1
theorem sort_snoc {l : List (ByteArray × JV)} {m : ByteArray × JV} (hl : l.Pairwise NmNe) (hn : ∀ q ∈ l, q.1.toList ≠ m.1.toList) : insR m (sortNames l) = sortNames (l ++ [m]) := by
  have hl' : (l ++ [m]).Pairwise NmNe := List.pairwise_append.2 ⟨hl, List.pairwise_singleton _ _, fun q hq r hr => by
    have : r = m := by simpa using hr
    subst this
    exact hn q hq⟩
  refine rising_eq _ _ (ins_R_rising m (sort_names l hl) (fun q hq => hn q ((sort_mem q l).1 hq))) (sort_names _ hl') fun q => ?_
  rw [ins_R_mem, sort_mem, sort_mem, List.mem_append, List.mem_singleton]
  exact Or.comm
theorem objLoop_tail {s : ByteArray} {pv : St → JV × St} {x : St} (f : Nat) (acc : List (ByteArray × JV)) (h0 : x.e = 0) (he : (memberB s pv acc x).2.e = 0) :
    objLoop s pv (f + 1) acc x = if (tailB s 125 (memberB s pv acc x).2).1 then objLoop s pv f (acc ++ [(memberB s pv acc x).1]) (tailB s 125 (memberB s pv acc x).2).2 else (acc ++ [(memberB s pv acc x).1], (tailB s 125 (memberB s pv acc x).2).2) := by
  simp only [objLoop, tailB]
  rw [if_neg (show ¬ x.e ≠ 0 from fun h => h h0), if_neg (show ¬ (memberB s pv acc x).2.e ≠ 0 from fun h => h he)]
  generalize memberB s pv acc x = m
  by_cases h1 : (m.2.see s).1 = 125
  · simp [h1]
  · by_cases h2 : (m.2.see s).2.e = 0
    · simp [h1, h2]
    · simp [h1, h2]
theorem objLoop_bad {s : ByteArray} {pv : St → JV × St} {x : St} (f : Nat) (acc : List (ByteArray × JV)) (h : x.e ≠ 0) : objLoop s pv f acc x = (acc, x) := by
  cases f with
  | zero => rfl
  | succ f => simp only [objLoop]; rw [if_pos h]
theorem objLoop_no {s : ByteArray} {pv : St → JV × St} {x : St} (f : Nat) (acc : List (ByteArray × JV)) (h0 : x.e = 0) (he : (memberB s pv acc x).2.e ≠ 0) : objLoop s pv (f + 1) acc x = (acc ++ [(memberB s pv acc x).1], (memberB s pv acc x).2) := by
  simp only [objLoop]
  rw [if_neg (show ¬ x.e ≠ 0 from fun h => h h0), if_pos he]
/-- a name, where it must stand -/
theorem name_D {s : ByteArray} {x : St} (h0 : x.e = 0) (hp : x.p ≤ s.size) : AgV (textD s (x.blanks s)) (textB s (if (x.see s).1 ≠ 34 then (x.see s).2.fail 4 else (x.see s).2)) ∧ ((textD s (x.blanks s)).2.e = 0 → (textD s (x.blanks s)).2.p ≤ s.size) := by
  have hb := blanks_le (s := s) (x := x) hp
  have hz0 : (x.blanks s).e = 0 := h0
  constructor
  · by_cases h1 : s.size ≤ (x.blanks s).p
    · have hu : (unquoteB s (x.blanks s).p).2.2 = 2 := by
        rw [← runq_eq s (x.blanks s).p hb.2]
        unfold runquoteB
        rw [if_pos h1]
      have h2 : ((x.blanks s).fail 2).e = 2 := fail0 hz0 2
      have h3 : ((x.blanks s).fail 2).e ≠ 0 := by rw [h2]; decide
      rw [see_no h1, if_pos (show ((0 : UInt8), (x.blanks s).fail 2).1 ≠ 34 from (by decide : (0 : UInt8) ≠ 34))]
      simp only
      rw [fail1 h3]
      refine AgV.err (e := 2) (by decide) ?_ ?_
      · unfold textD
        rw [hu, if_pos (show (2 : Int) ≠ 0 by decide)]
        exact fail0 hz0 2
      · unfold textB
        rw [if_pos h3]
        exact h2
    · rw [see_of h1]
      simp only
      by_cases h34 : byteAt s (x.blanks s).p = 34
      · rw [if_neg (show ¬ byteAt s (x.blanks s).p ≠ 34 from fun h => h h34)]
        exact text_D s _ hz0
      · have hu : (unquoteB s (x.blanks s).p).2.2 = 4 := by
          rw [← runq_eq s (x.blanks s).p hb.2]
          unfold runquoteB
          rw [if_neg h1, if_pos h34]
        have h2 : ((x.blanks s).fail 4).e = 4 := fail0 hz0 4
        have h3 : ((x.blanks s).fail 4).e ≠ 0 := by rw [h2]; decide
        rw [if_pos h34]
        refine AgV.err (e := 4) (by decide) ?_ ?_
        · unfold textD
          rw [hu, if_pos (show (4 : Int) ≠ 0 by decide)]
          exact fail0 hz0 4
        · unfold textB
          rw [if_pos h3]
          exact h2
  · intro he
    unfold textD at he ⊢
    by_cases h1 : (unquoteB s (x.blanks s).p).2.2 = 0
    · have h1' : ¬ (unquoteB s (x.blanks s).p).2.2 ≠ 0 := fun h => h h1
      rw [if_neg h1'] at he ⊢
      by_cases h2 : 8000 < (unquoteB s (x.blanks s).p).1.length
      · rw [if_pos h2] at he
        exact absurd ((fail0 (x := ⟨(unquoteB s (x.blanks s).p).2.1, (x.blanks s).e⟩) hz0 3).symm.trans he) (by decide)
      · rw [if_neg h2]
        exact unquote_le s _ hb.2
    · rw [if_pos h1] at he
      exact absurd ((fail0 hz0 _).symm.trans he) h1
def colonB (s : ByteArray) (pv : St → JV × St) (l : List (ByteArray × JV)) (t : List UInt8 × St) : (ByteArray × JV) × St :=
  let nm : ByteArray := ⟨t.1.toArray⟩
  let z := if l.any (fun m => m.1.toList == nm.toList) then t.2.fail 4 else t.2
  let u := if z.e = 0 then z.wants s 58 else z
  if u.e = 0 then ((nm, (pv u).1), (pv u).2) else ((nm, zeroV), u)
theorem member_colon (s : ByteArray) (pv : St → JV × St) (l : List (ByteArray × JV)) (x : St) : memberB s pv l x = colonB s pv l (textB s (if (x.see s).1 ≠ 34 then (x.see s).2.fail 4 else (x.see s).2)) := rfl
theorem colon_err {s : ByteArray} {pv : St → JV × St} {l : List (ByteArray × JV)} {t : List UInt8 × St} (h : t.2.e ≠ 0) : (colonB s pv l t).2.e = t.2.e := by
  unfold colonB
  simp only
  have hz : (if (l.any fun m => m.1.toList == (⟨t.1.toArray⟩ : ByteArray).toList) = true then t.2.fail 4 else t.2) = t.2 := by
    split
    · exact fail1 h 4
    · rfl
  rw [hz, if_neg h, if_neg h]
theorem colon_dup {s : ByteArray} {pv : St → JV × St} {l : List (ByteArray × JV)} {t : List UInt8 × St} (h0 : t.2.e = 0) (h : (l.any fun m => m.1.toList == (⟨t.1.toArray⟩ : ByteArray).toList) = true) : (colonB s pv l t).2.e = 4 := by
  unfold colonB
  simp only
  have h4 : (t.2.fail 4).e = 4 := fail0 h0 4
  have h5 : ¬ (t.2.fail 4).e = 0 := by rw [h4]; decide
  rw [if_pos h, if_neg h5, if_neg h5]
  exact h4
theorem colon_new {s : ByteArray} {pv : St → JV × St} {l : List (ByteArray × JV)} {t : List UInt8 × St} (h0 : t.2.e = 0) (h : (l.any fun m => m.1.toList == (⟨t.1.toArray⟩ : ByteArray).toList) = false) :
    colonB s pv l t = if (t.2.wants s 58).e = 0 then ((⟨t.1.toArray⟩, (pv (t.2.wants s 58)).1), (pv (t.2.wants s 58)).2) else ((⟨t.1.toArray⟩, zeroV), t.2.wants s 58) := by
  unfold colonB
  simp only
  rw [h, if_neg Bool.false_ne_true, if_pos h0]
theorem obj_D {s : ByteArray} {pd pv : St → JV × St} (h : PvD s pd pv) (hg : GoodV s pv) : ∀ (f : Nat) (acc : List (ByteArray × JV)) (x : St), x.e = 0 → x.p ≤ s.size → acc.Pairwise NmNe →
    AgV (objLoopD s pd f (sortNames acc) x) (objV (sortNames (objLoop s pv f acc x).1), (objLoop s pv f acc x).2)
  | 0, _, _, _, _, _ => AgV.rfl' _
  | f + 1, acc, x, h0, hp, hacc => by
    obtain ⟨⟨t1, t2⟩, htl⟩ := name_D (s := s) h0 hp
    have hmem := member_colon s pv acc x
    simp only [objLoopD]
    generalize textD s (x.blanks s) = td at *
    generalize textB s (if (x.see s).1 ≠ 34 then (x.see s).2.fail 4 else (x.see s).2) = tb at *
    by_cases hte : tb.2.e = 0
    · have htd : td.2.e = 0 := t1.trans hte
      obtain ⟨t3, t4⟩ := t2 htd
      have e1 : td = tb := Prod.ext t3 (st_eq t4 t1)
      subst e1
      have hpt := htl htd
      have hany : (acc.any fun m => m.1.toList == (⟨td.1.toArray⟩ : ByteArray).toList) = dupR ⟨td.1.toArray⟩ (sortNames acc) := by
        rw [Bool.eq_iff_iff, dup_mem (sort_names acc hacc), List.any_eq_true]
        constructor
        · rintro ⟨q, hq, he⟩; exact ⟨q, (sort_mem q acc).2 hq, by simpa using he⟩
        · rintro ⟨q, hq, he⟩; exact ⟨q, (sort_mem q acc).1 hq, by simpa using he⟩
      rcases hdup : dupR ⟨td.1.toArray⟩ (sortNames acc) with _ | _
      · rw [if_neg (show ¬ (td.2.e = 0 ∧ false = true) from fun h => Bool.false_ne_true h.2), if_neg (show ¬ (td.2.blanks s).e ≠ 0 from fun h => h htd)]
        rw [colon_new htd (hany.trans hdup)] at hmem
        have hbt := blanks_le (s := s) (x := td.2) hpt
        by_cases h1 : s.size ≤ (td.2.blanks s).p
        · have hw : (td.2.wants s 58).e = 2 := wants_no h1 htd
          have hw0 : ¬ (td.2.wants s 58).e = 0 := by rw [hw]; decide
          rw [if_pos h1]
          rw [if_neg hw0] at hmem
          rw [objLoop_no f acc h0 (by rw [hmem]; exact hw0), hmem]
          exact AgV.err (e := 2) (by decide) (fail0 (x := td.2.blanks s) htd 2) hw
        · rw [if_neg h1]
          have hwd := wants_of (c := 58) h1 htd
          by_cases h58 : byteAt s (td.2.blanks s).p = 58
          · rw [if_neg (show ¬ byteAt s (td.2.blanks s).p ≠ 58 from fun h => h h58)]
            rw [if_pos h58] at hwd
            have hse : (td.2.blanks s).step.e = 0 := htd
            rw [hwd, if_pos hse] at hmem
            have hsp : (td.2.blanks s).step.p ≤ s.size := by simp only [St.step]; omega
            obtain ⟨k1, k2⟩ := h _ hse hsp
            have hgx := hg _ hse hsp
            generalize (td.2.blanks s).step = u at *
            have hnm : ∀ q ∈ acc, q.1.toList ≠ (⟨td.1.toArray⟩ : ByteArray).toList := fun q hq he => by
              have := (dup_mem (nm := ⟨td.1.toArray⟩) (sort_names acc hacc)).2 ⟨q, (sort_mem q acc).2 hq, he⟩
              rw [hdup] at this
              cases this
            by_cases he : (pv u).2.e = 0
            · rw [objLoop_tail f acc h0 (by rw [hmem]; exact he), hmem]
              simp only
              obtain ⟨k3, k4⟩ := k2 (k1.trans he)
              have es : (pd u).2 = (pv u).2 := st_eq k4 k1
              rw [es, k3, sort_snoc hacc (m := (⟨td.1.toArray⟩, (pv u).1)) hnm]
              have hpl := hgx.1 he
              have hacc' : (acc ++ [((⟨td.1.toArray⟩ : ByteArray), (pv u).1)]).Pairwise NmNe := List.pairwise_append.2 ⟨hacc, List.pairwise_singleton _ _, fun q hq r hr => by
                have : r = (⟨td.1.toArray⟩, (pv u).1) := by simpa using hr
                subst this
                exact hnm q hq⟩
              rcases tail_D (s := s) (c := 125) he (by decide) with ht | ⟨s1, s2, s3, s4⟩
              · rw [← ht]
                rcases hn : (nextD s 125 (pv u).2).1 with _ | _
                · rw [if_neg Bool.false_ne_true, if_neg Bool.false_ne_true]
                  exact AgV.rfl' _
                · rw [if_pos rfl, if_pos rfl]
                  exact obj_D h hg f _ _ (next_e he hn) (next_p hpl.2) hacc'
              · rw [s1, s3, if_neg Bool.false_ne_true, if_pos rfl, objLoop_bad f _ (by rw [s4]; decide)]
                exact AgV.err (e := 4) (by decide) s2 s4
            · have hde : (pd u).2.e ≠ 0 := by rw [k1]; exact he
              rw [objLoop_no f acc h0 (by rw [hmem]; exact he), hmem, next_err hde, if_neg Bool.false_ne_true]
              exact ⟨k1, fun h => absurd h hde⟩
          · rw [if_pos h58]
            rw [if_neg h58] at hwd
            have hw : (td.2.wants s 58).e = 4 := by rw [hwd]; exact fail0 (x := td.2.blanks s) htd 4
            have hw0 : ¬ (td.2.wants s 58).e = 0 := by rw [hw]; decide
            rw [if_neg hw0] at hmem
            rw [objLoop_no f acc h0 (by rw [hmem]; exact hw0), hmem]
            exact AgV.err (e := 4) (by decide) (fail0 (x := td.2.blanks s) htd 4) hw
      · rw [if_pos (show (td.2.e = 0 ∧ true = true) from ⟨htd, rfl⟩)]
        have hw := colon_dup (s := s) (pv := pv) htd (hany.trans hdup)
        rw [objLoop_no f acc h0 (by rw [hmem, hw]; decide), hmem]
        exact AgV.err (e := 4) (by decide) (fail0 htd 4) hw
    · have hde : td.2.e ≠ 0 := by rw [t1]; exact hte
      have hw := colon_err (s := s) (pv := pv) (l := acc) hte
      rw [if_neg (show ¬ (td.2.e = 0 ∧ dupR ⟨td.1.toArray⟩ (sortNames acc) = true) from fun h => hde h.1), if_pos (show (td.2.blanks s).e ≠ 0 from hde), objLoop_no f acc h0 (by rw [hmem, hw]; exact hte), hmem]
      exact ⟨t1.trans hw.symm, fun h => absurd h hde⟩
theorem empty_D (s : ByteArray) (c : UInt8) (x : St) (h0 : x.e = 0) (hc : c ≠ 0) : (emptyD s c x).1 = ((x.step.see s).1 == c) ∧ ((emptyD s c x).1 = true → (emptyD s c x).2 = (x.step.see s).2.step) ∧ ((emptyD s c x).1 = false → (emptyD s c x).2 = x.step.blanks s ∧ (s.size ≤ (x.step.blanks s).p → (x.step.see s).2.e = 2) ∧ (¬ s.size ≤ (x.step.blanks s).p → (x.step.see s).2 = x.step.blanks s)) := by
  unfold emptyD
  simp only
  by_cases h1 : s.size ≤ (x.step.blanks s).p
  · rw [if_neg (by omega), see_no h1]
    refine ⟨by simpa using fun h => hc h.symm, fun h => (by cases h), fun _ => ⟨rfl, fun _ => fail0 (x := x.step.blanks s) h0 2, fun h => absurd h1 h⟩⟩
  · rw [see_of h1]
    by_cases h2 : byteAt s (x.step.blanks s).p = c
    · rw [if_pos ⟨by omega, h2⟩]
      exact ⟨by simpa using h2, fun _ => rfl, fun h => (by cases h)⟩
    · rw [if_neg (fun h => h2 h.2)]
      exact ⟨by simpa using h2, fun h => (by cases h), fun _ => ⟨rfl, fun h => absurd h h1, fun _ => rfl⟩⟩
theorem value_D (s : ByteArray) : ∀ (d : Nat), PvD s (valueD s d) (valueB s d)
  | d, x, h0, hp => by
    have hb := blanks_le (s := s) (x := x) hp
    unfold valueD
    simp only
    by_cases h1 : s.size ≤ (x.blanks s).p
    · rw [if_pos h1]
      have h2 : (x.see s).2.e = 2 := by rw [see_no h1]; exact fail0 (x := x.blanks s) h0 2
      refine AgV.err (e := 2) (by decide) (fail0 (x := x.blanks s) h0 2) ?_
      cases d <;> (simp only [valueB]; rw [if_pos (by rw [h2]; decide)]; exact h2)
    · rw [if_neg h1]
      have hs := see_of h1
      generalize hy : x.blanks s = y at *
      have hye : y.e = 0 := by rw [← hy]; exact h0
      rcases hc : opens.contains (byteAt s y.p) with _ | _
      · rw [if_pos rfl]
        have hn4 : (numberB s y).2.e = 4 := by
          have h1' : anyB s [45] y.p = false := by
            unfold anyB
            rw [decide_eq_true (by omega : y.p < s.size)]
            by_cases h : byteAt s y.p = 45
            · rw [digit_opens (.inl h)] at hc; exact absurd hc (by decide)
            · simpa using h
          have h2' : digitB s y.p = false := by
            unfold digitB
            rcases hd : isDigit (byteAt s y.p) with _ | _
            · simp
            · rw [digit_opens (.inr hd)] at hc; exact absurd hc (by decide)
          unfold numberB
          rw [h1', if_neg (show ¬ ((false : Bool) = true) by decide)]
          have hns : numStart s y = y := by unfold numStart; rw [if_neg h1]
          rw [hns]
          unfold numEnd
          simp only [numLoop_stop (s := s) (z := anyB s [48] y.p) (fr := y.p) (p := y.p) (n := 0) (.inl h2')]
          rw [if_pos (.inl trivial)]
          exact fail0 hye 4
        have hno : ∀ c : UInt8, opens.contains c = true → byteAt s y.p ≠ c := fun c h e => by rw [e, h] at hc; cases hc
        refine AgV.err (e := 4) (by decide) (fail0 hye 4) ?_
        cases d with
        | zero =>
          simp only [valueB]
          rw [hs]
          simp only
          rw [if_neg (show ¬ y.e ≠ 0 from fun h => h hye), hc, if_neg (by decide)]
          exact hn4
        | succ d =>
          simp only [valueB]
          rw [hs]
          simp only
          rw [if_neg (show ¬ y.e ≠ 0 from fun h => h hye), if_neg (hno 91 (by decide)), if_neg (hno 123 (by decide)), if_neg (hno 34 (by decide)), if_neg (hno 116 (by decide)), if_neg (hno 102 (by decide)), if_neg (hno 110 (by decide))]
          exact hn4
      · rw [if_neg (by decide)]
        cases d with
        | zero =>
          simp only [valueB]
          rw [hs]
          simp only
          rw [if_neg (show ¬ y.e ≠ 0 from fun h => h hye), hc, if_pos rfl]
          exact AgV.rfl' _
        | succ d =>
          have ih := value_D s d
          have hg := value_good s d
          simp only [valueB]
          rw [hs]
          simp only
          rw [if_neg (show ¬ y.e ≠ 0 from fun h => h hye)]
          have hyl : y.step.p ≤ s.size := by simp only [St.step]; omega
          by_cases c1 : byteAt s y.p = 110
          · rw [c1, if_pos rfl, if_neg (by decide), if_neg (by decide), if_neg (by decide), if_neg (by decide), if_neg (by decide), if_pos rfl]
            exact word_D s _ 1 y hye
          rw [if_neg c1]
          by_cases c2 : byteAt s y.p = 102
          · rw [c2, if_pos rfl, if_neg (by decide), if_neg (by decide), if_neg (by decide), if_neg (by decide), if_pos rfl]
            exact word_D s _ 2 y hye
          rw [if_neg c2]
          by_cases c3 : byteAt s y.p = 116
          · rw [c3, if_pos rfl, if_neg (by decide), if_neg (by decide), if_neg (by decide), if_pos rfl]
            exact word_D s _ 3 y hye
          rw [if_neg c3]
          by_cases c4 : byteAt s y.p = 34
          · rw [c4, if_pos rfl, if_neg (by decide), if_neg (by decide), if_pos rfl]
            obtain ⟨t1, t2⟩ := text_D s y hye
            exact ⟨t1, fun he => ⟨by simp only; rw [(t2 he).1], (t2 he).2⟩⟩
          rw [if_neg c4]
          by_cases c5 : byteAt s y.p = 91
          · rw [c5, if_pos rfl, if_pos rfl]
            unfold listD listB
            simp only
            obtain ⟨m1, m2, m3⟩ := empty_D s 93 y hye (by decide)
            have hyb := blanks_le (s := s) (x := y.step) hyl
            rcases hm : (emptyD s 93 y).1 with _ | _
            · rw [if_neg (by decide)]
              have hne : (y.step.see s).1 ≠ 93 := by rw [hm] at m1; simpa using m1.symm
              obtain ⟨m4, m5, m6⟩ := m3 hm
              rw [if_neg hne, m4]
              by_cases h2 : s.size ≤ (y.step.blanks s).p
              · have h3 := m5 h2
                have h4 : (listLoop s (valueB s d) (s.size + 1 - (y.step.see s).2.p) [] (y.step.see s).2).2.e = 2 := by
                  cases s.size + 1 - (y.step.see s).2.p with
                  | zero => exact h3
                  | succ f =>
                    simp only [listLoop]
                    rw [if_pos (by rw [h3]; decide)]
                    exact h3
                refine AgV.err (e := 2) (by decide) ?_ h4
                have e : s.size + 1 - (y.step.blanks s).p = (s.size - (y.step.blanks s).p) + 1 := by omega
                rw [e]
                simp only [listLoopD]
                have hv : (valueD s d (y.step.blanks s)).2.e = 2 := by
                  unfold valueD
                  simp only
                  rw [blanks_idem, if_pos h2]
                  exact fail0 (x := y.step.blanks s) hye 2
                have hn : nextD s 93 (valueD s d (y.step.blanks s)).2 = (false, (valueD s d (y.step.blanks s)).2.blanks s) := by
                  unfold nextD
                  simp only
                  rw [blanks_e, if_pos (by rw [hv]; decide)]
                rw [hn, if_neg Bool.false_ne_true]
                exact hv
              · rw [m6 h2]
                obtain ⟨l1, l2⟩ := list_D ih hg (s.size + 1 - (y.step.blanks s).p) [] (y.step.blanks s) hye hyb.2
                exact ⟨l1, fun he => ⟨by simp only; rw [(l2 he).1], (l2 he).2⟩⟩
            · rw [if_pos rfl]
              have heq : (y.step.see s).1 = 93 := by rw [hm] at m1; simpa using m1.symm
              rw [if_pos heq, m2 hm]
              exact AgV.rfl' _
          rw [if_neg c5, if_neg c5]
          by_cases c6 : byteAt s y.p = 123
          · rw [c6, if_pos rfl, if_pos rfl]
            unfold objectD objectB
            simp only
            obtain ⟨m1, m2, m3⟩ := empty_D s 125 y hye (by decide)
            have hyb := blanks_le (s := s) (x := y.step) hyl
            rcases hm : (emptyD s 125 y).1 with _ | _
            · rw [if_neg (by decide)]
              have hne : (y.step.see s).1 ≠ 125 := by rw [hm] at m1; simpa using m1.symm
              obtain ⟨m4, m5, m6⟩ := m3 hm
              rw [if_neg hne, m4]
              by_cases h2 : s.size ≤ (y.step.blanks s).p
              · have h3 := m5 h2
                have h4 : (objLoop s (valueB s d) (s.size + 1 - (y.step.see s).2.p) [] (y.step.see s).2).2.e = 2 := by
                  cases s.size + 1 - (y.step.see s).2.p with
                  | zero => exact h3
                  | succ f =>
                    simp only [objLoop]
                    rw [if_pos (by rw [h3]; decide)]
                    exact h3
                refine AgV.err (e := 2) (by decide) ?_ h4
                have e : s.size + 1 - (y.step.blanks s).p = (s.size - (y.step.blanks s).p) + 1 := by omega
                rw [e]
                simp only [objLoopD]
                rw [blanks_idem]
                have hu : (unquoteB s (y.step.blanks s).p).2.2 = 2 := by
                  rw [← runq_eq s _ hyb.2]
                  unfold runquoteB
                  rw [if_pos h2]
                have ht : (textD s (y.step.blanks s)).2.e = 2 := by
                  unfold textD
                  rw [if_pos (by rw [hu]; decide), hu]
                  exact fail0 (x := y.step.blanks s) hye 2
                rw [if_neg (by rw [ht]; rintro ⟨h, _⟩; exact absurd h (by decide)), blanks_e, if_pos (by rw [ht]; decide)]
                exact ht
              · rw [m6 h2]
                exact obj_D ih hg (s.size + 1 - (y.step.blanks s).p) [] (y.step.blanks s) hye hyb.2 List.Pairwise.nil
            · rw [if_pos rfl]
              have heq : (y.step.see s).1 = 125 := by rw [hm] at m1; simpa using m1.symm
              rw [if_pos heq, m2 hm]
              exact AgV.rfl' _
          rw [if_neg c6, if_neg c6, if_neg c4, if_neg c3, if_neg c2, if_neg c1]
          exact num_D s y (by omega) hye
theorem parse_D (s : ByteArray) : parseD s = parseB s := by
  unfold parseD parseB
  by_cases h1 : 20000 < s.size
  · rw [if_pos h1, if_pos h1]
  · rw [if_neg h1, if_neg h1]
    obtain ⟨k1, k2⟩ := value_D s 64 ⟨0, 0⟩ rfl (Nat.zero_le _)
    by_cases he : (valueB s 64 ⟨0, 0⟩).2.e = 0
    · obtain ⟨k3, k4⟩ := k2 (k1.trans he)
      have e : valueD s 64 ⟨0, 0⟩ = valueB s 64 ⟨0, 0⟩ := Prod.ext k3 (st_eq k4 k1)
      rw [e]
    · have e1 := endB_err (s := s) he
      have e2 := endB_err (s := s) (y := (valueD s 64 ⟨0, 0⟩).2) (by rw [k1]; exact he)
      rw [e1, e2, k1, if_pos he, if_pos he]
end Go.Proofs.YtjjgbgojlhaapaaGreatDoor
