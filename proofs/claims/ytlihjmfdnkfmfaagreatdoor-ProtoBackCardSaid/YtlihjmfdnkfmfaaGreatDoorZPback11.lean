/- Parts of the proof: Rt, Va. -/
import Derived.Test.YtlihjmfdnkfmfaaGreatDoorZPback10
import Derived.Test.YtlihjmfdnkfmfaaGreatDoorZPback8
namespace Go.Proofs.YtlihjmfdnkfmfaaGreatDoor
open Go.RowKit Go.Lib

def textB (s : ByteArray) (x : St) : List UInt8 × St :=
  if x.e ≠ 0 then ([], x)
  else ((unquoteB s x.p).1, ⟨(unquoteB s x.p).2.1, if (unquoteB s x.p).2.2 ≠ 0 then (unquoteB s x.p).2.2 else if 8000 < (unquoteB s x.p).1.length then 3 else 0⟩)
theorem unqLoop_le (s : ByteArray) : ∀ (f : Nat) (acc : List UInt8) (x : St), x.p ≤ s.size → (unqLoop s f acc x).2.1 ≤ s.size
  | 0, _, _, _ => Nat.zero_le _
  | f + 1, acc, x, h => by
    have h1 := (sign_mono s x).2 h
    have h2 := (escape_mono s (signB s x).2).2 h1
    simp only [unqLoop]
    split
    · exact Nat.zero_le _
    · split
      · exact Nat.zero_le _
      · split
        · exact h1
        · split
          · exact unqLoop_le s f _ _ h2
          · exact unqLoop_le s f _ _ h1
theorem unquote_le (s : ByteArray) (p : Nat) (h : p ≤ s.size) : (unquoteB s p).2.1 ≤ s.size := unqLoop_le s _ _ _ ((twants_mono s ⟨p, 0⟩ 34).2 h)
theorem unqLoop_len (s : ByteArray) : ∀ (f : Nat) (acc : List UInt8) (x : St), x.p ≤ s.size → acc.length ≤ 4 * x.p → (unqLoop s f acc x).1.length ≤ 4 * s.size
  | 0, _, _, _, _ => Nat.zero_le _
  | f + 1, acc, x, h, ha => by
    have h1 := sign_mono s x
    have h2 := escape_mono s (signB s x).2
    simp only [unqLoop]
    split
    · exact Nat.zero_le _
    · rename_i he
      split
      · exact Nat.zero_le _
      · rename_i he2
        have hst := sign_step (s := s) (x := x) (by simpa using he) (by simpa using he2)
        split
        · simp only; omega
        · have l1 := Lib.runeCells_le (escapeB s (signB s x).2).1
          have l2 := Lib.runeCells_le (((signB s x).1 : Nat) : Int)
          rw [Lib.runeCells_length] at l1 l2
          split
          · exact unqLoop_len s f _ _ (h2.2 (h1.2 h)) (by rw [List.length_append]; have := h2.1; omega)
          · exact unqLoop_len s f _ _ (h1.2 h) (by rw [List.length_append]; omega)
theorem unquote_len (s : ByteArray) (p : Nat) (h : p ≤ s.size) : (unquoteB s p).1.length ≤ 4 * s.size := unqLoop_len s _ _ _ ((twants_mono s ⟨p, 0⟩ 34).2 h) (Nat.zero_le _)

set_option maxRecDepth 100000 in
set_option maxHeartbeats 4000000 in
theorem text_json (R : Nat) (s : ByteArray) (x : St) (w : World) (hs : s.size ≤ 1000000) (hx : x.e = 0 → x.p ≤ s.size) (hT : Lib.Utf8Tabs 0 1 w) (h : RdAt 148 R s x.p x.e w) :
    Calls Tryz.prog 117 #[.pointer (some ⟨R, 0, none⟩)] w fun z w' => z = .returned (.string ⟨(textB s x).1.toArray⟩) ∧ RdPost 148 R s (textB s x).2.p (textB s x).2.e w w' := by
  obtain ⟨l0, l1, l2, _, f1, _, hRw⟩ := h.cells
  have HP := Lib.hid h.post; have HT := Lib.hid hT
  unfold textB
  clear hT h
  by_cases he : x.e = 0
  · have hxp := hx he
    have d1 : (x.e != 0) = false := by simpa using he
    have hu := fun W h => unquote_any s x.p W hs hxp h
    have hul := unquote_len s x.p hxp
    rw [if_neg (by simpa using he)]
    have HU := Lib.hid hu
    clear hu hx
    generalize unquoteB s x.p = r at *
    obtain ⟨l, q, e'⟩ := r
    simp only at *
    have hcase : ((e' != 0) = true ∧ (if e' ≠ 0 then e' else if 8000 < l.length then 3 else 0) = (x.fail e').e) ∨ ((e' != 0) = false ∧ decide ((8000 : Int) < (l.length : Int)) = true ∧ (if e' ≠ 0 then e' else if 8000 < l.length then 3 else 0) = (x.fail 3).e) ∨ ((e' != 0) = false ∧ decide ((8000 : Int) < (l.length : Int)) = false ∧ (if e' ≠ 0 then e' else if 8000 < l.length then 3 else 0) = x.e) := by
      have f1 : ∀ k, (x.fail k).e = k := fun k => by unfold St.fail; rw [if_pos he]
      by_cases h1 : e' = 0
      · right
        by_cases h2 : 8000 < l.length
        · left; exact ⟨by simpa using h1, by simp; omega, by rw [if_neg (by simpa using h1), if_pos h2, f1]⟩
        · right; exact ⟨by simpa using h1, by simp; omega, by rw [if_neg (by simpa using h1), if_neg h2, he]⟩
      · left; exact ⟨by simpa using h1, by rw [if_pos (by simpa using h1), f1]⟩
    generalize (if e' ≠ 0 then e' else if 8000 < l.length then 3 else 0) = ee at *
    have HC := Lib.hid hcase
    clear hcase he
    go_enter Tryz.func117, Tryz.ntmps117
    go_wp2_with fail
    refine PrintLast.wp_region_last_drew (S := fun w' => (RdPost 148 R s x.p x.e w w' ∧ Lib.Utf8Tabs 0 1 w') ∧ w'.cell? ⟨R, 0, none⟩ = some (.string s) ∧ w'.cell? ⟨R, 1, none⟩ = some (.int .i64 x.p)) (ds := []) (by kernel_rfl) ?_ (fun hHeld => ?_)
    · exact ⟨⟨HP.out.drew, HT.out⟩, by simpa using l0, by simpa using l1⟩
    refine PrintLast.tk 0 (v := ?_) rfl (by assumption) ?_ ?_
    rotate_left
    · (intro w hSw; (try dsimp only at hSw); go_simp; try (with_reducible rfl))
    try simp only [lay]
    refine PrintLast.tk 1 (v := ?_) rfl (by assumption) ?_ ?_
    rotate_left
    · (intro w hSw; (try dsimp only at hSw); go_simp; try (with_reducible rfl))
    try simp only [lay]
    refine PrintLast.tk 2 (v := ?_) rfl (by assumption) ?_ ?_
    rotate_left
    · (intro w hSw; (try dsimp only at hSw); go_simp; try (with_reducible rfl))
    try simp only [lay]
    refine PrintLast.tk 3 (v := ?_) rfl (by assumption) ?_ ?_
    rotate_left
    · (intro w hSw; (try dsimp only at hSw); go_simp; try (with_reducible rfl))
    try simp only [lay]
    refine PrintLast.tk 4 (v := ?_) rfl (by assumption) ?_ ?_
    rotate_left
    · (intro w hSw; (try dsimp only at hSw); go_simp; try (with_reducible rfl))
    try simp only [lay]
    refine PrintLast.tk 5 (v := ?_) rfl (by assumption) ?_ ?_
    rotate_left
    · (intro w hSw; (try dsimp only at hSw); go_simp; try (with_reducible rfl))
    try simp only [lay]
    refine PrintLast.tk 6 (v := ?_) rfl (by assumption) ?_ ?_
    rotate_left
    · (intro w hSw; (try dsimp only at hSw); go_simp; try (with_reducible rfl))
    try simp only [lay]
    refine PrintLast.tk 7 (v := ?_) rfl (by assumption) ?_ ?_
    rotate_left
    · (intro w hSw; (try dsimp only at hSw); go_simp; try (with_reducible rfl))
    try simp only [lay]
    have HK := Lib.hid hHeld
    clear hHeld
    refine PrintLast.wpAnyLast_ready (rs := [8]) (by kernel_rfl) (by simp) ?_
    refine PrintLast.AllReadyL.cons rfl (by decide) (fun K hK => ?_) PrintLast.AllReadyL.nil
    rw [if_pos (by kernel_rfl)]
    go_simp
    go_at_call 158; refine (HU.out _ HK.out.1.2).mono ?_; rintro e w5 ⟨rfl, hbw5⟩
    go_wp2_with fail
    refine hK.out _ _ ?_ (fun hHeld => ?_)
    · exact ⟨⟨RdPost.below HK.out.1.1 hbw5, Utf8Tabs_below HK.out.1.2 hbw5⟩, cell_later' hbw5 HK.out.2.1, cell_later' hbw5 HK.out.2.2⟩
    clear hK K
    try simp only [lay]
    clear HK
    refine PrintLast.tk 9 (v := ?_) rfl (by assumption) ?_ ?_
    rotate_left
    · (intro w hSw; (try dsimp only at hSw); go_simp; try (with_reducible rfl))
    try simp only [lay]
    refine PrintLast.tk 10 (v := ?_) rfl (by assumption) ?_ ?_
    rotate_left
    · (intro w hSw; (try dsimp only at hSw); go_simp; try (with_reducible rfl))
    try simp only [lay]
    refine PrintLast.tk 11 (v := ?_) rfl (by assumption) ?_ ?_
    rotate_left
    · (intro w hSw; (try dsimp only at hSw); go_simp; try (with_reducible rfl))
    try simp only [lay]
    refine PrintLast.tk 12 (v := ?_) rfl (by assumption) ?_ ?_
    rotate_left
    · (intro w hSw; (try dsimp only at hSw); go_simp; try (with_reducible rfl))
    try simp only [lay]
    refine PrintLast.tk 13 (v := ?_) rfl (by assumption) ?_ ?_
    rotate_left
    · (intro w hSw; (try dsimp only at hSw); go_simp; try (with_reducible rfl))
    try simp only [lay]
    refine PrintLast.tk 14 (v := ?_) rfl (by assumption) ?_ ?_
    rotate_left
    · (intro w hSw; (try dsimp only at hSw); go_simp; try (with_reducible rfl))
    try simp only [lay]
    refine PrintLast.tk 15 (v := ?_) rfl (by assumption) ?_ ?_
    rotate_left
    · (intro w hSw; (try dsimp only at hSw); go_simp; try (with_reducible rfl))
    try simp only [lay]
    refine PrintLast.wpAnyLast_done (by kernel_rfl) ?_ _
    obtain ⟨⟨hp5, _⟩, l0, l1⟩ := hHeld
    obtain ⟨_, _, _, _, f1, _, hR⟩ := hp5.1.cells
    have HP5 := Lib.hid hp5
    clear hp5
    have hz : (⟨l.toArray⟩ : ByteArray).size = l.length := by simp [ByteArray.size]
    rcases HC.out with ⟨d2, rfl⟩ | ⟨d2, d3, rfl⟩ | ⟨d2, d3, rfl⟩
    · have hfl := fail_any R s x e' _ HP5.out.1
      have HFL := Lib.hid hfl
      clear hfl
      go_wp2_with fail
      refine Calls.mono HFL.out ?_
      rintro e w6 ⟨rfl, hp6⟩
      have hp7 := RdPost.trans HP5.out hp6
      rw [fail_p] at hp7
      have hp8 := RdPost.set1 hp7 q
      obtain ⟨l0, l1, _, _, f1, _, hR6⟩ := hp7.1.cells
      have HP8 := Lib.hid hp8
      clear hp6 hp7 hp8
      go_wp2_with fail
      go_ret
      exact ⟨rfl, HP8.out⟩
    · have hfl := fail_any R s x 3 _ HP5.out.1
      have HFL := Lib.hid hfl
      clear hfl
      go_wp2_with fail
      refine Calls.mono HFL.out ?_
      rintro e w6 ⟨rfl, hp6⟩
      have hp7 := RdPost.trans HP5.out hp6
      rw [fail_p] at hp7
      have hp8 := RdPost.set1 hp7 q
      obtain ⟨l0, l1, _, _, f1, _, hR6⟩ := hp7.1.cells
      have HP8 := Lib.hid hp8
      clear hp6 hp7 hp8
      go_wp2_with fail
      go_ret
      exact ⟨rfl, HP8.out⟩
    · have HP8 := Lib.hid (RdPost.set1 HP5.out q)
      go_wp2_with fail
      go_ret
      exact ⟨rfl, HP8.out⟩
  · have d1 : (x.e != 0) = true := by simpa using he
    rw [if_pos he]
    go_enter Tryz.func117, Tryz.ntmps117
    go_wp2_with fail
    go_ret
    exact ⟨rfl, HP.out⟩
end Go.Proofs.YtlihjmfdnkfmfaaGreatDoor
namespace Go.Proofs.YtlihjmfdnkfmfaaGreatDoor
open Go.RowKit Go.Lib

/-! the plain parser -/
def listV (l : List JV) : JV := .mk 6 0 ⟨#[]⟩ l []
def objV (m : List (ByteArray × JV)) : JV := .mk 7 0 ⟨#[]⟩ [] m
def listLoop (s : ByteArray) (pv : St → JV × St) : Nat → List JV → St → List JV × St
  | 0, acc, x => (acc, x)
  | f + 1, acc, x =>
    if x.e ≠ 0 then (acc, x)
    else if (pv x).2.e ≠ 0 then (acc ++ [(pv x).1], (pv x).2)
    else if ((pv x).2.see s).1 = 93 then (acc ++ [(pv x).1], ((pv x).2.see s).2.step)
    else if ((pv x).2.see s).2.e ≠ 0 then (acc ++ [(pv x).1], ((pv x).2.see s).2)
    else listLoop s pv f (acc ++ [(pv x).1]) (((pv x).2.see s).2.wants s 44)
def listB (s : ByteArray) (pv : St → JV × St) (x : St) : JV × St :=
  let r := x.step.see s
  if r.1 = 93 then (listV [], r.2.step)
  else (listV (listLoop s pv (s.size + 1 - r.2.p) [] r.2).1, (listLoop s pv (s.size + 1 - r.2.p) [] r.2).2)
def memberB (s : ByteArray) (pv : St → JV × St) (l : List (ByteArray × JV)) (x : St) : (ByteArray × JV) × St :=
  let y := if (x.see s).1 ≠ 34 then (x.see s).2.fail 4 else (x.see s).2
  let t := textB s y
  let nm : ByteArray := ⟨t.1.toArray⟩
  let z := if l.any (fun m => m.1.toList == nm.toList) then t.2.fail 4 else t.2
  let u := if z.e = 0 then z.wants s 58 else z
  if u.e = 0 then ((nm, (pv u).1), (pv u).2) else ((nm, zeroV), u)
def objLoop (s : ByteArray) (pv : St → JV × St) : Nat → List (ByteArray × JV) → St → List (ByteArray × JV) × St
  | 0, acc, x => (acc, x)
  | f + 1, acc, x =>
    if x.e ≠ 0 then (acc, x)
    else if (memberB s pv acc x).2.e ≠ 0 then (acc ++ [(memberB s pv acc x).1], (memberB s pv acc x).2)
    else if ((memberB s pv acc x).2.see s).1 = 125 then (acc ++ [(memberB s pv acc x).1], ((memberB s pv acc x).2.see s).2.step)
    else if ((memberB s pv acc x).2.see s).2.e ≠ 0 then (acc ++ [(memberB s pv acc x).1], ((memberB s pv acc x).2.see s).2)
    else objLoop s pv f (acc ++ [(memberB s pv acc x).1]) (((memberB s pv acc x).2.see s).2.wants s 44)
/-- members by their names -/
def insName (m : ByteArray × JV) : List (ByteArray × JV) → List (ByteArray × JV)
  | [] => [m]
  | x :: r => if Op.bytesLess m.1.toList x.1.toList then m :: x :: r else x :: insName m r
def sortNames (l : List (ByteArray × JV)) : List (ByteArray × JV) := l.foldr insName []
def objectB (s : ByteArray) (pv : St → JV × St) (x : St) : JV × St :=
  let r := x.step.see s
  if r.1 = 125 then (objV [], r.2.step)
  else (objV (sortNames (objLoop s pv (s.size + 1 - r.2.p) [] r.2).1), (objLoop s pv (s.size + 1 - r.2.p) [] r.2).2)
def opens : List UInt8 := [91, 123, 34, 45, 48, 49, 50, 51, 52, 53, 54, 55, 56, 57, 116, 102, 110]
def valueB (s : ByteArray) : Nat → St → JV × St
  | 0, x =>
    if (x.see s).2.e ≠ 0 then (zeroV, (x.see s).2)
    else if opens.contains (x.see s).1 then (zeroV, (x.see s).2.fail 10)
    else numberB s (x.see s).2
  | d + 1, x =>
    if (x.see s).2.e ≠ 0 then (zeroV, (x.see s).2)
    else if (x.see s).1 = 91 then listB s (valueB s d) (x.see s).2
    else if (x.see s).1 = 123 then objectB s (valueB s d) (x.see s).2
    else if (x.see s).1 = 34 then (wordV ⟨(textB s (x.see s).2).1.toArray⟩, (textB s (x.see s).2).2)
    else if (x.see s).1 = 116 then wordB s [116, 114, 117, 101] 3 (x.see s).2
    else if (x.see s).1 = 102 then wordB s [102, 97, 108, 115, 101] 2 (x.see s).2
    else if (x.see s).1 = 110 then wordB s [110, 117, 108, 108] 1 (x.see s).2
    else numberB s (x.see s).2

/-! where the reader stands -/
/-- from a state without error: forth, and not beyond the text -/
def Good (s : ByteArray) (x y : St) : Prop := (y.e = 0 → x.p ≤ y.p ∧ y.p ≤ s.size) ∧ y.p ≤ s.size + 1
theorem see_p (s : ByteArray) (x : St) : (x.see s).2.p = skipB s (s.size - x.p) x.p := by
  unfold St.see St.blanks St.fail
  simp only
  split <;> (try split) <;> rfl
theorem see_bd {s : ByteArray} {x : St} (h : x.p ≤ s.size) : x.p ≤ (x.see s).2.p ∧ (x.see s).2.p ≤ s.size := by
  rw [see_p]
  have := skip_le (s := s) (s.size - x.p) x.p
  exact ⟨this.1, this.2 h⟩
/-- a byte that was seen stands there -/
theorem see_at {s : ByteArray} {x : St} (h : (x.see s).1 ≠ 0) : (x.see s).2.p < s.size ∧ (x.see s).2.e = x.e ∧ byteAt s (x.see s).2.p = (x.see s).1 := by
  unfold St.see at *
  simp only at *
  split
  · rename_i h1; rw [if_pos h1] at h; exact absurd rfl h
  · rename_i h1; exact ⟨Nat.lt_of_not_le h1, rfl, rfl⟩
theorem see_err {s : ByteArray} {x : St} (h0 : x.e = 0) (h : (x.see s).2.e ≠ 0) : (x.see s).1 = 0 := by
  unfold St.see at *
  simp only at *
  split
  · rfl
  · rename_i h1; rw [if_neg h1] at h; exact absurd h0 h
theorem wants_good {s : ByteArray} {x : St} {c : UInt8} (hc : c ≠ 0) (h : x.p ≤ s.size) : Good s x (x.wants s c) ∧ ((x.wants s c).e = 0 → x.p + 1 ≤ (x.wants s c).p) := by
  have hb := see_bd h
  unfold St.wants
  simp only
  by_cases h1 : (x.see s).2.e = 0 ∧ (x.see s).1 ≠ c
  · rw [if_pos h1]
    refine ⟨⟨fun he => ?_, ?_⟩, fun he => ?_⟩
    · simp [St.step, St.fail, h1.1] at he
    · simp only [St.step, fail_p]; omega
    · simp [St.step, St.fail, h1.1] at he
  · rw [if_neg h1]
    refine ⟨⟨fun he => ?_, ?_⟩, fun he => ?_⟩
    · have he' : (x.see s).2.e = 0 := he
      have hcc : (x.see s).1 = c := by
        rcases Classical.em ((x.see s).1 = c) with h2 | h2
        · exact h2
        · exact absurd ⟨he', h2⟩ h1
      have := see_at (s := s) (x := x) (by rw [hcc]; exact hc)
      simp only [St.step]; omega
    · simp only [St.step]; omega
    · simp only [St.step]; omega

/-! a row that a variable's field holds -/
def RowIn {α : Type} (T : TypeId) (E : TypeId) (Y : Ty α) (V : Nat) (mk : Value → Array Value) (va : Value) (vs : List α) (w : World) : Prop :=
  w.heap[V]? = some (.cells (mk va) T (0, 0)) ∧ ∃ cs, w.ownsRow (V + 1) E Y.sz va vs.length cs ∧ Chunks Y w (fun b => V < b ∧ b < w.heap.size ∧ some b ≠ va.ownBlock) vs cs
theorem RowIn.kept {α : Type} {T E : TypeId} {Y : Ty α} {V R : Nat} {mk : Value → Array Value} {va : Value} {vs : List α} {w w' : World} (h : RowIn T E Y V mk va vs w) (hg : w.grownBy w' (some R)) (hR : R < V) : RowIn T E Y V mk va vs w' := by
  obtain ⟨h1, cs, h2, h3⟩ := h
  have hV : V < w.heap.size := (Array.getElem?_eq_some_iff.1 h1).1
  have hne : ∀ b, V ≤ b → some b ≠ some R := fun b hb e => by have := Option.some.inj e; omega
  refine ⟨(hg.block V hV (hne V (Nat.le_refl _))).trans h1, cs, World.ownsRow.kept h2 hg ?_, (h3.frame (w' := w') (fun b hb => hg.block b hb.2.1 (hne b (by omega)))).mono (fun b hb => ⟨hb.1, Nat.lt_of_lt_of_le hb.2.1 hg.size, hb.2.2⟩)⟩
  rcases hv : va.ownBlock with _ | j
  · exact .inl rfl
  · right; exact hne j (by have := (h2.lt j hv).1; omega)
theorem RowIn.push {α : Type} {T E : TypeId} {Y : Ty α} {V N i : Nat} {mk : Value → Array Value} {va va' : Value} {vs : List α} {x : α} {c cs : List Value} {w5 W : World} (hmk : (mk va).setIfInBounds i va' = mk va')
    (h1 : w5.heap[V]? = some (.cells (mk va) T (0, 0))) (h2 : w5.ownsRow (V + 1) E Y.sz va vs.length cs) (h3 : Chunks Y w5 (fun b => V < b ∧ b < w5.heap.size ∧ some b ≠ va.ownBlock) vs cs)
    (hx : Y.R w5 (fun b => N ≤ b) x c) (hVN : V < N) (hvN : ∀ j, va.ownBlock = some j → j < N)
    (hg : (w5.alloc (.cells c.toArray E)).grownBy W va.ownBlock) (hob : va'.ownBlock = va.ownBlock ∨ va'.ownBlock = some (w5.alloc (.cells c.toArray E)).heap.size)
    (hoo : W.ownsRow (V + 1) E Y.sz va' (vs.length + 1) (cs ++ c)) : RowIn T E Y V mk va' (vs ++ [x]) (W.setCell ⟨V, i, none⟩ va') := by
  have hV : V < w5.heap.size := (Array.getElem?_eq_some_iff.1 h1).1
  have hsz5 : (w5.alloc (.cells c.toArray E)).heap.size = w5.heap.size + 1 := by show (w5.heap.push _).size = _; simp
  have hob1 : ∀ j, va.ownBlock = some j → V + 1 ≤ j := fun j hj => (h2.lt j hj).1
  have hob2 : ∀ j, va'.ownBlock = some j → V + 1 ≤ j := fun j hj => (hoo.lt j hj).1
  have hsW := hg.size
  have hblk : ∀ b, V < b → b < w5.heap.size → some b ≠ va.ownBlock → (W.setCell ⟨V, i, none⟩ va').heap[b]? = w5.heap[b]? := fun b a1 a2 a3 =>
    (Below.heap_setCell _ _ _ _ (by show b ≠ V; omega)).trans ((hg.block b (by omega) a3).trans ((bel_alloc (Below.refl w5.heap.size w5) (.cells c.toArray E)).block b a2))
  have hnb : ∀ b, b < w5.heap.size → some b ≠ va.ownBlock → some b ≠ va'.ownBlock := fun b a1 a2 => by
    rcases hob with h | h
    · rw [h]; exact a2
    · rw [h]; intro e; have := Option.some.inj e; omega
  have hsS : (W.setCell ⟨V, i, none⟩ va').heap.size = W.heap.size := by simp [World.setCell]
  have hWV : W.heap[V]? = some (.cells (mk va) T (0, 0)) := (hg.block V (by omega) (by intro e; have := hob1 V e.symm; omega)).trans (((bel_alloc (Below.refl w5.heap.size w5) (.cells c.toArray E)).block V hV).trans h1)
  refine ⟨by rw [← hmk]; exact heap_setCell_row hWV, cs ++ c, ?_, ?_⟩
  · rw [List.length_append]
    refine World.ownsRow.kept hoo (grown_set (g := V) _) ?_
    rcases hv : va'.ownBlock with _ | j
    · exact .inl rfl
    · right; intro e; have := hob2 j hv; have := Option.some.inj e; omega
  · refine Chunks.append ((h3.frame (w' := W.setCell ⟨V, i, none⟩ va') (fun b hb => hblk b hb.1 hb.2.1 hb.2.2)).mono (fun b hb => ⟨hb.1, by have := hb.2.1; omega, hnb b hb.2.1 hb.2.2⟩)) (Chunks.single (T := Y) ?_)
    have hx' := Y.bound hx
    have hvb : ∀ b, N ≤ b → some b ≠ va.ownBlock := fun b hb e => by have := hvN b e.symm; omega
    exact Y.mono (F' := fun b => V < b ∧ b < (W.setCell ⟨V, i, none⟩ va').heap.size ∧ some b ≠ va'.ownBlock) (fun b hb => ⟨by have := hb.1; omega, by have := hb.2; omega, hnb b hb.2 (hvb b hb.1)⟩) (Y.frame (w' := W.setCell ⟨V, i, none⟩ va') (fun b hb => hblk b (by have := hb.1; omega) hb.2 (hvb b hb.1)) hx')
theorem RdPost.far {T : TypeId} {R p : Nat} {s : ByteArray} {e : Int} {w w1 w2 : World} {row : Option Nat} (h : RdPost T R s p e w w1) (hg : w1.grownBy w2 row) (hr : ∀ k, row = some k → w.heap.size ≤ k) (hR : R < w.heap.size) : RdPost T R s p e w w2 := by
  have hs := h.2.size
  have hne : ∀ b, b < w.heap.size → some b ≠ row := fun b hb e => by have := hr b e.symm; omega
  exact ⟨(hg.block R (by omega) (hne R hR)).trans h.1, ⟨hg.os.trans h.2.os, hg.tape.trans h.2.tape, hg.output.trans h.2.output, Nat.le_trans hs hg.size, fun k hk hk2 => (hg.block k (by omega) (hne k hk)).trans (h.2.block k hk hk2)⟩⟩

/-- what a value's reading leaves -/
def VRes (R : Nat) (s : ByteArray) (r : JV × St) (w : World) (z : Ending) (w' : World) : Prop := ∃ (v : JV) (A1 : Option Addr) (n1 c1 : Nat) (A2 : Option Addr) (n2 c2 : Nat),
  z = .returned (.agg #[.int .i64 v.k, .int .i64 v.n, .string v.s, .slice A1 n1 c1, .slice A2 n2 c2]) ∧ JR w' (fun b => w.heap.size ≤ b) v [.int .i64 v.k, .int .i64 v.n, .string v.s, .slice A1 n1 c1, .slice A2 n2 c2] ∧
  (r.2.e = 0 → v = r.1) ∧ RdPost 148 R s r.2.p r.2.e w w'
def ValAt (s : ByteArray) (d : Nat) (pv : St → JV × St) : Prop := ∀ (w0 : World) (R : Nat) (x : St) (w : World), Tabs w0 → Below w0.heap.size w0 w → w0.heap.size ≤ R → x.e = 0 → x.p ≤ s.size → RdAt 148 R s x.p x.e w →
  Calls Tryz.prog 67 #[.pointer (some ⟨R, 0, none⟩), .int .i64 d] w (VRes R s (pv x) w)
end Go.Proofs.YtlihjmfdnkfmfaaGreatDoor
