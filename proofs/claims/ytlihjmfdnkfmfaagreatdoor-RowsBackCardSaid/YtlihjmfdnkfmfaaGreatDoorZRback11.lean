/- Parts of the proof: Rt, ShelfS, So, Va. -/
import Derived.Test.YtlihjmfdnkfmfaaGreatDoorZRback10
import Derived.Shelf.SlGeneric
import Derived.Ground.SlsfProg
import Derived.Shelf.SlSortCmp.WholeK
import Derived.Shelf.SlSortCmp.NoneTotal
import Derived.Test.YtlihjmfdnkfmfaaGreatDoorProg
import Derived.Test.YtlihjmfdnkfmfaaGreatDoorZRback9
import Derived.Sort.Walk0
import Derived.Laws.Cover1
namespace Go.Proofs.YtlihjmfdnkfmfaaGreatDoor
open Go.RowKit Go.Lib

def textB (s : ByteArray) (x : St) : List UInt8 × St :=
  if x.e ≠ 0 then ([], x)
  else ((unquoteB s x.p).1, ⟨(unquoteB s x.p).2.1, if (unquoteB s x.p).2.2 ≠ 0 then (unquoteB s x.p).2.2 else if 8000 < (unquoteB s x.p).1.length then 3 else 0⟩)
theorem unqLoop_le (s : ByteArray) : ∀ (f : Nat) (acc : List UInt8) (x : St), x.p ≤ s.size → (unqLoop s f acc x).2.1 ≤ s.size
  | 0, _, _, _ => Nat.zero_le _
  | f + 1, acc, x, h => by
    have h1 := (sign_mono s x).2 h
    have h2 := (escape_mono s (signB s x).2).2 h1
    simp only [unqLoop]
    split
    · exact Nat.zero_le _
    · split
      · exact Nat.zero_le _
      · split
        · exact h1
        · split
          · exact unqLoop_le s f _ _ h2
          · exact unqLoop_le s f _ _ h1
theorem unquote_le (s : ByteArray) (p : Nat) (h : p ≤ s.size) : (unquoteB s p).2.1 ≤ s.size := unqLoop_le s _ _ _ ((twants_mono s ⟨p, 0⟩ 34).2 h)
theorem unqLoop_len (s : ByteArray) : ∀ (f : Nat) (acc : List UInt8) (x : St), x.p ≤ s.size → acc.length ≤ 4 * x.p → (unqLoop s f acc x).1.length ≤ 4 * s.size
  | 0, _, _, _, _ => Nat.zero_le _
  | f + 1, acc, x, h, ha => by
    have h1 := sign_mono s x
    have h2 := escape_mono s (signB s x).2
    simp only [unqLoop]
    split
    · exact Nat.zero_le _
    · rename_i he
      split
      · exact Nat.zero_le _
      · rename_i he2
        have hst := sign_step (s := s) (x := x) (by simpa using he) (by simpa using he2)
        split
        · simp only; omega
        · have l1 := Lib.runeCells_le (escapeB s (signB s x).2).1
          have l2 := Lib.runeCells_le (((signB s x).1 : Nat) : Int)
          rw [Lib.runeCells_length] at l1 l2
          split
          · exact unqLoop_len s f _ _ (h2.2 (h1.2 h)) (by rw [List.length_append]; have := h2.1; omega)
          · exact unqLoop_len s f _ _ (h1.2 h) (by rw [List.length_append]; omega)
theorem unquote_len (s : ByteArray) (p : Nat) (h : p ≤ s.size) : (unquoteB s p).1.length ≤ 4 * s.size := unqLoop_len s _ _ _ ((twants_mono s ⟨p, 0⟩ 34).2 h) (Nat.zero_le _)

set_option maxRecDepth 100000 in
set_option maxHeartbeats 4000000 in
theorem text_json (R : Nat) (s : ByteArray) (x : St) (w : World) (hs : s.size ≤ 1000000) (hx : x.e = 0 → x.p ≤ s.size) (hT : Lib.Utf8Tabs 0 1 w) (h : RdAt 148 R s x.p x.e w) :
    Calls Tryz.prog 117 #[.pointer (some ⟨R, 0, none⟩)] w fun z w' => z = .returned (.string ⟨(textB s x).1.toArray⟩) ∧ RdPost 148 R s (textB s x).2.p (textB s x).2.e w w' := by
  obtain ⟨l0, l1, l2, _, f1, _, hRw⟩ := h.cells
  have HP := Lib.hid h.post; have HT := Lib.hid hT
  unfold textB
  clear hT h
  by_cases he : x.e = 0
  · have hxp := hx he
    have d1 : (x.e != 0) = false := by simpa using he
    have hu := fun W h => unquote_any s x.p W hs hxp h
    have hul := unquote_len s x.p hxp
    rw [if_neg (by simpa using he)]
    have HU := Lib.hid hu
    clear hu hx
    generalize unquoteB s x.p = r at *
    obtain ⟨l, q, e'⟩ := r
    simp only at *
    have hcase : ((e' != 0) = true ∧ (if e' ≠ 0 then e' else if 8000 < l.length then 3 else 0) = (x.fail e').e) ∨ ((e' != 0) = false ∧ decide ((8000 : Int) < (l.length : Int)) = true ∧ (if e' ≠ 0 then e' else if 8000 < l.length then 3 else 0) = (x.fail 3).e) ∨ ((e' != 0) = false ∧ decide ((8000 : Int) < (l.length : Int)) = false ∧ (if e' ≠ 0 then e' else if 8000 < l.length then 3 else 0) = x.e) := by
      have f1 : ∀ k, (x.fail k).e = k := fun k => by unfold St.fail; rw [if_pos he]
      by_cases h1 : e' = 0
      · right
        by_cases h2 : 8000 < l.length
        · left; exact ⟨by simpa using h1, by simp; omega, by rw [if_neg (by simpa using h1), if_pos h2, f1]⟩
        · right; exact ⟨by simpa using h1, by simp; omega, by rw [if_neg (by simpa using h1), if_neg h2, he]⟩
      · left; exact ⟨by simpa using h1, by rw [if_pos (by simpa using h1), f1]⟩
    generalize (if e' ≠ 0 then e' else if 8000 < l.length then 3 else 0) = ee at *
    have HC := Lib.hid hcase
    clear hcase he
    go_enter Tryz.func117, Tryz.ntmps117
    go_wp2_with fail
    refine PrintLast.wp_region_last_drew (S := fun w' => (RdPost 148 R s x.p x.e w w' ∧ Lib.Utf8Tabs 0 1 w') ∧ w'.cell? ⟨R, 0, none⟩ = some (.string s) ∧ w'.cell? ⟨R, 1, none⟩ = some (.int .i64 x.p)) (ds := []) (by kernel_rfl) ?_ (fun hHeld => ?_)
    · exact ⟨⟨HP.out.drew, HT.out⟩, by simpa using l0, by simpa using l1⟩
    refine PrintLast.tk 0 (v := ?_) rfl (by assumption) ?_ ?_
    rotate_left
    · (intro w hSw; (try dsimp only at hSw); go_simp; try (with_reducible rfl))
    try simp only [lay]
    refine PrintLast.tk 1 (v := ?_) rfl (by assumption) ?_ ?_
    rotate_left
    · (intro w hSw; (try dsimp only at hSw); go_simp; try (with_reducible rfl))
    try simp only [lay]
    refine PrintLast.tk 2 (v := ?_) rfl (by assumption) ?_ ?_
    rotate_left
    · (intro w hSw; (try dsimp only at hSw); go_simp; try (with_reducible rfl))
    try simp only [lay]
    refine PrintLast.tk 3 (v := ?_) rfl (by assumption) ?_ ?_
    rotate_left
    · (intro w hSw; (try dsimp only at hSw); go_simp; try (with_reducible rfl))
    try simp only [lay]
    refine PrintLast.tk 4 (v := ?_) rfl (by assumption) ?_ ?_
    rotate_left
    · (intro w hSw; (try dsimp only at hSw); go_simp; try (with_reducible rfl))
    try simp only [lay]
    refine PrintLast.tk 5 (v := ?_) rfl (by assumption) ?_ ?_
    rotate_left
    · (intro w hSw; (try dsimp only at hSw); go_simp; try (with_reducible rfl))
    try simp only [lay]
    refine PrintLast.tk 6 (v := ?_) rfl (by assumption) ?_ ?_
    rotate_left
    · (intro w hSw; (try dsimp only at hSw); go_simp; try (with_reducible rfl))
    try simp only [lay]
    refine PrintLast.tk 7 (v := ?_) rfl (by assumption) ?_ ?_
    rotate_left
    · (intro w hSw; (try dsimp only at hSw); go_simp; try (with_reducible rfl))
    try simp only [lay]
    have HK := Lib.hid hHeld
    clear hHeld
    refine PrintLast.wpAnyLast_ready (rs := [8]) (by kernel_rfl) (by simp) ?_
    refine PrintLast.AllReadyL.cons rfl (by decide) (fun K hK => ?_) PrintLast.AllReadyL.nil
    rw [if_pos (by kernel_rfl)]
    go_simp
    go_at_call 158; refine (HU.out _ HK.out.1.2).mono ?_; rintro e w5 ⟨rfl, hbw5⟩
    go_wp2_with fail
    refine hK.out _ _ ?_ (fun hHeld => ?_)
    · exact ⟨⟨RdPost.below HK.out.1.1 hbw5, Utf8Tabs_below HK.out.1.2 hbw5⟩, cell_later' hbw5 HK.out.2.1, cell_later' hbw5 HK.out.2.2⟩
    clear hK K
    try simp only [lay]
    clear HK
    refine PrintLast.tk 9 (v := ?_) rfl (by assumption) ?_ ?_
    rotate_left
    · (intro w hSw; (try dsimp only at hSw); go_simp; try (with_reducible rfl))
    try simp only [lay]
    refine PrintLast.tk 10 (v := ?_) rfl (by assumption) ?_ ?_
    rotate_left
    · (intro w hSw; (try dsimp only at hSw); go_simp; try (with_reducible rfl))
    try simp only [lay]
    refine PrintLast.tk 11 (v := ?_) rfl (by assumption) ?_ ?_
    rotate_left
    · (intro w hSw; (try dsimp only at hSw); go_simp; try (with_reducible rfl))
    try simp only [lay]
    refine PrintLast.tk 12 (v := ?_) rfl (by assumption) ?_ ?_
    rotate_left
    · (intro w hSw; (try dsimp only at hSw); go_simp; try (with_reducible rfl))
    try simp only [lay]
    refine PrintLast.tk 13 (v := ?_) rfl (by assumption) ?_ ?_
    rotate_left
    · (intro w hSw; (try dsimp only at hSw); go_simp; try (with_reducible rfl))
    try simp only [lay]
    refine PrintLast.tk 14 (v := ?_) rfl (by assumption) ?_ ?_
    rotate_left
    · (intro w hSw; (try dsimp only at hSw); go_simp; try (with_reducible rfl))
    try simp only [lay]
    refine PrintLast.tk 15 (v := ?_) rfl (by assumption) ?_ ?_
    rotate_left
    · (intro w hSw; (try dsimp only at hSw); go_simp; try (with_reducible rfl))
    try simp only [lay]
    refine PrintLast.wpAnyLast_done (by kernel_rfl) ?_ _
    obtain ⟨⟨hp5, _⟩, l0, l1⟩ := hHeld
    obtain ⟨_, _, _, _, f1, _, hR⟩ := hp5.1.cells
    have HP5 := Lib.hid hp5
    clear hp5
    have hz : (⟨l.toArray⟩ : ByteArray).size = l.length := by simp [ByteArray.size]
    rcases HC.out with ⟨d2, rfl⟩ | ⟨d2, d3, rfl⟩ | ⟨d2, d3, rfl⟩
    · have hfl := fail_any R s x e' _ HP5.out.1
      have HFL := Lib.hid hfl
      clear hfl
      go_wp2_with fail
      refine Calls.mono HFL.out ?_
      rintro e w6 ⟨rfl, hp6⟩
      have hp7 := RdPost.trans HP5.out hp6
      rw [fail_p] at hp7
      have hp8 := RdPost.set1 hp7 q
      obtain ⟨l0, l1, _, _, f1, _, hR6⟩ := hp7.1.cells
      have HP8 := Lib.hid hp8
      clear hp6 hp7 hp8
      go_wp2_with fail
      go_ret
      exact ⟨rfl, HP8.out⟩
    · have hfl := fail_any R s x 3 _ HP5.out.1
      have HFL := Lib.hid hfl
      clear hfl
      go_wp2_with fail
      refine Calls.mono HFL.out ?_
      rintro e w6 ⟨rfl, hp6⟩
      have hp7 := RdPost.trans HP5.out hp6
      rw [fail_p] at hp7
      have hp8 := RdPost.set1 hp7 q
      obtain ⟨l0, l1, _, _, f1, _, hR6⟩ := hp7.1.cells
      have HP8 := Lib.hid hp8
      clear hp6 hp7 hp8
      go_wp2_with fail
      go_ret
      exact ⟨rfl, HP8.out⟩
    · have HP8 := Lib.hid (RdPost.set1 HP5.out q)
      go_wp2_with fail
      go_ret
      exact ⟨rfl, HP8.out⟩
  · have d1 : (x.e != 0) = true := by simpa using he
    rw [if_pos he]
    go_enter Tryz.func117, Tryz.ntmps117
    go_wp2_with fail
    go_ret
    exact ⟨rfl, HP.out⟩
end Go.Proofs.YtlihjmfdnkfmfaaGreatDoor
namespace Go.Proofs
open Go.Shelf
def Tryz.sortL_ren : Go.Shelf.Ren := ⟨fun | 6 => 108 | 15 => 149 | 14 => 148 | 28 => 183 | 29 => 184 | 20 => 175 | 21 => 176 | 22 => 177 | 23 => 178 | 24 => 179 | 25 => 180 | 26 => 181 | 27 => 182 | 46 => 202 | 47 => 203 | 48 => 204 | 49 => 205 | 50 => 206 | 57 => 219 | n => n, fun | 22 => 41 | 24 => 49 | 25 => 194 | 3 => 3 | 39 => 226 | 0 => 0 | 53 => 245 | 55 => 247 | 4 => 4 | 46 => 238 | 45 => 237 | 50 => 242 | 5 => 5 | 9 => 9 | 66 => 267 | 70 => 186 | 76 => 283 | 77 => 284 | n => n, fun | n => n⟩
theorem Tryz.sortL : Go.Proofs.SlLaysF0.n6 Tryz.prog Tryz.sortL_ren := {
  mixed := by kernel_rfl
  f6 := ⟨Tryz.f108.name, by decide, Tryz.func108.trans (congrArg some (by kernel_rfl))⟩
  f14 := ⟨Tryz.f148.name, by decide, Tryz.func148.trans (congrArg some (by kernel_rfl))⟩
  f15 := Tryz.func149.trans (congrArg some (by kernel_rfl))
  f20 := ⟨Tryz.f175.name, by decide, Tryz.func175.trans (congrArg some (by kernel_rfl))⟩
  f21 := ⟨Tryz.f176.name, by decide, Tryz.func176.trans (congrArg some (by kernel_rfl))⟩
  f22 := ⟨Tryz.f177.name, by decide, Tryz.func177.trans (congrArg some (by kernel_rfl))⟩
  f23 := ⟨Tryz.f178.name, by decide, Tryz.func178.trans (congrArg some (by kernel_rfl))⟩
  f24 := ⟨Tryz.f179.name, by decide, Tryz.func179.trans (congrArg some (by kernel_rfl))⟩
  f25 := ⟨Tryz.f180.name, by decide, Tryz.func180.trans (congrArg some (by kernel_rfl))⟩
  f26 := ⟨Tryz.f181.name, by decide, Tryz.func181.trans (congrArg some (by kernel_rfl))⟩
  f27 := ⟨Tryz.f182.name, by decide, Tryz.func182.trans (congrArg some (by kernel_rfl))⟩
  f28 := Tryz.func183.trans (congrArg some (by kernel_rfl))
  f29 := Tryz.func184.trans (congrArg some (by kernel_rfl))
  f46 := ⟨Tryz.f202.name, by decide, Tryz.func202.trans (congrArg some (by kernel_rfl))⟩
  f47 := Tryz.func203.trans (congrArg some (by kernel_rfl))
  f48 := Tryz.func204.trans (congrArg some (by kernel_rfl))
  f49 := ⟨Tryz.f205.name, by decide, Tryz.func205.trans (congrArg some (by kernel_rfl))⟩
  f50 := ⟨Tryz.f206.name, by decide, Tryz.func206.trans (congrArg some (by kernel_rfl))⟩
  f57 := ⟨Tryz.f219.name, by decide, Tryz.func219.trans (congrArg some (by kernel_rfl))⟩
  t0 := Tryz.underlying0
  a0 := Tryz.isAgg0
  z0 := Tryz.sizeOf0
  v0 := Tryz.zeroValue0
  t3 := Tryz.underlying3
  a3 := Tryz.isAgg3
  z3 := Tryz.sizeOf3
  v3 := Tryz.zeroValue3
  t4 := Tryz.underlying4
  a4 := Tryz.isAgg4
  z4 := Tryz.sizeOf4
  v4 := Tryz.zeroValue4
  t5 := Tryz.underlying5
  a5 := Tryz.isAgg5
  z5 := Tryz.sizeOf5
  v5 := Tryz.zeroValue5
  t9 := Tryz.underlying9
  a9 := Tryz.isAgg9
  z9 := Tryz.sizeOf9
  v9 := Tryz.zeroValue9
  t22 := Tryz.underlying41
  a22 := Tryz.isAgg41
  z22 := Tryz.sizeOf41
  v22 := Tryz.zeroValue41
  t25 := Tryz.underlying194
  a25 := Tryz.isAgg194
  z25 := Tryz.sizeOf194
  v25 := Tryz.zeroValue194
  t39 := Tryz.underlying226
  a39 := Tryz.isAgg226
  z39 := Tryz.sizeOf226
  v39 := Tryz.zeroValue226
  t45 := Tryz.underlying237
  a45 := Tryz.isAgg237
  z45 := Tryz.sizeOf237
  v45 := Tryz.zeroValue237
  t46 := Tryz.underlying238
  a46 := Tryz.isAgg238
  z46 := Tryz.sizeOf238
  v46 := Tryz.zeroValue238
  t50 := Tryz.underlying242
  a50 := Tryz.isAgg242
  z50 := Tryz.sizeOf242
  v50 := Tryz.zeroValue242
  t53 := Tryz.underlying245
  a53 := Tryz.isAgg245
  z53 := Tryz.sizeOf245
  v53 := Tryz.zeroValue245
  t55 := Tryz.underlying247
  a55 := Tryz.isAgg247
  z55 := Tryz.sizeOf247
  v55 := Tryz.zeroValue247
  t66 := Tryz.underlying267
  a66 := Tryz.isAgg267
  z66 := Tryz.sizeOf267
  v66 := Tryz.zeroValue267
  t70 := Tryz.underlying186
  a70 := Tryz.isAgg186
  z70 := Tryz.sizeOf186
  v70 := Tryz.zeroValue186
  t76 := Tryz.underlying283
  a76 := Tryz.isAgg283
  z76 := Tryz.sizeOf283
  v76 := Tryz.zeroValue283
  t77 := Tryz.underlying284
  a77 := Tryz.isAgg284
  z77 := Tryz.sizeOf284
  v77 := Tryz.zeroValue284 }
end Go.Proofs
namespace Go.Proofs.YtlihjmfdnkfmfaaGreatDoor
open Go.RowKit Go.Lib Go.Sort Go.Shelf

def cmpS (a b : ByteArray) : Int := if Op.bytesLess a.toList b.toList then -1 else if Op.bytesLess b.toList a.toList then 1 else 0
theorem less_not (a b : List UInt8) (h : Op.bytesLess a b = false) : (!(Op.bytesLess a b || a == b)) = Op.bytesLess b a := by
  rw [bytesLess_eq] at h ⊢
  rw [bytesLess_eq, h]
  have h1 : ¬ a < b := by simpa using h
  have h2 : b ≤ a := List.not_lt.1 h1
  by_cases he : a = b
  · subst he; simp
  · have e1 : (a == b) = false := by simpa using he
    rw [e1]
    have : b < a := by
      rcases List.le_iff_lt_or_eq.1 h2 with h | h
      · exact h
      · exact absurd h.symm he
    simpa using this
set_option maxHeartbeats 1000000 in
theorem isNaN_any (a : ByteArray) (w : World) : Calls Tryz.prog 150 #[.string a] w fun e w' => e = .returned (.bool false) ∧ w' = w := by
  have h : (a.toList != a.toList) = false := by simp
  go_enter Tryz.func150, Tryz.ntmps150
  go_wp2_with fail
  go_ret
  exact ⟨rfl, rfl⟩
set_option maxHeartbeats 1000000 in
theorem compare_any (a b : ByteArray) (w : World) : Calls Tryz.prog 110 #[.string a, .string b] w fun e w' => e = .returned (.int .i64 (cmpS a b)) ∧ w' = w := by
  unfold cmpS
  cases h1 : Op.bytesLess a.toList b.toList
  · have h2 := less_not _ _ h1
    have h3 : (a.toList == b.toList) = !Op.bytesLess b.toList a.toList := by rw [← h2, h1]; simp
    clear h2
    generalize Op.bytesLess b.toList a.toList = c at *
    cases c
    all_goals
      go_enter Tryz.func110, Tryz.ntmps110
      go_wp2_with fail
      refine Calls.mono (isNaN_any a _) ?_
      rintro e w1 ⟨rfl, rfl⟩
      go_wp2_with fail
      refine Calls.mono (isNaN_any b _) ?_
      rintro e w1 ⟨rfl, rfl⟩
      go_wp2_with fail
      go_ret
      exact ⟨rfl, rfl⟩
  · go_enter Tryz.func110, Tryz.ntmps110
    go_wp2_with fail
    refine Calls.mono (isNaN_any a _) ?_
    rintro e w1 ⟨rfl, rfl⟩
    go_wp2_with fail
    refine Calls.mono (isNaN_any b _) ?_
    rintro e w1 ⟨rfl, rfl⟩
    go_wp2_with fail
    go_ret
    exact ⟨rfl, rfl⟩
/-- a member's cells -/
structure MC where
  nm : ByteArray
  k : Int
  n : Int
  s : ByteArray
  a1 : Option Addr
  n1 : Nat
  c1 : Nat
  a2 : Option Addr
  n2 : Nat
  c2 : Nat
instance : Inhabited MC := ⟨⟨⟨#[]⟩, 0, 0, ⟨#[]⟩, none, 0, 0, none, 0, 0⟩⟩
def MC.cells (x : MC) : List Value := [.string x.nm, .int .i64 x.k, .int .i64 x.n, .string x.s, .slice x.a1 x.n1 x.c1, .slice x.a2 x.n2 x.c2]
theorem MC.len (x : MC) : x.cells.length = 6 := rfl
theorem MC.one (x : MC) : ∀ v ∈ x.cells, v.oneCell' = true := by
  intro v hv
  simp [MC.cells] at hv
  rcases hv with rfl | rfl | rfl | rfl | rfl | rfl <;> rfl
set_option maxHeartbeats 1000000 in
theorem sortBy_any (x y : MC) (W : World) : Calls Tryz.prog 188 #[.agg x.cells.toArray, .agg y.cells.toArray] W fun e w' => e = .returned (.int .i64 (cmpS x.nm y.nm)) ∧ ∃ q os', w' = grow (W.drewN q) os' := by
  have hc := fun W' => compare_any x.nm y.nm W'
  generalize cmpS x.nm y.nm = r at *
  go_enter Tryz.func188, Tryz.ntmps188
  simp only [MC.cells]
  go_wp2_with fail
  refine Calls.mono (hc _) ?_
  rintro e w1 ⟨rfl, rfl⟩
  go_wp2_with fail
  go_ret
  exact ⟨rfl, 0, _, by rw [alloc_eq_grow, alloc_eq_grow, grow_grow]; rfl⟩
def cfM (x y : MC) : Int := cmpS x.nm y.nm
theorem lt_cfM (x y : MC) : ltOf cfM x y = Op.bytesLess x.nm.toList y.nm.toList := by
  unfold ltOf cfM cmpS
  cases Op.bytesLess x.nm.toList y.nm.toList
  · cases Op.bytesLess y.nm.toList x.nm.toList <;> rfl
  · rfl
theorem swoM : SWO (ltOf cfM) where
  irrefl x := by rw [lt_cfM, bytesLess_eq]; simp [List.lt_irrefl]
  trans x y z h1 h2 := by rw [lt_cfM, bytesLess_eq] at *; simp at *; exact List.lt_trans h1 h2
  ntrans x y z h1 h2 := by rw [lt_cfM, bytesLess_eq] at *; simp at *; exact List.le_trans h2 h1
theorem cmpLays (blk off size : Nat) (w : World) : CmpLays Tryz.prog 188 #[] MC.cells 6 cfM blk off size w := fun _ _ _ _ x y => sortBy_any x y _

/-! the row of the members -/
def mcFlat (l : List MC) : List Value := l.flatMap MC.cells
theorem mcFlat_len (l : List MC) : (mcFlat l).length = l.length * 6 := by
  induction l with
  | nil => rfl
  | cons x l ih => simp only [mcFlat, List.flatMap_cons, List.length_append, List.length_cons] at *; rw [ih, MC.len]; omega
theorem mcFlat_get : ∀ (l : List MC) (t : Nat), t < l.length * 6 → (mcFlat l)[t]? = some ((l[t / 6]!).cells[t % 6]!)
  | [], t, h => by simp at h
  | x :: l, t, h => by
    simp only [mcFlat, List.flatMap_cons]
    by_cases h6 : t < 6
    · rw [List.getElem?_append_left (by rw [MC.len]; exact h6), Nat.div_eq_of_lt h6, Nat.mod_eq_of_lt h6]
      have : t < x.cells.length := by rw [MC.len]; exact h6
      simp [this]
    · have ih := mcFlat_get l (t - 6) (by simp only [List.length_cons] at h; omega)
      rw [List.getElem?_append_right (by rw [MC.len]; omega), MC.len]
      rw [mcFlat] at ih
      rw [ih]
      have e1 : t / 6 = (t - 6) / 6 + 1 := by omega
      have e2 : t % 6 = (t - 6) % 6 := by omega
      rw [e1, e2]; simp
theorem flatK_eq (d : Array MC) : flatK MC.cells 6 d = (mcFlat d.toList).toArray := by
  refine ext_get! (by simp [mcFlat_len]) fun t ht => ?_
  rw [size_flatK] at ht
  rw [get_flatK _ _ _ _ ht]
  have := mcFlat_get d.toList t (by simpa using ht)
  have h2 : t < (mcFlat d.toList).toArray.size := by simpa [mcFlat_len] using ht
  rw [getElem!_pos _ t h2]
  simp only [List.getElem_toArray]
  have h3 : t < (mcFlat d.toList).length := by simpa using h2
  rw [List.getElem?_eq_getElem h3] at this
  rw [Option.some.inj this]
  have hi : t / 6 < d.size := by omega
  rw [getElem!_pos d (t / 6) hi, getElem!_pos d.toList (t / 6) (by simpa using hi)]
  simp
theorem putCells_take (F cur : Array Value) (h : F.size ≤ cur.size) : (putCells id 0 F cur).toList.take F.size = F.toList := by
  apply List.ext_getElem?
  intro k
  by_cases hk : k < F.size
  · rw [List.getElem?_take_of_lt hk]
    simp [putCells, hk, Nat.lt_of_lt_of_le hk h]
  · rw [List.getElem?_eq_none (by simp [putCells]; omega), List.getElem?_eq_none (by simp; omega)]
set_option maxHeartbeats 2000000 in
theorem sorted_any (base : Nat) (v : Value) (ms : List MC) (w : World) (hown : w.ownsRow base 49 6 v ms.length (mcFlat ms)) (hn : ms.length < 4611686018427387904) :
    Calls Tryz.prog 157 #[v] w fun e w' => e = .returned v ∧ ∃ ms', ms'.Perm ms ∧ ms'.Pairwise (fun a b => Op.bytesLess b.nm.toList a.nm.toList = false) ∧ w'.ownsRow base 49 6 v ms'.length (mcFlat ms') ∧ w.grownBy w' v.ownBlock := by
  rcases hown.2 with ⟨rfl, h0⟩ | ⟨g, cap, cur, rfl, hb, hg, hnc, hcm, hcs, htake⟩
  · obtain rfl : ms = [] := List.eq_nil_of_length_eq_zero h0
    have hS := fun W => AnyF.slices_SortFunc_none (P := Tryz.prog) (ρ := Tryz.sortL_ren) { Tryz.sortL with } none 0 (.func (.func 188) #[] #[]) W
    change ∀ W, Calls Tryz.prog 108 _ _ _ at hS
    have HO := Lib.hid hown
    clear hown
    go_enter Tryz.func157, Tryz.ntmps157
    go_wp2_with fail
    refine Calls.mono (hS _) ?_
    rintro e w1 ⟨rfl, rfl⟩
    go_wp2_with fail
    go_ret
    exact ⟨rfl, [], List.Perm.nil, List.Pairwise.nil, HO.out, grown_refl _ _⟩
  · have eg : ∀ args w, (callFunc 188 args).run Tryz.prog w = .ok (.enter 188 args) w := enters_of Tryz.func188 (by kernel_rfl) rfl
    have hH : HoldsK MC.cells 6 w g 0 ms.toArray := by
      unfold HoldsK Holds
      rw [flatK_eq]
      intro j hj
      have hj' : j < (mcFlat ms).length := by simpa using hj
      refine ⟨?_, by simp [World.frozen?, hg]⟩
      have := hown.cells (g := g) rfl j (mcFlat ms)[j] (List.getElem?_eq_getElem hj')
      rw [Addr.add_lit] at this
      rw [this, getElem!_pos _ j hj]
      simp
    have hgw : g < w.heap.size := (Array.getElem?_eq_some_iff.1 hg).1
    have hcon := AnyQ.slices_SortFunc Tryz.sortL 6 Tryz.isAgg49 Tryz.sizeOf49 MC.cells MC.len MC.one cfM swoM 188 #[] g 0 cap ms.toArray w eg (cmpLays g 0 ms.toArray.size w) hH hgw (by simpa using hn)
    change Calls Tryz.prog 108 _ _ _ at hcon
    have hsz : ms.toArray.size = ms.length := by simp
    rw [hsz] at hcon
    have HC := Lib.hid hcon; have HG := Lib.hid hg; have HT := Lib.hid htake; have HCS := Lib.hid hcs
    clear hown hH hcon hsz hg htake hcs
    generalize hN : ms.length = N at *
    have HN := Lib.hid hN
    clear hN
    go_enter Tryz.func157, Tryz.ntmps157
    go_wp2_with fail
    refine Calls.mono HC.out ?_
    rintro e w1 ⟨rfl, d', n, os, hp, hs, hw1⟩
    have HP := Lib.hid hp; have HS := Lib.hid hs; have HW := Lib.hid hw1
    clear hp hs hw1
    go_wp2_with fail
    go_ret
    obtain ⟨hd1, _, hd3⟩ := HP.out
    have hdN : d'.size = N := by rw [hd1]; simpa using HN.out
    have hlN : d'.toList.length = N := by simpa using hdN
    have e1 : d'.extract 0 N = d' := by rw [← hdN]; simp
    have e2 : ms.toArray.extract 0 N = ms.toArray := by rw [← HN.out]; simp
    rw [e1, e2] at hd3
    have hheap : w1.heap[g]? = some (.cells (putCells id 0 (mcFlat d'.toList).toArray cur) 49 (0, 0)) := by
      rw [HW.out]
      unfold sortWorldK putRowK putRow mapBlock
      rw [flatK_eq]
      simp only [grow, heap_ahead]
      rw [Array.getElem?_append_left (by simpa using hgw)]
      rw [Array.getElem?_modify, if_pos rfl, HG.out]
      rfl
    refine ⟨rfl, d'.toList, by simpa using hd3, ?_, ⟨by rw [mcFlat_len], .inr ⟨g, cap, _, by rw [hlN], hb, hheap, by rw [hlN]; exact hnc, hcm, ?_, ?_⟩⟩, ?_⟩
    · rw [List.pairwise_iff_getElem]
      intro i j hi hj hij
      have := HS.out i j (Nat.zero_le _) hij (by rw [← hlN]; exact hj)
      rw [lt_cfM] at this
      rw [getElem!_pos d' j (by simpa using hj), getElem!_pos d' i (by simpa using hi)] at this
      simpa using this
    · simp [putCells]; exact HCS.out
    · have := putCells_take (mcFlat d'.toList).toArray cur (by simp only [List.size_toArray, mcFlat_len]; rw [HCS.out, hlN]; exact Nat.mul_le_mul_right _ hnc)
      simpa [mcFlat_len] using this
    · rw [HW.out]
      refine ⟨rfl, rfl, rfl, ?_, fun k hk hne => ?_⟩
      · simp [sortWorldK, grow, putRowK]
      · have hkg : ¬ g = k := by rintro rfl; exact hne rfl
        unfold sortWorldK putRowK putRow mapBlock
        simp only [grow, heap_ahead]
        rw [Array.getElem?_append_left (by simpa using hk)]
        simp [Array.getElem?_modify, hkg]
end Go.Proofs.YtlihjmfdnkfmfaaGreatDoor
namespace Go.Proofs.YtlihjmfdnkfmfaaGreatDoor
open Go.RowKit Go.Lib

/-! the plain parser -/
def listV (l : List JV) : JV := .mk 6 0 ⟨#[]⟩ l []
def objV (m : List (ByteArray × JV)) : JV := .mk 7 0 ⟨#[]⟩ [] m
def listLoop (s : ByteArray) (pv : St → JV × St) : Nat → List JV → St → List JV × St
  | 0, acc, x => (acc, x)
  | f + 1, acc, x =>
    if x.e ≠ 0 then (acc, x)
    else if (pv x).2.e ≠ 0 then (acc ++ [(pv x).1], (pv x).2)
    else if ((pv x).2.see s).1 = 93 then (acc ++ [(pv x).1], ((pv x).2.see s).2.step)
    else if ((pv x).2.see s).2.e ≠ 0 then (acc ++ [(pv x).1], ((pv x).2.see s).2)
    else listLoop s pv f (acc ++ [(pv x).1]) (((pv x).2.see s).2.wants s 44)
def listB (s : ByteArray) (pv : St → JV × St) (x : St) : JV × St :=
  let r := x.step.see s
  if r.1 = 93 then (listV [], r.2.step)
  else (listV (listLoop s pv (s.size + 1 - r.2.p) [] r.2).1, (listLoop s pv (s.size + 1 - r.2.p) [] r.2).2)
def memberB (s : ByteArray) (pv : St → JV × St) (l : List (ByteArray × JV)) (x : St) : (ByteArray × JV) × St :=
  let y := if (x.see s).1 ≠ 34 then (x.see s).2.fail 4 else (x.see s).2
  let t := textB s y
  let nm : ByteArray := ⟨t.1.toArray⟩
  let z := if l.any (fun m => m.1.toList == nm.toList) then t.2.fail 4 else t.2
  let u := if z.e = 0 then z.wants s 58 else z
  if u.e = 0 then ((nm, (pv u).1), (pv u).2) else ((nm, zeroV), u)
def objLoop (s : ByteArray) (pv : St → JV × St) : Nat → List (ByteArray × JV) → St → List (ByteArray × JV) × St
  | 0, acc, x => (acc, x)
  | f + 1, acc, x =>
    if x.e ≠ 0 then (acc, x)
    else if (memberB s pv acc x).2.e ≠ 0 then (acc ++ [(memberB s pv acc x).1], (memberB s pv acc x).2)
    else if ((memberB s pv acc x).2.see s).1 = 125 then (acc ++ [(memberB s pv acc x).1], ((memberB s pv acc x).2.see s).2.step)
    else if ((memberB s pv acc x).2.see s).2.e ≠ 0 then (acc ++ [(memberB s pv acc x).1], ((memberB s pv acc x).2.see s).2)
    else objLoop s pv f (acc ++ [(memberB s pv acc x).1]) (((memberB s pv acc x).2.see s).2.wants s 44)
/-- members by their names -/
def insName (m : ByteArray × JV) : List (ByteArray × JV) → List (ByteArray × JV)
  | [] => [m]
  | x :: r => if Op.bytesLess m.1.toList x.1.toList then m :: x :: r else x :: insName m r
def sortNames (l : List (ByteArray × JV)) : List (ByteArray × JV) := l.foldr insName []
def objectB (s : ByteArray) (pv : St → JV × St) (x : St) : JV × St :=
  let r := x.step.see s
  if r.1 = 125 then (objV [], r.2.step)
  else (objV (sortNames (objLoop s pv (s.size + 1 - r.2.p) [] r.2).1), (objLoop s pv (s.size + 1 - r.2.p) [] r.2).2)
def opens : List UInt8 := [91, 123, 34, 45, 48, 49, 50, 51, 52, 53, 54, 55, 56, 57, 116, 102, 110]
def valueB (s : ByteArray) : Nat → St → JV × St
  | 0, x =>
    if (x.see s).2.e ≠ 0 then (zeroV, (x.see s).2)
    else if opens.contains (x.see s).1 then (zeroV, (x.see s).2.fail 10)
    else numberB s (x.see s).2
  | d + 1, x =>
    if (x.see s).2.e ≠ 0 then (zeroV, (x.see s).2)
    else if (x.see s).1 = 91 then listB s (valueB s d) (x.see s).2
    else if (x.see s).1 = 123 then objectB s (valueB s d) (x.see s).2
    else if (x.see s).1 = 34 then (wordV ⟨(textB s (x.see s).2).1.toArray⟩, (textB s (x.see s).2).2)
    else if (x.see s).1 = 116 then wordB s [116, 114, 117, 101] 3 (x.see s).2
    else if (x.see s).1 = 102 then wordB s [102, 97, 108, 115, 101] 2 (x.see s).2
    else if (x.see s).1 = 110 then wordB s [110, 117, 108, 108] 1 (x.see s).2
    else numberB s (x.see s).2

/-! where the reader stands -/
/-- from a state without error: forth, and not beyond the text -/
def Good (s : ByteArray) (x y : St) : Prop := (y.e = 0 → x.p ≤ y.p ∧ y.p ≤ s.size) ∧ y.p ≤ s.size + 1
theorem see_p (s : ByteArray) (x : St) : (x.see s).2.p = skipB s (s.size - x.p) x.p := by
  unfold St.see St.blanks St.fail
  simp only
  split <;> (try split) <;> rfl
theorem see_bd {s : ByteArray} {x : St} (h : x.p ≤ s.size) : x.p ≤ (x.see s).2.p ∧ (x.see s).2.p ≤ s.size := by
  rw [see_p]
  have := skip_le (s := s) (s.size - x.p) x.p
  exact ⟨this.1, this.2 h⟩
/-- a byte that was seen stands there -/
theorem see_at {s : ByteArray} {x : St} (h : (x.see s).1 ≠ 0) : (x.see s).2.p < s.size ∧ (x.see s).2.e = x.e ∧ byteAt s (x.see s).2.p = (x.see s).1 := by
  unfold St.see at *
  simp only at *
  split
  · rename_i h1; rw [if_pos h1] at h; exact absurd rfl h
  · rename_i h1; exact ⟨Nat.lt_of_not_le h1, rfl, rfl⟩
theorem see_err {s : ByteArray} {x : St} (h0 : x.e = 0) (h : (x.see s).2.e ≠ 0) : (x.see s).1 = 0 := by
  unfold St.see at *
  simp only at *
  split
  · rfl
  · rename_i h1; rw [if_neg h1] at h; exact absurd h0 h
theorem wants_good {s : ByteArray} {x : St} {c : UInt8} (hc : c ≠ 0) (h : x.p ≤ s.size) : Good s x (x.wants s c) ∧ ((x.wants s c).e = 0 → x.p + 1 ≤ (x.wants s c).p) := by
  have hb := see_bd h
  unfold St.wants
  simp only
  by_cases h1 : (x.see s).2.e = 0 ∧ (x.see s).1 ≠ c
  · rw [if_pos h1]
    refine ⟨⟨fun he => ?_, ?_⟩, fun he => ?_⟩
    · simp [St.step, St.fail, h1.1] at he
    · simp only [St.step, fail_p]; omega
    · simp [St.step, St.fail, h1.1] at he
  · rw [if_neg h1]
    refine ⟨⟨fun he => ?_, ?_⟩, fun he => ?_⟩
    · have he' : (x.see s).2.e = 0 := he
      have hcc : (x.see s).1 = c := by
        rcases Classical.em ((x.see s).1 = c) with h2 | h2
        · exact h2
        · exact absurd ⟨he', h2⟩ h1
      have := see_at (s := s) (x := x) (by rw [hcc]; exact hc)
      simp only [St.step]; omega
    · simp only [St.step]; omega
    · simp only [St.step]; omega

/-! a row that a variable's field holds -/
def RowIn {α : Type} (T : TypeId) (E : TypeId) (Y : Ty α) (V : Nat) (mk : Value → Array Value) (va : Value) (vs : List α) (w : World) : Prop :=
  w.heap[V]? = some (.cells (mk va) T (0, 0)) ∧ ∃ cs, w.ownsRow (V + 1) E Y.sz va vs.length cs ∧ Chunks Y w (fun b => V < b ∧ b < w.heap.size ∧ some b ≠ va.ownBlock) vs cs
theorem RowIn.kept {α : Type} {T E : TypeId} {Y : Ty α} {V R : Nat} {mk : Value → Array Value} {va : Value} {vs : List α} {w w' : World} (h : RowIn T E Y V mk va vs w) (hg : w.grownBy w' (some R)) (hR : R < V) : RowIn T E Y V mk va vs w' := by
  obtain ⟨h1, cs, h2, h3⟩ := h
  have hV : V < w.heap.size := (Array.getElem?_eq_some_iff.1 h1).1
  have hne : ∀ b, V ≤ b → some b ≠ some R := fun b hb e => by have := Option.some.inj e; omega
  refine ⟨(hg.block V hV (hne V (Nat.le_refl _))).trans h1, cs, World.ownsRow.kept h2 hg ?_, (h3.frame (w' := w') (fun b hb => hg.block b hb.2.1 (hne b (by omega)))).mono (fun b hb => ⟨hb.1, Nat.lt_of_lt_of_le hb.2.1 hg.size, hb.2.2⟩)⟩
  rcases hv : va.ownBlock with _ | j
  · exact .inl rfl
  · right; exact hne j (by have := (h2.lt j hv).1; omega)
theorem RowIn.push {α : Type} {T E : TypeId} {Y : Ty α} {V N i : Nat} {mk : Value → Array Value} {va va' : Value} {vs : List α} {x : α} {c cs : List Value} {w5 W : World} (hmk : (mk va).setIfInBounds i va' = mk va')
    (h1 : w5.heap[V]? = some (.cells (mk va) T (0, 0))) (h2 : w5.ownsRow (V + 1) E Y.sz va vs.length cs) (h3 : Chunks Y w5 (fun b => V < b ∧ b < w5.heap.size ∧ some b ≠ va.ownBlock) vs cs)
    (hx : Y.R w5 (fun b => N ≤ b) x c) (hVN : V < N) (hvN : ∀ j, va.ownBlock = some j → j < N)
    (hg : (w5.alloc (.cells c.toArray E)).grownBy W va.ownBlock) (hob : va'.ownBlock = va.ownBlock ∨ va'.ownBlock = some (w5.alloc (.cells c.toArray E)).heap.size)
    (hoo : W.ownsRow (V + 1) E Y.sz va' (vs.length + 1) (cs ++ c)) : RowIn T E Y V mk va' (vs ++ [x]) (W.setCell ⟨V, i, none⟩ va') := by
  have hV : V < w5.heap.size := (Array.getElem?_eq_some_iff.1 h1).1
  have hsz5 : (w5.alloc (.cells c.toArray E)).heap.size = w5.heap.size + 1 := by show (w5.heap.push _).size = _; simp
  have hob1 : ∀ j, va.ownBlock = some j → V + 1 ≤ j := fun j hj => (h2.lt j hj).1
  have hob2 : ∀ j, va'.ownBlock = some j → V + 1 ≤ j := fun j hj => (hoo.lt j hj).1
  have hsW := hg.size
  have hblk : ∀ b, V < b → b < w5.heap.size → some b ≠ va.ownBlock → (W.setCell ⟨V, i, none⟩ va').heap[b]? = w5.heap[b]? := fun b a1 a2 a3 =>
    (Below.heap_setCell _ _ _ _ (by show b ≠ V; omega)).trans ((hg.block b (by omega) a3).trans ((bel_alloc (Below.refl w5.heap.size w5) (.cells c.toArray E)).block b a2))
  have hnb : ∀ b, b < w5.heap.size → some b ≠ va.ownBlock → some b ≠ va'.ownBlock := fun b a1 a2 => by
    rcases hob with h | h
    · rw [h]; exact a2
    · rw [h]; intro e; have := Option.some.inj e; omega
  have hsS : (W.setCell ⟨V, i, none⟩ va').heap.size = W.heap.size := by simp [World.setCell]
  have hWV : W.heap[V]? = some (.cells (mk va) T (0, 0)) := (hg.block V (by omega) (by intro e; have := hob1 V e.symm; omega)).trans (((bel_alloc (Below.refl w5.heap.size w5) (.cells c.toArray E)).block V hV).trans h1)
  refine ⟨by rw [← hmk]; exact heap_setCell_row hWV, cs ++ c, ?_, ?_⟩
  · rw [List.length_append]
    refine World.ownsRow.kept hoo (grown_set (g := V) _) ?_
    rcases hv : va'.ownBlock with _ | j
    · exact .inl rfl
    · right; intro e; have := hob2 j hv; have := Option.some.inj e; omega
  · refine Chunks.append ((h3.frame (w' := W.setCell ⟨V, i, none⟩ va') (fun b hb => hblk b hb.1 hb.2.1 hb.2.2)).mono (fun b hb => ⟨hb.1, by have := hb.2.1; omega, hnb b hb.2.1 hb.2.2⟩)) (Chunks.single (T := Y) ?_)
    have hx' := Y.bound hx
    have hvb : ∀ b, N ≤ b → some b ≠ va.ownBlock := fun b hb e => by have := hvN b e.symm; omega
    exact Y.mono (F' := fun b => V < b ∧ b < (W.setCell ⟨V, i, none⟩ va').heap.size ∧ some b ≠ va'.ownBlock) (fun b hb => ⟨by have := hb.1; omega, by have := hb.2; omega, hnb b hb.2 (hvb b hb.1)⟩) (Y.frame (w' := W.setCell ⟨V, i, none⟩ va') (fun b hb => hblk b (by have := hb.1; omega) hb.2 (hvb b hb.1)) hx')
theorem RdPost.far {T : TypeId} {R p : Nat} {s : ByteArray} {e : Int} {w w1 w2 : World} {row : Option Nat} (h : RdPost T R s p e w w1) (hg : w1.grownBy w2 row) (hr : ∀ k, row = some k → w.heap.size ≤ k) (hR : R < w.heap.size) : RdPost T R s p e w w2 := by
  have hs := h.2.size
  have hne : ∀ b, b < w.heap.size → some b ≠ row := fun b hb e => by have := hr b e.symm; omega
  exact ⟨(hg.block R (by omega) (hne R hR)).trans h.1, ⟨hg.os.trans h.2.os, hg.tape.trans h.2.tape, hg.output.trans h.2.output, Nat.le_trans hs hg.size, fun k hk hk2 => (hg.block k (by omega) (hne k hk)).trans (h.2.block k hk hk2)⟩⟩

/-- what a value's reading leaves -/
def VRes (R : Nat) (s : ByteArray) (r : JV × St) (w : World) (z : Ending) (w' : World) : Prop := ∃ (v : JV) (A1 : Option Addr) (n1 c1 : Nat) (A2 : Option Addr) (n2 c2 : Nat),
  z = .returned (.agg #[.int .i64 v.k, .int .i64 v.n, .string v.s, .slice A1 n1 c1, .slice A2 n2 c2]) ∧ JR w' (fun b => w.heap.size ≤ b) v [.int .i64 v.k, .int .i64 v.n, .string v.s, .slice A1 n1 c1, .slice A2 n2 c2] ∧
  (r.2.e = 0 → v = r.1) ∧ RdPost 148 R s r.2.p r.2.e w w'
def ValAt (s : ByteArray) (d : Nat) (pv : St → JV × St) : Prop := ∀ (w0 : World) (R : Nat) (x : St) (w : World), Tabs w0 → Below w0.heap.size w0 w → w0.heap.size ≤ R → x.e = 0 → x.p ≤ s.size → RdAt 148 R s x.p x.e w →
  Calls Tryz.prog 67 #[.pointer (some ⟨R, 0, none⟩), .int .i64 d] w (VRes R s (pv x) w)
end Go.Proofs.YtlihjmfdnkfmfaaGreatDoor
