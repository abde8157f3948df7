/- Parts of the proof: Jw, Re, ShelfS, So, St, Ex. -/
import Derived.Test.YtlihjmfdnkfmfaaGreatDoorZPback7
import Derived.Lib.ItoaLen
import Derived.Shelf.SlGeneric
import Derived.Ground.SlsfProg
import Derived.Shelf.SlSortCmp.WholeK
import Derived.Shelf.SlSortCmp.NoneTotal
import Derived.Test.YtlihjmfdnkfmfaaGreatDoorProg
import Derived.Sort.Walk0
import Derived.Laws.Cover1
import Derived.Test.YtlihjmfdnkfmfaaGreatDoorZPback0
import Derived.OrdersHeld
import Derived.Deep.Quiet
import Derived.Deep.RegionHeld3
namespace Go.Proofs.YtlihjmfdnkfmfaaGreatDoor
open Go.RowKit Go.Lib

def numV (n : Int) : JV := .mk 4 n ⟨#[]⟩ [] []
def wordV (s : ByteArray) : JV := .mk 5 0 s [] []
def numC (n : Int) : List Value := [.int .i64 4, .int .i64 n, .string ⟨#[]⟩, .slice none 0 0, .slice none 0 0]
def wordC (s : ByteArray) : List Value := [.int .i64 5, .int .i64 0, .string s, .slice none 0 0, .slice none 0 0]

theorem short_nil : shortB ⟨#[]⟩ = true := by decide +kernel
theorem one_numV {n : Int} (h0 : -9007199254740991 ≤ n) (h1 : n ≤ 9007199254740991) : oneB (numV n) = true := by
  have : badK (.mk 4 n ⟨#[]⟩ [] []) = false := by simp [badK, JV.k, JV.n, JV.s, JV.l, JV.m]
  simp [oneB, this, membersB, rangeB, numV, JV.n, JV.s, JV.m, short_nil, h0, h1]
theorem one_listV (l : List JV) : oneB (.mk 6 0 ⟨#[]⟩ l []) = true := by
  have : badK (.mk 6 0 ⟨#[]⟩ l []) = false := by simp [badK, JV.k, JV.n, JV.s, JV.l, JV.m]
  simp [oneB, this, membersB, rangeB, JV.n, JV.s, JV.m, short_nil]
theorem one_wordV {s : ByteArray} (h : shortB s = true) : oneB (wordV s) = true := by
  have : badK (.mk 5 0 s [] []) = false := by simp [badK, JV.k, JV.n, JV.s, JV.l, JV.m]
  simp [oneB, this, membersB, rangeB, wordV, JV.n, JV.s, JV.m, h]
theorem one_obj {m : List (ByteArray × JV)} (h : membersB none m = true) : oneB (.mk 7 0 ⟨#[]⟩ [] m) = true := by
  have : badK (.mk 7 0 ⟨#[]⟩ [] m) = false := by simp [badK, JV.k, JV.n, JV.s, JV.l, JV.m]
  simp [oneB, this, h, rangeB, JV.n, JV.s, JV.m, short_nil]
theorem may_succ (d : Nat) (x : JV) : mayJ (d + 1) x = (oneB x && x.l.all (mayJ d) && x.m.all fun p => mayJ d p.2) := rfl
theorem may_numV {d : Nat} {n : Int} (h0 : -9007199254740991 ≤ n) (h1 : n ≤ 9007199254740991) : mayJ (d + 1) (numV n) = true := by
  rw [may_succ, one_numV h0 h1]; rfl
theorem may_wordV {d : Nat} {s : ByteArray} (h : shortB s = true) : mayJ (d + 1) (wordV s) = true := by
  rw [may_succ, one_wordV h]; rfl
theorem may_obj {d : Nat} {m : List (ByteArray × JV)} (h : membersB none m = true) : mayJ (d + 1) (.mk 7 0 ⟨#[]⟩ [] m) = m.all fun p => mayJ d p.2 := by
  rw [may_succ, one_obj h]; simp [JV.l, JV.m]
theorem may_list {d : Nat} {l : List JV} : mayJ (d + 1) (.mk 6 0 ⟨#[]⟩ l []) = l.all (mayJ d) := by
  rw [may_succ, one_listV]; simp [JV.l, JV.m]
theorem print_numV (d : Nat) (n : Int) : printB (d + 1) (numV n) = Lib.itoa n := by rw [printB.eq_2]; simp [numV, JV.k, JV.n]
end Go.Proofs.YtlihjmfdnkfmfaaGreatDoor
namespace Go.Proofs.YtlihjmfdnkfmfaaGreatDoor
open Go.RowKit Go.Lib

def zeroV : JV := .mk 0 0 ⟨#[]⟩ [] []
def wordIn (s : ByteArray) : List UInt8 → St → Bool × St
  | [], x => (true, x)
  | c :: r, x => if s.size ≤ x.p then (false, x.fail 2) else if byteAt s x.p ≠ c then (false, x.fail 4) else wordIn s r x.step
def wordB (s : ByteArray) (l : List UInt8) (k : Int) (x : St) : JV × St := (if (wordIn s l x).1 then .mk k 0 ⟨#[]⟩ [] [] else zeroV, (wordIn s l x).2)
def kC (k : Int) : List Value := [.int .i64 k, .int .i64 0, .string ⟨#[]⟩, .slice none 0 0, .slice none 0 0]

/-- a method that hands back a value without parts -/
def VPost (R : Nat) (s : ByteArray) (r : JV × St) (cs : List Value) (w : World) (z : Ending) (w' : World) : Prop := z = .returned (.agg cs.toArray) ∧ RdPost 148 R s r.2.p r.2.e w w'

theorem set5 {w : World} {B : Nat} {T : TypeId} {fz : Nat × Nat} {a0 a1 a2 a3 a4 : Value} (v0 v1 v2 v3 v4 : Value) (h : w.heap[B]? = some (.cells #[a0, a1, a2, a3, a4] T fz)) :
    (((((w.setCell ⟨B, 0, none⟩ v0).setCell ⟨B, 1, none⟩ v1).setCell ⟨B, 2, none⟩ v2).setCell ⟨B, 3, none⟩ v3).setCell ⟨B, 4, none⟩ v4).heap[B]? = some (.cells #[v0, v1, v2, v3, v4] T fz) :=
  heap_setCell_row (heap_setCell_row (heap_setCell_row (heap_setCell_row (heap_setCell_row h))))
theorem RdPost.setB {T : TypeId} {R p B i : Nat} {s : ByteArray} {e : Int} {w w1 : World} (h : RdPost T R s p e w w1) (hB : w.heap.size ≤ B) (hR : R < w.heap.size) (v : Value) : RdPost T R s p e w (w1.setCell ⟨B, i, none⟩ v) := by
  refine ⟨(Below.heap_setCell _ _ _ _ (by show R ≠ B; omega)).trans h.1, ⟨h.2.os, h.2.tape, h.2.output, by simp [World.setCell]; exact h.2.size, fun k hk hne => (Below.heap_setCell _ _ _ _ (by show k ≠ B; omega)).trans (h.2.block k hk hne)⟩⟩
theorem RdPost.set5 {T : TypeId} {R p B : Nat} {s : ByteArray} {e : Int} {w w1 : World} (h : RdPost T R s p e w w1) (hB : w.heap.size ≤ B) (hR : R < w.heap.size) (v0 v1 v2 v3 v4 : Value) :
    RdPost T R s p e w (((((w1.setCell ⟨B, 0, none⟩ v0).setCell ⟨B, 1, none⟩ v1).setCell ⟨B, 2, none⟩ v2).setCell ⟨B, 3, none⟩ v3).setCell ⟨B, 4, none⟩ v4) :=
  ((((h.setB hB hR v0).setB hB hR v1).setB hB hR v2).setB hB hR v3).setB hB hR v4
theorem cells5 {w : World} {B : Nat} {T : TypeId} {a0 a1 a2 a3 a4 : Value} (h : w.heap[B]? = some (.cells #[a0, a1, a2, a3, a4] T (0, 0))) :
    (w.cell? ⟨B, 0, none⟩ = some a0 ∧ w.cell? ⟨B, 1, none⟩ = some a1 ∧ w.cell? ⟨B, 2, none⟩ = some a2 ∧ w.cell? ⟨B, 3, none⟩ = some a3 ∧ w.cell? ⟨B, 4, none⟩ = some a4) ∧
    (w.frozen? ⟨B, 0, none⟩ = false ∧ w.frozen? ⟨B, 1, none⟩ = false ∧ w.frozen? ⟨B, 2, none⟩ = false ∧ w.frozen? ⟨B, 3, none⟩ = false ∧ w.frozen? ⟨B, 4, none⟩ = false) ∧ B < w.heap.size := by
  refine ⟨⟨by rw [Lib.cell_of_heap h]; rfl, by rw [Lib.cell_of_heap h]; rfl, by rw [Lib.cell_of_heap h]; rfl, by rw [Lib.cell_of_heap h]; rfl, by rw [Lib.cell_of_heap h]; rfl⟩, ⟨by simp [World.frozen?, h], by simp [World.frozen?, h], by simp [World.frozen?, h], by simp [World.frozen?, h], by simp [World.frozen?, h]⟩, (Array.getElem?_eq_some_iff.1 h).1⟩
theorem RdPost.keep {T : TypeId} {R p B : Nat} {s : ByteArray} {e : Int} {w w1 : World} {o : Obj} (h : RdPost T R s p e w w1) (hb : w.heap[B]? = some o) (hne : B ≠ R) : w1.heap[B]? = some o :=
  (h.2.block B (Array.getElem?_eq_some_iff.1 hb).1 (by intro e; exact hne (Option.some.inj e))).trans hb
theorem drop_byte {l : ByteArray} {j : Nat} (h : j < l.size) : l.data.toList.drop j = byteAt l j :: l.data.toList.drop (j + 1) := by
  have hj : j < l.data.toList.length := by simpa using h
  rw [List.drop_eq_getElem_cons hj]
  congr 1
  unfold byteAt
  rw [List.getD_eq_getElem?_getD, List.getElem?_eq_getElem hj]; rfl
theorem wordIn_fail {s : ByteArray} {c : UInt8} {r : List UInt8} {y : St} (h : s.size ≤ y.p) : wordIn s (c :: r) y = (false, y.fail 2) := by simp only [wordIn]; rw [if_pos h]
theorem wordIn_bad {s : ByteArray} {c : UInt8} {r : List UInt8} {y : St} (h : ¬ s.size ≤ y.p) (hc : byteAt s y.p ≠ c) : wordIn s (c :: r) y = (false, y.fail 4) := by simp only [wordIn]; rw [if_neg h, if_pos hc]
theorem wordIn_step {s : ByteArray} {c : UInt8} {r : List UInt8} {y : St} (h : ¬ s.size ≤ y.p) (hc : byteAt s y.p = c) : wordIn s (c :: r) y = wordIn s r y.step := by simp only [wordIn]; rw [if_neg h, if_neg (by simpa using hc)]

set_option maxRecDepth 100000 in
set_option maxHeartbeats 4000000 in
theorem word_any (R : Nat) (s l : ByteArray) (k : Int) (x : St) (w : World) (hs : s.size ≤ 1000000) (hl : l.size ≤ 1000) (hx : x.p ≤ 1000001) (h : RdAt 148 R s x.p x.e w) :
    Calls Tryz.prog 118 #[.pointer (some ⟨R, 0, none⟩), .string l, .int .i64 k] w (VPost R s (wordB s l.data.toList k x) (kC (if (wordIn s l.data.toList x).1 then k else 0)) w) := by
  have hR := h.cells.2.2.2.2.2.2
  have hA : Below w.heap.size w (w.alloc (.cells #[.int .i64 0, .int .i64 0, .string ⟨#[]⟩, .slice none 0 0, .slice none 0 0] 43)) := bel_alloc (Below.refl _ _) _
  have hb0 := heap_alloc_new w (.cells #[.int .i64 0, .int .i64 0, .string ⟨#[]⟩, .slice none 0 0, .slice none 0 0] 43)
  have hp0 := RdPost.below h.post hA
  have HB0 := Lib.hid hb0; have HP0 := Lib.hid hp0
  unfold VPost wordB
  generalize hkk : (if (wordIn s l.data.toList x).1 then k else 0) = kk at *
  simp only
  generalize hfin : wordIn s l.data.toList x = fin at *
  have HFIN := Lib.hid hfin; have HKK := Lib.hid hkk
  clear hA hb0 hp0 h hfin hkk
  go_enter Tryz.func118, Tryz.ntmps118
  go_wp2_with fail
  generalize hB : w.heap.size = B at *
  have HBQ := Lib.hid hB
  clear hB
  generalize hn : l.size = n at *
  have HN := Lib.hid hn
  clear hn
  go_loopg [10] n (fun gg s10 wr => ∃ (j : Nat) (y : St), j ≤ n ∧ n - j ≤ gg ∧ s10 = .int .i64 j ∧ y.p + (n - j) ≤ 1001001 ∧ Aside (wordIn s (l.data.toList.drop j) y = fin) ∧ Aside (wr.heap[B]? = some (.cells #[.int .i64 0, .int .i64 0, .string ⟨#[]⟩, .slice none 0 0, .slice none 0 0] 43 (0, 0))) ∧ Aside (RdPost 148 R s y.p y.e w wr))
  case atStart => exact ⟨0, x, Nat.zero_le _, by omega, rfl, by omega, HFIN.out, HB0.out, HP0.out⟩
  case round =>
    obtain ⟨j, y, hj, hgg, rfl, hy, HF, HBB, HR⟩ := hrel
    obtain ⟨l0, l1, l2, _, f1, _, hRw⟩ := HR.out.1.cells
    obtain ⟨⟨b0, b1, b2, b3, b4⟩, ⟨g0, g1, g2, g3, g4⟩, hBw⟩ := cells5 HBB.out
    have hRB : R < B := hR
    by_cases hlt : j < n
    · have hltz : (j : Int) < (n : Int) := by omega
      have hjl : j < l.size := by have := HN.out; omega
      have hdr := drop_byte hjl
      have hgl := get_byte hjl
      have hj0 : (0 : Int) ≤ (j : Int) := by omega
      have HDR := Lib.hid hdr
      clear hdr
      by_cases hp : y.p < s.size
      · have hpz : (y.p : Int) < (s.size : Int) := by omega
        have hd : decide ((s.size : Int) ≤ (y.p : Int)) = false := by simpa using hpz
        have hq0 : (0 : Int) ≤ (y.p : Int) := by omega
        have hgb := get_byte hp
        have hjn2 : (j : Int) < (l.size : Int) := by omega
        by_cases hc : byteAt s y.p = byteAt l j
        · have hstep := wordIn_step (r := l.data.toList.drop (j + 1)) (by omega) hc
          rw [← HDR.out] at hstep
          have hne : (((byteAt s y.p).toNat : Int) != ((byteAt l j).toNat : Int)) = false := by rw [hc]; simp
          have hst := i64_step (p := y.p) (by omega)
          have HS := Lib.hid hstep
          clear hstep hc
          go_wp2_with fail
          go_quiet (fail)
          go_wp2_with fail
          go_quiet (fail)
          go_wp2_with fail
          go_roundg (n - (j + 1))
          case measure => omega
          case rel => exact ⟨j + 1, y.step, by omega, by omega, by go_num, by simp only [St.step]; omega, by rw [← HS.out]; exact HF.out, (Below.heap_setCell _ _ _ _ (by show B ≠ R; omega)).trans HBB.out, RdPost.set1 (RdPost.drewN HR.out _) _⟩
        · have hbad := wordIn_bad (r := l.data.toList.drop (j + 1)) (by omega) hc
          rw [← HDR.out] at hbad
          have hff : fin = (false, y.fail 4) := by rw [← HF.out]; exact hbad
          subst hff
          have hkk := HKK.out
          simp only [Bool.false_eq_true, if_false] at hkk
          subst hkk
          have hne : (((byteAt s y.p).toNat : Int) != ((byteAt l j).toNat : Int)) = true := by
            have : (byteAt s y.p).toNat ≠ (byteAt l j).toNat := fun h => hc (UInt8.toNat_inj.1 h)
            simp; omega
          have hfl := fun n => fail_any R s y 4 (wr.drewN n) (HR.out.1.drewN n)
          have HFL := Lib.hid hfl
          clear hc hbad hfl
          go_wp2_with fail
          go_quiet (fail)
          go_wp2_with fail
          go_quiet (fail)
          go_wp2_with fail
          refine Calls.mono (HFL.out _) ?_
          rintro e w2 ⟨rfl, hp2⟩
          have hbb := hp2.keep (B := B) HBB.out (by omega)
          have hr2 := RdPost.trans (RdPost.drewN HR.out _) hp2
          obtain ⟨⟨b0, b1, b2, b3, b4⟩, ⟨g0, g1, g2, g3, g4⟩, hBw2⟩ := cells5 hbb
          have hf := set5 (.int .i64 0) (.int .i64 0) (.string ⟨#[]⟩) (.slice none 0 0) (.slice none 0 0) hbb
          have hr5 := RdPost.set5 hr2 (B := B) (by rw [HBQ.out]; exact Nat.le_refl _) (by rw [HBQ.out]; exact hRB) (.int .i64 0) (.int .i64 0) (.string ⟨#[]⟩) (.slice none 0 0) (.slice none 0 0)
          have HF5 := Lib.hid hf; have HR5 := Lib.hid hr5
          clear hf hr5 hbb hr2 hp2
          go_wp2_with fail
          exact bodyPost_ret (results_cell_row rfl _ _ B 43 (kC 0).toArray (0, 0) _ rfl HF5.out Tryz.underlying43 rfl (by kernel_rfl)) rfl ⟨rfl, HR5.out⟩
      · have hd : decide ((s.size : Int) ≤ (y.p : Int)) = true := by simp; omega
        have hbad := wordIn_fail (c := byteAt l j) (r := l.data.toList.drop (j + 1)) (s := s) (y := y) (by omega)
        rw [← HDR.out] at hbad
        have hff : fin = (false, y.fail 2) := by rw [← HF.out]; exact hbad
        subst hff
        have hkk := HKK.out
        simp only [Bool.false_eq_true, if_false] at hkk
        subst hkk
        have hfl := fun n => fail_any R s y 2 (wr.drewN n) (HR.out.1.drewN n)
        have HFL := Lib.hid hfl
        clear hbad hfl
        go_wp2_with fail
        go_quiet (fail)
        go_wp2_with fail
        refine Calls.mono (HFL.out _) ?_
        rintro e w2 ⟨rfl, hp2⟩
        have hbb := hp2.keep (B := B) HBB.out (by omega)
        have hr2 := RdPost.trans (RdPost.drewN HR.out _) hp2
        obtain ⟨⟨b0, b1, b2, b3, b4⟩, ⟨g0, g1, g2, g3, g4⟩, hBw2⟩ := cells5 hbb
        have hf := set5 (.int .i64 0) (.int .i64 0) (.string ⟨#[]⟩) (.slice none 0 0) (.slice none 0 0) hbb
        have hr5 := RdPost.set5 hr2 (B := B) (by rw [HBQ.out]; exact Nat.le_refl _) (by rw [HBQ.out]; exact hRB) (.int .i64 0) (.int .i64 0) (.string ⟨#[]⟩) (.slice none 0 0) (.slice none 0 0)
        have HF5 := Lib.hid hf; have HR5 := Lib.hid hr5
        clear hf hr5 hbb hr2 hp2
        go_wp2_with fail
        exact bodyPost_ret (results_cell_row rfl _ _ B 43 (kC 0).toArray (0, 0) _ rfl HF5.out Tryz.underlying43 rfl (by kernel_rfl)) rfl ⟨rfl, HR5.out⟩
    · have hltz : ¬ (j : Int) < (n : Int) := by omega
      have hff := HF.out
      rw [List.drop_of_length_le (by simp; have := HN.out; omega)] at hff
      simp only [wordIn] at hff
      subst hff
      have hkk := HKK.out
      simp only [if_true] at hkk
      subst hkk
      have hf := set5 (.int .i64 k) (.int .i64 0) (.string ⟨#[]⟩) (.slice none 0 0) (.slice none 0 0) HBB.out
      have hr5 := RdPost.set5 HR.out (B := B) (by rw [HBQ.out]; exact Nat.le_refl _) (by rw [HBQ.out]; exact hRB) (.int .i64 k) (.int .i64 0) (.string ⟨#[]⟩) (.slice none 0 0) (.slice none 0 0)
      have HF5 := Lib.hid hf; have HR5 := Lib.hid hr5
      clear hf hr5
      go_wp2_with fail
      exact bodyPost_ret (results_cell_row rfl _ _ B 43 (kC k).toArray (0, 0) _ rfl HF5.out Tryz.underlying43 rfl (by kernel_rfl)) rfl ⟨rfl, HR5.out⟩
end Go.Proofs.YtlihjmfdnkfmfaaGreatDoor
namespace Go.Proofs
open Go.Shelf
def Tryz.sortL_ren : Go.Shelf.Ren := ⟨fun | 6 => 108 | 15 => 149 | 14 => 148 | 28 => 183 | 29 => 184 | 20 => 175 | 21 => 176 | 22 => 177 | 23 => 178 | 24 => 179 | 25 => 180 | 26 => 181 | 27 => 182 | 46 => 202 | 47 => 203 | 48 => 204 | 49 => 205 | 50 => 206 | 57 => 219 | n => n, fun | 22 => 41 | 24 => 49 | 25 => 194 | 3 => 3 | 39 => 226 | 0 => 0 | 53 => 245 | 55 => 247 | 4 => 4 | 46 => 238 | 45 => 237 | 50 => 242 | 5 => 5 | 9 => 9 | 66 => 267 | 70 => 186 | 76 => 283 | 77 => 284 | n => n, fun | n => n⟩
theorem Tryz.sortL : Go.Proofs.SlLaysF0.n6 Tryz.prog Tryz.sortL_ren := {
  mixed := by kernel_rfl
  f6 := ⟨Tryz.f108.name, by decide, Tryz.func108.trans (congrArg some (by kernel_rfl))⟩
  f14 := ⟨Tryz.f148.name, by decide, Tryz.func148.trans (congrArg some (by kernel_rfl))⟩
  f15 := Tryz.func149.trans (congrArg some (by kernel_rfl))
  f20 := ⟨Tryz.f175.name, by decide, Tryz.func175.trans (congrArg some (by kernel_rfl))⟩
  f21 := ⟨Tryz.f176.name, by decide, Tryz.func176.trans (congrArg some (by kernel_rfl))⟩
  f22 := ⟨Tryz.f177.name, by decide, Tryz.func177.trans (congrArg some (by kernel_rfl))⟩
  f23 := ⟨Tryz.f178.name, by decide, Tryz.func178.trans (congrArg some (by kernel_rfl))⟩
  f24 := ⟨Tryz.f179.name, by decide, Tryz.func179.trans (congrArg some (by kernel_rfl))⟩
  f25 := ⟨Tryz.f180.name, by decide, Tryz.func180.trans (congrArg some (by kernel_rfl))⟩
  f26 := ⟨Tryz.f181.name, by decide, Tryz.func181.trans (congrArg some (by kernel_rfl))⟩
  f27 := ⟨Tryz.f182.name, by decide, Tryz.func182.trans (congrArg some (by kernel_rfl))⟩
  f28 := Tryz.func183.trans (congrArg some (by kernel_rfl))
  f29 := Tryz.func184.trans (congrArg some (by kernel_rfl))
  f46 := ⟨Tryz.f202.name, by decide, Tryz.func202.trans (congrArg some (by kernel_rfl))⟩
  f47 := Tryz.func203.trans (congrArg some (by kernel_rfl))
  f48 := Tryz.func204.trans (congrArg some (by kernel_rfl))
  f49 := ⟨Tryz.f205.name, by decide, Tryz.func205.trans (congrArg some (by kernel_rfl))⟩
  f50 := ⟨Tryz.f206.name, by decide, Tryz.func206.trans (congrArg some (by kernel_rfl))⟩
  f57 := ⟨Tryz.f219.name, by decide, Tryz.func219.trans (congrArg some (by kernel_rfl))⟩
  t0 := Tryz.underlying0
  a0 := Tryz.isAgg0
  z0 := Tryz.sizeOf0
  v0 := Tryz.zeroValue0
  t3 := Tryz.underlying3
  a3 := Tryz.isAgg3
  z3 := Tryz.sizeOf3
  v3 := Tryz.zeroValue3
  t4 := Tryz.underlying4
  a4 := Tryz.isAgg4
  z4 := Tryz.sizeOf4
  v4 := Tryz.zeroValue4
  t5 := Tryz.underlying5
  a5 := Tryz.isAgg5
  z5 := Tryz.sizeOf5
  v5 := Tryz.zeroValue5
  t9 := Tryz.underlying9
  a9 := Tryz.isAgg9
  z9 := Tryz.sizeOf9
  v9 := Tryz.zeroValue9
  t22 := Tryz.underlying41
  a22 := Tryz.isAgg41
  z22 := Tryz.sizeOf41
  v22 := Tryz.zeroValue41
  t25 := Tryz.underlying194
  a25 := Tryz.isAgg194
  z25 := Tryz.sizeOf194
  v25 := Tryz.zeroValue194
  t39 := Tryz.underlying226
  a39 := Tryz.isAgg226
  z39 := Tryz.sizeOf226
  v39 := Tryz.zeroValue226
  t45 := Tryz.underlying237
  a45 := Tryz.isAgg237
  z45 := Tryz.sizeOf237
  v45 := Tryz.zeroValue237
  t46 := Tryz.underlying238
  a46 := Tryz.isAgg238
  z46 := Tryz.sizeOf238
  v46 := Tryz.zeroValue238
  t50 := Tryz.underlying242
  a50 := Tryz.isAgg242
  z50 := Tryz.sizeOf242
  v50 := Tryz.zeroValue242
  t53 := Tryz.underlying245
  a53 := Tryz.isAgg245
  z53 := Tryz.sizeOf245
  v53 := Tryz.zeroValue245
  t55 := Tryz.underlying247
  a55 := Tryz.isAgg247
  z55 := Tryz.sizeOf247
  v55 := Tryz.zeroValue247
  t66 := Tryz.underlying267
  a66 := Tryz.isAgg267
  z66 := Tryz.sizeOf267
  v66 := Tryz.zeroValue267
  t70 := Tryz.underlying186
  a70 := Tryz.isAgg186
  z70 := Tryz.sizeOf186
  v70 := Tryz.zeroValue186
  t76 := Tryz.underlying283
  a76 := Tryz.isAgg283
  z76 := Tryz.sizeOf283
  v76 := Tryz.zeroValue283
  t77 := Tryz.underlying284
  a77 := Tryz.isAgg284
  z77 := Tryz.sizeOf284
  v77 := Tryz.zeroValue284 }
end Go.Proofs
namespace Go.Proofs.YtlihjmfdnkfmfaaGreatDoor
open Go.RowKit Go.Lib Go.Sort Go.Shelf

def cmpS (a b : ByteArray) : Int := if Op.bytesLess a.toList b.toList then -1 else if Op.bytesLess b.toList a.toList then 1 else 0
theorem less_not (a b : List UInt8) (h : Op.bytesLess a b = false) : (!(Op.bytesLess a b || a == b)) = Op.bytesLess b a := by
  rw [bytesLess_eq] at h ⊢
  rw [bytesLess_eq, h]
  have h1 : ¬ a < b := by simpa using h
  have h2 : b ≤ a := List.not_lt.1 h1
  by_cases he : a = b
  · subst he; simp
  · have e1 : (a == b) = false := by simpa using he
    rw [e1]
    have : b < a := by
      rcases List.le_iff_lt_or_eq.1 h2 with h | h
      · exact h
      · exact absurd h.symm he
    simpa using this
set_option maxHeartbeats 1000000 in
theorem isNaN_any (a : ByteArray) (w : World) : Calls Tryz.prog 150 #[.string a] w fun e w' => e = .returned (.bool false) ∧ w' = w := by
  have h : (a.toList != a.toList) = false := by simp
  go_enter Tryz.func150, Tryz.ntmps150
  go_wp2_with fail
  go_ret
  exact ⟨rfl, rfl⟩
set_option maxHeartbeats 1000000 in
theorem compare_any (a b : ByteArray) (w : World) : Calls Tryz.prog 110 #[.string a, .string b] w fun e w' => e = .returned (.int .i64 (cmpS a b)) ∧ w' = w := by
  unfold cmpS
  cases h1 : Op.bytesLess a.toList b.toList
  · have h2 := less_not _ _ h1
    have h3 : (a.toList == b.toList) = !Op.bytesLess b.toList a.toList := by rw [← h2, h1]; simp
    clear h2
    generalize Op.bytesLess b.toList a.toList = c at *
    cases c
    all_goals
      go_enter Tryz.func110, Tryz.ntmps110
      go_wp2_with fail
      refine Calls.mono (isNaN_any a _) ?_
      rintro e w1 ⟨rfl, rfl⟩
      go_wp2_with fail
      refine Calls.mono (isNaN_any b _) ?_
      rintro e w1 ⟨rfl, rfl⟩
      go_wp2_with fail
      go_ret
      exact ⟨rfl, rfl⟩
  · go_enter Tryz.func110, Tryz.ntmps110
    go_wp2_with fail
    refine Calls.mono (isNaN_any a _) ?_
    rintro e w1 ⟨rfl, rfl⟩
    go_wp2_with fail
    refine Calls.mono (isNaN_any b _) ?_
    rintro e w1 ⟨rfl, rfl⟩
    go_wp2_with fail
    go_ret
    exact ⟨rfl, rfl⟩
/-- a member's cells -/
structure MC where
  nm : ByteArray
  k : Int
  n : Int
  s : ByteArray
  a1 : Option Addr
  n1 : Nat
  c1 : Nat
  a2 : Option Addr
  n2 : Nat
  c2 : Nat
instance : Inhabited MC := ⟨⟨⟨#[]⟩, 0, 0, ⟨#[]⟩, none, 0, 0, none, 0, 0⟩⟩
def MC.cells (x : MC) : List Value := [.string x.nm, .int .i64 x.k, .int .i64 x.n, .string x.s, .slice x.a1 x.n1 x.c1, .slice x.a2 x.n2 x.c2]
theorem MC.len (x : MC) : x.cells.length = 6 := rfl
theorem MC.one (x : MC) : ∀ v ∈ x.cells, v.oneCell' = true := by
  intro v hv
  simp [MC.cells] at hv
  rcases hv with rfl | rfl | rfl | rfl | rfl | rfl <;> rfl
set_option maxHeartbeats 1000000 in
theorem sortBy_any (x y : MC) (W : World) : Calls Tryz.prog 188 #[.agg x.cells.toArray, .agg y.cells.toArray] W fun e w' => e = .returned (.int .i64 (cmpS x.nm y.nm)) ∧ ∃ q os', w' = grow (W.drewN q) os' := by
  have hc := fun W' => compare_any x.nm y.nm W'
  generalize cmpS x.nm y.nm = r at *
  go_enter Tryz.func188, Tryz.ntmps188
  simp only [MC.cells]
  go_wp2_with fail
  refine Calls.mono (hc _) ?_
  rintro e w1 ⟨rfl, rfl⟩
  go_wp2_with fail
  go_ret
  exact ⟨rfl, 0, _, by rw [alloc_eq_grow, alloc_eq_grow, grow_grow]; rfl⟩
def cfM (x y : MC) : Int := cmpS x.nm y.nm
theorem lt_cfM (x y : MC) : ltOf cfM x y = Op.bytesLess x.nm.toList y.nm.toList := by
  unfold ltOf cfM cmpS
  cases Op.bytesLess x.nm.toList y.nm.toList
  · cases Op.bytesLess y.nm.toList x.nm.toList <;> rfl
  · rfl
theorem swoM : SWO (ltOf cfM) where
  irrefl x := by rw [lt_cfM, bytesLess_eq]; simp [List.lt_irrefl]
  trans x y z h1 h2 := by rw [lt_cfM, bytesLess_eq] at *; simp at *; exact List.lt_trans h1 h2
  ntrans x y z h1 h2 := by rw [lt_cfM, bytesLess_eq] at *; simp at *; exact List.le_trans h2 h1
theorem cmpLays (blk off size : Nat) (w : World) : CmpLays Tryz.prog 188 #[] MC.cells 6 cfM blk off size w := fun _ _ _ _ x y => sortBy_any x y _

/-! the row of the members -/
def mcFlat (l : List MC) : List Value := l.flatMap MC.cells
theorem mcFlat_len (l : List MC) : (mcFlat l).length = l.length * 6 := by
  induction l with
  | nil => rfl
  | cons x l ih => simp only [mcFlat, List.flatMap_cons, List.length_append, List.length_cons] at *; rw [ih, MC.len]; omega
theorem mcFlat_get : ∀ (l : List MC) (t : Nat), t < l.length * 6 → (mcFlat l)[t]? = some ((l[t / 6]!).cells[t % 6]!)
  | [], t, h => by simp at h
  | x :: l, t, h => by
    simp only [mcFlat, List.flatMap_cons]
    by_cases h6 : t < 6
    · rw [List.getElem?_append_left (by rw [MC.len]; exact h6), Nat.div_eq_of_lt h6, Nat.mod_eq_of_lt h6]
      have : t < x.cells.length := by rw [MC.len]; exact h6
      simp [this]
    · have ih := mcFlat_get l (t - 6) (by simp only [List.length_cons] at h; omega)
      rw [List.getElem?_append_right (by rw [MC.len]; omega), MC.len]
      rw [mcFlat] at ih
      rw [ih]
      have e1 : t / 6 = (t - 6) / 6 + 1 := by omega
      have e2 : t % 6 = (t - 6) % 6 := by omega
      rw [e1, e2]; simp
theorem flatK_eq (d : Array MC) : flatK MC.cells 6 d = (mcFlat d.toList).toArray := by
  refine ext_get! (by simp [mcFlat_len]) fun t ht => ?_
  rw [size_flatK] at ht
  rw [get_flatK _ _ _ _ ht]
  have := mcFlat_get d.toList t (by simpa using ht)
  have h2 : t < (mcFlat d.toList).toArray.size := by simpa [mcFlat_len] using ht
  rw [getElem!_pos _ t h2]
  simp only [List.getElem_toArray]
  have h3 : t < (mcFlat d.toList).length := by simpa using h2
  rw [List.getElem?_eq_getElem h3] at this
  rw [Option.some.inj this]
  have hi : t / 6 < d.size := by omega
  rw [getElem!_pos d (t / 6) hi, getElem!_pos d.toList (t / 6) (by simpa using hi)]
  simp
theorem putCells_take (F cur : Array Value) (h : F.size ≤ cur.size) : (putCells id 0 F cur).toList.take F.size = F.toList := by
  apply List.ext_getElem?
  intro k
  by_cases hk : k < F.size
  · rw [List.getElem?_take_of_lt hk]
    simp [putCells, hk, Nat.lt_of_lt_of_le hk h]
  · rw [List.getElem?_eq_none (by simp [putCells]; omega), List.getElem?_eq_none (by simp; omega)]
set_option maxHeartbeats 2000000 in
theorem sorted_any (base : Nat) (v : Value) (ms : List MC) (w : World) (hown : w.ownsRow base 49 6 v ms.length (mcFlat ms)) (hn : ms.length < 4611686018427387904) :
    Calls Tryz.prog 157 #[v] w fun e w' => e = .returned v ∧ ∃ ms', ms'.Perm ms ∧ ms'.Pairwise (fun a b => Op.bytesLess b.nm.toList a.nm.toList = false) ∧ w'.ownsRow base 49 6 v ms'.length (mcFlat ms') ∧ w.grownBy w' v.ownBlock := by
  rcases hown.2 with ⟨rfl, h0⟩ | ⟨g, cap, cur, rfl, hb, hg, hnc, hcm, hcs, htake⟩
  · obtain rfl : ms = [] := List.eq_nil_of_length_eq_zero h0
    have hS := fun W => AnyF.slices_SortFunc_none (P := Tryz.prog) (ρ := Tryz.sortL_ren) { Tryz.sortL with } none 0 (.func (.func 188) #[] #[]) W
    change ∀ W, Calls Tryz.prog 108 _ _ _ at hS
    have HO := Lib.hid hown
    clear hown
    go_enter Tryz.func157, Tryz.ntmps157
    go_wp2_with fail
    refine Calls.mono (hS _) ?_
    rintro e w1 ⟨rfl, rfl⟩
    go_wp2_with fail
    go_ret
    exact ⟨rfl, [], List.Perm.nil, List.Pairwise.nil, HO.out, grown_refl _ _⟩
  · have eg : ∀ args w, (callFunc 188 args).run Tryz.prog w = .ok (.enter 188 args) w := enters_of Tryz.func188 (by kernel_rfl) rfl
    have hH : HoldsK MC.cells 6 w g 0 ms.toArray := by
      unfold HoldsK Holds
      rw [flatK_eq]
      intro j hj
      have hj' : j < (mcFlat ms).length := by simpa using hj
      refine ⟨?_, by simp [World.frozen?, hg]⟩
      have := hown.cells (g := g) rfl j (mcFlat ms)[j] (List.getElem?_eq_getElem hj')
      rw [Addr.add_lit] at this
      rw [this, getElem!_pos _ j hj]
      simp
    have hgw : g < w.heap.size := (Array.getElem?_eq_some_iff.1 hg).1
    have hcon := AnyQ.slices_SortFunc Tryz.sortL 6 Tryz.isAgg49 Tryz.sizeOf49 MC.cells MC.len MC.one cfM swoM 188 #[] g 0 cap ms.toArray w eg (cmpLays g 0 ms.toArray.size w) hH hgw (by simpa using hn)
    change Calls Tryz.prog 108 _ _ _ at hcon
    have hsz : ms.toArray.size = ms.length := by simp
    rw [hsz] at hcon
    have HC := Lib.hid hcon; have HG := Lib.hid hg; have HT := Lib.hid htake; have HCS := Lib.hid hcs
    clear hown hH hcon hsz hg htake hcs
    generalize hN : ms.length = N at *
    have HN := Lib.hid hN
    clear hN
    go_enter Tryz.func157, Tryz.ntmps157
    go_wp2_with fail
    refine Calls.mono HC.out ?_
    rintro e w1 ⟨rfl, d', n, os, hp, hs, hw1⟩
    have HP := Lib.hid hp; have HS := Lib.hid hs; have HW := Lib.hid hw1
    clear hp hs hw1
    go_wp2_with fail
    go_ret
    obtain ⟨hd1, _, hd3⟩ := HP.out
    have hdN : d'.size = N := by rw [hd1]; simpa using HN.out
    have hlN : d'.toList.length = N := by simpa using hdN
    have e1 : d'.extract 0 N = d' := by rw [← hdN]; simp
    have e2 : ms.toArray.extract 0 N = ms.toArray := by rw [← HN.out]; simp
    rw [e1, e2] at hd3
    have hheap : w1.heap[g]? = some (.cells (putCells id 0 (mcFlat d'.toList).toArray cur) 49 (0, 0)) := by
      rw [HW.out]
      unfold sortWorldK putRowK putRow mapBlock
      rw [flatK_eq]
      simp only [grow, heap_ahead]
      rw [Array.getElem?_append_left (by simpa using hgw)]
      rw [Array.getElem?_modify, if_pos rfl, HG.out]
      rfl
    refine ⟨rfl, d'.toList, by simpa using hd3, ?_, ⟨by rw [mcFlat_len], .inr ⟨g, cap, _, by rw [hlN], hb, hheap, by rw [hlN]; exact hnc, hcm, ?_, ?_⟩⟩, ?_⟩
    · rw [List.pairwise_iff_getElem]
      intro i j hi hj hij
      have := HS.out i j (Nat.zero_le _) hij (by rw [← hlN]; exact hj)
      rw [lt_cfM] at this
      rw [getElem!_pos d' j (by simpa using hj), getElem!_pos d' i (by simpa using hi)] at this
      simpa using this
    · simp [putCells]; exact HCS.out
    · have := putCells_take (mcFlat d'.toList).toArray cur (by simp only [List.size_toArray, mcFlat_len]; rw [HCS.out, hlN]; exact Nat.mul_le_mul_right _ hnc)
      simpa [mcFlat_len] using this
    · rw [HW.out]
      refine ⟨rfl, rfl, rfl, ?_, fun k hk hne => ?_⟩
      · simp [sortWorldK, grow, putRowK]
      · have hkg : ¬ g = k := by rintro rfl; exact hne rfl
        unfold sortWorldK putRowK putRow mapBlock
        simp only [grow, heap_ahead]
        rw [Array.getElem?_append_left (by simpa using hk)]
        simp [Array.getElem?_modify, hkg]
end Go.Proofs.YtlihjmfdnkfmfaaGreatDoor
namespace Go.Proofs.YtlihjmfdnkfmfaaGreatDoor
open Go.RowKit Go.Lib

/-- a list of texts in memory -/
def strTy : Ty ByteArray where
  sz := 1
  pos := by decide
  R := fun _ _ s cs => cs = [.string s]
  len := by rintro w F x cs rfl; rfl
  one := by rintro w F x cs rfl u hu; rw [List.mem_singleton.1 hu]; rfl
  mono := fun _ h => h
  frame := fun _ h => h
  bound := fun h => h
theorem str_chunks {w : World} {F : Nat → Prop} : ∀ (xs : List ByteArray), Chunks strTy w F xs (xs.map Value.string)
  | [] => rfl
  | x :: xs => ⟨[.string x], xs.map Value.string, rfl, rfl, str_chunks xs⟩
theorem str_cells {w : World} {F : Nat → Prop} {v : Value} {xs : List ByteArray} (hs : Sl strTy w F v xs) : ∃ A c, v = .slice A xs.length c ∧ ∀ k s, xs[k]? = some s → ∃ b o, A = some ⟨b, o, none⟩ ∧ w.cell? ⟨b, o + k, none⟩ = some (.string s) := by
  rcases hs with ⟨rfl, A, c, rfl⟩ | ⟨b, o, c, rfl, _, _, _, cs, h1, h2⟩
  · exact ⟨A, c, rfl, fun k s h => by simp at h⟩
  · refine ⟨_, c, rfl, fun k s h => ⟨b, o, rfl, h2 k _ ?_⟩⟩
    have e : ∀ (xs : List ByteArray) (cs : List Value), Chunks strTy w F xs cs → cs = xs.map Value.string := fun xs => by
      induction xs with
      | nil => exact fun cs h => h
      | cons x xs ih =>
        rintro cs ⟨c, r, rfl, h1, h2⟩
        have h1' : c = [.string x] := h1
        rw [h1', ih r h2]; rfl
    rw [e _ _ h1, List.getElem?_map, h]; rfl
end Go.Proofs.YtlihjmfdnkfmfaaGreatDoor
namespace Go.Proofs.YtlihjmfdnkfmfaaGreatDoor
open Go.RowKit Go.Lib
section
variable {P : Program} {ops : Array Oper} {Q : Exit → Act → World → Prop} {md : Region.Mode} {E : World → World → Prop}

/-- in every world later than w the operation yields v and leaves a later world -/
def QuietE (P : Program) (ops : Array Oper) (E : World → World → Prop) (o : Oper) (v : Value) (a : Act) (w : World) : Prop :=
  (Region.wanted o (yielded ops a.tmps) = true ∧ ∀ w2, E w w2 → o.quietAt P a (E w2) w2 v) ∨
  (Region.wanted o (yielded ops a.tmps) = false ∧ v = undef)
/-- a frame that reads alike for the operation -/
def SameFor (ops : Array Oper) (o : Oper) (a a' : Act) : Prop :=
  execOp a'.eval o = execOp a.eval o ∧ Region.wanted o (yielded ops a'.tmps) = Region.wanted o (yielded ops a.tmps)
theorem QuietE.same {o : Oper} {v : Value} {a a' : Act} {w : World} (hy : QuietE P ops E o v a w) (h : SameFor ops o a a') : QuietE P ops E o v a' w := by
  unfold QuietE Oper.quietAt at *
  rw [h.1, h.2]
  exact hy
theorem QuietE.later {o : Oper} {v : Value} {a : Act} {w w2 : World} (ht : ∀ a b c, E a b → E b c → E a c) (hy : QuietE P ops E o v a w) (h : E w w2) : QuietE P ops E o v a w2 :=
  hy.imp (fun ⟨h1, h2⟩ => ⟨h1, fun w3 h3 => h2 w3 (ht _ _ _ h h3)⟩) id
theorem QuietE.wpOp {i : Nat} {o : Oper} {v : Value} {a : Act} {w w2 : World} (hr : ∀ w, E w w) (hi : ops[i]? = some o) (hy : QuietE P ops E o v a w) (hE : E w w2)
    {K : Act → World → Prop} (h : ∀ w3, E w2 w3 → K (a.put o.dst v) w3) : wpOp P ops Q i K a w2 := by
  unfold Go.wpOp
  simp only [hi]
  rcases hy with ⟨hw, hv⟩ | ⟨hw, rfl⟩
  · simp only [hw, if_true]
    refine .inl ?_
    have h3 := hv w2 hE
    unfold Oper.quietAt at h3
    unfold Oper.wp
    generalize (execOp a.eval o).run P w2 = r at *
    cases r with
    | ok n w' =>
      cases n <;> simp only [Oper.quietUpon] at h3 <;> simp only [Oper.upon]
      case value u => obtain ⟨rfl, rfl⟩ := h3; exact h _ (hr _)
      case skip => obtain ⟨rfl, rfl⟩ := h3; exact h _ (hr _)
      case enter f args =>
        obtain ⟨rfl, hc⟩ := h3
        exact hc.mono fun e w'' ⟨he, hw''⟩ => by subst he; exact h _ hw''
    | halt x w' => simp only [Oper.quietUpon] at h3
  · simp only [hw, Bool.false_eq_true, if_false]; exact h _ (hr _)
/-- what another operation leaves reads alike for this one -/
theorem wpOp_same {j : Nat} {oi oj : Oper} (hj : ops[j]? = some oj) (hap : oi.apart ops oj = true) (hsi : ∀ cs b, oi.op ≠ .select cs b)
    {K : Act → World → Prop} {a : Act} {w : World} (h : wpOp P ops Q j K a w) : wpOp P ops Q j (fun a' w' => SameFor ops oi a a' ∧ K a' w') a w := by
  obtain ⟨_, _, h3⟩ := Oper.apart_spec hap
  have keep : ∀ u, SameFor ops oi a (a.put oj.dst u) := fun u => ⟨execOp_put oi hsi a oj.dst u h3, wanted_put oi a oj.dst u h3⟩
  unfold Go.wpOp at *
  simp only [hj] at *
  split
  · rename_i hw
    simp only [hw, if_true] at h
    rcases h with h | h
    case inr => exact .inr h
    refine .inl ?_
    unfold Oper.wp at *
    generalize (execOp a.eval oj).run P w = r at *
    cases r with
    | ok n w' =>
      cases n <;> simp only [Oper.upon] at h ⊢
      case value u => exact ⟨keep u, h⟩
      case skip => exact ⟨keep _, h⟩
      case defer d => exact ⟨⟨execOp_put oi hsi { a with defers := d :: a.defers } oj.dst undef h3, wanted_put oi { a with defers := d :: a.defers } oj.dst undef h3⟩, h⟩
      case enter f args =>
        refine Calls.mono h fun e w'' he => ?_
        cases e with
        | returned u => exact ⟨keep u, he⟩
        | panicked c => exact he
        | outgrown => exact he
      case row row args => exact Rows.mono h fun u w'' he => ⟨keep u, he⟩
    | halt x w' => cases x <;> simp only [Oper.upon] at h ⊢ <;> exact h
  · rename_i hw
    simp only [hw] at h
    exact ⟨keep _, h⟩

/-- whatever order is picked from here on, from every later world -/
def wpAnyE (P : Program) (md : Region.Mode) (ops : Array Oper) (Q : Exit → Act → World → Prop) (E : World → World → Prop) : Nat → Array Bool → Act → World → Prop
  | 0, listed, a, w => ∀ w2, E w w2 → Region.ready md ops listed = [] ∧ Q .normal a w2
  | fuel + 1, listed, a, w => ∀ w2, E w w2 →
    (Region.ready md ops listed = [] → Q .normal a w2) ∧
    ∀ i ∈ Region.ready md ops listed, wpOp P ops Q i (fun a' w' => E w2 w' ∧ wpAnyE P md ops Q E fuel (listed.setIfInBounds i true) a' w') a w2
theorem wpAnyE.later (ht : ∀ a b c, E a b → E b c → E a c) : ∀ {fuel : Nat} {listed : Array Bool} {a : Act} {w w2 : World}, wpAnyE P md ops Q E fuel listed a w → E w w2 → wpAnyE P md ops Q E fuel listed a w2
  | 0, _, _, _, _, h, h2 => fun w3 h3 => h w3 (ht _ _ _ h2 h3)
  | _ + 1, _, _, _, _, h, h2 => fun w3 h3 => h w3 (ht _ _ _ h2 h3)
theorem wpAny_of_E (hr : ∀ w, E w w) : ∀ (fuel : Nat) (listed : Array Bool) (a : Act) (w : World), wpAnyE P md ops Q E fuel listed a w → wpAny P md ops Q fuel listed a w
  | 0, _, _, w, h => h w (hr w)
  | fuel + 1, _, _, w, h => ⟨(h w (hr w)).1, fun i hi => wpOp_mono (fun a' w' h' => wpAny_of_E hr fuel _ a' w' h'.2) ((h w (hr w)).2 i hi)⟩
theorem wpAnyE_first (hr : ∀ w, E w w) (ht : ∀ a b c, E a b → E b c → E a c) {i : Nat} {oi : Oper} {v : Value} (hi : ops[i]? = some oi) (hsel : ∀ (j : Nat) (o : Oper) cs b, ops[j]? = some o → o.op ≠ .select cs b)
    (hQ : ∀ c a w, Q (.panic c) (a.put oi.dst v) w → Q (.panic c) a w) :
    ∀ (fuel : Nat) (listed : Array Bool) (a : Act) (w : World),
      (∀ j oj, ops[j]? = some oj → j ≠ i → listed.getD j true = false → (∀ e ∈ oj.after, Region.binds md e = true → e.on ≠ i) → oi.apart ops oj = true) →
      i ∈ Region.ready md ops listed → QuietE P ops E oi v a w →
      wpAnyE P md ops Q E fuel (listed.setIfInBounds i true) (a.put oi.dst v) w → wpAnyE P md ops Q E (fuel + 1) listed a w := by
  intro fuel
  induction fuel with
  | zero =>
    intro listed a w _ hrd hy H w2 hE
    refine ⟨fun h => (by rw [h] at hrd; cases hrd), fun j hj => ?_⟩
    by_cases hji : j = i
    · subst hji; exact hy.wpOp hr hi hE fun w3 h3 => ⟨h3, H.later ht (ht _ _ _ hE h3)⟩
    · have := ready_mono hj hji
      rw [(H w2 hE).1] at this
      cases this
  | succ fuel ih =>
    intro listed a w hfree hrd hy H w2 hE
    refine ⟨fun h => (by rw [h] at hrd; cases hrd), fun j hj => ?_⟩
    by_cases hji : j = i
    · subst hji; exact hy.wpOp hr hi hE fun w3 h3 => ⟨h3, H.later ht (ht _ _ _ hE h3)⟩
    · have h1 := (H w2 hE).2 j (ready_mono hj hji)
      obtain ⟨hjun, oj, hoj, hall⟩ := mem_ready.1 hj
      have hnot : ∀ e ∈ oj.after, Region.binds md e = true → e.on ≠ i := fun e he hb heq => by
        have h1 := hall e he hb
        have h0 := (mem_ready.1 hrd).1
        rw [heq] at h1
        rcases Nat.lt_or_ge i listed.size with h' | h'
        · simp [h'] at h0 h1; rw [h0] at h1; cases h1
        · simp [Array.getElem?_eq_none h'] at h1
      have hap := hfree j oj hoj hji hjun hnot
      have hyF : YieldsIf P ops (fun _ => False) oi v a := hy.imp (fun ⟨hw, _⟩ => ⟨hw, fun _ h => h.elim⟩) id
      have h2 := wpOp_same hoj hap (fun cs b => hsel i oi cs b hi) (wpOp_putIf hoj hap (fun cs b => hsel i oi cs b hi) (fun cs b => hsel j oj cs b hoj) hQ hyF h1)
      have hfree' : ∀ k ok, ops[k]? = some ok → k ≠ i → (listed.setIfInBounds j true).getD k true = false →
          (∀ e ∈ ok.after, Region.binds md e = true → e.on ≠ i) → oi.apart ops ok = true := fun k ok hk hki hun hno => by
        refine hfree k ok hk hki ?_ hno
        by_cases hjk : j = k
        · subst hjk; exact hjun
        · rw [getD_set_ne true hjk] at hun; exact hun
      refine wpOp_mono (fun a' w' h3 => ⟨h3.2.2.1, ih (listed.setIfInBounds j true) a' w' hfree' (ready_mono hrd (Ne.symm hji)) ((hy.later ht (ht _ _ _ hE h3.2.2.1)).same h3.1) ?_⟩) h2
      rw [Array.setIfInBounds_comm _ _ hji]
      exact h3.2.2.2
end
/-- later: what stood stands -/
def Lat (w w2 : World) : Prop := Below w.heap.size w w2
theorem Lat.refl (w : World) : Lat w w := Below.refl _ _
theorem Lat.trans (a b c : World) (h : Lat a b) (k : Lat b c) : Lat a c := Below.trans h (Below.mono k (Below.size h))
section
variable {P : Program} {ops : Array Oper} {Q : Exit → Act → World → Prop} {md : Region.Mode}
theorem wpAnyE_take {i : Nat} {oi : Oper} {v : Value} {fuel : Nat} {listed : Array Bool} {a : Act} {w : World} (hi : ops[i]? = some oi)
    (hs : Region.noSelect ops = true) (hf : Region.free md ops listed i = true) (hr : (Region.ready md ops listed).contains i = true)
    (hQ : ∀ c a w, Q (.panic c) (a.put oi.dst v) w → Q (.panic c) a w) (hy : QuietE P ops Lat oi v a w)
    (h : wpAnyE P md ops Q Lat fuel (listed.setIfInBounds i true) (a.put oi.dst v) w) : wpAnyE P md ops Q Lat (fuel + 1) listed a w :=
  wpAnyE_first Lat.refl Lat.trans hi (Region.noSelect_spec hs) hQ fuel listed a w (Region.free_spec hi hf) (by simpa using hr) hy h
/-- wanted, one value -/
theorem wpAnyE_tk (i : Nat) {oi : Oper} {v : Value} {fuel : Nat} {listed : Array Bool} {a : Act} {w : World} (hi : ops[i]? = some oi)
    (hs : Region.noSelect ops = true) (hf : Region.free md ops listed i = true) (hr : (Region.ready md ops listed).contains i = true)
    (hw : Region.wanted oi (yielded ops a.tmps) = true) (hy : ∀ w2, Lat w w2 → oi.quietAt P a (Lat w2) w2 v)
    (h : wpAnyE P md ops Q Lat fuel (listed.setIfInBounds i true) (a.put oi.dst v) w) (hQ : ∀ c a w, Q (.panic c) (a.put oi.dst v) w → Q (.panic c) a w := by exact fun _ _ _ h => h) : wpAnyE P md ops Q Lat (fuel + 1) listed a w :=
  wpAnyE_take hi hs hf hr hQ (.inl ⟨hw, hy⟩) h
/-- not wanted -/
theorem wpAnyE_sk (i : Nat) {oi : Oper} {fuel : Nat} {listed : Array Bool} {a : Act} {w : World} (hi : ops[i]? = some oi)
    (hs : Region.noSelect ops = true) (hf : Region.free md ops listed i = true) (hr : (Region.ready md ops listed).contains i = true)
    (hw : Region.wanted oi (yielded ops a.tmps) = false)
    (h : wpAnyE P md ops Q Lat fuel (listed.setIfInBounds i true) (a.put oi.dst undef) w) (hQ : ∀ c a w, Q (.panic c) (a.put oi.dst undef) w → Q (.panic c) a w := by exact fun _ _ _ h => h) : wpAnyE P md ops Q Lat (fuel + 1) listed a w :=
  wpAnyE_take hi hs hf hr hQ (.inr ⟨hw, rfl⟩) h
theorem wpAnyE_t (i : Nat) {oi : Oper} {v : Value} {fuel : Nat} {listed : Array Bool} {a : Act} {w : World} (hi : ops[i]? = some oi) (hy : ∀ w2, Lat w w2 → oi.quietAt P a (Lat w2) w2 v)
    (h : wpAnyE P md ops Q Lat fuel (listed.setIfInBounds i true) (a.put oi.dst v) w)
    (hs : Region.noSelect ops = true := by kernel_rfl) (hf : Region.free md ops listed i = true := by kernel_rfl) (hr : (Region.ready md ops listed).contains i = true := by kernel_rfl)
    (hw : Region.wanted oi (yielded ops a.tmps) = true := by kernel_rfl) (hQ : ∀ c a w, Q (.panic c) (a.put oi.dst v) w → Q (.panic c) a w := by exact fun _ _ _ h => h) : wpAnyE P md ops Q Lat (fuel + 1) listed a w :=
  wpAnyE_tk i hi hs hf hr hw hy h hQ
theorem wpAnyE_s (i : Nat) {oi : Oper} {fuel : Nat} {listed : Array Bool} {a : Act} {w : World} (hi : ops[i]? = some oi)
    (h : wpAnyE P md ops Q Lat fuel (listed.setIfInBounds i true) (a.put oi.dst undef) w)
    (hs : Region.noSelect ops = true := by kernel_rfl) (hf : Region.free md ops listed i = true := by kernel_rfl) (hr : (Region.ready md ops listed).contains i = true := by kernel_rfl)
    (hw : Region.wanted oi (yielded ops a.tmps) = false := by kernel_rfl) (hQ : ∀ c a w, Q (.panic c) (a.put oi.dst undef) w → Q (.panic c) a w := by exact fun _ _ _ h => h) : wpAnyE P md ops Q Lat (fuel + 1) listed a w :=
  wpAnyE_sk i hi hs hf hr hw h hQ
theorem wpAnyE_done {listed : Array Bool} {a : Act} {w : World} (hr : Region.ready md ops listed = []) (h : ∀ w2, Lat w w2 → Q .normal a w2) :
    ∀ fuel, wpAnyE P md ops Q Lat fuel listed a w
  | 0 => fun w2 h2 => ⟨hr, h w2 h2⟩
  | _ + 1 => fun w2 h2 => ⟨fun _ => h w2 h2, by rw [hr]; simp⟩
theorem wp_region_E {id : Nat} {a : Act} {w : World} (hm : P.follows .mixedOrders = true)
    (h : wpAnyE P .any ops Q Lat ops.size (Array.replicate ops.size false) a w.drew) : (Code.region id ops true).wp P Q a w :=
  wp_region_any hm (wpAny_of_E Lat.refl _ _ _ _ h)
end
end Go.Proofs.YtlihjmfdnkfmfaaGreatDoor
