/- Parts of the proof: Jw, Re. -/
import Derived.Test.YtlihjmfdnkfmfaaGreatDoorZRback8
import Derived.Lib.ItoaLen
namespace Go.Proofs.YtlihjmfdnkfmfaaGreatDoor
open Go.RowKit Go.Lib

def numV (n : Int) : JV := .mk 4 n ⟨#[]⟩ [] []
def wordV (s : ByteArray) : JV := .mk 5 0 s [] []
def numC (n : Int) : List Value := [.int .i64 4, .int .i64 n, .string ⟨#[]⟩, .slice none 0 0, .slice none 0 0]
def wordC (s : ByteArray) : List Value := [.int .i64 5, .int .i64 0, .string s, .slice none 0 0, .slice none 0 0]

theorem short_nil : shortB ⟨#[]⟩ = true := by decide +kernel
theorem one_numV {n : Int} (h0 : -9007199254740991 ≤ n) (h1 : n ≤ 9007199254740991) : oneB (numV n) = true := by
  have : badK (.mk 4 n ⟨#[]⟩ [] []) = false := by simp [badK, JV.k, JV.n, JV.s, JV.l, JV.m]
  simp [oneB, this, membersB, rangeB, numV, JV.n, JV.s, JV.m, short_nil, h0, h1]
theorem one_listV (l : List JV) : oneB (.mk 6 0 ⟨#[]⟩ l []) = true := by
  have : badK (.mk 6 0 ⟨#[]⟩ l []) = false := by simp [badK, JV.k, JV.n, JV.s, JV.l, JV.m]
  simp [oneB, this, membersB, rangeB, JV.n, JV.s, JV.m, short_nil]
theorem one_wordV {s : ByteArray} (h : shortB s = true) : oneB (wordV s) = true := by
  have : badK (.mk 5 0 s [] []) = false := by simp [badK, JV.k, JV.n, JV.s, JV.l, JV.m]
  simp [oneB, this, membersB, rangeB, wordV, JV.n, JV.s, JV.m, h]
theorem one_obj {m : List (ByteArray × JV)} (h : membersB none m = true) : oneB (.mk 7 0 ⟨#[]⟩ [] m) = true := by
  have : badK (.mk 7 0 ⟨#[]⟩ [] m) = false := by simp [badK, JV.k, JV.n, JV.s, JV.l, JV.m]
  simp [oneB, this, h, rangeB, JV.n, JV.s, JV.m, short_nil]
theorem may_succ (d : Nat) (x : JV) : mayJ (d + 1) x = (oneB x && x.l.all (mayJ d) && x.m.all fun p => mayJ d p.2) := rfl
theorem may_numV {d : Nat} {n : Int} (h0 : -9007199254740991 ≤ n) (h1 : n ≤ 9007199254740991) : mayJ (d + 1) (numV n) = true := by
  rw [may_succ, one_numV h0 h1]; rfl
theorem may_wordV {d : Nat} {s : ByteArray} (h : shortB s = true) : mayJ (d + 1) (wordV s) = true := by
  rw [may_succ, one_wordV h]; rfl
theorem may_obj {d : Nat} {m : List (ByteArray × JV)} (h : membersB none m = true) : mayJ (d + 1) (.mk 7 0 ⟨#[]⟩ [] m) = m.all fun p => mayJ d p.2 := by
  rw [may_succ, one_obj h]; simp [JV.l, JV.m]
theorem may_list {d : Nat} {l : List JV} : mayJ (d + 1) (.mk 6 0 ⟨#[]⟩ l []) = l.all (mayJ d) := by
  rw [may_succ, one_listV]; simp [JV.l, JV.m]
theorem join_len {α : Type} (f : α → List UInt8) (K : Nat) : ∀ (b : Bool) (l : List α), (∀ x, x ∈ l → (f x).length ≤ K) → (joinFrom f b l).length ≤ l.length * (K + 1)
  | _, [], _ => by simp [joinFrom]
  | b, x :: l, h => by
    have h1 := h x (List.mem_cons_self)
    have h2 := join_len f K false l (fun y hy => h y (List.mem_cons_of_mem _ hy))
    simp only [joinFrom, List.length_append, List.length_cons, Nat.succ_mul]
    have : (if b = true then f x else 44 :: f x).length ≤ K + 1 := by cases b <;> simp <;> omega
    omega
theorem print_numV (d : Nat) (n : Int) : printB (d + 1) (numV n) = Lib.itoa n := by rw [printB.eq_2]; simp [numV, JV.k, JV.n]
end Go.Proofs.YtlihjmfdnkfmfaaGreatDoor
namespace Go.Proofs.YtlihjmfdnkfmfaaGreatDoor
open Go.RowKit Go.Lib

def zeroV : JV := .mk 0 0 ⟨#[]⟩ [] []
def wordIn (s : ByteArray) : List UInt8 → St → Bool × St
  | [], x => (true, x)
  | c :: r, x => if s.size ≤ x.p then (false, x.fail 2) else if byteAt s x.p ≠ c then (false, x.fail 4) else wordIn s r x.step
def wordB (s : ByteArray) (l : List UInt8) (k : Int) (x : St) : JV × St := (if (wordIn s l x).1 then .mk k 0 ⟨#[]⟩ [] [] else zeroV, (wordIn s l x).2)
def kC (k : Int) : List Value := [.int .i64 k, .int .i64 0, .string ⟨#[]⟩, .slice none 0 0, .slice none 0 0]

/-- a method that hands back a value without parts -/
def VPost (R : Nat) (s : ByteArray) (r : JV × St) (cs : List Value) (w : World) (z : Ending) (w' : World) : Prop := z = .returned (.agg cs.toArray) ∧ RdPost 148 R s r.2.p r.2.e w w'

theorem set5 {w : World} {B : Nat} {T : TypeId} {fz : Nat × Nat} {a0 a1 a2 a3 a4 : Value} (v0 v1 v2 v3 v4 : Value) (h : w.heap[B]? = some (.cells #[a0, a1, a2, a3, a4] T fz)) :
    (((((w.setCell ⟨B, 0, none⟩ v0).setCell ⟨B, 1, none⟩ v1).setCell ⟨B, 2, none⟩ v2).setCell ⟨B, 3, none⟩ v3).setCell ⟨B, 4, none⟩ v4).heap[B]? = some (.cells #[v0, v1, v2, v3, v4] T fz) :=
  heap_setCell_row (heap_setCell_row (heap_setCell_row (heap_setCell_row (heap_setCell_row h))))
theorem RdPost.setB {T : TypeId} {R p B i : Nat} {s : ByteArray} {e : Int} {w w1 : World} (h : RdPost T R s p e w w1) (hB : w.heap.size ≤ B) (hR : R < w.heap.size) (v : Value) : RdPost T R s p e w (w1.setCell ⟨B, i, none⟩ v) := by
  refine ⟨(Below.heap_setCell _ _ _ _ (by show R ≠ B; omega)).trans h.1, ⟨h.2.os, h.2.tape, h.2.output, by simp [World.setCell]; exact h.2.size, fun k hk hne => (Below.heap_setCell _ _ _ _ (by show k ≠ B; omega)).trans (h.2.block k hk hne)⟩⟩
theorem RdPost.set5 {T : TypeId} {R p B : Nat} {s : ByteArray} {e : Int} {w w1 : World} (h : RdPost T R s p e w w1) (hB : w.heap.size ≤ B) (hR : R < w.heap.size) (v0 v1 v2 v3 v4 : Value) :
    RdPost T R s p e w (((((w1.setCell ⟨B, 0, none⟩ v0).setCell ⟨B, 1, none⟩ v1).setCell ⟨B, 2, none⟩ v2).setCell ⟨B, 3, none⟩ v3).setCell ⟨B, 4, none⟩ v4) :=
  ((((h.setB hB hR v0).setB hB hR v1).setB hB hR v2).setB hB hR v3).setB hB hR v4
theorem cells5 {w : World} {B : Nat} {T : TypeId} {a0 a1 a2 a3 a4 : Value} (h : w.heap[B]? = some (.cells #[a0, a1, a2, a3, a4] T (0, 0))) :
    (w.cell? ⟨B, 0, none⟩ = some a0 ∧ w.cell? ⟨B, 1, none⟩ = some a1 ∧ w.cell? ⟨B, 2, none⟩ = some a2 ∧ w.cell? ⟨B, 3, none⟩ = some a3 ∧ w.cell? ⟨B, 4, none⟩ = some a4) ∧
    (w.frozen? ⟨B, 0, none⟩ = false ∧ w.frozen? ⟨B, 1, none⟩ = false ∧ w.frozen? ⟨B, 2, none⟩ = false ∧ w.frozen? ⟨B, 3, none⟩ = false ∧ w.frozen? ⟨B, 4, none⟩ = false) ∧ B < w.heap.size := by
  refine ⟨⟨by rw [Lib.cell_of_heap h]; rfl, by rw [Lib.cell_of_heap h]; rfl, by rw [Lib.cell_of_heap h]; rfl, by rw [Lib.cell_of_heap h]; rfl, by rw [Lib.cell_of_heap h]; rfl⟩, ⟨by simp [World.frozen?, h], by simp [World.frozen?, h], by simp [World.frozen?, h], by simp [World.frozen?, h], by simp [World.frozen?, h]⟩, (Array.getElem?_eq_some_iff.1 h).1⟩
theorem RdPost.keep {T : TypeId} {R p B : Nat} {s : ByteArray} {e : Int} {w w1 : World} {o : Obj} (h : RdPost T R s p e w w1) (hb : w.heap[B]? = some o) (hne : B ≠ R) : w1.heap[B]? = some o :=
  (h.2.block B (Array.getElem?_eq_some_iff.1 hb).1 (by intro e; exact hne (Option.some.inj e))).trans hb
theorem drop_byte {l : ByteArray} {j : Nat} (h : j < l.size) : l.data.toList.drop j = byteAt l j :: l.data.toList.drop (j + 1) := by
  have hj : j < l.data.toList.length := by simpa using h
  rw [List.drop_eq_getElem_cons hj]
  congr 1
  unfold byteAt
  rw [List.getD_eq_getElem?_getD, List.getElem?_eq_getElem hj]; rfl
theorem wordIn_fail {s : ByteArray} {c : UInt8} {r : List UInt8} {y : St} (h : s.size ≤ y.p) : wordIn s (c :: r) y = (false, y.fail 2) := by simp only [wordIn]; rw [if_pos h]
theorem wordIn_bad {s : ByteArray} {c : UInt8} {r : List UInt8} {y : St} (h : ¬ s.size ≤ y.p) (hc : byteAt s y.p ≠ c) : wordIn s (c :: r) y = (false, y.fail 4) := by simp only [wordIn]; rw [if_neg h, if_pos hc]
theorem wordIn_step {s : ByteArray} {c : UInt8} {r : List UInt8} {y : St} (h : ¬ s.size ≤ y.p) (hc : byteAt s y.p = c) : wordIn s (c :: r) y = wordIn s r y.step := by simp only [wordIn]; rw [if_neg h, if_neg (by simpa using hc)]

set_option maxRecDepth 100000 in
set_option maxHeartbeats 4000000 in
theorem word_any (R : Nat) (s l : ByteArray) (k : Int) (x : St) (w : World) (hs : s.size ≤ 1000000) (hl : l.size ≤ 1000) (hx : x.p ≤ 1000001) (h : RdAt 148 R s x.p x.e w) :
    Calls Tryz.prog 118 #[.pointer (some ⟨R, 0, none⟩), .string l, .int .i64 k] w (VPost R s (wordB s l.data.toList k x) (kC (if (wordIn s l.data.toList x).1 then k else 0)) w) := by
  have hR := h.cells.2.2.2.2.2.2
  have hA : Below w.heap.size w (w.alloc (.cells #[.int .i64 0, .int .i64 0, .string ⟨#[]⟩, .slice none 0 0, .slice none 0 0] 43)) := bel_alloc (Below.refl _ _) _
  have hb0 := heap_alloc_new w (.cells #[.int .i64 0, .int .i64 0, .string ⟨#[]⟩, .slice none 0 0, .slice none 0 0] 43)
  have hp0 := RdPost.below h.post hA
  have HB0 := Lib.hid hb0; have HP0 := Lib.hid hp0
  unfold VPost wordB
  generalize hkk : (if (wordIn s l.data.toList x).1 then k else 0) = kk at *
  simp only
  generalize hfin : wordIn s l.data.toList x = fin at *
  have HFIN := Lib.hid hfin; have HKK := Lib.hid hkk
  clear hA hb0 hp0 h hfin hkk
  go_enter Tryz.func118, Tryz.ntmps118
  go_wp2_with fail
  generalize hB : w.heap.size = B at *
  have HBQ := Lib.hid hB
  clear hB
  generalize hn : l.size = n at *
  have HN := Lib.hid hn
  clear hn
  go_loopg [10] n (fun gg s10 wr => ∃ (j : Nat) (y : St), j ≤ n ∧ n - j ≤ gg ∧ s10 = .int .i64 j ∧ y.p + (n - j) ≤ 1001001 ∧ Aside (wordIn s (l.data.toList.drop j) y = fin) ∧ Aside (wr.heap[B]? = some (.cells #[.int .i64 0, .int .i64 0, .string ⟨#[]⟩, .slice none 0 0, .slice none 0 0] 43 (0, 0))) ∧ Aside (RdPost 148 R s y.p y.e w wr))
  case atStart => exact ⟨0, x, Nat.zero_le _, by omega, rfl, by omega, HFIN.out, HB0.out, HP0.out⟩
  case round =>
    obtain ⟨j, y, hj, hgg, rfl, hy, HF, HBB, HR⟩ := hrel
    obtain ⟨l0, l1, l2, _, f1, _, hRw⟩ := HR.out.1.cells
    obtain ⟨⟨b0, b1, b2, b3, b4⟩, ⟨g0, g1, g2, g3, g4⟩, hBw⟩ := cells5 HBB.out
    have hRB : R < B := hR
    by_cases hlt : j < n
    · have hltz : (j : Int) < (n : Int) := by omega
      have hjl : j < l.size := by have := HN.out; omega
      have hdr := drop_byte hjl
      have hgl := get_byte hjl
      have hj0 : (0 : Int) ≤ (j : Int) := by omega
      have HDR := Lib.hid hdr
      clear hdr
      by_cases hp : y.p < s.size
      · have hpz : (y.p : Int) < (s.size : Int) := by omega
        have hd : decide ((s.size : Int) ≤ (y.p : Int)) = false := by simpa using hpz
        have hq0 : (0 : Int) ≤ (y.p : Int) := by omega
        have hgb := get_byte hp
        have hjn2 : (j : Int) < (l.size : Int) := by omega
        by_cases hc : byteAt s y.p = byteAt l j
        · have hstep := wordIn_step (r := l.data.toList.drop (j + 1)) (by omega) hc
          rw [← HDR.out] at hstep
          have hne : (((byteAt s y.p).toNat : Int) != ((byteAt l j).toNat : Int)) = false := by rw [hc]; simp
          have hst := i64_step (p := y.p) (by omega)
          have HS := Lib.hid hstep
          clear hstep hc
          go_wp2_with fail
          go_quiet (fail)
          go_wp2_with fail
          go_quiet (fail)
          go_wp2_with fail
          go_roundg (n - (j + 1))
          case measure => omega
          case rel => exact ⟨j + 1, y.step, by omega, by omega, by go_num, by simp only [St.step]; omega, by rw [← HS.out]; exact HF.out, (Below.heap_setCell _ _ _ _ (by show B ≠ R; omega)).trans HBB.out, RdPost.set1 (RdPost.drewN HR.out _) _⟩
        · have hbad := wordIn_bad (r := l.data.toList.drop (j + 1)) (by omega) hc
          rw [← HDR.out] at hbad
          have hff : fin = (false, y.fail 4) := by rw [← HF.out]; exact hbad
          subst hff
          have hkk := HKK.out
          simp only [Bool.false_eq_true, if_false] at hkk
          subst hkk
          have hne : (((byteAt s y.p).toNat : Int) != ((byteAt l j).toNat : Int)) = true := by
            have : (byteAt s y.p).toNat ≠ (byteAt l j).toNat := fun h => hc (UInt8.toNat_inj.1 h)
            simp; omega
          have hfl := fun n => fail_any R s y 4 (wr.drewN n) (HR.out.1.drewN n)
          have HFL := Lib.hid hfl
          clear hc hbad hfl
          go_wp2_with fail
          go_quiet (fail)
          go_wp2_with fail
          go_quiet (fail)
          go_wp2_with fail
          refine Calls.mono (HFL.out _) ?_
          rintro e w2 ⟨rfl, hp2⟩
          have hbb := hp2.keep (B := B) HBB.out (by omega)
          have hr2 := RdPost.trans (RdPost.drewN HR.out _) hp2
          obtain ⟨⟨b0, b1, b2, b3, b4⟩, ⟨g0, g1, g2, g3, g4⟩, hBw2⟩ := cells5 hbb
          have hf := set5 (.int .i64 0) (.int .i64 0) (.string ⟨#[]⟩) (.slice none 0 0) (.slice none 0 0) hbb
          have hr5 := RdPost.set5 hr2 (B := B) (by rw [HBQ.out]; exact Nat.le_refl _) (by rw [HBQ.out]; exact hRB) (.int .i64 0) (.int .i64 0) (.string ⟨#[]⟩) (.slice none 0 0) (.slice none 0 0)
          have HF5 := Lib.hid hf; have HR5 := Lib.hid hr5
          clear hf hr5 hbb hr2 hp2
          go_wp2_with fail
          exact bodyPost_ret (results_cell_row rfl _ _ B 43 (kC 0).toArray (0, 0) _ rfl HF5.out Tryz.underlying43 rfl (by kernel_rfl)) rfl ⟨rfl, HR5.out⟩
      · have hd : decide ((s.size : Int) ≤ (y.p : Int)) = true := by simp; omega
        have hbad := wordIn_fail (c := byteAt l j) (r := l.data.toList.drop (j + 1)) (s := s) (y := y) (by omega)
        rw [← HDR.out] at hbad
        have hff : fin = (false, y.fail 2) := by rw [← HF.out]; exact hbad
        subst hff
        have hkk := HKK.out
        simp only [Bool.false_eq_true, if_false] at hkk
        subst hkk
        have hfl := fun n => fail_any R s y 2 (wr.drewN n) (HR.out.1.drewN n)
        have HFL := Lib.hid hfl
        clear hbad hfl
        go_wp2_with fail
        go_quiet (fail)
        go_wp2_with fail
        refine Calls.mono (HFL.out _) ?_
        rintro e w2 ⟨rfl, hp2⟩
        have hbb := hp2.keep (B := B) HBB.out (by omega)
        have hr2 := RdPost.trans (RdPost.drewN HR.out _) hp2
        obtain ⟨⟨b0, b1, b2, b3, b4⟩, ⟨g0, g1, g2, g3, g4⟩, hBw2⟩ := cells5 hbb
        have hf := set5 (.int .i64 0) (.int .i64 0) (.string ⟨#[]⟩) (.slice none 0 0) (.slice none 0 0) hbb
        have hr5 := RdPost.set5 hr2 (B := B) (by rw [HBQ.out]; exact Nat.le_refl _) (by rw [HBQ.out]; exact hRB) (.int .i64 0) (.int .i64 0) (.string ⟨#[]⟩) (.slice none 0 0) (.slice none 0 0)
        have HF5 := Lib.hid hf; have HR5 := Lib.hid hr5
        clear hf hr5 hbb hr2 hp2
        go_wp2_with fail
        exact bodyPost_ret (results_cell_row rfl _ _ B 43 (kC 0).toArray (0, 0) _ rfl HF5.out Tryz.underlying43 rfl (by kernel_rfl)) rfl ⟨rfl, HR5.out⟩
    · have hltz : ¬ (j : Int) < (n : Int) := by omega
      have hff := HF.out
      rw [List.drop_of_length_le (by simp; have := HN.out; omega)] at hff
      simp only [wordIn] at hff
      subst hff
      have hkk := HKK.out
      simp only [if_true] at hkk
      subst hkk
      have hf := set5 (.int .i64 k) (.int .i64 0) (.string ⟨#[]⟩) (.slice none 0 0) (.slice none 0 0) HBB.out
      have hr5 := RdPost.set5 HR.out (B := B) (by rw [HBQ.out]; exact Nat.le_refl _) (by rw [HBQ.out]; exact hRB) (.int .i64 k) (.int .i64 0) (.string ⟨#[]⟩) (.slice none 0 0) (.slice none 0 0)
      have HF5 := Lib.hid hf; have HR5 := Lib.hid hr5
      clear hf hr5
      go_wp2_with fail
      exact bodyPost_ret (results_cell_row rfl _ _ B 43 (kC k).toArray (0, 0) _ rfl HF5.out Tryz.underlying43 rfl (by kernel_rfl)) rfl ⟨rfl, HR5.out⟩
end Go.Proofs.YtlihjmfdnkfmfaaGreatDoor
