/- rows: plain laws of the values that rows print: they may be, and are short. -/
import Derived.Test.YtjjgbgojlhaapaaDoorR
import Derived.Test.YtjjgbgojlhaapaaDoorMkL
import Derived.Lib.ItoaLen
namespace Go.Proofs.YtjjgbgojlhaapaaDoor
open Go.RowKit Go.Lib

def markV (m : Mk) : JV := .mk 6 0 ⟨#[]⟩ [numV m.t, numV m.u] []
def marksV (l : List Mk) : JV := .mk 6 0 ⟨#[]⟩ (l.map markV) []
def nmMarks : ByteArray := ⟨#[109, 97, 114, 107, 115]⟩
def marksO (l : List Mk) : JV := .mk 7 0 ⟨#[]⟩ [] [(nmMarks, marksV l)]

theorem short_nil : shortB ⟨#[]⟩ = true := by decide +kernel
theorem short_marks : shortB nmMarks = true := by decide +kernel
theorem one_numV {n : Int} (h0 : -9007199254740991 ≤ n) (h1 : n ≤ 9007199254740991) : oneB (numV n) = true := by
  have : badK (.mk 4 n ⟨#[]⟩ [] []) = false := by simp [badK, JV.k, JV.n, JV.s, JV.l, JV.m]
  simp [oneB, this, membersB, rangeB, numV, JV.n, JV.s, JV.m, short_nil, h0, h1]
theorem one_listV (l : List JV) : oneB (.mk 6 0 ⟨#[]⟩ l []) = true := by
  have : badK (.mk 6 0 ⟨#[]⟩ l []) = false := by simp [badK, JV.k, JV.n, JV.s, JV.l, JV.m]
  simp [oneB, this, membersB, rangeB, JV.n, JV.s, JV.m, short_nil]
theorem one_wordV {s : ByteArray} (h : shortB s = true) : oneB (wordV s) = true := by
  have : badK (.mk 5 0 s [] []) = false := by simp [badK, JV.k, JV.n, JV.s, JV.l, JV.m]
  simp [oneB, this, membersB, rangeB, wordV, JV.n, JV.s, JV.m, h]
theorem one_obj {m : List (ByteArray × JV)} (h : membersB none m = true) : oneB (.mk 7 0 ⟨#[]⟩ [] m) = true := by
  have : badK (.mk 7 0 ⟨#[]⟩ [] m) = false := by simp [badK, JV.k, JV.n, JV.s, JV.l, JV.m]
  simp [oneB, this, h, rangeB, JV.n, JV.s, JV.m, short_nil]
theorem may_succ (d : Nat) (x : JV) : mayJ (d + 1) x = (oneB x && x.l.all (mayJ d) && x.m.all fun p => mayJ d p.2) := rfl
theorem may_numV {d : Nat} {n : Int} (h0 : -9007199254740991 ≤ n) (h1 : n ≤ 9007199254740991) : mayJ (d + 1) (numV n) = true := by
  rw [may_succ, one_numV h0 h1]; rfl
theorem may_wordV {d : Nat} {s : ByteArray} (h : shortB s = true) : mayJ (d + 1) (wordV s) = true := by
  rw [may_succ, one_wordV h]; rfl
theorem may_numV_iff {d : Nat} {n : Int} : mayJ (d + 1) (numV n) = (decide (-9007199254740991 ≤ n) && decide (n ≤ 9007199254740991)) := by
  rw [may_succ]
  have : badK (.mk 4 n ⟨#[]⟩ [] []) = false := by simp [badK, JV.k, JV.n, JV.s, JV.l, JV.m]
  simp [oneB, this, membersB, rangeB, numV, JV.n, JV.s, JV.m, JV.l, short_nil]
  rfl
theorem may_wordV_iff {d : Nat} {s : ByteArray} : mayJ (d + 1) (wordV s) = shortB s := by
  rw [may_succ]
  have : badK (.mk 5 0 s [] []) = false := by simp [badK, JV.k, JV.n, JV.s, JV.l, JV.m]
  simp [oneB, this, membersB, rangeB, wordV, JV.n, JV.s, JV.m, JV.l]
theorem may_obj {d : Nat} {m : List (ByteArray × JV)} (h : membersB none m = true) : mayJ (d + 1) (.mk 7 0 ⟨#[]⟩ [] m) = m.all fun p => mayJ d p.2 := by
  rw [may_succ, one_obj h]; simp [JV.l, JV.m]
theorem may_list {d : Nat} {l : List JV} : mayJ (d + 1) (.mk 6 0 ⟨#[]⟩ l []) = l.all (mayJ d) := by
  rw [may_succ, one_listV]; simp [JV.l, JV.m]
theorem may_markV {d : Nat} {m : Mk} (h : okOne m = true) : mayJ (d + 2) (markV m) = true := by
  simp [okOne] at h
  rw [markV, may_list]
  simp only [List.all_cons, List.all_nil, Bool.and_true, Bool.and_eq_true]
  exact ⟨may_numV (by omega) (by omega), may_numV (by omega) (by omega)⟩
theorem may_marksO {xs : List Mk} (h : mayB xs = true) : mayJ 64 (marksO xs) = true := by
  have hst := ((mayB_iff xs).1 h).1
  rw [marksO, may_obj (by simp [membersB, short_marks])]
  simp only [List.all_cons, List.all_nil, Bool.and_true]
  rw [marksV, may_list, List.all_eq_true]
  intro x hx
  obtain ⟨m, hm, rfl⟩ := List.mem_map.1 hx
  exact may_markV (hst.2 m hm)

theorem join_len {α : Type} (f : α → List UInt8) (K : Nat) : ∀ (b : Bool) (l : List α), (∀ x, x ∈ l → (f x).length ≤ K) → (joinFrom f b l).length ≤ l.length * (K + 1)
  | _, [], _ => by simp [joinFrom]
  | b, x :: l, h => by
    have h1 := h x (List.mem_cons_self)
    have h2 := join_len f K false l (fun y hy => h y (List.mem_cons_of_mem _ hy))
    simp only [joinFrom, List.length_append, List.length_cons, Nat.succ_mul]
    have : (if b = true then f x else 44 :: f x).length ≤ K + 1 := by cases b <;> simp <;> omega
    omega
theorem print_numV (d : Nat) (n : Int) : printB (d + 1) (numV n) = Lib.itoa n := by rw [printB.eq_2]; simp [numV, JV.k, JV.n]
theorem print_wordV (d : Nat) (s : ByteArray) : printB (d + 1) (wordV s) = quoteB s := by rw [printB.eq_2]; simp [wordV, JV.k, JV.s]
theorem print_list (d : Nat) (l : List JV) : printB (d + 1) (.mk 6 0 ⟨#[]⟩ l []) = 91 :: (joinFrom (printB d) true l ++ [93]) := by rw [printB.eq_2]; simp [JV.k, JV.l]
theorem print_obj (d : Nat) (m : List (ByteArray × JV)) : printB (d + 1) (.mk 7 0 ⟨#[]⟩ [] m) = 123 :: (joinFrom (fun p => quoteB p.1 ++ 58 :: printB d p.2) true m ++ [125]) := by rw [printB.eq_2]; simp [JV.k, JV.m]
theorem print_marks_len {xs : List Mk} (h : mayB xs = true) : (printB 64 (marksO xs)).length ≤ 140737488355328 := by
  have h8 := mayB_len h
  have hst := ((mayB_iff xs).1 h).1
  have hq : (quoteB nmMarks).length = 7 := by decide +kernel
  rw [marksO, print_obj]
  simp only [joinFrom, if_true, List.length_cons, List.length_append, List.append_nil, List.length_nil]
  rw [hq, marksV, print_list]
  have h1 := join_len (printB 62) 50 true (xs.map markV) (fun x hx => by
    obtain ⟨m, hm, rfl⟩ := List.mem_map.1 hx
    have ho := hst.2 m hm
    simp [okOne] at ho
    rw [markV, print_list]
    have l1 := itoa_length_le m.t (by omega) (by omega)
    have l2 := itoa_length_le m.u (by omega) (by omega)
    simp only [joinFrom, print_numV, if_true, List.length_cons, List.length_append, List.append_nil, List.length_nil, Bool.false_eq_true, if_false]
    omega)
  rw [List.length_map] at h1
  simp only [List.length_cons, List.length_append, List.length_nil]
  omega
end Go.Proofs.YtjjgbgojlhaapaaDoor
