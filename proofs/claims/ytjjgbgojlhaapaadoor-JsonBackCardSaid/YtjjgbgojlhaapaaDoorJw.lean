/- json: plain laws of values that may be; no program. -/
import Derived.Test.YtjjgbgojlhaapaaDoorP
import Derived.Lib.ItoaLen
namespace Go.Proofs.YtjjgbgojlhaapaaDoor
open Go.RowKit Go.Lib

def numV (n : Int) : JV := .mk 4 n ⟨#[]⟩ [] []
def wordV (s : ByteArray) : JV := .mk 5 0 s [] []
def numC (n : Int) : List Value := [.int .i64 4, .int .i64 n, .string ⟨#[]⟩, .slice none 0 0, .slice none 0 0]
def wordC (s : ByteArray) : List Value := [.int .i64 5, .int .i64 0, .string s, .slice none 0 0, .slice none 0 0]

theorem short_nil : shortB ⟨#[]⟩ = true := by decide +kernel
theorem one_numV {n : Int} (h0 : -9007199254740991 ≤ n) (h1 : n ≤ 9007199254740991) : oneB (numV n) = true := by
  have : badK (.mk 4 n ⟨#[]⟩ [] []) = false := by simp [badK, JV.k, JV.n, JV.s, JV.l, JV.m]
  simp [oneB, this, membersB, rangeB, numV, JV.n, JV.s, JV.m, short_nil, h0, h1]
theorem one_listV (l : List JV) : oneB (.mk 6 0 ⟨#[]⟩ l []) = true := by
  have : badK (.mk 6 0 ⟨#[]⟩ l []) = false := by simp [badK, JV.k, JV.n, JV.s, JV.l, JV.m]
  simp [oneB, this, membersB, rangeB, JV.n, JV.s, JV.m, short_nil]
theorem one_wordV {s : ByteArray} (h : shortB s = true) : oneB (wordV s) = true := by
  have : badK (.mk 5 0 s [] []) = false := by simp [badK, JV.k, JV.n, JV.s, JV.l, JV.m]
  simp [oneB, this, membersB, rangeB, wordV, JV.n, JV.s, JV.m, h]
theorem one_obj {m : List (ByteArray × JV)} (h : membersB none m = true) : oneB (.mk 7 0 ⟨#[]⟩ [] m) = true := by
  have : badK (.mk 7 0 ⟨#[]⟩ [] m) = false := by simp [badK, JV.k, JV.n, JV.s, JV.l, JV.m]
  simp [oneB, this, h, rangeB, JV.n, JV.s, JV.m, short_nil]
theorem may_succ (d : Nat) (x : JV) : mayJ (d + 1) x = (oneB x && x.l.all (mayJ d) && x.m.all fun p => mayJ d p.2) := rfl
theorem may_numV {d : Nat} {n : Int} (h0 : -9007199254740991 ≤ n) (h1 : n ≤ 9007199254740991) : mayJ (d + 1) (numV n) = true := by
  rw [may_succ, one_numV h0 h1]; rfl
theorem may_wordV {d : Nat} {s : ByteArray} (h : shortB s = true) : mayJ (d + 1) (wordV s) = true := by
  rw [may_succ, one_wordV h]; rfl
theorem may_numV_iff {d : Nat} {n : Int} : mayJ (d + 1) (numV n) = (decide (-9007199254740991 ≤ n) && decide (n ≤ 9007199254740991)) := by
  rw [may_succ]
  have : badK (.mk 4 n ⟨#[]⟩ [] []) = false := by simp [badK, JV.k, JV.n, JV.s, JV.l, JV.m]
  simp [oneB, this, membersB, rangeB, numV, JV.n, JV.s, JV.m, JV.l, short_nil]
  rfl
theorem may_wordV_iff {d : Nat} {s : ByteArray} : mayJ (d + 1) (wordV s) = shortB s := by
  rw [may_succ]
  have : badK (.mk 5 0 s [] []) = false := by simp [badK, JV.k, JV.n, JV.s, JV.l, JV.m]
  simp [oneB, this, membersB, rangeB, wordV, JV.n, JV.s, JV.m, JV.l]
theorem may_obj {d : Nat} {m : List (ByteArray × JV)} (h : membersB none m = true) : mayJ (d + 1) (.mk 7 0 ⟨#[]⟩ [] m) = m.all fun p => mayJ d p.2 := by
  rw [may_succ, one_obj h]; simp [JV.l, JV.m]
theorem may_list {d : Nat} {l : List JV} : mayJ (d + 1) (.mk 6 0 ⟨#[]⟩ l []) = l.all (mayJ d) := by
  rw [may_succ, one_listV]; simp [JV.l, JV.m]
theorem join_len {α : Type} (f : α → List UInt8) (K : Nat) : ∀ (b : Bool) (l : List α), (∀ x, x ∈ l → (f x).length ≤ K) → (joinFrom f b l).length ≤ l.length * (K + 1)
  | _, [], _ => by simp [joinFrom]
  | b, x :: l, h => by
    have h1 := h x (List.mem_cons_self)
    have h2 := join_len f K false l (fun y hy => h y (List.mem_cons_of_mem _ hy))
    simp only [joinFrom, List.length_append, List.length_cons, Nat.succ_mul]
    have : (if b = true then f x else 44 :: f x).length ≤ K + 1 := by cases b <;> simp <;> omega
    omega
theorem print_numV (d : Nat) (n : Int) : printB (d + 1) (numV n) = Lib.itoa n := by rw [printB.eq_2]; simp [numV, JV.k, JV.n]
end Go.Proofs.YtjjgbgojlhaapaaDoor
