/- rows: number, words, part, print. -/
import Derived.Test.YtjjgbgojlhaapaaDoorPb
import Derived.Lib.BufferRead
import Derived.Laws.Rows
namespace Go.Proofs.YtjjgbgojlhaapaaDoor
open Go.RowKit Go.Lib

def numV (n : Int) : JV := .mk 4 n ⟨#[]⟩ [] []
def wordV (s : ByteArray) : JV := .mk 5 0 s [] []
def numC (n : Int) : List Value := [.int .i64 4, .int .i64 n, .string ⟨#[]⟩, .slice none 0 0, .slice none 0 0]
def wordC (s : ByteArray) : List Value := [.int .i64 5, .int .i64 0, .string s, .slice none 0 0, .slice none 0 0]

theorem number_any (n : Int) (w : World) : Calls Tryd.prog 39 #[.int .i64 n] w fun e w' => e = .returned (.agg (numC n).toArray) ∧ Below w.heap.size w w' := by
  go_enter Tryd.func39, Tryd.ntmps39
  go_wp2_with fail
  exact bodyPost_ret (results_cell_row rfl _ _ w.heap.size 55 (numC n).toArray (0, 0) _ rfl (heap_alloc_new w _) Tryd.underlying55 rfl (by kernel_rfl)) rfl ⟨rfl, bel_alloc (Below.refl _ _) _⟩

theorem words_any (s : ByteArray) (w : World) : Calls Tryd.prog 44 #[.string s] w fun e w' => e = .returned (.agg (wordC s).toArray) ∧ Below w.heap.size w w' := by
  go_enter Tryd.func44, Tryd.ntmps44
  go_wp2_with fail
  exact bodyPost_ret (results_cell_row rfl _ _ w.heap.size 55 (wordC s).toArray (0, 0) _ rfl (heap_alloc_new w _) Tryd.underlying55 rfl (by kernel_rfl)) rfl ⟨rfl, bel_alloc (Below.refl _ _) _⟩

theorem part_any (s t : ByteArray) (k n : Int) (A1 A2 : Option Addr) (n1 c1 n2 c2 : Nat) (w : World) : Calls Tryd.prog 41 #[.string s, .agg #[.int .i64 k, .int .i64 n, .string t, .slice A1 n1 c1, .slice A2 n2 c2]] w fun z w' => z = .returned (.agg #[.string s, .int .i64 k, .int .i64 n, .string t, .slice A1 n1 c1, .slice A2 n2 c2]) ∧ Below w.heap.size w w' := by
  go_enter Tryd.func41, Tryd.ntmps41
  go_wp2_with fail
  exact bodyPost_ret (results_cell_row rfl _ _ (w.heap.size + 1) 78 #[.string s, .int .i64 k, .int .i64 n, .string t, .slice A1 n1 c1, .slice A2 n2 c2] (0, 0) _ rfl (heap_alloc2_new w _ _) Tryd.underlying78 rfl (by kernel_rfl)) rfl ⟨rfl, bel_alloc (bel_alloc (Below.refl _ _) _) _⟩

set_option maxRecDepth 100000 in
set_option maxHeartbeats 1000000 in
theorem rprint_any (v : Value) (ms : List (ByteArray × JV)) (F : Nat → Prop) (w : World) (h : Sl memTy w F v ms) (hT : Tabs w) (hlen : (printB 64 (.mk 7 0 ⟨#[]⟩ [] ms)).length ≤ 140737488355328) :
    Calls Tryd.prog 40 #[.bool true, v] w fun e w' => e = .returned (.tuple #[.string (if mayJ 64 (.mk 7 0 ⟨#[]⟩ [] ms) then ⟨(printB 64 (.mk 7 0 ⟨#[]⟩ [] ms)).toArray⟩ else ⟨#[]⟩), .int .i64 (if mayJ 64 (.mk 7 0 ⟨#[]⟩ [] ms) then 0 else 4)]) ∧ Below w.heap.size w w' := by
  have hj : JR w F (.mk 7 0 ⟨#[]⟩ [] ms) [.int .i64 7, .int .i64 0, .string ⟨#[]⟩, .slice none 0 0, v] := JR_iff.2 ⟨.slice none 0 0, v, ⟨rfl, by simp [JV.s, ByteArray.size]⟩, .inl ⟨rfl, none, 0, rfl⟩, h⟩
  have hbad := Print_bad _ _ F w hj hT
  have hgood := fun hm => Print_good _ _ F w hj hT hm hlen
  obtain ⟨A, c, rfl⟩ := h.form
  generalize mayJ 64 (.mk 7 0 ⟨#[]⟩ [] ms) = b at *
  generalize printB 64 (.mk 7 0 ⟨#[]⟩ [] ms) = P at *
  clear hj h hT
  cases b with
  | false =>
    have hb := hbad rfl
    have HB := Lib.hid hb
    clear hbad hgood hb
    go_enter Tryd.func40, Tryd.ntmps40
    go_wp2_with fail
    refine Calls.mono HB.out ?_
    rintro e w2 ⟨rfl, hb⟩
    go_wp2_with fail
    rw [Lib.run_convert_nil_bytes w2 58 9 5 0 Tryd.underlying58 Tryd.underlying5 Tryd.underlying9]
    simp only [Result.andThen]
    rw [Oper.upon_value]
    go_wp2_with fail
    go_ret2
    exact ⟨rfl, hb⟩
  | true =>
    have hb := hgood rfl
    have HB := Lib.hid hb
    clear hbad hgood hb
    go_enter Tryd.func40, Tryd.ntmps40
    go_wp2_with fail
    refine Calls.mono HB.out ?_
    rintro e w2 ⟨⟨g, c', rfl, hc⟩, hb⟩
    have hcv := run_convert_bytes_back w2 58 9 5 ⟨g, 0, none⟩ c' P Tryd.underlying58 Tryd.underlying5 Tryd.underlying9 hc
    have HC := Lib.hid hcv
    clear hc hcv
    go_wp2_with fail
    rw [HC.out]
    simp only [Result.andThen]
    rw [Oper.upon_value]
    go_wp2_with fail
    go_ret2
    exact ⟨rfl, hb⟩
end Go.Proofs.YtjjgbgojlhaapaaDoor
