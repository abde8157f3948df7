/- Marks: the law's Marks and same. -/
import Derived.Test.YtjjgbgojlhaapaaDoorMkM
namespace Go.Proofs.YtjjgbgojlhaapaaDoor
open Go.RowKit

theorem refInfo : (Tryd.prog.info? 80).map (fun i => (i.zero, i.size, i.bytes)) = some (some (.agg #[.int .i64 0, .int .i64 0]), 2, 16) := by kernel_rfl

theorem run_eq_mk (d : Nat) (w : World) (a b : Int) : (Op.equalIn (d + 2) 80 (.agg #[.int .i64 a, .int .i64 b]) (.agg #[.int .i64 a, .int .i64 b])).run Tryd.prog w = .ok true w := by
  have hu := Tryd.underlying80
  rw [run_equalIn_struct (P := Tryd.prog) w (d + 1) 80 _ _ (by kernel_rfl) (by kernel_rfl)]
  simp [Program.fieldsOf, hu, Op.eqFields, part, isAgg, sizeOf]
  go_simp
theorem run_neq_mk (w : World) (a b : Int) : (binOp .neq 80 (.agg #[.int .i64 a, .int .i64 b]) (.agg #[.int .i64 a, .int .i64 b])).run Tryd.prog w = .ok (.bool false) w := by
  simp [binOp, Op.equal, Op.maxDepth, run_eq_mk 9998]

/-- a slice form with its cells -/
theorem sl_cells {w : World} {F : Nat → Prop} {v : Value} {xs : List Mk} (hs : Sl mkTy w F v xs) : ∃ A c, v = .slice A xs.length c ∧ xs.length ≤ 9223372036854775807 ∧ ∀ k x, xs[k]? = some x → ∃ b o, A = some ⟨b, o, none⟩ ∧ w.cell? ⟨b, o + k * 2, none⟩ = some (.int .i64 x.t) ∧ w.cell? ⟨b, o + k * 2 + 1, none⟩ = some (.int .i64 x.u) := by
  rcases hs with ⟨rfl, A, c, rfl⟩ | ⟨b, o, c', rfl, _, h3, h4, h2⟩
  · exact ⟨A, c, rfl, by simp, fun k x hk => by simp at hk⟩
  · exact ⟨_, _, rfl, by omega, fun k x hk => ⟨b, o, rfl, mk_cells h2 k x hk⟩⟩

def MarksPost (w : World) (xs : List Mk) (e : Ending) (w' : World) : Prop :=
  ∃ v, e = .returned v ∧ Below w.heap.size w w' ∧ w'.ownsRow w.heap.size 80 2 v xs.length (mkCells xs)

set_option maxRecDepth 100000 in
set_option maxHeartbeats 1000000 in
theorem marks_any (sv : Value) (F : Nat → Prop) (xs : List Mk) (w : World) (hs : Sl mkTy w F sv xs) (hsz : xs.length * 16 ≤ 140737488355328) :
    Calls Tryd.prog 14 #[sv] w (MarksPost w xs) := by
  obtain ⟨i0, hi, hz0, hz1, hz2⟩ := info_parts refInfo
  obtain ⟨A, c, rfl, hn63, hel⟩ := sl_cells hs
  clear hs
  generalize hn : xs.length = n at *
  have Hn := Lib.hid hn; clear hn
  go_enter Tryd.func14, Tryd.ntmps14
  go_wp2_with fail
  go_loopg [3, 4] n (fun gg s3 s4 wr => ∃ k : Nat, k ≤ n ∧ n - k ≤ gg ∧ s4 = .int .i64 k ∧ Aside (Below w.heap.size w wr) ∧ Aside (wr.ownsRow w.heap.size 80 2 s3 k (mkCells (xs.take k))))
  case atStart => exact ⟨0, Nat.zero_le _, by omega, rfl, Below.refl _ _, World.ownsRow_nil _ _ _ _⟩
  case round =>
    obtain ⟨k, hk, hgg, rfl, HB, HO⟩ := hrel
    by_cases hlt : k < n
    · have hltz : (k : Int) < (n : Int) := by omega
      obtain ⟨x, hx⟩ : ∃ x, xs[k]? = some x := get_ex (by have := Hn.out; omega)
      obtain ⟨b, o, rfl, l0, l1⟩ := hel k x hx
      have r0 := cell_later' HB.out l0
      have r1 := cell_later' HB.out l1
      have hb : b < w.heap.size := World.block_lt_of_cell? _ _ l0
      have hblk : Below wr.heap.size wr (wr.drew.alloc (.cells #[.int .i64 x.t, .int .i64 x.u] 80)) := bel_alloc (bel_drew (Below.refl _ _)) _
      have htk : mkCells (xs.take (k + 1)) = mkCells (xs.take k) ++ mkCells [x] := by
        rw [← mkCells_append, List.take_add_one, hx]; rfl
      have hnw := mk1_news (w := wr.drew.alloc (.cells #[.int .i64 x.t, .int .i64 x.u] 80)) (gv := wr.heap.size) (m := x) ⟨cell_new wr.drew _ _ 0 _ rfl, cell_new wr.drew _ _ 1 _ rfl⟩
      have one2 : ∀ u ∈ mkCells [x], u.oneCell' = true := (mkCells_chunks w (fun _ => True) [x]).one
      have s1 : k + 1 ≤ maxLen := by simp only [maxLen]; omega
      have s2 : (k + 1) * 16 ≤ 140737488355328 := by omega
      have s3 : w.heap.size ≤ (wr.drew.alloc (.cells #[.int .i64 x.t, .int .i64 x.u] 80)).heap.size := Nat.le_trans HB.out.size hblk.size
      have O1 := Lib.hid (own_later HO.out hblk)
      have S1 := Lib.hid s1; have S2 := Lib.hid s2; have S3 := Lib.hid s3; have N1 := Lib.hid hnw; have L1 := Lib.hid (mkCells_len [x]); have HT := Lib.hid htk
      clear s1 s2 s3 hnw hx htk hel
      generalize mkCells [x] = M at *
      go_wp2_with fail
      go_region_law (refine step_append_own rfl _ _ 33 rfl w.heap.size 80 i0 (.agg #[.int .i64 0, .int .i64 0]) 2 16 Tryd.underlying33 hi hz0 hz1 hz2 rfl (by decide) _ _ _ rfl O1.out ⟨wr.heap.size, 0, none⟩ 1 1 M rfl L1.out N1.out one2 S1.out S2.out S3.out ?_; intro v4 w2 ho4 hg4 _; have Ho4 := Lib.hid ho4; clear ho4)
      all_goals
        go_wp2_with fail
        go_roundg (n - (k + 1))
        case measure => omega
        case rel =>
          refine ⟨k + 1, by omega, by omega, by go_num, bel_grown (bel_trans HB.out hblk) hg4 (own_base HO.out), ?_⟩
          show World.ownsRow _ _ _ _ _ _ _
          rw [HT.out]; exact Ho4.out
    · have hltz : ¬ (k : Int) < (n : Int) := by omega
      obtain rfl : k = n := by omega
      have ho := HO.out
      rw [List.take_of_length_le (by rw [Hn.out]; exact Nat.le_refl _)] at ho
      have Ho := Lib.hid ho
      clear ho
      go_wp2_with fail
      go_ret
      exact ⟨_, rfl, HB.out, by rw [Hn.out]; exact Ho.out⟩
end Go.Proofs.YtjjgbgojlhaapaaDoor
