/- Marks: the walk of slices.DeleteFunc at marks. -/
import Derived.Test.YtjjgbgojlhaapaaDoorMkD
namespace Go.Proofs.YtjjgbgojlhaapaaDoor
open Go.RowKit

theorem zeroMk (w : World) : (zeroValue 24).run Tryd.prog w = .ok (.agg #[.int .i64 0, .int .i64 0]) w := by kernel_rfl
theorem zeroMk_one (n : Nat) : ∀ v ∈ (Builtin.zeroCells (Value.agg #[.int .i64 0, .int .i64 0]).cells n).toList, v.oneCell' = true := by
  intro v hv
  simp [Builtin.zeroCells, Value.cells] at hv
  obtain ⟨i, _, rfl⟩ := hv
  rcases Nat.mod_two_eq_zero_or_one i with e | e <;> simp [e] <;> rfl

set_option maxHeartbeats 1000000 in
theorem deleteMk_row (fv : Value) (p : Mk → Bool) (base g cap : Nat) (xs : List Mk) (w : World) (h : w.ownsRow base 24 2 (.slice (some ⟨g, 0, none⟩) xs.length cap) xs.length (mkCells xs)) (hf : Pred0 fv p) :
    Calls Tryd.prog 37 #[.slice (some ⟨g, 0, none⟩) xs.length cap, fv] w fun e w' => ∃ ys, e = .returned (.slice (some ⟨g, 0, none⟩) ys.length cap) ∧ ys = xs.filter (fun x => !p x) ∧ w.grownBy w' (some g) ∧
      w'.ownsRow base 24 2 (.slice (some ⟨g, 0, none⟩) ys.length cap) ys.length (mkCells ys) := by
  obtain ⟨hrow, hbase, hlc, hcm, _, hat⟩ := mkAt_of_own h
  have hsl : Sl mkTy w (fun k => False ∨ some k = (Value.slice (some ⟨g, 0, none⟩) xs.length cap).ownBlock) _ xs := own_to_sl (T := mkTy) h (mkCells_chunks w _ xs)
  have hidx := indexFunc_any fv _ p _ xs w hsl (hf.at w)
  obtain ⟨f, fst, cp, rfl, eg, hp⟩ := hf
  have hfi : idxOf p xs = match xs.findIdx? p with | some i => i | none => -1 := rfl
  cases hfd : xs.findIdx? p with
  | none =>
    rw [hfd] at hfi
    rw [hfi] at hidx
    have Hf := Lib.hid (filter_none hfd)
    have Hh := Lib.hid h
    clear hfd hfi h hat hrow hsl hp
    go_enter Tryd.func37, Tryd.ntmps37
    go_wp2_with fail
    refine Calls.mono hidx ?_
    rintro e w' ⟨rfl, hb'⟩
    go_wp2_with fail
    go_ret
    refine ⟨xs, rfl, Hf.out.symm, grown_of_bel hb' _, Hh.out.kept (grown_of_bel hb' none) (.inr (by simp [Value.ownBlock]))⟩
  | some i0 =>
    rw [hfd] at hfi
    rw [hfi] at hidx
    have Hh := Lib.hid h
    obtain ⟨hft, hi0⟩ := filter_first hfd
    have hlen0 : ((xs.take (i0 + 1)).filter (fun x => !p x)).length = i0 := by rw [hft, List.length_take]; omega
    clear hfd hfi h hsl
    have Hft := Lib.hid hft; have Hl0 := Lib.hid hlen0; clear hft hlen0
    generalize hn : xs.length = n at *
    have Hn := Lib.hid hn; clear hn
    have Hat := Lib.hid hat; have Hrow := Lib.hid hrow; clear hat hrow
    go_enter Tryd.func37, Tryd.ntmps37
    go_wp2_with fail
    refine Calls.mono hidx ?_
    rintro e w1 ⟨rfl, hb1⟩
    go_wp2_with fail
    have hrow1 : RowAt w1 g 24 (cap * 2) := Hrow.out.frame (hb1.block g Hrow.out.lt)
    have hat1 : ∀ m x, xs[m]? = some x → MkAt w1 g m x := fun m x hx => (Hat.out m x hx).frame (hb1.block g Hrow.out.lt)
    have hgw := Hrow.out.lt
    have HG1 := Lib.hid (grown_of_bel hb1 (some g))
    clear Hat Hrow hb1 hidx
    go_loopg [5, 6, 7] n (fun gg s5 s6 _ wr => ∃ i j : Nat, i < j ∧ j ≤ n ∧ n - j ≤ gg ∧ s5 = .int .i64 i ∧ s6 = .int .i64 j ∧ Aside (i = ((xs.take j).filter (fun x => !p x)).length) ∧ Aside (RowAt wr g 24 (cap * 2)) ∧
      Aside (∀ m x, ((xs.take j).filter (fun x => !p x))[m]? = some x → MkAt wr g m x) ∧ Aside (∀ m x, j ≤ m → xs[m]? = some x → MkAt wr g m x) ∧ Aside (w.grownBy wr (some g)))
    case atStart =>
      refine ⟨i0, i0 + 1, by omega, by omega, by omega, rfl, by go_num, Hl0.out.symm, hrow1, ?_, fun m x _ hx => hat1 m x hx, ?_⟩
      · show ∀ m x, _
        intro m x hx
        rw [Hft.out, List.getElem?_take] at hx
        split at hx
        · exact hat1 m x hx
        · cases hx
      · exact HG1.out
    case round =>
      obtain ⟨i, j, hij, hjn, hgg, rfl, rfl, Hi, Hr, Hy, Hx, Hg⟩ := hrel
      clear hat1 hrow1
      by_cases hlt : j < n
      · have hltz : (j : Int) < (n : Int) := by omega
        obtain ⟨x, hx⟩ : ∃ x, xs[j]? = some x := get_ex (by have := Hn.out; omega)
        have l0 := (Hx.out j x (Nat.le_refl _) hx).1
        have l1 := (Hx.out j x (Nat.le_refl _) hx).2
        have hgr : g < wr.heap.size := Hr.out.lt
        have HX := Lib.hid hx; clear hx
        go_wp2_with fail
        refine Calls.mono (hp _ x) ?_
        rintro e w' ⟨rfl, hb'⟩
        have v0 : w'.cell? ⟨wr.heap.size, 0, none⟩ = some (.int .i64 x.t) := cell_later' hb' (by simp)
        have v1 : w'.cell? ⟨wr.heap.size, 1, none⟩ = some (.int .i64 x.u) := cell_later' hb' (by simp)
        have hbw : Below wr.heap.size wr w' := by
          refine bel_trans (W := _) ?_ hb'
          repeat (first | exact Below.refl _ _ | apply bel_alloc | apply bel_drewN | apply bel_drew | (refine bel_set ?_ (by simp) _))
        have hbg := hbw.block g hgr
        have Hr' := Lib.hid (Hr.out.frame hbg)
        have hgr' : g < w'.heap.size := Hr'.out.lt
        have Hg' := Lib.hid (grown_trans Hg.out (grown_of_bel hbw (some g)))
        have Hy' : Hid (∀ m y, ((xs.take j).filter (fun x => !p x))[m]? = some y → MkAt w' g m y) := fun m y hm => (Hy.out m y hm).frame hbg
        have Hx' : Hid (∀ m y, j ≤ m → xs[m]? = some y → MkAt w' g m y) := fun m y hj hm => (Hx.out m y hj hm).frame hbg
        have hft := filter_take_succ (q := fun x => !p x) HX.out
        cases hpx : p x with
        | true =>
          have Hf := Lib.hid hft; have Hp := Lib.hid hpx
          clear hft hpx l0 l1 hbg
          go_wp2_with fail
          go_roundg (n - (j + 1))
          case measure => omega
          case rel =>
            have e : (xs.take (j + 1)).filter (fun x => !p x) = (xs.take j).filter (fun x => !p x) := by rw [Hf.out, Hp.out]; simp
            refine ⟨i, j + 1, by omega, by omega, by omega, rfl, by go_num, ?_, Hr'.out, ?_, fun m y hj hm => Hx'.out m y (by omega) hm, Hg'.out⟩
            · show i = _
              rw [e]; exact Hi.out
            · show ∀ m y, _
              rw [e]; exact Hy'.out
        | false =>
          have Hf := Lib.hid hft; have Hp := Lib.hid hpx
          clear hft hpx l0 l1 hbg
          have fz := fun i => Hr'.out.frozen i
          obtain ⟨o0, ho0⟩ := Hr'.out.some (i * 2) (by omega)
          obtain ⟨o1, ho1⟩ := Hr'.out.some (i * 2 + 1) (by omega)
          have hii : (i : Int) < (n : Int) := by omega
          go_wp2_with fail
          go_roundg (n - (j + 1))
          case measure => omega
          case rel =>
            have e : (xs.take (j + 1)).filter (fun x => !p x) = (xs.take j).filter (fun x => !p x) ++ [x] := by rw [Hf.out, Hp.out]; simp
            refine ⟨i + 1, j + 1, by omega, by omega, by omega, by go_num, by go_num, ?_, (Hr'.out.set _ _).set _ _, ?_, ?_, grown_trans (grown_trans Hg'.out (grown_set _)) (grown_set _)⟩
            · show i + 1 = _
              rw [e, List.length_append, ← Hi.out]; rfl
            · show ∀ m y, _
              intro m y hm
              rw [e] at hm
              rcases Nat.lt_trichotomy m i with h | h | h
              · rw [List.getElem?_append_left (by rw [← Hi.out]; exact h)] at hm
                exact put2_other (Hy'.out m y hm) (by omega)
              · subst h
                rw [Hi.out, List.getElem?_append_right (Nat.le_refl _)] at hm
                obtain rfl : x = y := by simpa using hm
                exact put2_same Hr'.out (by omega) x
              · rw [List.getElem?_eq_none (by rw [List.length_append, ← Hi.out]; simp; omega)] at hm
                cases hm
            · show ∀ m y, _
              intro m y hj hm
              exact put2_other (Hx'.out m y (by omega) hm) (by omega)
      · have hltz : ¬ (j : Int) < (n : Int) := by omega
        obtain rfl : j = n := by omega
        obtain ⟨cur, hcur', hcl⟩ : ∃ cur : List Value, wr.heap[g]? = some (.cells cur.toArray 24 (0, 0)) ∧ cur.length = cap * 2 := by
          obtain ⟨cur, hcur, hcsz⟩ := Hr.out
          exact ⟨cur.toList, by simpa using hcur, by simpa using hcsz⟩
        have hci : ¬ cap = i := by omega
        have hin : (i : Int) ≤ (cap : Int) := by omega
        have hin2 : (i : Int) ≤ (j : Int) := by omega
        have Hcur := Lib.hid hcur'; have Hcl := Lib.hid hcl
        clear hcur' hcl
        go_wp2_with (with_reducible refine wpList_clearN rfl (.tmp 38) 22 rfl 24 2 (.agg #[.int .i64 0, .int .i64 0]) Tryd.underlying22 zeroMk rfl zeroMk_one g (i * 2) (j - i) (cap - i) rfl ?c1 cur 24 Hcur.out ?c2 ?_)
        case c1 => omega
        case c2 => rw [Hcl.out]; omega
        intro w' zs Hw' hzl hg' _
        have Hz := Lib.hid hzl; have Hg' := Lib.hid hg'
        clear hzl hg'
        go_wp2_with fail
        go_ret
        have hys : i = (xs.filter (fun x => !p x)).length := by rw [Hi.out, List.take_of_length_le (by rw [Hn.out]; exact Nat.le_refl _)]
        refine ⟨xs.filter (fun x => !p x), by rw [hys]; rfl, rfl, grown_trans Hg.out Hg'.out, ?_⟩
        refine own_of_mkAt (rowAt_splice Hcl.out (by rw [Hz.out]; omega) Hw'.out) hbase (by omega) hcm ?_
        intro m x hx
        have hml := lt_of_get hx
        refine mkAt_splice (Hy.out m x ?_) (by omega) Hcur.out Hw'.out
        rw [List.take_of_length_le (by rw [Hn.out]; exact Nat.le_refl _)]; exact hx
end Go.Proofs.YtjjgbgojlhaapaaDoor
