/- Parts of the proof: MkE, MkF, MkG, MkH, MkI, MkJ. -/
import Derived.Test.YtlihjmfdnkfmfaaGreatDoorZRback22
import Derived.Deep.RegionLaw
import Derived.StillTailTactics
import Derived.Deep.RegionWith
namespace Go.Proofs.YtlihjmfdnkfmfaaGreatDoor
open Go.RowKit

theorem zeroMk (w : World) : (zeroValue 170).run Tryz.prog w = .ok (.agg #[.int .i64 0, .int .i64 0]) w := by kernel_rfl
theorem zeroMk_one (n : Nat) : ∀ v ∈ (Builtin.zeroCells (Value.agg #[.int .i64 0, .int .i64 0]).cells n).toList, v.oneCell' = true := by
  intro v hv
  simp [Builtin.zeroCells, Value.cells] at hv
  obtain ⟨i, _, rfl⟩ := hv
  rcases Nat.mod_two_eq_zero_or_one i with e | e <;> simp [e] <;> rfl

set_option maxHeartbeats 1000000 in
theorem deleteMk_row (fv : Value) (p : Mk → Bool) (base g cap : Nat) (xs : List Mk) (w : World) (h : w.ownsRow base 170 2 (.slice (some ⟨g, 0, none⟩) xs.length cap) xs.length (mkCells xs)) (hf : Pred0 fv p) :
    Calls Tryz.prog 130 #[.slice (some ⟨g, 0, none⟩) xs.length cap, fv] w fun e w' => ∃ ys, e = .returned (.slice (some ⟨g, 0, none⟩) ys.length cap) ∧ ys = xs.filter (fun x => !p x) ∧ w.grownBy w' (some g) ∧
      w'.ownsRow base 170 2 (.slice (some ⟨g, 0, none⟩) ys.length cap) ys.length (mkCells ys) := by
  obtain ⟨hrow, hbase, hlc, hcm, _, hat⟩ := mkAt_of_own h
  have hsl : Sl mkTy w (fun k => False ∨ some k = (Value.slice (some ⟨g, 0, none⟩) xs.length cap).ownBlock) _ xs := own_to_sl (T := mkTy) h (mkCells_chunks w _ xs)
  have hidx := indexFunc_any fv _ p _ xs w hsl (hf.at w)
  obtain ⟨f, fst, cp, rfl, eg, hp⟩ := hf
  have hfi : idxOf p xs = match xs.findIdx? p with | some i => i | none => -1 := rfl
  cases hfd : xs.findIdx? p with
  | none =>
    rw [hfd] at hfi
    rw [hfi] at hidx
    have Hf := Lib.hid (filter_none hfd)
    have Hh := Lib.hid h
    clear hfd hfi h hat hrow hsl hp
    go_enter Tryz.func130, Tryz.ntmps130
    go_wp2_with fail
    refine Calls.mono hidx ?_
    rintro e w' ⟨rfl, hb'⟩
    go_wp2_with fail
    go_ret
    refine ⟨xs, rfl, Hf.out.symm, grown_of_bel hb' _, Hh.out.kept (grown_of_bel hb' none) (.inr (by simp [Value.ownBlock]))⟩
  | some i0 =>
    rw [hfd] at hfi
    rw [hfi] at hidx
    have Hh := Lib.hid h
    obtain ⟨hft, hi0⟩ := filter_first hfd
    have hlen0 : ((xs.take (i0 + 1)).filter (fun x => !p x)).length = i0 := by rw [hft, List.length_take]; omega
    clear hfd hfi h hsl
    have Hft := Lib.hid hft; have Hl0 := Lib.hid hlen0; clear hft hlen0
    generalize hn : xs.length = n at *
    have Hn := Lib.hid hn; clear hn
    have Hat := Lib.hid hat; have Hrow := Lib.hid hrow; clear hat hrow
    go_enter Tryz.func130, Tryz.ntmps130
    go_wp2_with fail
    refine Calls.mono hidx ?_
    rintro e w1 ⟨rfl, hb1⟩
    go_wp2_with fail
    have hrow1 : RowAt w1 g 170 (cap * 2) := Hrow.out.frame (hb1.block g Hrow.out.lt)
    have hat1 : ∀ m x, xs[m]? = some x → MkAt w1 g m x := fun m x hx => (Hat.out m x hx).frame (hb1.block g Hrow.out.lt)
    have hgw := Hrow.out.lt
    have HG1 := Lib.hid (grown_of_bel hb1 (some g))
    clear Hat Hrow hb1 hidx
    go_loopg [5, 6, 7] n (fun gg s5 s6 _ wr => ∃ i j : Nat, i < j ∧ j ≤ n ∧ n - j ≤ gg ∧ s5 = .int .i64 i ∧ s6 = .int .i64 j ∧ Aside (i = ((xs.take j).filter (fun x => !p x)).length) ∧ Aside (RowAt wr g 170 (cap * 2)) ∧
      Aside (∀ m x, ((xs.take j).filter (fun x => !p x))[m]? = some x → MkAt wr g m x) ∧ Aside (∀ m x, j ≤ m → xs[m]? = some x → MkAt wr g m x) ∧ Aside (w.grownBy wr (some g)))
    case atStart =>
      refine ⟨i0, i0 + 1, by omega, by omega, by omega, rfl, by go_num, Hl0.out.symm, hrow1, ?_, fun m x _ hx => hat1 m x hx, ?_⟩
      · show ∀ m x, _
        intro m x hx
        rw [Hft.out, List.getElem?_take] at hx
        split at hx
        · exact hat1 m x hx
        · cases hx
      · exact HG1.out
    case round =>
      obtain ⟨i, j, hij, hjn, hgg, rfl, rfl, Hi, Hr, Hy, Hx, Hg⟩ := hrel
      clear hat1 hrow1
      by_cases hlt : j < n
      · have hltz : (j : Int) < (n : Int) := by omega
        obtain ⟨x, hx⟩ : ∃ x, xs[j]? = some x := get_ex (by have := Hn.out; omega)
        have l0 := (Hx.out j x (Nat.le_refl _) hx).1
        have l1 := (Hx.out j x (Nat.le_refl _) hx).2
        have hgr : g < wr.heap.size := Hr.out.lt
        have HX := Lib.hid hx; clear hx
        go_wp2_with fail
        refine Calls.mono (hp _ x) ?_
        rintro e w' ⟨rfl, hb'⟩
        have v0 : w'.cell? ⟨wr.heap.size, 0, none⟩ = some (.int .i64 x.t) := cell_later' hb' (by simp)
        have v1 : w'.cell? ⟨wr.heap.size, 1, none⟩ = some (.int .i64 x.u) := cell_later' hb' (by simp)
        have hbw : Below wr.heap.size wr w' := by
          refine bel_trans (W := _) ?_ hb'
          repeat (first | exact Below.refl _ _ | apply bel_alloc | apply bel_drewN | apply bel_drew | (refine bel_set ?_ (by simp) _))
        have hbg := hbw.block g hgr
        have Hr' := Lib.hid (Hr.out.frame hbg)
        have hgr' : g < w'.heap.size := Hr'.out.lt
        have Hg' := Lib.hid (grown_trans Hg.out (grown_of_bel hbw (some g)))
        have Hy' : Hid (∀ m y, ((xs.take j).filter (fun x => !p x))[m]? = some y → MkAt w' g m y) := fun m y hm => (Hy.out m y hm).frame hbg
        have Hx' : Hid (∀ m y, j ≤ m → xs[m]? = some y → MkAt w' g m y) := fun m y hj hm => (Hx.out m y hj hm).frame hbg
        have hft := filter_take_succ (q := fun x => !p x) HX.out
        cases hpx : p x with
        | true =>
          have Hf := Lib.hid hft; have Hp := Lib.hid hpx
          clear hft hpx l0 l1 hbg
          go_wp2_with fail
          go_roundg (n - (j + 1))
          case measure => omega
          case rel =>
            have e : (xs.take (j + 1)).filter (fun x => !p x) = (xs.take j).filter (fun x => !p x) := by rw [Hf.out, Hp.out]; simp
            refine ⟨i, j + 1, by omega, by omega, by omega, rfl, by go_num, ?_, Hr'.out, ?_, fun m y hj hm => Hx'.out m y (by omega) hm, Hg'.out⟩
            · show i = _
              rw [e]; exact Hi.out
            · show ∀ m y, _
              rw [e]; exact Hy'.out
        | false =>
          have Hf := Lib.hid hft; have Hp := Lib.hid hpx
          clear hft hpx l0 l1 hbg
          have fz := fun i => Hr'.out.frozen i
          obtain ⟨o0, ho0⟩ := Hr'.out.some (i * 2) (by omega)
          obtain ⟨o1, ho1⟩ := Hr'.out.some (i * 2 + 1) (by omega)
          have hii : (i : Int) < (n : Int) := by omega
          go_wp2_with fail
          go_roundg (n - (j + 1))
          case measure => omega
          case rel =>
            have e : (xs.take (j + 1)).filter (fun x => !p x) = (xs.take j).filter (fun x => !p x) ++ [x] := by rw [Hf.out, Hp.out]; simp
            refine ⟨i + 1, j + 1, by omega, by omega, by omega, by go_num, by go_num, ?_, (Hr'.out.set _ _).set _ _, ?_, ?_, grown_trans (grown_trans Hg'.out (grown_set _)) (grown_set _)⟩
            · show i + 1 = _
              rw [e, List.length_append, ← Hi.out]; rfl
            · show ∀ m y, _
              intro m y hm
              rw [e] at hm
              rcases Nat.lt_trichotomy m i with h | h | h
              · rw [List.getElem?_append_left (by rw [← Hi.out]; exact h)] at hm
                exact put2_other (Hy'.out m y hm) (by omega)
              · subst h
                rw [Hi.out, List.getElem?_append_right (Nat.le_refl _)] at hm
                obtain rfl : x = y := by simpa using hm
                exact put2_same Hr'.out (by omega) x
              · rw [List.getElem?_eq_none (by rw [List.length_append, ← Hi.out]; simp; omega)] at hm
                cases hm
            · show ∀ m y, _
              intro m y hj hm
              exact put2_other (Hx'.out m y (by omega) hm) (by omega)
      · have hltz : ¬ (j : Int) < (n : Int) := by omega
        obtain rfl : j = n := by omega
        obtain ⟨cur, hcur', hcl⟩ : ∃ cur : List Value, wr.heap[g]? = some (.cells cur.toArray 170 (0, 0)) ∧ cur.length = cap * 2 := by
          obtain ⟨cur, hcur, hcsz⟩ := Hr.out
          exact ⟨cur.toList, by simpa using hcur, by simpa using hcsz⟩
        have hci : ¬ cap = i := by omega
        have hin : (i : Int) ≤ (cap : Int) := by omega
        have hin2 : (i : Int) ≤ (j : Int) := by omega
        have Hcur := Lib.hid hcur'; have Hcl := Lib.hid hcl
        clear hcur' hcl
        go_wp2_with (with_reducible refine wpList_clearN rfl (.tmp 38) 109 rfl 170 2 (.agg #[.int .i64 0, .int .i64 0]) Tryz.underlying109 zeroMk rfl zeroMk_one g (i * 2) (j - i) (cap - i) rfl ?c1 cur 170 Hcur.out ?c2 ?_)
        case c1 => omega
        case c2 => rw [Hcl.out]; omega
        intro w' zs Hw' hzl hg' _
        have Hz := Lib.hid hzl; have Hg' := Lib.hid hg'
        clear hzl hg'
        go_wp2_with fail
        go_ret
        have hys : i = (xs.filter (fun x => !p x)).length := by rw [Hi.out, List.take_of_length_le (by rw [Hn.out]; exact Nat.le_refl _)]
        refine ⟨xs.filter (fun x => !p x), by rw [hys]; rfl, rfl, grown_trans Hg.out Hg'.out, ?_⟩
        refine own_of_mkAt (rowAt_splice Hcl.out (by rw [Hz.out]; omega) Hw'.out) hbase (by omega) hcm ?_
        intro m x hx
        have hml := lt_of_get hx
        refine mkAt_splice (Hy.out m x ?_) (by omega) Hcur.out Hw'.out
        rw [List.take_of_length_le (by rw [Hn.out]; exact Nat.le_refl _)]; exact hx
end Go.Proofs.YtlihjmfdnkfmfaaGreatDoor
namespace Go.Proofs.YtlihjmfdnkfmfaaGreatDoor
open Go.RowKit

def insMk (xs : List Mk) (i : Nat) (m : Mk) : List Mk := xs.take i ++ m :: xs.drop i
theorem insMk_end (xs : List Mk) (m : Mk) : insMk xs xs.length m = xs ++ [m] := by simp [insMk]
theorem insMk_len (xs : List Mk) (i : Nat) (m : Mk) (h : i ≤ xs.length) : (insMk xs i m).length = xs.length + 1 := by simp [insMk]; omega
theorem mkCells_append (xs ys : List Mk) : mkCells (xs ++ ys) = mkCells xs ++ mkCells ys := by simp [mkCells]
theorem mkCells_take (xs : List Mk) (i : Nat) : mkCells (xs.take i) = (mkCells xs).take (i * 2) := mkCells_of_chunks ((mkCells_chunks default (fun _ => True) xs).take i) |>.symm
theorem mkCells_drop (xs : List Mk) (i : Nat) : mkCells (xs.drop i) = (mkCells xs).drop (i * 2) := mkCells_of_chunks ((mkCells_chunks default (fun _ => True) xs).drop i) |>.symm
theorem mk1_news {w : World} {gv : Nat} {m : Mk} (hv : MkAt w gv 0 m) : ∀ j u, (mkCells [m])[j]? = some u → w.cell? ((⟨gv, 0, none⟩ : Addr).add j) = some u := by
  intro j u hj
  rw [Addr.add_lit, Nat.zero_add]
  have hl := lt_of_get hj
  rw [mkCells_len] at hl
  obtain ⟨a, b⟩ := hv
  rcases j with _ | _ | j
  · rw [← hj]; exact a
  · rw [← hj]; exact b
  · simp at hl; omega

set_option maxHeartbeats 1000000 in
theorem insertMk_nil (base gv : Nat) (m : Mk) (w : World) (hv : MkAt w gv 0 m) (hbase : base ≤ w.heap.size) :
    Calls Tryz.prog 131 #[.slice none 0 0, .int .i64 0, .slice (some ⟨gv, 0, none⟩) 1 1] w fun e w' => ∃ v', e = .returned v' ∧ w.grownBy w' none ∧
      w'.ownsRow base 170 2 v' 1 (mkCells [m]) := by
  obtain ⟨i0, hi, hz0, hz1, hz2⟩ := info_parts mkInfo
  have hown := World.ownsRow_nil w base 170 2
  have hnews := mk1_news hv
  have h1 : ∀ u ∈ mkCells [m], u.oneCell' = true := (mkCells_chunks w (fun _ => True) [m]).one
  clear hv
  generalize hM : mkCells [m] = M at *
  have hl : M.length = 1 * 2 := by rw [← hM]; rfl
  have Hl := Lib.hid hl
  clear hM hl
  go_enter Tryz.func131, Tryz.ntmps131
  go_wp2_with (at_builtin; refine wpList_append_own _ rfl _ _ 109 rfl base 170 i0 (.agg #[.int .i64 0, .int .i64 0]) 2 16 Tryz.underlying109 hi hz0 hz1 hz2 rfl (by decide) _ _ _ rfl hown ⟨gv, 0, none⟩ 1 1 M rfl Hl.out hnews h1 ?c1 ?c2 ?c3 ?_)
  case c1 => simp [maxLen]
  case c2 => omega
  case c3 => exact hbase
  intro v' w1 hown1 hgrow _
  go_wp2
  go_ret
  exact ⟨_, rfl, hgrow, hown1⟩

set_option maxHeartbeats 1000000 in
theorem insertMk_end_ (base g cap gv : Nat) (xs : List Mk) (m : Mk) (w : World) (h : w.ownsRow base 170 2 (.slice (some ⟨g, 0, none⟩) xs.length cap) xs.length (mkCells xs)) (hv : MkAt w gv 0 m) (hbase : base ≤ w.heap.size) (hsz : (xs.length + 1) * 16 ≤ 140737488355328) :
    Calls Tryz.prog 131 #[.slice (some ⟨g, 0, none⟩) xs.length cap, .int .i64 xs.length, .slice (some ⟨gv, 0, none⟩) 1 1] w fun e w' => ∃ v', e = .returned v' ∧ w.grownBy w' (some g) ∧
      w'.ownsRow base 170 2 v' (xs.length + 1) (mkCells (xs ++ [m])) := by
  obtain ⟨i0, hi, hz0, hz1, hz2⟩ := info_parts mkInfo
  have hnews := mk1_news hv
  have h1 : ∀ u ∈ mkCells [m], u.oneCell' = true := (mkCells_chunks w (fun _ => True) [m]).one
  obtain ⟨hrow, hbg, hlc, hcm, _, _⟩ := mkAt_of_own h
  have hM2 := mkCells_append xs [m]
  clear hv hrow
  generalize mkCells (xs ++ [m]) = R at *
  generalize hM : mkCells [m] = M at *
  generalize mkCells xs = C at *
  generalize xs.length = n at *
  have hl : M.length = 1 * 2 := by rw [← hM]; rfl
  have Hl := Lib.hid hl
  have HM := Lib.hid hM2
  clear hM hl hM2
  have hc1 : n + 1 ≤ maxLen := by simp only [maxLen]; omega
  have H1 := Lib.hid hc1; have H2 := Lib.hid hsz
  clear hc1 hsz
  rcases Nat.lt_or_ge n cap with hlt | hge
  · have hcn : ¬ cap = n := by omega
    go_enter Tryz.func131, Tryz.ntmps131
    go_wp2_with (at_builtin; refine wpList_append_own _ rfl _ _ 109 rfl base 170 i0 (.agg #[.int .i64 0, .int .i64 0]) 2 16 Tryz.underlying109 hi hz0 hz1 hz2 rfl (by decide) _ _ _ rfl h ⟨gv, 0, none⟩ 1 1 M rfl Hl.out hnews h1 H1.out H2.out hbase ?_)
    intro v' w1 hown1 hgrow _
    go_wp2
    go_ret
    exact ⟨_, rfl, hgrow, by rw [HM.out]; exact hown1⟩
  · obtain rfl : n = cap := by omega
    go_enter Tryz.func131, Tryz.ntmps131
    go_wp2_with (at_builtin; refine wpList_append_own _ rfl _ _ 109 rfl base 170 i0 (.agg #[.int .i64 0, .int .i64 0]) 2 16 Tryz.underlying109 hi hz0 hz1 hz2 rfl (by decide) _ _ _ rfl h ⟨gv, 0, none⟩ 1 1 M rfl Hl.out hnews h1 H1.out H2.out hbase ?_)
    intro v' w1 hown1 hgrow _
    go_wp2
    go_ret
    exact ⟨_, rfl, hgrow, by rw [HM.out]; exact hown1⟩
end Go.Proofs.YtlihjmfdnkfmfaaGreatDoor
namespace Go.Proofs.YtlihjmfdnkfmfaaGreatDoor
open Go.RowKit

theorem splice_take {L zs : List Value} {off : Nat} (ho : off ≤ L.length) : (splice L off zs).take off = L.take off := by
  rw [splice, List.take_left' (by rw [List.length_take]; omega)]
theorem splice_take2 {L zs : List Value} {off : Nat} (ho : off ≤ L.length) : (splice L off zs).take (off + zs.length) = L.take off ++ zs := by
  rw [splice, ← List.append_assoc, List.take_left' (by rw [List.length_append, List.length_take]; omega)]
theorem mkInfo2 : (Tryz.prog.info? 170).map (·.size) = some 2 := by kernel_rfl
theorem underInt : Tryz.prog.underlying 3 = some (.int .i64) := by kernel_rfl

set_option maxRecDepth 100000 in
set_option maxHeartbeats 1000000 in
theorem insertMk_grow (base g cap gv i : Nat) (xs : List Mk) (m : Mk) (w : World) (h : w.ownsRow base 170 2 (.slice (some ⟨g, 0, none⟩) xs.length cap) xs.length (mkCells xs)) (hv : MkAt w gv 0 m) (hbase : base ≤ w.heap.size) (hsz : (xs.length + 1) * 16 ≤ 140737488355328)
    (hin : i < xs.length) (hcap : cap < xs.length + 1) :
    Calls Tryz.prog 131 #[.slice (some ⟨g, 0, none⟩) xs.length cap, .int .i64 i, .slice (some ⟨gv, 0, none⟩) 1 1] w fun e w' => ∃ v', e = .returned v' ∧ w.grownBy w' (some g) ∧
      w'.ownsRow base 170 2 v' (xs.length + 1) (mkCells (insMk xs i m)) := by
  obtain ⟨i0, hi, hz0, hz1, hz2⟩ := info_parts mkInfo
  have hnews := mk1_news hv
  have hgv : gv < w.heap.size := World.block_lt_of_cell? w _ hv.1
  obtain ⟨hrow, hbg, hlc, hcm, _, _⟩ := mkAt_of_own h
  have hg : g < w.heap.size := hrow.lt
  have hC : ∀ j u, (mkCells xs)[j]? = some u → w.cell? ⟨g, j, none⟩ = some u := fun j u hj => by
    have := h.cells (g := g) rfl j u hj
    rwa [Addr.add_lit, Nat.zero_add] at this
  have hfin : mkCells (insMk xs i m) = (mkCells xs).take (i * 2) ++ (mkCells [m] ++ (mkCells xs).drop (i * 2)) := by
    rw [insMk, mkCells_append, mkCells_take, show m :: xs.drop i = [m] ++ xs.drop i from rfl, mkCells_append, mkCells_drop]
  have hCl := mkCells_len xs
  have one1 : ∀ u ∈ mkCells xs, u.oneCell' = true := (mkCells_chunks w (fun _ => True) xs).one
  have one2 : ∀ u ∈ mkCells [m], u.oneCell' = true := (mkCells_chunks w (fun _ => True) [m]).one
  have hMl := mkCells_len [m]
  clear h hv hrow
  generalize mkCells (insMk xs i m) = R at *
  generalize mkCells [m] = M at *
  generalize mkCells xs = C at *
  generalize xs.length = n at *
  have hMl2 : M.length = 2 := hMl
  clear hMl
  -- the append of zeros
  obtain ⟨cells, k1, k2, k3, k4, hrun⟩ := run_append_zeros_grow (P := Tryz.prog) w 109 3 109 170 i0 (.agg #[.int .i64 0, .int .i64 0]) Tryz.underlying109 underInt hi hz0 (by rw [hz1]; rfl) (by rw [hz1]; decide)
    ⟨g, 0, none⟩ i cap (C.take (i * 2)) (by rw [List.length_take, hz1]; omega) (fun j u hj => by
      rw [Addr.add_lit, Nat.zero_add]
      rw [List.getElem?_take] at hj
      split at hj
      · exact hC j u hj
      · cases hj) (n + 1 - i) (by omega) (by omega) (by rw [hz2]; omega) (by omega)
  have e1 : i + (n + 1 - i) = n + 1 := by omega
  have e2 : ((n + 1 - i : Nat) : Int) = (n : Int) + 1 - i := by omega
  rw [e1] at k1 k3 k4 hrun
  rw [e2] at hrun
  rw [hz1] at k1 k2
  generalize grownCap w (n + 1) cap 170 = cap2 at *
  have Hrun := Lib.hid hrun; have K1 := Lib.hid k1; have K2 := Lib.hid k2; have HCl := Lib.hid hCl; have HMl := Lib.hid hMl2; have HF := Lib.hid hfin
  clear hrun k1 k2 e1 e2 hCl hMl2 hfin
  have hci : ¬ cap = i := by omega
  have t1 : (i : Int) ≤ (cap : Int) := by omega
  have t2 : (i : Int) ≤ (n : Int) := by omega
  have t3 : ((i : Int) == (n : Int)) = false := beq_eq_false_iff_ne.2 (by omega)
  have t4 : (cap : Int) < (n : Int) + 1 := by omega
  obtain ⟨W1, hW1⟩ : ∃ W1, W1 = (w.drew.alloc (.cells cells.toArray 170)) := ⟨_, rfl⟩
  have c1 : (w.drew.alloc (.cells cells.toArray 170)).heap[w.heap.size]? = some (.cells cells.toArray 170 (0, 0)) := heap_alloc_new w.drew _
  have b1 : Below w.heap.size w (w.drew.alloc (.cells cells.toArray 170)) := bel_alloc (bel_drew (Below.refl _ _)) _
  have m1 : ∀ j u, M[j]? = some u → (w.drew.alloc (.cells cells.toArray 170)).cell? ((⟨gv, 0, none⟩ : Addr).add j) = some u := fun j u hj => cell_later' b1 (hnews j u hj)
  rw [← hW1] at c1 b1 m1
  have hr2 := Hrun.out
  rw [← hW1] at hr2
  have Hr2 := Lib.hid hr2
  clear hr2 Hrun
  have n1 : Nat.min 1 (n + 1 - i) = 1 := Nat.min_eq_left (by omega)
  have l1 : M.length = Nat.min 1 (n + 1 - i) * 2 := by rw [n1, HMl.out]
  have f1 : i * 2 + M.length ≤ cells.length := by rw [HMl.out, K1.out]; omega
  have HW := Lib.hid hW1; have C1 := Lib.hid c1; have B1 := Lib.hid b1; have M1 := Lib.hid m1; have L1 := Lib.hid l1; have F1 := Lib.hid f1; have N1 := Lib.hid n1
  clear hW1 c1 b1 m1 l1 f1 n1 hnews
  have hc2n : ¬ cap2 = i := by omega
  have t5 : (i : Int) ≤ (cap2 : Int) := by omega
  have t6 : (i : Int) ≤ (n : Int) + 1 := by omega
  go_enter Tryz.func131, Tryz.ntmps131
  go_wp2_with (first | (at_builtin; refine wpList_append_runN rfl (.tmp 34) (.tmp 39) 109 3 rfl _ _ _ _ rfl rfl Hr2.out ?_) | (with_reducible refine wpList_copyN rfl (.tmp 43) (.tmp 44) 109 109 rfl 170 2 Tryz.underlying109 mkInfo2 _ _ _ _ _ _ rfl rfl w.heap.size (i * 2) cells 170 C1.out M L1.out (fun _ => ⟨rfl, _, rfl, M1.out⟩) F1.out one2 ?_))
  intro w2 C2 g2 s2
  go_wp2_with fail
  have q3 : (i : Int) + 1 ≤ (cap2 : Int) := by omega
  have q3' : (i : Int) + 1 ≤ (n : Int) + 1 := by omega
  have q4 : ¬ cap2 = i + 1 := by omega
  have q0 : (0 : Int) ≤ (i : Int) + 1 := by omega
  have q1 : IntKind.i64.wrap ((i : Int) + 1) = (i : Int) + 1 := IntWalk.i64_in _ (by omega)
  have q2 : ((i : Int) + 1).toNat = i + 1 := by omega
  go_still_tail 8, (by kernel_rfl)
  clear q0 q1 q2
  change wpList _ _ _ _ _ w2.drew
  have hg1 : W1.heap[g]? = w.heap[g]? := B1.out.block g hg
  have hg2 : w2.drew.heap[g]? = w.heap[g]? := (g2.block g (Nat.lt_of_lt_of_le hg B1.out.size) (by simp; omega)).trans hg1
  have C3 : Hid (w2.drew.heap[w.heap.size]? = some (.cells (splice cells (i * 2) M).toArray 170 (0, 0))) := C2.out
  have G3 : Hid (w.grownBy w2.drew none) := ⟨g2.os.trans B1.out.os, g2.tape.trans B1.out.tape, g2.output.trans B1.out.output, Nat.le_trans B1.out.size g2.size, fun k hk _ => (g2.block k (Nat.lt_of_lt_of_le hk B1.out.size) (by simp; omega)).trans (B1.out.block k hk)⟩
  have D3 : ∀ j u, (C.drop (i * 2))[j]? = some u → w2.drew.cell? ((⟨g, i * 2, none⟩ : Addr).add j) = some u := fun j u hj => by
    rw [List.getElem?_drop] at hj
    rw [Addr.add_lit]
    exact (World.cell?_of_block (w := w) (a := ⟨g, i * 2 + j, none⟩) hg2).trans (hC _ _ hj)
  clear C2 g2 s2 hg1 hg2 hC
  have hmin : Nat.min (n - i) (n - i) = n - i := Nat.min_self _
  have L3 : Hid ((C.drop (i * 2)).length = Nat.min (n - i) (n - i) * 2) := by
    show _ = _
    rw [hmin, List.length_drop, HCl.out]; omega
  have F3 : Hid ((i + 1) * 2 + (C.drop (i * 2)).length ≤ (splice cells (i * 2) M).length) := by
    show _ ≤ _
    rw [length_splice _ _ _ F1.out, List.length_drop, HCl.out, K1.out]; omega
  have one3 : ∀ u ∈ C.drop (i * 2), u.oneCell' = true := fun u hu => one1 u (List.mem_of_mem_drop hu)
  have D3' := Lib.hid D3
  clear D3 hmin
  generalize hS : splice cells (i * 2) M = S at *
  generalize hD : C.drop (i * 2) = D at *
  have HS := Lib.hid hS; have HD := Lib.hid hD
  clear hS hD
  generalize w2.drew = w3 at *
  refine wpList_copyN rfl (.tmp 50) (.tmp 53) 109 109 rfl 170 2 Tryz.underlying109 mkInfo2 _ _ _ _ _ _ rfl rfl w.heap.size ((i + 1) * 2) S 170 C3.out D L3.out (fun _ => ⟨rfl, _, rfl, D3'.out⟩) F3.out one3 ?_
  intro w4 C4 g4 _
  have G4 := Lib.hid g4
  clear g4
  go_wp2_with fail
  go_ret
  have hG : w.grownBy w4 (some g) := ⟨G4.out.os.trans G3.out.os, G4.out.tape.trans G3.out.tape, G4.out.output.trans G3.out.output, Nat.le_trans G3.out.size G4.out.size, fun k hk _ => (G4.out.block k (Nat.lt_of_lt_of_le hk G3.out.size) (by simp; omega)).trans (G3.out.block k hk (by simp))⟩
  have hDl : D.length = (n - i) * 2 := by rw [← HD.out, List.length_drop, HCl.out]; omega
  have hSl : S.length = cap2 * 2 := by rw [← HS.out, length_splice _ _ _ F1.out, K1.out]
  have hCl := HCl.out
  have hMl := HMl.out
  have hcl := K1.out
  have hRl : R.length = (n + 1) * 2 := by rw [HF.out, List.length_append, List.length_append, List.length_take]; omega
  refine ⟨_, rfl, hG, hRl, .inr ⟨w.heap.size, cap2, _, rfl, hbase, C4.out, k3, k4, ?_, ?_⟩⟩
  · rw [List.size_toArray, length_splice _ _ _ F3.out, hSl]
  · have e : (n + 1) * 2 = (i + 1) * 2 + D.length := by omega
    show (splice S ((i + 1) * 2) D).take ((n + 1) * 2) = R
    rw [e, splice_take2 (by omega), ← HS.out, show (i + 1) * 2 = i * 2 + M.length by omega, splice_take2 (by omega), K2.out, HF.out, List.append_assoc]
end Go.Proofs.YtlihjmfdnkfmfaaGreatDoor
namespace Go.Proofs.YtlihjmfdnkfmfaaGreatDoor
open Go.RowKit

theorem RowAt.shape {w : World} {g e n : Nat} (h : RowAt w g e n) : w.shape? g = Option.some (e, n) := by
  obtain ⟨cur, h1, rfl⟩ := h
  simp [World.shape?, h1]

set_option maxRecDepth 100000 in
set_option maxHeartbeats 1000000 in
theorem insertMk_room (base g cap gv i : Nat) (xs : List Mk) (m : Mk) (w : World) (h : w.ownsRow base 170 2 (.slice (some ⟨g, 0, none⟩) xs.length cap) xs.length (mkCells xs)) (hv : MkAt w gv 0 m) (hgr : RowAt w gv 170 2) (hne : gv ≠ g)
    (hin : i < xs.length) (hcap : xs.length + 1 ≤ cap) :
    Calls Tryz.prog 131 #[.slice (some ⟨g, 0, none⟩) xs.length cap, .int .i64 i, .slice (some ⟨gv, 0, none⟩) 1 1] w fun e w' => ∃ v', e = .returned v' ∧ w.grownBy w' (some g) ∧
      w'.ownsRow base 170 2 v' (xs.length + 1) (mkCells (insMk xs i m)) := by
  have hnews := mk1_news hv
  obtain ⟨hrow, hbg, hlc, hcm, _, _⟩ := mkAt_of_own h
  have hg : g < w.heap.size := hrow.lt
  have hov : ∀ lb cb, (callFunc 167 #[.slice (some ⟨gv, 0, none⟩) 1 1, .slice (some ⟨g, (i + 1) * 2, none⟩) lb cb]).run Tryz.prog w = .ok (.value (.bool false)) w := fun lb cb => by
    rw [run_callFunc_extern Tryz.func167 (by kernel_rfl) (by kernel_rfl) (by kernel_rfl) (e := Extern.SlicesOverlaps.overlaps #[109, 109] #[4]) (by kernel_rfl),
      Lib.run_overlaps_apart w 109 4 170 Tryz.underlying109 2 (fun _ => by kernel_rfl) ⟨gv, 0, none⟩ ⟨g, (i + 1) * 2, none⟩ 1 1 lb cb hne _ _ _ _ hgr.shape hrow.shape (by omega) (hgr.frozen _) (hgr.frozen _)]
    rfl
  have hC : ∀ j u, (mkCells xs)[j]? = some u → w.cell? ⟨g, j, none⟩ = some u := fun j u hj => by
    have := h.cells (g := g) rfl j u hj
    rwa [Addr.add_lit, Nat.zero_add] at this
  obtain ⟨cells, c1, k1, k2⟩ : ∃ cells : List Value, w.heap[g]? = some (.cells cells.toArray 170 (0, 0)) ∧ cells.length = cap * 2 ∧ cells.take (xs.length * 2) = mkCells xs := by
    rcases h.2 with ⟨h0, _⟩ | ⟨g', cap', cur, h0, hg', hh, h1, h2, h3, h4⟩
    · simp at h0
    · simp only [Value.slice.injEq, Option.some.injEq, Addr.mk.injEq, and_true, true_and] at h0
      obtain ⟨rfl, rfl⟩ := h0
      exact ⟨cur.toList, by simpa using hh, by simpa using h3, h4⟩
  have hfin : mkCells (insMk xs i m) = (mkCells xs).take (i * 2) ++ (mkCells [m] ++ (mkCells xs).drop (i * 2)) := by
    rw [insMk, mkCells_append, mkCells_take, show m :: xs.drop i = [m] ++ xs.drop i from rfl, mkCells_append, mkCells_drop]
  have hCl := mkCells_len xs
  have one1 : ∀ u ∈ mkCells xs, u.oneCell' = true := (mkCells_chunks w (fun _ => True) xs).one
  have one2 : ∀ u ∈ mkCells [m], u.oneCell' = true := (mkCells_chunks w (fun _ => True) [m]).one
  have hMl := mkCells_len [m]
  clear h hv hrow hgr
  generalize mkCells (insMk xs i m) = R at *
  generalize mkCells [m] = M at *
  generalize mkCells xs = C at *
  generalize xs.length = n at *
  have hMl2 : M.length = 2 := hMl
  clear hMl
  have K1 := Lib.hid k1; have K2 := Lib.hid k2; have HCl := Lib.hid hCl; have HMl := Lib.hid hMl2; have HF := Lib.hid hfin; have C1 := Lib.hid c1
  clear k1 k2 hCl hMl2 hfin c1
  have hci : ¬ cap = i := by omega
  have t1 : (i : Int) ≤ (cap : Int) := by omega
  have t2 : (i : Int) ≤ (n : Int) := by omega
  have t3 : ((i : Int) == (n : Int)) = false := beq_eq_false_iff_ne.2 (by omega)
  have t4 : (n : Int) + 1 ≤ (cap : Int) := by omega
  have t5 : (i : Int) + 1 ≤ (n : Int) + 1 := by omega
  have t6 : ¬ cap = i + 1 := by omega
  have t7 : (i : Int) + 1 ≤ (cap : Int) := by omega
  have t8 : (i : Int) ≤ (n : Int) + 1 := by omega
  go_enter Tryz.func131, Tryz.ntmps131
  go_wp2_with fail
  have q0 : (0 : Int) ≤ (i : Int) + 1 := by omega
  have q1 : IntKind.i64.wrap ((i : Int) + 1) = (i : Int) + 1 := IntWalk.i64_in _ (by omega)
  have q2 : ((i : Int) + 1).toNat = i + 1 := by omega
  go_still_tail 8, (by kernel_rfl)
  clear q0 q1 q2
  change wpList _ _ _ _ _ w.drew
  have C3 : Hid (w.drew.heap[g]? = some (.cells cells.toArray 170 (0, 0))) := C1.out
  have G3 : Hid (w.grownBy w.drew none) := ⟨rfl, rfl, rfl, Nat.le_refl _, fun _ _ _ => rfl⟩
  have D3 : Hid (∀ j u, (C.drop (i * 2))[j]? = some u → w.drew.cell? ((⟨g, i * 2, none⟩ : Addr).add j) = some u) := fun j u hj => by
    rw [List.getElem?_drop] at hj
    rw [Addr.add_lit]
    exact hC _ _ hj
  have N3 : Hid (∀ j u, M[j]? = some u → w.drew.cell? ((⟨gv, 0, none⟩ : Addr).add j) = some u) := hnews
  have hgv : gv < w.heap.size := by
    have := hnews 0 (M[0]'(by rw [HMl.out]; decide)) (List.getElem?_eq_getElem _)
    exact World.block_lt_of_cell? w _ this
  clear hC hnews
  have hmin : Nat.min (n + 1 - i) (n - i) = n - i := Nat.min_eq_right (by omega)
  have L3 : Hid ((C.drop (i * 2)).length = Nat.min (n + 1 - i) (n - i) * 2) := by
    show _ = _
    rw [hmin, List.length_drop, HCl.out]; omega
  have F3 : Hid ((i + 1) * 2 + (C.drop (i * 2)).length ≤ cells.length) := by
    show _ ≤ _
    rw [List.length_drop, HCl.out, K1.out]; omega
  have one3 : ∀ u ∈ C.drop (i * 2), u.oneCell' = true := fun u hu => one1 u (List.mem_of_mem_drop hu)
  clear hmin
  have hz3 : gv < w.drew.heap.size := hgv
  generalize hD : C.drop (i * 2) = D at *
  have HD := Lib.hid hD
  clear hD
  generalize w.drew = w3 at *
  refine wpList_copyN rfl (.tmp 73) (.tmp 76) 109 109 rfl 170 2 Tryz.underlying109 mkInfo2 _ _ _ _ _ _ rfl rfl g ((i + 1) * 2) cells 170 C3.out D L3.out (fun _ => ⟨rfl, _, rfl, D3.out⟩) F3.out one3 ?_
  intro w4 C4 g4 _
  have G4 := Lib.hid (grown_trans (row := some g) ⟨G3.out.os, G3.out.tape, G3.out.output, G3.out.size, fun k hk _ => G3.out.block k hk (by simp)⟩ g4)
  have N4 : Hid (∀ j u, M[j]? = some u → w4.cell? ((⟨gv, 0, none⟩ : Addr).add j) = some u) := fun j u hj => by
    have h0 := N3.out j u hj
    rw [Addr.add_lit] at h0 ⊢
    exact (World.cell?_of_block (w := w3) (a := ⟨gv, 0 + j, none⟩) (g4.block gv hz3 (by simpa using hne))).trans h0
  have n1 : Nat.min 1 (n + 1 - i) = 1 := Nat.min_eq_left (by omega)
  have L4 : Hid (M.length = Nat.min 1 (n + 1 - i) * 2) := by show _ = _; rw [n1, HMl.out]
  have F4 : Hid (i * 2 + M.length ≤ (splice cells ((i + 1) * 2) D).length) := by show _ ≤ _; rw [length_splice _ _ _ F3.out, HMl.out, K1.out]; omega
  clear g4 n1
  generalize hS : splice cells ((i + 1) * 2) D = S at *
  have HS := Lib.hid hS
  clear hS
  go_wp2_with (with_reducible refine wpList_copyN rfl (.tmp 80) (.tmp 81) 109 109 rfl 170 2 Tryz.underlying109 mkInfo2 _ _ _ _ _ _ rfl rfl g (i * 2) S 170 C4.out M L4.out (fun _ => ⟨rfl, _, rfl, N4.out⟩) F4.out one2 ?_)
  intro w5 C5 g5 _
  have G5 := Lib.hid (grown_trans G4.out g5)
  clear g5
  go_wp2_with fail
  go_ret
  have hDl : D.length = (n - i) * 2 := by rw [← HD.out, List.length_drop, HCl.out]; omega
  have hSl : S.length = cap * 2 := by rw [← HS.out, length_splice _ _ _ F3.out, K1.out]
  have hCl := HCl.out
  have hMl := HMl.out
  have hcl := K1.out
  have hRl : R.length = (n + 1) * 2 := by rw [HF.out, List.length_append, List.length_append, List.length_take]; omega
  refine ⟨_, rfl, G5.out, hRl, .inr ⟨g, cap, _, rfl, hbg, C5.out, by omega, by simpa [maxLen] using hcm, ?_, ?_⟩⟩
  · rw [List.size_toArray, length_splice _ _ _ F4.out, hSl]
  · show (splice S (i * 2) M).take ((n + 1) * 2) = R
    have e0 : S.take (i * 2) = C.take (i * 2) := by
      rw [← HS.out, ← K2.out, List.take_take, Nat.min_eq_left (by omega)]
      have := splice_take (L := cells) (zs := D) (off := (i + 1) * 2) (by omega)
      have h2 := congrArg (List.take (i * 2)) this
      rw [List.take_take, List.take_take, Nat.min_eq_left (by omega)] at h2
      exact h2
    have e1 : (S.drop (i * 2 + M.length)).take D.length = D := by
      rw [← HS.out, splice, show i * 2 + M.length = (i + 1) * 2 by omega, List.drop_left' (by rw [List.length_take]; omega), List.take_left' rfl]
    rw [HF.out, splice, e0, show (n + 1) * 2 = (C.take (i * 2)).length + (M.length + D.length) by rw [List.length_take]; omega, List.take_length_add_append, List.take_length_add_append, e1]
end Go.Proofs.YtlihjmfdnkfmfaaGreatDoor
namespace Go.Proofs.YtlihjmfdnkfmfaaGreatDoor
open Go.RowKit

/-- slices.Insert at one mark, all roads -/
theorem insertMk_any (base gv i : Nat) (sv : Value) (xs : List Mk) (m : Mk) (w : World) (h : w.ownsRow base 170 2 sv xs.length (mkCells xs)) (hv : MkAt w gv 0 m) (hgr : RowAt w gv 170 2) (hne : some gv ≠ sv.ownBlock) (hbase : base ≤ w.heap.size) (hsz : (xs.length + 1) * 16 ≤ 140737488355328)
    (hin : i ≤ xs.length) :
    Calls Tryz.prog 131 #[sv, .int .i64 i, .slice (some ⟨gv, 0, none⟩) 1 1] w fun e w' => ∃ v', e = .returned v' ∧ w.grownBy w' sv.ownBlock ∧
      w'.ownsRow base 170 2 v' (insMk xs i m).length (mkCells (insMk xs i m)) := by
  rcases h.2 with ⟨rfl, h0⟩ | ⟨g, cap, cur, rfl, _⟩
  · obtain rfl : xs = [] := List.eq_nil_of_length_eq_zero h0
    obtain rfl : i = 0 := by simpa using hin
    exact insertMk_nil base gv m w hv hbase
  · have hrow := mkAt_of_own h
    rcases Nat.lt_or_ge i xs.length with hlt | hge
    · rw [insMk_len xs i m hin]
      rcases Nat.lt_or_ge cap (xs.length + 1) with hc | hc
      · exact insertMk_grow base g cap gv i xs m w h hv hbase hsz hlt hc
      · exact insertMk_room base g cap gv i xs m w h hv hgr (fun e => hne (by rw [e]; rfl)) hlt hc
    · obtain rfl : i = xs.length := by omega
      rw [insMk_len xs _ m (Nat.le_refl _), insMk_end]
      exact insertMk_end_ base g cap gv xs m w h hv hbase hsz

theorem deleteMk_any (fv sv : Value) (p : Mk → Bool) (base : Nat) (xs : List Mk) (w : World) (h : w.ownsRow base 170 2 sv xs.length (mkCells xs)) (hf : Pred0 fv p) :
    Calls Tryz.prog 130 #[sv, fv] w fun e w' => ∃ v ys, e = .returned v ∧ ys = xs.filter (fun x => !p x) ∧ w.grownBy w' sv.ownBlock ∧ v.ownBlock = sv.ownBlock ∧
      w'.ownsRow base 170 2 v ys.length (mkCells ys) := by
  rcases h.2 with ⟨rfl, h0⟩ | ⟨g, cap, cur, rfl, _⟩
  · obtain rfl : xs = [] := List.eq_nil_of_length_eq_zero h0
    have hidx := indexFunc_any fv (.slice none 0 0) p (fun _ => False) [] w (Sl.nil none 0) (hf.at w)
    obtain ⟨f, fst, cp, rfl, eg, hp⟩ := hf
    have hi : idxOf p [] = -1 := rfl
    rw [hi] at hidx
    clear h h0 hp hi
    go_enter Tryz.func130, Tryz.ntmps130
    go_wp2_with fail
    refine Calls.mono hidx ?_
    rintro e w' ⟨rfl, hb'⟩
    go_wp2_with fail
    go_ret
    exact ⟨_, [], rfl, rfl, grown_of_bel hb' _, rfl, World.ownsRow_nil _ _ _ _⟩
  · refine (deleteMk_row fv p base g cap xs w h hf).mono ?_
    rintro e w' ⟨ys, rfl, hy, hg, ho⟩
    exact ⟨_, ys, rfl, hy, hg, rfl, ho⟩

/-- the closure of Add -/
theorem add1_any (x m : Mk) (A : Nat) (w : World) (h0 : w.cell? ⟨A, 0, none⟩ = some (.int .i64 m.t)) (h1 : w.cell? ⟨A, 1, none⟩ = some (.int .i64 m.u)) :
    Calls Tryz.prog 127 #[.agg #[.int .i64 x.t, .int .i64 x.u], .pointer (some ⟨A, 0, none⟩)] w fun e w' => e = .returned (.bool (domB x m)) ∧ Below w.heap.size w w' := by
  have l0 : A < w.heap.size := World.block_lt_of_cell? w _ h0
  have hd := fun W => dominates_any x m W
  have hb : Below w.heap.size w (w.alloc (.cells #[.int .i64 x.t, .int .i64 x.u] 170)) := bel_alloc (Below.refl _ _) _
  go_enter Tryz.func127, Tryz.ntmps127
  go_wp2_with fail
  refine Calls.mono (hd _) ?_
  rintro e w' ⟨rfl, hb'⟩
  go_wp2_with fail
  go_ret
  exact ⟨rfl, bel_trans hb hb'⟩

theorem dom_pred0 (m : Mk) : Pred0 (.func (.func 128) #[.agg #[.int .i64 m.t, .int .i64 m.u]] #[]) (domB m) :=
  ⟨_, _, _, rfl, enters_of Tryz.func128 (by kernel_rfl) rfl, fun W x => dominates_any m x W⟩
end Go.Proofs.YtlihjmfdnkfmfaaGreatDoor
namespace Go.Proofs.YtlihjmfdnkfmfaaGreatDoor
open Go.RowKit

theorem own_lower {w : World} {base base' : Nat} {e : TypeId} {size n : Nat} {v : Value} {xs : List Value} (h : w.ownsRow base e size v n xs) (hb : base' ≤ base) : w.ownsRow base' e size v n xs := by
  obtain ⟨h1, h2⟩ := h
  refine ⟨h1, ?_⟩
  rcases h2 with h2 | ⟨g, cap, cur, e, hg, r⟩
  · exact .inl h2
  · exact .inr ⟨g, cap, cur, e, Nat.le_trans hb hg, r⟩
theorem own_base {w : World} {base : Nat} {e : TypeId} {size n : Nat} {v : Value} {xs : List Value} (h : w.ownsRow base e size v n xs) : ∀ k, v.ownBlock = some k → base ≤ k := fun k hk => (h.lt k hk).1

/-- where a mark stands among others -/
def placeMk (xs : List Mk) (m : Mk) : Nat := (xs.findIdx fun x => decide (x.t ≤ m.t))
/-- what Add does: the marks, what went wrong -/
def addMk (xs : List Mk) (m : Mk) : List Mk × Int :=
  if mayB xs && mayB [m] then
    if xs.any (fun x => domB x m) then (xs, 0)
    else
      let ys := xs.filter (fun x => !domB m x)
      let zs := insMk ys (placeMk ys m) m
      if zs.length ≤ 8 then (zs, 0) else ([], 17)
  else ([], 4)

def AddPost (w : World) (r : List Mk × Int) (e : Ending) (w' : World) : Prop :=
  ∃ v, e = .returned (.tuple #[v, .int .i64 r.2]) ∧ Below w.heap.size w w' ∧ w'.ownsRow w.heap.size 170 2 v r.1.length (mkCells r.1)

theorem mayB_len {xs : List Mk} (h : mayB xs = true) : xs.length ≤ 8 := by
  unfold mayB at h; simp at h; exact h.2

/-- a slice of one mark that was just built -/
theorem sl_one {w : World} {B : Nat} {m : Mk} (h0 : w.cell? ⟨B, 0, none⟩ = some (.int .i64 m.t)) (h1 : w.cell? ⟨B, 1, none⟩ = some (.int .i64 m.u)) : Sl mkTy w (fun _ => True) (.slice (some ⟨B, 0, none⟩) 1 1) [m] := by
  refine .inr ⟨B, 0, 1, rfl, trivial, Nat.le_refl _, by decide, [.int .i64 m.t, .int .i64 m.u], Chunks.single (T := mkTy) rfl, fun j u hj => ?_⟩
  rw [Nat.zero_add]
  rcases j with _ | _ | j
  · rw [← hj]; exact h0
  · rw [← hj]; exact h1
  · simp at hj

set_option maxRecDepth 100000 in
set_option maxHeartbeats 1000000 in
theorem add_no (sv : Value) (F : Nat → Prop) (xs : List Mk) (m : Mk) (w : World) (hs : Sl mkTy w F sv xs) (hm : (mayB xs && mayB [m]) = false) :
    Calls Tryz.prog 83 #[sv, .agg #[.int .i64 m.t, .int .i64 m.u]] w (AddPost w ([], 4)) := by
  have hmay := fun (V : World) (hV : Below w.heap.size w V) => may_any sv F xs V (hs.below hV)
  cases h1 : mayB xs with
  | false =>
    rw [h1] at hmay
    clear h1 hm hs
    go_enter Tryz.func83, Tryz.ntmps83
    go_wp2_with fail
    refine Calls.mono (hmay _ (bel_alloc (Below.refl _ _) _)) ?_
    rintro e w' ⟨rfl, hb'⟩
    go_wp2_with fail
    go_ret2
    exact ⟨_, rfl, bel_trans (bel_alloc (Below.refl _ _) _) hb', World.ownsRow_nil _ _ _ _⟩
  | true =>
    rw [h1] at hmay hm
    have h2 : mayB [m] = false := by simpa using hm
    have hmay2 := fun (V : World) (B : Nat) h0 h1 => may_any _ _ [m] V (sl_one (B := B) h0 h1)
    rw [h2] at hmay2
    clear h1 hm h2 hs
    go_enter Tryz.func83, Tryz.ntmps83
    go_wp2_with fail
    refine Calls.mono (hmay _ (bel_alloc (Below.refl _ _) _)) ?_
    rintro e w' ⟨rfl, hb'⟩
    have c0 : w'.cell? ⟨w.heap.size, 0, none⟩ = some (.int .i64 m.t) := cell_later' hb' (by simp)
    have c1 : w'.cell? ⟨w.heap.size, 1, none⟩ = some (.int .i64 m.u) := cell_later' hb' (by simp)
    have hbw := bel_trans (bel_alloc (Below.refl _ w) _) hb'
    have hz := hbw.size
    have hz2 : w.heap.size < w'.heap.size := World.block_lt_of_cell? _ _ c0
    clear hb'
    go_wp2_with fail
    refine Calls.mono (hmay2 _ _ (by simp) (by simp)) ?_
    rintro e w'' ⟨rfl, hb''⟩
    go_wp2_with fail
    go_ret2
    exact ⟨_, rfl, bel_trans (bel_alloc hbw _) hb'', World.ownsRow_nil _ _ _ _⟩
end Go.Proofs.YtlihjmfdnkfmfaaGreatDoor
