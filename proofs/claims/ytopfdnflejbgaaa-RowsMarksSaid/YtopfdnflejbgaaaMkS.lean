/- Marks: the walk of the document's Add. -/
import Derived.Test.YtopfdnflejbgaaaMkR
namespace Go.Proofs.Ytopfdnflejbgaaa
open Go.RowKit

set_option maxHeartbeats 1000000 in
theorem refAdd_no (sv : Value) (F : Nat → Prop) (xs : List Mk) (m : Mk) (w : World) (hs : Sl mkTy w F sv xs) (hm : (mayB xs && mayB [m]) = false) :
    Calls Try.prog 7 #[sv, .agg #[.int .i64 m.t, .int .i64 m.u]] w (RefPost w ([], 4)) := by
  have hmay := fun (V : World) (hV : Below w.heap.size w V) => refMay_any sv F xs V (hs.below hV)
  cases h1 : mayB xs with
  | false =>
    rw [h1] at hmay
    clear h1 hm hs
    go_enter Try.func7, Try.ntmps7
    go_wp2_with fail
    refine Calls.mono (hmay _ (bel_alloc (Below.refl _ _) _)) ?_
    rintro e w' ⟨rfl, hb'⟩
    go_wp2_with fail
    go_ret2
    exact ⟨_, rfl, bel_trans (bel_alloc (Below.refl _ _) _) hb', World.ownsRow_nil _ _ _ _⟩
  | true =>
    rw [h1] at hmay hm
    have h2 : mayB [m] = false := by simpa using hm
    have hmay2 := fun (V : World) (B : Nat) h0 h1 => refMay_any _ _ [m] V (sl_one (B := B) h0 h1)
    rw [h2] at hmay2
    clear h1 hm h2 hs
    go_enter Try.func7, Try.ntmps7
    go_wp2_with fail
    refine Calls.mono (hmay _ (bel_alloc (Below.refl _ _) _)) ?_
    rintro e w' ⟨rfl, hb'⟩
    have c0 : w'.cell? ⟨w.heap.size, 0, none⟩ = some (.int .i64 m.t) := cell_later' hb' (by simp)
    have c1 : w'.cell? ⟨w.heap.size, 1, none⟩ = some (.int .i64 m.u) := cell_later' hb' (by simp)
    have hbw := bel_trans (bel_alloc (Below.refl _ w) _) hb'
    have hz := hbw.size
    have hz2 : w.heap.size < w'.heap.size := World.block_lt_of_cell? _ _ c0
    clear hb'
    go_wp2_with fail
    refine Calls.mono (hmay2 _ _ (by simp) (by simp)) ?_
    rintro e w'' ⟨rfl, hb''⟩
    go_wp2_with fail
    go_ret2
    exact ⟨_, rfl, bel_trans (bel_alloc hbw _) hb'', World.ownsRow_nil _ _ _ _⟩
/-- all that an append of one mark wants -/
def AppR (base : Nat) (v : Value) (ys : List Mk) (M : List Value) (blk : Nat) (W : World) : Prop :=
  W.ownsRow base 33 2 v ys.length (mkCells ys) ∧ (∀ j u, M[j]? = some u → W.cell? ((⟨blk, 0, none⟩ : Addr).add j) = some u) ∧ ys.length + 1 ≤ maxLen ∧ (ys.length + 1) * 16 ≤ 140737488355328 ∧ base ≤ W.heap.size ∧ M.length = 1 * 2 ∧ (∀ u ∈ M, u.oneCell' = true)
theorem appR (base : Nat) {v : Value} {ys : List Mk} (m : Mk) {w : World} (h : w.ownsRow base 33 2 v ys.length (mkCells ys)) (hb : base ≤ w.heap.size) (hl : ys.length ≤ 1000) :
    AppR base v ys (mkCells [m]) w.heap.size (w.alloc (.cells #[.int .i64 m.t, .int .i64 m.u] 33)) := by
  have hbb : Below w.heap.size w (w.alloc (.cells #[.int .i64 m.t, .int .i64 m.u] 33)) := bel_alloc (Below.refl _ _) _
  exact ⟨own_later h hbb, mk1_news ⟨cell_new w _ _ 0 _ rfl, cell_new w _ _ 1 _ rfl⟩, by simp only [maxLen]; omega, by omega, Nat.le_trans hb hbb.size, mkCells_len [m], (mkCells_chunks w (fun _ => True) [m]).one⟩

def RefRel (w : World) (xs : List Mk) (m : Mk) (k : Nat) (out : List Mk) (laid : Bool) (v6 : Value) (wr : World) : Prop :=
  Below w.heap.size w wr ∧ wr.ownsRow w.heap.size 33 2 v6 out.length (mkCells out) ∧ RefInv xs m k out laid ∧ (∀ j y, j < k → xs[j]? = some y → domB y m = false) ∧
    wr.cell? ⟨w.heap.size, 0, none⟩ = some (.int .i64 m.t) ∧ wr.cell? ⟨w.heap.size, 1, none⟩ = some (.int .i64 m.u) ∧ v6.ownBlock ≠ some w.heap.size

theorem own_slice {w : World} {base : Nat} {e : TypeId} {size n : Nat} {v : Value} {xs : List Value} (h : w.ownsRow base e size v n xs) : ∃ A c, v = .slice A n c := by
  rcases h.2 with ⟨rfl, rfl⟩ | ⟨g, cap, cur, rfl, _⟩
  · exact ⟨_, _, rfl⟩
  · exact ⟨_, _, rfl⟩
/-- a round's end behind an append -/
theorem refRel_app {w w6 W w8 : World} {xs out : List Mk} {m x : Mk} {k : Nat} {laid : Bool} {v6 v8 : Value} {C : Array Value} (hb : Below w.heap.size w w6) (hm0 : w6.cell? ⟨w.heap.size, 0, none⟩ = some (.int .i64 m.t)) (hm1 : w6.cell? ⟨w.heap.size, 1, none⟩ = some (.int .i64 m.u))
    (ho : w6.ownsRow w.heap.size 33 2 v6 out.length (mkCells out)) (hne : v6.ownBlock ≠ some w.heap.size) (hW : Below w6.heap.size w6 W)
    (ho8 : w8.ownsRow w.heap.size 33 2 v8 (out.length + 1) (mkCells out ++ mkCells [x])) (hg8 : (W.alloc (.cells C 33)).grownBy w8 v6.ownBlock) (hv8 : v8.ownBlock = v6.ownBlock ∨ v8.ownBlock = some (W.heap.size + 1))
    (hinv : RefInv xs m k (out ++ [x]) laid) (hnd : ∀ j y, j < k → xs[j]? = some y → domB y m = false) : RefRel w xs m k (out ++ [x]) laid v8 w8 := by
  have hWa : Below w6.heap.size w6 (W.alloc (.cells C 33)) := bel_alloc hW _
  have hz : w.heap.size < w6.heap.size := World.block_lt_of_cell? _ _ hm0
  refine ⟨bel_grown (bel_trans hb hWa) hg8 (own_base ho), ?_, hinv, hnd, ?_, ?_, ?_⟩
  · rw [List.length_append, mkCells_append]; exact ho8
  · exact hg8.cell (cell_later' hWa hm0) (fun e => hne e.symm)
  · exact hg8.cell (cell_later' hWa hm1) (fun e => hne e.symm)
  · rcases hv8 with e | e
    · rw [e]; exact hne
    · rw [e]; intro e2
      have := Option.some.inj e2
      have := hW.size
      omega

set_option maxHeartbeats 4000000 in
theorem refAdd_yes (sv : Value) (F : Nat → Prop) (xs : List Mk) (m : Mk) (w : World) (hs : Sl mkTy w F sv xs) (h1 : mayB xs = true) (h2 : mayB [m] = true) :
    Calls Try.prog 7 #[sv, .agg #[.int .i64 m.t, .int .i64 m.u]] w (RefPost w (addMk xs m)) := by
  obtain ⟨i0, hi, hz0, hz1, hz2⟩ := info_parts refInfo
  have hmay := fun (V : World) (hV : Below w.heap.size w V) => refMay_any sv F xs V (hs.below hV)
  rw [h1] at hmay
  have hmay2 := fun (V : World) (B : Nat) h0 h1 => refMay_any _ _ [m] V (sl_one (B := B) h0 h1)
  rw [h2] at hmay2
  have hlen := mayB_len h1
  have hA0 : (∃ (j : Nat) (y : Mk), xs[j]? = some y ∧ domB y m = true) → addMk xs m = (xs, 0) := by
    rintro ⟨j, y, hj, hd⟩
    have : xs.any (fun x => domB x m) = true := List.any_eq_true.2 ⟨y, List.mem_of_getElem? hj, hd⟩
    simp [addMk, h1, h2, this]
  have hA1 : (∀ (j : Nat) (y : Mk), j < xs.length → xs[j]? = some y → domB y m = false) → addMk xs m = if (insMk (xs.filter (fun x => !domB m x)) (placeMk (xs.filter (fun x => !domB m x)) m) m).length ≤ 8 then (insMk (xs.filter (fun x => !domB m x)) (placeMk (xs.filter (fun x => !domB m x)) m) m, 0) else ([], 17) := by
    intro h
    have : xs.any (fun x => domB x m) = false := by
      rw [List.any_eq_false]
      intro x hx
      obtain ⟨j, hj, rfl⟩ := List.mem_iff_getElem.1 hx
      have := h j xs[j] hj (List.getElem?_eq_getElem _)
      simp [this]
    simp [addMk, h1, h2, this]
  have hopen := hs.open
  obtain ⟨A, c, rfl, hn63, hel⟩ := sl_cells hs
  clear h1 h2 hs
  have HA0 := Lib.hid hA0; have HA1 := Lib.hid hA1; have Hel := Lib.hid hel; have Hop := Lib.hid hopen
  clear hA0 hA1 hel hopen
  generalize hn : xs.length = n at *
  have Hn := Lib.hid hn; clear hn
  go_enter Try.func7, Try.ntmps7
  go_wp2_with fail
  refine Calls.mono (hmay _ (bel_alloc (Below.refl _ _) _)) ?_
  rintro e w1 ⟨rfl, hb1⟩
  have c0 : w1.cell? ⟨w.heap.size, 0, none⟩ = some (.int .i64 m.t) := cell_later' hb1 (by simp)
  have c1 : w1.cell? ⟨w.heap.size, 1, none⟩ = some (.int .i64 m.u) := cell_later' hb1 (by simp)
  have hbw := bel_trans (bel_alloc (Below.refl _ w) _) hb1
  have hz2' : w.heap.size < w1.heap.size := World.block_lt_of_cell? _ _ c0
  clear hb1
  go_wp2_with fail
  refine Calls.mono (hmay2 _ _ (by simp) (by simp)) ?_
  rintro e w2 ⟨rfl, hb2⟩
  have hb2' : Below w1.heap.size w1 w2 := bel_trans (bel_alloc (Below.refl _ _) _) hb2
  have d0 := cell_later' hb2' c0
  have d1 := cell_later' hb2' c1
  have hbw2 := bel_trans hbw hb2'
  clear hb2 hb2' c0 c1 hbw hz2' hmay hmay2
  go_wp2_with fail
  go_loopg [6, 7, 8] n (fun gg s6 s7 s8 wr => ∃ (k : Nat) (out : List Mk) (laid : Bool), k ≤ n ∧ n - k ≤ gg ∧ s8 = .int .i64 k ∧ s7 = .bool laid ∧ RefRel w xs m k out laid s6 wr)
  case atStart => exact ⟨0, [], false, Nat.zero_le _, by omega, rfl, rfl, hbw2, World.ownsRow_nil _ _ _ _, RefInv.zero _ _, fun j y hj => absurd hj (Nat.not_lt_zero _), d0, d1, by simp [Value.ownBlock]⟩
  case round =>
    obtain ⟨k, out, laid, hk, hgg, rfl, rfl, hbr, hoO, hinv, hnd, m0, m1, hne⟩ := hrel
    clear d0 d1
    have hol := hinv.len
    have hzr : w.heap.size < wr.heap.size := World.block_lt_of_cell? _ _ m0
    by_cases hlt : k < n
    · have hltz : (k : Int) < (n : Int) := by omega
      obtain ⟨x, hx⟩ : ∃ x, xs[k]? = some x := get_ex (by have := Hn.out; omega)
      obtain ⟨b, o, rfl, l0, l1⟩ := Hel.out k x hx
      have r0 := cell_later' hbr l0
      have r1 := cell_later' hbr l1
      have hbw0 : b < w.heap.size := World.block_lt_of_cell? _ _ l0
      have HX := Lib.hid hx; have HO := Lib.hid hoO; have HI := Lib.hid hinv; have HN := Lib.hid hnd; have HE := Lib.hid hne
      clear hx hoO hinv hnd hne
      have hdx := fun W => refDom_any x m W
      have hdm := fun W => refDom_any m x W
      cases hd1 : domB x m with
      | true =>
        rw [hd1] at hdx
        have H1 := Lib.hid hd1
        clear hd1 hdm
        go_wp2_with fail
        go_still_tail 5, (by kernel_rfl)
        change wpList _ _ _ _ _ wr.drew
        go_wp2_with fail
        refine Calls.mono (hdx _) ?_
        rintro e w5 ⟨rfl, hb5⟩
        have hbw5 := bel_trans hbr (bel_trans (bel_drew (Below.refl _ _)) hb5)
        have hsrc : ∀ j u, (mkCells xs)[j]? = some u → (w5.alloc (.cells #[] 33)).cell? ((⟨b, o, none⟩ : Addr).add j) = some u := by
          rcases Hop.out with ⟨he, _⟩ | ⟨ad, c', cs, he, hch, hcc⟩
          · have := HX.out; rw [he] at this; simp at this
          · obtain ⟨rfl, _⟩ : (⟨b, o, none⟩ : Addr) = ad ∧ _ := by simpa using he
            rw [← mkCells_of_chunks hch]
            exact fun j u hj => cell_later' (bel_alloc hbw5 _) (hcc j u hj)
        have hown0 : (w5.alloc (.cells #[] 33)).ownsRow w.heap.size 33 2 (.slice (some ⟨w5.heap.size, 0, none⟩) 0 0) 0 [] := World.ownsRow_made w5 #[] 0 hbw5.size (by decide) (by simp)
        have one1 : ∀ u ∈ mkCells xs, u.oneCell' = true := (mkCells_chunks w (fun _ => True) xs).one
        have hCl : (mkCells xs).length = n * 2 := by rw [mkCells_len, Hn.out]
        have s1 : 0 + n ≤ maxLen := by simp only [maxLen]; omega
        have s2 : (0 + n) * 16 ≤ 140737488355328 := by omega
        have s3 : w.heap.size ≤ (w5.alloc (.cells #[] 33)).heap.size := (bel_alloc hbw5 _).size
        have SR := Lib.hid hsrc; have O0 := Lib.hid hown0; have CL := Lib.hid hCl; have S1 := Lib.hid s1; have S2 := Lib.hid s2; have S3 := Lib.hid s3
        clear hsrc hown0 hCl s1 s2 s3 hb5
        generalize hC : mkCells xs = C at *
        have HC := Lib.hid hC
        clear hC
        go_wp2_with (at_builtin; refine wpList_append_ownB rfl _ _ 29 rfl w.heap.size 33 i0 (.agg #[.int .i64 0, .int .i64 0]) 2 16 Try.underlying29 hi hz0 hz1 hz2 rfl (by decide) _ _ _ rfl O0.out ⟨b, o, none⟩ n c C rfl CL.out SR.out one1 S1.out S2.out S3.out ?_)
        intro v6 w6 ho6 hg6 hv6
        have Ho6 := Lib.hid ho6
        have hb6 : Below w.heap.size w w6 := bel_grown (bel_alloc hbw5 _) hg6 (own_base O0.out)
        clear ho6 hv6 hg6
        go_wp2_with fail
        go_ret2
        rw [HA0.out ⟨k, x, HX.out, H1.out⟩]
        refine ⟨_, rfl, hb6, ?_⟩
        show World.ownsRow _ _ _ _ _ xs.length (mkCells xs)
        rw [Hn.out, HC.out]
        have := Ho6.out
        simpa using this
      | false =>
        rw [hd1] at hdx
        have H1 := Lib.hid hd1
        clear hd1
        go_wp2_with fail
        go_still_tail 5, (by kernel_rfl)
        change wpList _ _ _ _ _ wr.drew
        go_wp2_with fail
        refine Calls.mono (hdx _) ?_
        rintro e w5 ⟨rfl, hb5⟩
        have hb5' : Below wr.heap.size wr w5 := bel_trans (bel_drew (Below.refl _ _)) hb5
        have p0 := cell_later' hb5' r0
        have p1 := cell_later' hb5' r1
        have n0 := cell_later' hb5' m0
        have n1 := cell_later' hb5' m1
        clear hb5
        have hnd' : Hid (∀ j y, j < k + 1 → xs[j]? = some y → domB y m = false) := by
          intro j y hj hy
          rcases Nat.lt_or_ge j k with h | h
          · exact HN.out j y h hy
          · obtain rfl : j = k := by omega
            obtain rfl := Option.some.inj (HX.out.symm.trans hy)
            exact H1.out
        have hz5 : w.heap.size < w5.heap.size := World.block_lt_of_cell? _ _ n0
        have hbw5 : b < w5.heap.size := World.block_lt_of_cell? _ _ p0
        cases hd2 : domB m x with
        | true =>
          rw [hd2] at hdm
          have H2 := Lib.hid hd2
          clear hd2 hdx
          go_wp2_with fail
          go_still_tail 5, (by kernel_rfl)
          change wpList _ _ _ _ _ w5.drew
          go_wp2_with fail
          refine Calls.mono (hdm _) ?_
          rintro e w6 ⟨rfl, hb6⟩
          have hb6' : Below wr.heap.size wr w6 := bel_trans hb5' (bel_trans (bel_drew (Below.refl _ _)) hb6)
          clear hb6
          go_wp2_with fail
          go_roundg (n - (k + 1))
          case measure => omega
          case rel =>
            exact ⟨k + 1, out, laid, by omega, by omega, by go_num, rfl, bel_trans hbr hb6', own_later HO.out hb6', HI.out.skip HX.out H2.out, hnd'.out, cell_later' hb6' m0, cell_later' hb6' m1, HE.out⟩
        | false =>
          rw [hd2] at hdm
          have H2 := Lib.hid hd2
          clear hd2 hdx
          go_wp2_with fail
          go_still_tail 5, (by kernel_rfl)
          change wpList _ _ _ _ _ w5.drew
          go_wp2_with fail
          refine Calls.mono (hdm _) ?_
          rintro e w6 ⟨rfl, hb6⟩
          have hb56 : Below w5.heap.size w5 w6 := bel_trans (bel_drew (Below.refl _ _)) hb6
          have hb6' : Below wr.heap.size wr w6 := bel_trans hb5' hb56
          have u0 := cell_later' hb56 p0
          have u1 := cell_later' hb56 p1
          have v0 := cell_later' hb56 n0
          have v1 := cell_later' hb56 n1
          clear hb6
          have hb6w : Hid (Below w.heap.size w w6) := bel_trans hbr hb6'
          have HO6 := Lib.hid (own_later HO.out hb6')
          have hz6 : w.heap.size < w6.heap.size := World.block_lt_of_cell? _ _ v0
          clear hb5' hb56 n0 n1 p0 p1 hz5 hbw5 m0 m1 r0 r1
          have hbw6 : b < w6.heap.size := World.block_lt_of_cell? _ _ u0
          cases laid with
          | true =>
            go_wp2_with fail
            go_quiet (fail)
            have hap := appR w.heap.size x (w := w6.drewN nq) (own_later HO6.out (bel_drewN (Below.refl _ _) nq)) hb6w.out.size (by omega)
            have AP := Lib.hid hap
            clear hap
            go_wp2_with (at_builtin; refine wpList_append_ownB rfl _ _ 29 rfl w.heap.size 33 i0 (.agg #[.int .i64 0, .int .i64 0]) 2 16 Try.underlying29 hi hz0 hz1 hz2 rfl (by decide) _ _ _ rfl AP.out.1 ⟨w6.heap.size, 0, none⟩ 1 1 _ rfl AP.out.2.2.2.2.2.1 AP.out.2.1 AP.out.2.2.2.2.2.2 AP.out.2.2.1 AP.out.2.2.2.1 AP.out.2.2.2.2.1 ?_)
            intro v8 w8 ho8 hg8 hv8
            have Ho8 := Lib.hid ho8; have Hv8 := Lib.hid hv8; have Hg8 := Lib.hid hg8
            clear ho8 hv8 hg8
            go_wp2_with fail
            go_roundg (n - (k + 1))
            case measure => omega
            case rel =>
              exact ⟨k + 1, out ++ [x], true, by omega, by omega, by go_num, rfl, refRel_app hb6w.out v0 v1 HO6.out HE.out (bel_drewN (Below.refl _ _) nq) Ho8.out Hg8.out Hv8.out (HI.out.late HX.out H2.out) hnd'.out⟩
          | false =>
            cases ht : decide (x.t < m.t) with
            | false =>
              have HT := Lib.hid ht
              go_wp2_with fail
              go_quiet (fail)
              have hap := appR w.heap.size x (w := w6.drewN nq) (own_later HO6.out (bel_drewN (Below.refl _ _) nq)) hb6w.out.size (by omega)
              have AP := Lib.hid hap
              clear hap
              go_wp2_with (at_builtin; refine wpList_append_ownB rfl _ _ 29 rfl w.heap.size 33 i0 (.agg #[.int .i64 0, .int .i64 0]) 2 16 Try.underlying29 hi hz0 hz1 hz2 rfl (by decide) _ _ _ rfl AP.out.1 ⟨w6.heap.size, 0, none⟩ 1 1 _ rfl AP.out.2.2.2.2.2.1 AP.out.2.1 AP.out.2.2.2.2.2.2 AP.out.2.2.1 AP.out.2.2.2.1 AP.out.2.2.2.2.1 ?_)
              intro v8 w8 ho8 hg8 hv8
              have Ho8 := Lib.hid ho8; have Hv8 := Lib.hid hv8; have Hg8 := Lib.hid hg8
              clear ho8 hv8 hg8
              go_wp2_with fail
              go_roundg (n - (k + 1))
              case measure => omega
              case rel =>
                exact ⟨k + 1, out ++ [x], false, by omega, by omega, by go_num, rfl, refRel_app hb6w.out v0 v1 HO6.out HE.out (bel_drewN (Below.refl _ _) nq) Ho8.out Hg8.out Hv8.out (HI.out.before HX.out H2.out H1.out (of_decide_eq_false HT.out)) hnd'.out⟩
            | true =>
              have HT := Lib.hid ht
              go_wp2_with fail
              go_quiet (fail)
              have hap := appR w.heap.size m (w := w6.drewN nq) (own_later HO6.out (bel_drewN (Below.refl _ _) nq)) hb6w.out.size (by omega)
              have AP := Lib.hid hap
              clear hap
              go_wp2_with (at_builtin; refine wpList_append_ownB rfl _ _ 29 rfl w.heap.size 33 i0 (.agg #[.int .i64 0, .int .i64 0]) 2 16 Try.underlying29 hi hz0 hz1 hz2 rfl (by decide) _ _ _ rfl AP.out.1 ⟨w6.heap.size, 0, none⟩ 1 1 _ rfl AP.out.2.2.2.2.2.1 AP.out.2.1 AP.out.2.2.2.2.2.2 AP.out.2.2.1 AP.out.2.2.2.1 AP.out.2.2.2.2.1 ?_)
              intro v7 w7 ho7 hg7 hv7
              have hbb7 : w.heap.size < w7.heap.size := Nat.lt_of_lt_of_le hz6 (Nat.le_trans (bel_alloc (bel_drewN (Below.refl w6.heap.size w6) nq) _).size hg7.size)
              have x0 := hg7.cell (cell_later' (bel_alloc (bel_drewN (Below.refl w6.heap.size w6) nq) _) v0) (fun e => HE.out e.symm)
              have x1 := hg7.cell (cell_later' (bel_alloc (bel_drewN (Below.refl w6.heap.size w6) nq) _) v1) (fun e => HE.out e.symm)
              have y0 := hg7.cell (cell_later' (bel_alloc (bel_drewN (Below.refl w6.heap.size w6) nq) _) u0) (fun e => by have := own_base HO6.out _ e.symm; simp at this; omega)
              have y1 := hg7.cell (cell_later' (bel_alloc (bel_drewN (Below.refl w6.heap.size w6) nq) _) u1) (fun e => by have := own_base HO6.out _ e.symm; simp at this; omega)
              have hE7 : Hid (v7.ownBlock ≠ some w.heap.size) := by
                show _ ≠ _
                rcases hv7 with e | e
                · rw [e]; exact HE.out
                · rw [e]; intro e2; have := Option.some.inj e2; omega
              have hb7 : Hid (Below w.heap.size w w7) := bel_grown (bel_trans hb6w.out (bel_alloc (bel_drewN (Below.refl w6.heap.size w6) nq) _)) hg7 (own_base HO6.out)
              have ho7' : w7.ownsRow w.heap.size 33 2 v7 (out ++ [m]).length (mkCells (out ++ [m])) := by rw [List.length_append, mkCells_append]; exact ho7
              have Ho7 := Lib.hid ho7'
              have hap2 := appR w.heap.size x ho7' hb7.out.size (by rw [List.length_append]; simp; omega)
              have AP2 := Lib.hid hap2
              have hbw7 : b < w7.heap.size := World.block_lt_of_cell? _ _ y0
              clear ho7 hg7 hv7 ho7' hap2
              go_wp2_with (at_builtin; refine wpList_append_ownB rfl _ _ 29 rfl w.heap.size 33 i0 (.agg #[.int .i64 0, .int .i64 0]) 2 16 Try.underlying29 hi hz0 hz1 hz2 rfl (by decide) _ _ _ rfl AP2.out.1 ⟨w7.heap.size, 0, none⟩ 1 1 _ rfl AP2.out.2.2.2.2.2.1 AP2.out.2.1 AP2.out.2.2.2.2.2.2 AP2.out.2.2.1 AP2.out.2.2.2.1 AP2.out.2.2.2.2.1 ?_)
              intro v8 w8 ho8 hg8 hv8
              have Ho8 := Lib.hid ho8; have Hv8 := Lib.hid hv8; have Hg8 := Lib.hid hg8
              clear ho8 hv8 hg8
              go_wp2_with fail
              go_roundg (n - (k + 1))
              case measure => omega
              case rel =>
                exact ⟨k + 1, out ++ [m] ++ [x], true, by omega, by omega, by go_num, rfl, refRel_app hb7.out x0 x1 Ho7.out hE7.out (Below.refl _ _) (by rw [List.length_append]; exact Ho8.out) Hg8.out Hv8.out (HI.out.here HX.out H2.out (of_decide_eq_true HT.out)) hnd'.out⟩
    · have hltz : ¬ (k : Int) < (n : Int) := by omega
      obtain rfl : k = n := by omega
      have hres := HA1.out hnd
      have hfn := RefInv.fin (laid := laid) (by rw [Hn.out]; exact hinv)
      rw [← hfn] at hres
      have HR := Lib.hid hres
      have HO := Lib.hid hoO; have HE := Lib.hid hne
      clear hres hfn hinv hnd hoO hne
      cases laid with
      | true =>
        obtain ⟨A6, c6, rfl, _, _⟩ := own_form HO.out
        have hR2 : Hid (addMk xs m = if out.length ≤ 8 then (out, 0) else ([], 17)) := HR.out
        clear HR
        rcases Nat.lt_or_ge 8 out.length with h8 | h8
        · have h8i : (8 : Int) < (out.length : Int) := by omega
          go_wp2_with fail
          go_ret2
          rw [hR2.out, if_neg (by omega)]
          exact ⟨_, rfl, hbr, World.ownsRow_nil _ _ _ _⟩
        · have h8i : ¬ (8 : Int) < (out.length : Int) := by omega
          go_wp2_with fail
          go_ret2
          rw [hR2.out, if_pos h8]
          exact ⟨_, rfl, hbr, HO.out⟩
      | false =>
        have hR2 : Hid (addMk xs m = if (out ++ [m]).length ≤ 8 then (out ++ [m], 0) else ([], 17)) := HR.out
        clear HR
        have hap := appR w.heap.size m HO.out hbr.size (by omega)
        have AP := Lib.hid hap
        clear hap
        rcases Nat.lt_or_ge 8 (out.length + 1) with h8 | h8
        · have h8i : (8 : Int) < (out.length : Int) + 1 := by omega
          go_wp2_with (at_builtin; refine wpList_append_ownB rfl _ _ 29 rfl w.heap.size 33 i0 (.agg #[.int .i64 0, .int .i64 0]) 2 16 Try.underlying29 hi hz0 hz1 hz2 rfl (by decide) _ _ _ rfl AP.out.1 ⟨wr.heap.size, 0, none⟩ 1 1 _ rfl AP.out.2.2.2.2.2.1 AP.out.2.1 AP.out.2.2.2.2.2.2 AP.out.2.2.1 AP.out.2.2.2.1 AP.out.2.2.2.2.1 ?_)
          intro v7 w7 ho7 hg7 _
          obtain ⟨A7, c7, rfl⟩ := own_slice ho7
          have hb7 : Hid (Below w.heap.size w w7) := bel_grown (bel_alloc hbr _) hg7 (own_base HO.out)
          clear ho7 hg7
          go_wp2_with fail
          go_ret2
          rw [hR2.out, if_neg (by rw [List.length_append]; simp; omega)]
          exact ⟨_, rfl, hb7.out, World.ownsRow_nil _ _ _ _⟩
        · have h8i : ¬ (8 : Int) < (out.length : Int) + 1 := by omega
          go_wp2_with (at_builtin; refine wpList_append_ownB rfl _ _ 29 rfl w.heap.size 33 i0 (.agg #[.int .i64 0, .int .i64 0]) 2 16 Try.underlying29 hi hz0 hz1 hz2 rfl (by decide) _ _ _ rfl AP.out.1 ⟨wr.heap.size, 0, none⟩ 1 1 _ rfl AP.out.2.2.2.2.2.1 AP.out.2.1 AP.out.2.2.2.2.2.2 AP.out.2.2.1 AP.out.2.2.2.1 AP.out.2.2.2.2.1 ?_)
          intro v7 w7 ho7 hg7 _
          obtain ⟨A7, c7, rfl⟩ := own_slice ho7
          have hb7 : Hid (Below w.heap.size w w7) := bel_grown (bel_alloc hbr _) hg7 (own_base HO.out)
          have Ho7 := Lib.hid ho7
          clear ho7 hg7
          go_wp2_with fail
          go_ret2
          rw [hR2.out, if_pos (by rw [List.length_append]; simpa using h8)]
          exact ⟨_, rfl, hb7.out, by rw [List.length_append, mkCells_append]; exact Ho7.out⟩

theorem refAdd_any (sv : Value) (F : Nat → Prop) (xs : List Mk) (m : Mk) (w : World) (hs : Sl mkTy w F sv xs) :
    Calls Try.prog 7 #[sv, .agg #[.int .i64 m.t, .int .i64 m.u]] w (RefPost w (addMk xs m)) := by
  cases h : mayB xs && mayB [m] with
  | false =>
    have e : addMk xs m = ([], 4) := by simp [addMk, h]
    rw [e]; exact refAdd_no sv F xs m w hs h
  | true =>
    have h1 : mayB xs = true := by simp at h; exact h.1
    have h2 : mayB [m] = true := by simp at h; exact h.2
    exact refAdd_yes sv F xs m w hs h1 h2
end Go.Proofs.Ytopfdnflejbgaaa
