/- The law RowsStairs: the walk. -/
import Derived.Test.YtopfdnflejbgaaaMkM
namespace Go.Proofs.Ytopfdnflejbgaaa
open Go.RowKit

def StairRel (w : World) (i : Nat) (ms td : List Mk) (v3 v4 : Value) (wr : World) : Prop :=
  Below w.heap.size w wr ∧ wr.ownsRow w.heap.size 24 2 v3 ms.length (mkCells ms) ∧ wr.ownsRow w.heap.size 24 2 v4 td.length (mkCells td) ∧
  (v3.ownBlock = none ∨ v3.ownBlock ≠ v4.ownBlock) ∧ mayB ms = true ∧ td.length ≤ i ∧ ∀ z, z ∈ td → coveredBy z ms ∧ okOne z = true

theorem own_sl {w : World} {base : Nat} {v : Value} {ms : List Mk} {e : TypeId} (h : w.ownsRow base e 2 v ms.length (mkCells ms)) : Sl mkTy w (fun _ => True) v ms :=
  (own_to_sl (T := mkTy) (F := fun _ => False) h (mkCells_chunks w _ ms)).mono (fun _ _ => trivial)

theorem stair_get {l : List Mk} (h : stair l) {k : Nat} {a x : Mk} (ha : l[k]? = some a) (hx : l[k + 1]? = some x) : x.t < a.t ∧ a.u < x.u := by
  have hk := lt_of_get hx
  have h2 := List.pairwise_iff_getElem.1 h.1 k (k + 1) (by omega) hk (by omega)
  have e1 : l[k] = a := by simpa [List.getElem?_eq_getElem (show k < l.length by omega)] using ha
  have e2 : l[k + 1] = x := by simpa [List.getElem?_eq_getElem hk] using hx
  rw [e1, e2] at h2; exact h2

theorem covers_of {z : Mk} {l : List Mk} (h : coveredBy z l) : l.any (covB (z.u - 1) z.t) = true := by
  obtain ⟨y, hy, h1, h2⟩ := h
  refine List.any_eq_true.2 ⟨y, hy, ?_⟩
  simp [covB]; omega
theorem okOne_u {z : Mk} (h : okOne z = true) : 1 ≤ z.u ∧ z.u ≤ 1000000 := by
  simp [okOne] at h; omega

set_option maxHeartbeats 4000000 in
theorem stairs_any (sv : Value) (F : Nat → Prop) (xs : List Mk) (w : World) (hs : Sl mkTy w F sv xs) :
    Calls Try.prog 4 #[sv] w fun e w' => e = .returned (.bool true) ∧ Below w.heap.size w w' := by
  obtain ⟨i0, hi, hz0, hz1, hz2⟩ := info_parts mkInfo
  obtain ⟨A, c, hform⟩ := hs.form
  have hcell : ∀ k x, xs[k]? = some x → ∃ b o, A = some ⟨b, o, none⟩ ∧ w.cell? ⟨b, o + k * 2, none⟩ = some (.int .i64 x.t) ∧ w.cell? ⟨b, o + k * 2 + 1, none⟩ = some (.int .i64 x.u) := by
    intro k x hk
    rcases hs with ⟨rfl, _⟩ | ⟨b, o, c', h1, _, _, _, h2⟩
    · simp at hk
    · rw [h1] at hform
      obtain ⟨rfl, _⟩ : some ⟨b, o, none⟩ = A ∧ _ := by simpa using hform
      exact ⟨b, o, rfl, mk_cells h2 k x hk⟩
  subst hform
  have hn63 : xs.length ≤ 9223372036854775807 := by
    rcases hs with ⟨rfl, _⟩ | ⟨b, o, c', h1, _, h3, h4, _⟩
    · simp
    · omega
  clear hs
  have hfirst := first_any
  generalize hn : xs.length = n at *
  have Hn := Lib.hid hn
  clear hn
  rcases Nat.lt_or_ge 50 n with h50 | h50
  · have h50i : (50 : Int) < (n : Int) := by omega
    go_enter Try.func4, Try.ntmps4
    go_wp2_with fail
    refine Calls.mono (hfirst _) ?_
    rintro e w1 ⟨rfl, hb1⟩
    go_wp2_with fail
    refine Calls.mono (hfirst _) ?_
    rintro e w2 ⟨rfl, hb2⟩
    go_wp2_with fail
    go_ret
    exact ⟨rfl, bel_trans hb1 hb2⟩
  · have h50i : ¬ (50 : Int) < (n : Int) := by omega
    go_enter Try.func4, Try.ntmps4
    go_wp2_with fail
    refine Calls.mono (hfirst _) ?_
    rintro e w0 ⟨rfl, hb0⟩
    go_wp2_with fail
    go_loopg [3, 4, 5, 6, 7] n (fun gg s3 s4 s5 _ _ wr => ∃ (i : Nat) (ms td : List Mk), i ≤ n ∧ n - i ≤ gg ∧ s5 = .int .i64 i ∧ StairRel w i ms td s3 s4 wr)
    case atStart => exact ⟨0, [], [], Nat.zero_le _, by omega, rfl, hb0, World.ownsRow_nil _ _ _ _, World.ownsRow_nil _ _ _ _, .inl rfl, rfl, Nat.le_refl _, fun z hz => by cases hz⟩
    case round =>
      obtain ⟨i, ms, td, hin, hgg, rfl, hbr, hoM, hoT, hne, hmay, htl, htd⟩ := hrel
      by_cases hlt : i < n
      · have hki : (i : Int) < (n : Int) := by omega
        obtain ⟨x, hx⟩ : ∃ x, xs[i]? = some x := get_ex (by have := Hn.out; omega)
        obtain ⟨b, o, rfl, l0, l1⟩ := hcell i x hx
        have r0 := cell_later' hbr l0
        have r1 := cell_later' hbr l1
        have hblt : b < w.heap.size := World.block_lt_of_cell? _ _ l0
        clear hcell
        have hadd := add_any _ _ ms x wr (own_sl hoM)
        have hok := fun zs => addMk_ok (xs := ms) (zs := zs) (m := x)
        generalize addMk ms x = r at hadd hok
        obtain ⟨zs, er⟩ := r
        have HoM := Lib.hid hoM; have HoT := Lib.hid hoT; have Hne := Lib.hid hne; have Hmay := Lib.hid hmay; have Htd := Lib.hid htd; have Hok := Lib.hid hok; have HX := Lib.hid hx
        clear hoM hoT hne hmay htd hok hx
        go_wp2_with fail
        refine Calls.mono hadd ?_
        rintro e w1 ⟨v, rfl, hb1, ho1⟩
        have hbr1 := bel_trans hbr hb1
        have Ho1 := Lib.hid ho1
        clear ho1
        cases her : (er != 0) with
        | true =>
          have Her := Lib.hid her
          go_wp2_with fail
          go_roundg (n - (i + 1))
          case measure => omega
          case rel =>
            exact ⟨i + 1, ms, td, by omega, by omega, by go_num, hbr1, own_later HoM.out hb1, own_later HoT.out hb1, Hne.out, Hmay.out, by omega, Htd.out⟩
        | false =>
          have h0 : er = 0 := by simpa using her
          subst h0
          clear her
          have q0 := cell_later' hb1 r0
          have q1 := cell_later' hb1 r1
          have hb1' : Below wr.heap.size wr (w1.alloc (.cells #[.int .i64 x.t, .int .i64 x.u] 24)) := bel_alloc hb1 _
          have hoT1 := own_later HoT.out hb1'
          have hnw := mk1_news (w := w1.alloc (.cells #[.int .i64 x.t, .int .i64 x.u] 24)) (gv := w1.heap.size) (m := x) ⟨cell_new w1 _ _ 0 _ rfl, cell_new w1 _ _ 1 _ rfl⟩
          have one2 : ∀ u ∈ mkCells [x], u.oneCell' = true := (mkCells_chunks w (fun _ => True) [x]).one
          have s1 : td.length + 1 ≤ maxLen := by simp only [maxLen]; omega
          have s2 : (td.length + 1) * 16 ≤ 140737488355328 := by omega
          have s3 : w.heap.size ≤ (w1.alloc (.cells #[.int .i64 x.t, .int .i64 x.u] 24)).heap.size := Nat.le_trans hbr.size hb1'.size
          have S1 := Lib.hid s1; have S2 := Lib.hid s2; have S3 := Lib.hid s3; have N1 := Lib.hid hnw; have O1 := Lib.hid hoT1; have L1 := Lib.hid (mkCells_len [x])
          clear s1 s2 s3 hnw hoT1
          generalize hM : mkCells [x] = M at *
          have HM := Lib.hid hM
          clear hM
          go_wp2_with (at_builtin; refine wpList_append_ownB rfl _ _ 22 rfl w.heap.size 24 i0 (.agg #[.int .i64 0, .int .i64 0]) 2 16 Try.underlying22 hi hz0 hz1 hz2 rfl (by decide) _ _ _ rfl O1.out ⟨w1.heap.size, 0, none⟩ 1 1 M rfl L1.out N1.out one2 S1.out S2.out S3.out ?_)
          intro v4 w2 ho4 hg4 hv4
          have Ho4 := Lib.hid ho4; have Hv4 := Lib.hid hv4
          clear ho4 hv4
          go_wp2_with fail
          go_roundg (n - (i + 1))
          case measure => omega
          case rel =>
            obtain ⟨_, hox, hmz, hcm, hcx⟩ := Hok.out zs rfl
            have hlt4 := own_base Ho1.out
            have hb4 := own_base HoT.out
            refine ⟨i + 1, zs, td ++ [x], by omega, by omega, by go_num, bel_grown (bel_alloc hbr1 _) hg4 hb4, ?_, ?_, ?_, hmz, by rw [List.length_append]; simp; omega, fun z hz => ?_⟩
            · refine own_lower (World.ownsRow.kept (own_later Ho1.out (bel_alloc (Below.refl _ _) _)) hg4 ?_) hbr.size
              rcases hv : v.ownBlock with _ | k
              · exact .inl rfl
              · right; intro e
                have h1 := hlt4 k hv
                have h2 := own_lt HoT.out k e.symm
                omega
            · have := Ho4.out
              rw [← HM.out, ← mkCells_append] at this
              rw [List.length_append]; exact this
            · rcases hv : v.ownBlock with _ | k
              · exact .inl rfl
              · right; intro e
                have h1 := hlt4 k hv
                have h3 := own_lt Ho1.out k hv
                rcases Hv4.out with h | h
                · have h2 := own_lt HoT.out k (by rw [← h, ← e])
                  omega
                · rw [← e] at h
                  have := Option.some.inj h
                  omega
            · rcases List.mem_append.1 hz with hz | hz
              · have := Htd.out z hz
                exact ⟨hcm z this.1, this.2⟩
              · obtain rfl := List.mem_singleton.1 hz
                exact ⟨hcx, hox⟩
      · have hki : ¬ (i : Int) < (n : Int) := by omega
        obtain ⟨A3, c3, rfl, _, hel3⟩ := own_form hoM
        obtain ⟨A4, c4, rfl, _, hel4⟩ := own_form hoT
        have hst := ((mayB_iff ms).1 hmay).1
        have hl8 := ((mayB_iff ms).1 hmay).2
        have Hst := Lib.hid hst; have Hel3 := Lib.hid hel3; have Hel4 := Lib.hid hel4; have HSl := Lib.hid (own_sl hoM); have Htd := Lib.hid htd
        clear hst hel3 hel4 hoM hoT hne hmay htd hcell
        have h8 : ¬ (8 : Int) < (ms.length : Int) := by omega
        generalize hN : ms.length = N at *
        have HN := Lib.hid hN
        clear hN
        go_wp2_with fail
        obtain ⟨wa, rfl⟩ : ∃ W : World, W = wr := ⟨_, rfl⟩
        go_loopg [8] N (fun gg s8 wr => ∃ k : Nat, 1 ≤ k ∧ (k ≤ N ∨ k = 1) ∧ N - k ≤ gg ∧ s8 = .int .i64 k ∧ Aside (Below wa.heap.size wa wr))
        case atStart => exact ⟨1, Nat.le_refl _, .inr rfl, by omega, rfl, Below.refl _ _⟩
        case round =>
          obtain ⟨k, hk1, hkN, hgk, rfl, HB⟩ := hrel
          by_cases hlt : k < N
          · obtain ⟨q, rfl⟩ : ∃ q, k = q + 1 := ⟨k - 1, by omega⟩
            obtain ⟨a, ha⟩ : ∃ a, ms[q]? = some a := get_ex (by have := HN.out; omega)
            obtain ⟨x, hx⟩ : ∃ x, ms[q + 1]? = some x := get_ex (by have := HN.out; omega)
            obtain ⟨hd1, hd2⟩ := stair_get Hst.out ha hx
            obtain ⟨g, rfl, hgl, hat⟩ := Hel3.out _ _ ha
            obtain ⟨g', hgg', _, hat'⟩ := Hel3.out _ _ hx
            obtain rfl : g = g' := by simpa using hgg'
            have a0 := cell_later' HB.out hat.1
            have a1 := cell_later' HB.out hat.2
            have b0 := cell_later' HB.out hat'.1
            have b1 := cell_later' HB.out hat'.2
            have e1 : decide (a.t ≤ x.t) = false := by simp; omega
            have e2 : decide (x.u ≤ a.u) = false := by simp; omega
            have hmi : (q : Int) < (N : Int) := by omega
            have hmi2 : (q : Int) + 1 < (N : Int) := by omega
            have hw1 : IntKind.i64.wrap ((q : Int) + 1 - 1) = (q : Int) := by rw [Int.add_sub_cancel]; exact IntWalk.i64_in _ (by omega)
            have hw2 : IntKind.i64.wrap (q : Int) = (q : Int) := IntWalk.i64_in _ (by omega)
            clear hat hat' ha hx hd1 hd2 hgg'
            go_wp2_with fail
            go_quiet (fail)
            go_wp2_with fail
            go_roundg (N - (q + 1 + 1))
            case measure => omega
            case rel => exact ⟨q + 1 + 1, by omega, by omega, by omega, by go_num, bel_drewN HB.out _⟩
          · have hkk : ¬ (k : Int) < (N : Int) := by omega
            have hbw2 := bel_trans hbr HB.out
            have hcov := covers_any
            generalize hT : td.length = T at *
            have HT := Lib.hid hT
            clear hT
            go_wp2_with fail
            obtain ⟨wb, rfl⟩ : ∃ W : World, W = wr := ⟨_, rfl⟩
            go_loopg [9] T (fun gg s9 wr => ∃ j : Nat, j ≤ T ∧ T - j ≤ gg ∧ s9 = .int .i64 j ∧ Aside (Below wb.heap.size wb wr))
            case atStart => exact ⟨0, Nat.zero_le _, by omega, rfl, Below.refl _ _⟩
            case round =>
              obtain ⟨j, hjT, hgj, rfl, HC⟩ := hrel
              have hbc := bel_trans HB.out HC.out
              by_cases hlt : j < T
              · obtain ⟨z, hz⟩ : ∃ z, td[j]? = some z := get_ex (by have := HT.out; omega)
                obtain ⟨g, rfl, hgl, hat⟩ := Hel4.out _ _ hz
                obtain ⟨hcz, hoz⟩ := Htd.out z (List.mem_of_getElem? hz)
                have a0 := cell_later' hbc hat.1
                have a1 := cell_later' hbc hat.2
                have hu := okOne_u hoz
                have hany := covers_of hcz
                have hSl := HSl.out
                have hc1 := fun W hW => covers_any _ (z.u - 1) z.t _ ms W (hSl.below (w' := W) hW)
                rw [hany] at hc1
                have hw1 : IntKind.i64.wrap (z.u - 1) = z.u - 1 := IntWalk.i64_in _ (by omega)
                have hji : (j : Int) < (T : Int) := by omega
                have Hc1 := Lib.hid hc1
                clear hcov hat hz hcz hoz hany hSl hc1
                go_wp2_with fail
                go_still_tail 12, (by kernel_rfl)
                change wpList _ _ _ _ _ wr.drew
                go_wp2_with fail
                refine Calls.mono (Hc1.out _ (bel_drew hbc)) ?_
                rintro e w9 ⟨rfl, hb9⟩
                go_wp2_with fail
                go_roundg (T - (j + 1))
                case measure => omega
                case rel => exact ⟨j + 1, by omega, by omega, by go_num, bel_trans (bel_drew HC.out) hb9⟩
              · have hji : ¬ (j : Int) < (T : Int) := by omega
                have hbw3 := bel_trans hbw2 HC.out
                have hnil := fun W => covers_any (.slice none 0 0) 0 0 (fun _ => False) [] W (Sl.nil none 0)
                have hnn : ([] : List Mk).any (covB 0 0) = false := rfl
                rw [hnn] at hnil
                clear hnn hcov
                go_wp2_with fail
                refine Calls.mono (hfirst _) ?_
                rintro e w9 ⟨rfl, hb9⟩
                go_wp2_with fail
                refine Calls.mono (hnil _) ?_
                rintro e w10 ⟨rfl, hb10⟩
                go_wp2_with fail
                go_ret
                exact ⟨rfl, bel_trans (bel_trans hbw3 hb9) hb10⟩
end Go.Proofs.Ytopfdnflejbgaaa
