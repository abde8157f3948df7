/- Parts of the proof: Dq, Eo, Pa, Pb. -/
import Derived.Test.YtjjgbgojlhaapaaGreatDoorZReads33
import Derived.Test.YtjjgbgojlhaapaaGreatDoorZReads16
import Derived.Test.YtjjgbgojlhaapaaGreatDoorZReads35
import Derived.Test.YtjjgbgojlhaapaaGreatDoorZReads8
import Derived.Laws.IdiomStrings
namespace Go.Proofs.YtjjgbgojlhaapaaGreatDoor
open Go.RowKit Go.Lib

theorem ref_alloc (w : World) (s : ByteArray) : RdAt 74 w.heap.size s 0 0 (w.alloc (.cells #[.string s, .int .i64 0, .int .i64 0] 74)) := heap_alloc_new w _
set_option maxRecDepth 100000 in
set_option maxHeartbeats 8000000 in
theorem rdparse_any (s : ByteArray) (v : Value) (F : Nat → Prop) (w : World) (hval : s.size ≤ 1000000 → ValAtR s 0 (valueD s 64)) (hb : BSl w F v s) :
    Calls Tryz.prog 9 #[v] w (PRes s w) := by
  have hbB : ∀ w', Below w.heap.size w w' → BSl w' (fun b => True) v s := fun w' hw => by
    rcases hb with ⟨b, o, c, rfl, hF, hc⟩ | hb
    · exact .inl ⟨b, o, c, rfl, trivial, fun i hi => by
        have hlt : b < w.heap.size := World.block_lt_of_cell? w _ (hc i hi)
        exact (World.cell?_of_block (w := w) (a := ⟨b, o + i, none⟩) (hw.block b hlt)).trans (hc i hi)⟩
    · exact .inr hb
  have hA : Below w.heap.size w (w.alloc (.cells #[.int .i64 0, .int .i64 0, .string ⟨#[]⟩, .slice none 0 0, .slice none 0 0] 35)) := bel_alloc (Below.refl _ _) _
  have hcv := (hbB _ hA).conv
  obtain ⟨A, c, rfl⟩ := hb.form
  have hb0 := heap_alloc_new w (.cells #[.int .i64 0, .int .i64 0, .string ⟨#[]⟩, .slice none 0 0, .slice none 0 0] 35)
  have HB0 := Lib.hid hb0; have HA := Lib.hid hA
  have hE : parseB s = (if 20000 < s.size then (zeroV, 3) else if (endB s (valueD s 64 ⟨0, 0⟩).2).e ≠ 0 then (zeroV, (endB s (valueD s 64 ⟨0, 0⟩).2).e) else ((valueD s 64 ⟨0, 0⟩).1, 0)) := (parse_D s).symm
  unfold PRes
  clear hb hbB hA hb0
  generalize parseB s = res at *
  by_cases hlen : 20000 < s.size
  case pos =>
    rw [if_pos hlen] at hE
    subst hE
    have hd : decide ((20000 : Int) < (s.size : Int)) = true := by simp; omega
    clear hcv
    go_enter Tryz.func9, Tryz.ntmps9
    go_upto_region 2 with (fail)
    generalize w.alloc (.cells #[.int .i64 0, .int .i64 0, .string ⟨#[]⟩, .slice none 0 0, .slice none 0 0] 35) = W1 at *
    obtain ⟨⟨b0, b1, b2, b3, b4⟩, ⟨g0, g1, g2, g3, g4⟩, hBw⟩ := cells5 HB0.out
    have hf := set5 (.int .i64 0) (.int .i64 0) (.string ⟨#[]⟩) (.slice none 0 0) (.slice none 0 0) HB0.out
    have hbl : Below w.heap.size w (((((W1.setCell ⟨w.heap.size, 0, none⟩ (.int .i64 0)).setCell ⟨w.heap.size, 1, none⟩ (.int .i64 0)).setCell ⟨w.heap.size, 2, none⟩ (.string ⟨#[]⟩)).setCell ⟨w.heap.size, 3, none⟩ (.slice none 0 0)).setCell ⟨w.heap.size, 4, none⟩ (.slice none 0 0)) := bel_set5 HA.out (Nat.le_refl _) (.int .i64 0) (.int .i64 0) (.string ⟨#[]⟩) (.slice none 0 0) (.slice none 0 0)
    have hjj : JR (((((W1.setCell ⟨w.heap.size, 0, none⟩ (.int .i64 0)).setCell ⟨w.heap.size, 1, none⟩ (.int .i64 0)).setCell ⟨w.heap.size, 2, none⟩ (.string ⟨#[]⟩)).setCell ⟨w.heap.size, 3, none⟩ (.slice none 0 0)).setCell ⟨w.heap.size, 4, none⟩ (.slice none 0 0)) (fun b => w.heap.size ≤ b) zeroV [.int .i64 0, .int .i64 0, .string ⟨#[]⟩, .slice none 0 0, .slice none 0 0] := zero_jr _ _
    have HF5 := Lib.hid hf; have HR5 := Lib.hid hbl; have HJJ := Lib.hid hjj
    clear hf hbl hjj
    go_wp2_with fail
    exact bodyPost_ret (results_row_tmp rfl _ _ w.heap.size 35 #[.int .i64 0, .int .i64 0, .string ⟨#[]⟩, .slice none 0 0, .slice none 0 0] (0, 0) _ rfl HF5.out Tryz.underlying35 rfl (by kernel_rfl)) rfl ⟨none, 0, 0, none, 0, 0, rfl, HJJ.out, HR5.out⟩
  case neg =>
    rw [if_neg hlen] at hE
    have hd : decide ((20000 : Int) < (s.size : Int)) = false := by simp; omega
    have hrd := ref_alloc (w.alloc (.cells #[.int .i64 0, .int .i64 0, .string ⟨#[]⟩, .slice none 0 0, .slice none 0 0] 35)) s
    have hA2 := bel_alloc HA.out (.cells #[.string s, .int .i64 0, .int .i64 0] 74)
    have hb2 := heap_alloc2_old w (.cells #[.int .i64 0, .int .i64 0, .string ⟨#[]⟩, .slice none 0 0, .slice none 0 0] 35) (.cells #[.string s, .int .i64 0, .int .i64 0] 74)
    have hs2 : (w.alloc (.cells #[.int .i64 0, .int .i64 0, .string ⟨#[]⟩, .slice none 0 0, .slice none 0 0] 35)).heap.size = w.heap.size + 1 := by show (w.heap.push _).size = _; simp
    rw [hs2] at hrd
    have HRD := Lib.hid hrd; have HA2 := Lib.hid hA2; have HB2 := Lib.hid hb2
    have hva := fun w2 (_ : Below w.heap.size w w2) h2 => hval (by omega) (w.heap.size + 1) ⟨0, 0⟩ w2 rfl (Nat.zero_le _) h2
    have HVA := Lib.hid hva; have HE := Lib.hid hE
    clear hrd hA2 hb2 hva hE
    generalize valueD s 64 ⟨0, 0⟩ = r at *
    obtain ⟨v0, y⟩ := r
    simp only at HE
    go_enter Tryz.func9, Tryz.ntmps9
    go_upto_region 4 with (fail)
    generalize (w.alloc (.cells #[.int .i64 0, .int .i64 0, .string ⟨#[]⟩, .slice none 0 0, .slice none 0 0] 35)).alloc (.cells #[.string s, .int .i64 0, .int .i64 0] 74) = w2 at *
    clear hcv hs2
    have hRw2 : w.heap.size + 1 < w2.heap.size := HRD.out.cells.2.2.2.2.2.2
    go_wp2_with fail
    refine Calls.mono (HVA.out w2 HA2.out HRD.out) ?_
    rintro e w3 ⟨v, A1, n1, c1, A2, n2, c2, rfl, hjr, heq, hp3⟩
    try simp only at hp3
    have hb3 := hp3.keep (B := w.heap.size) HB2.out (by omega)
    have hsz3 := hp3.2.size
    have hA4 : Below w3.heap.size w3 (w3.alloc (.cells #[.int .i64 v.k, .int .i64 v.n, .string v.s, .slice A1 n1 c1, .slice A2 n2 c2] 35)) := bel_alloc (Below.refl _ _) _
    have hc4 := heap_alloc_new w3 (.cells #[.int .i64 v.k, .int .i64 v.n, .string v.s, .slice A1 n1 c1, .slice A2 n2 c2] 35)
    have hw3B : w.heap.size < w3.heap.size := (Array.getElem?_eq_some_iff.1 hb3).1
    have hp4 := RdPost.below hp3 hA4
    have hs34 := hA4.size
    have hb4 := (hA4.block w.heap.size hw3B).trans hb3
    have hj4 := JR_mono (F' := fun b => w2.heap.size ≤ b ∧ b < w3.heap.size) (fun b hb => hb) _ _ (JR_frame (w' := w3.alloc (.cells #[.int .i64 v.k, .int .i64 v.n, .string v.s, .slice A1 n1 c1, .slice A2 n2 c2] 35)) (fun b hb => hA4.block b hb.2) _ _ (JR_bound _ _ hjr))
    have HB4 := Lib.hid hb4; have HC4 := Lib.hid hc4; have HP4 := Lib.hid hp4; have HJ4 := Lib.hid hj4; have HEQ := Lib.hid heq
    clear hb3 hA4 hc4 hp4 hb4 hj4 heq hjr hp3 HVA HB2
    go_upto_region 5 with (fail)
    generalize w3.alloc (.cells #[.int .i64 v.k, .int .i64 v.n, .string v.s, .slice A1 n1 c1, .slice A2 n2 c2] 35) = w4 at *
    have hbl := rdskip_any (w.heap.size + 1) s y w4 (by omega) HP4.out.1
    have hbe : (y.blanks s).e = y.e := rfl
    have hEE := HE.out
    unfold endB at hEE
    have HBL := Lib.hid hbl; have HE2 := Lib.hid hEE; have HBE := Lib.hid hbe
    clear hbl hEE HE hbe
    generalize y.blanks s = y5 at *
    go_wp2_with fail
    refine Calls.mono HBL.out ?_
    rintro e w5 ⟨rfl, hp5⟩
    have hb5 := hp5.keep (B := w.heap.size) HB4.out (by omega)
    have hc5 := hp5.keep (B := w3.heap.size) HC4.out (by omega)
    have hpp5 := HP4.out.trans hp5
    have hsz4 := HP4.out.2.size
    obtain ⟨l0, l1, l2, _, f1, _, hRw⟩ := hpp5.1.cells
    have hbw5 := HA2.out.grown hpp5.2 HA2.out.size (fun j hj => by have := Option.some.inj hj; omega)
    have HG5 := Lib.hid hp5.2
    have HB5 := Lib.hid hb5; have HC5 := Lib.hid hc5; have HP5 := Lib.hid hpp5; have HBW := Lib.hid hbw5
    clear hp5 hb5 hc5 hpp5 hbw5 HB4 HC4 HP4
    by_cases he : y5.e = 0
    case pos =>
      have d0 : (y5.e == 0) = true := by simpa using he
      by_cases hlt : y5.p < s.size
      case pos =>
        have hltz : (y5.p : Int) < (s.size : Int) := by omega
        have hd2 : decide ((y5.p : Int) < (s.size : Int)) = true := by simpa using hltz
        have hfe := HE2.out
        rw [show (if y5.e = 0 ∧ y5.p < s.size then y5.fail 4 else y5) = y5.fail 4 from if_pos ⟨he, hlt⟩] at hfe
        have hze : (y5.fail 4).e = 4 := by unfold St.fail; rw [if_pos he]
        rw [if_pos (by rw [hze]; decide), hze] at hfe
        subst hfe
        have hfl := fun n => rdfail_lit (w.heap.size + 1) s y5 4 (w5.drewN n) (HP5.out.1.drewN n)
        have HFL := Lib.hid hfl; have HZE := Lib.hid hze
        clear hfl HE2 hze
        go_wp2_with fail
        go_quiet (fail)
        go_wp2_with fail
        refine Calls.mono (HFL.out _) ?_
        rintro e w6 ⟨rfl, hp6⟩
        have hb6 := hp6.keep (B := w.heap.size) HB5.out (by omega)
        have hp6' := (HP5.out.drewN _).trans hp6
        rw [HZE.out] at hp6'
        obtain ⟨l0, l1, l2, _, f1, _, hRw⟩ := hp6'.1.cells
        have hbw6 := HA2.out.grown hp6'.2 HA2.out.size (fun j hj => by have := Option.some.inj hj; omega)
        have HB6 := Lib.hid hb6; have HBW6 := Lib.hid hbw6
        clear hp6 hb6 hp6' hbw6
        go_upto_region 9 with (fail)
        obtain ⟨⟨b0, b1, b2, b3, b4⟩, ⟨g0, g1, g2, g3, g4⟩, hBw⟩ := cells5 HB6.out
        have hf := set5_drew (.int .i64 0) (.int .i64 0) (.string ⟨#[]⟩) (.slice none 0 0) (.slice none 0 0) HB6.out
        have hbl : Below w.heap.size w ((((((w6.setCell ⟨w.heap.size, 0, none⟩ (.int .i64 0)).setCell ⟨w.heap.size, 1, none⟩ (.int .i64 0)).setCell ⟨w.heap.size, 2, none⟩ (.string ⟨#[]⟩)).setCell ⟨w.heap.size, 3, none⟩ (.slice none 0 0)).setCell ⟨w.heap.size, 4, none⟩ (.slice none 0 0)).drew) := bel_drew (bel_set5 HBW6.out (Nat.le_refl _) (.int .i64 0) (.int .i64 0) (.string ⟨#[]⟩) (.slice none 0 0) (.slice none 0 0))
        have hjj : JR ((((((w6.setCell ⟨w.heap.size, 0, none⟩ (.int .i64 0)).setCell ⟨w.heap.size, 1, none⟩ (.int .i64 0)).setCell ⟨w.heap.size, 2, none⟩ (.string ⟨#[]⟩)).setCell ⟨w.heap.size, 3, none⟩ (.slice none 0 0)).setCell ⟨w.heap.size, 4, none⟩ (.slice none 0 0)).drew) (fun b => w.heap.size ≤ b) zeroV [.int .i64 0, .int .i64 0, .string ⟨#[]⟩, .slice none 0 0, .slice none 0 0] := zero_jr _ _
        have HF5 := Lib.hid hf; have HR5 := Lib.hid hbl; have HJJ := Lib.hid hjj
        clear hf hbl hjj
        refine PrintLast.wp_region_last_drew (S := fun w' => w'.cell? ⟨w.heap.size + 1, 2, none⟩ = some (.int .i64 4)) (ds := []) (by kernel_rfl) ?_ (fun hHeld => ?_)
        · exact l2
        refine PrintLast.wpAnyLast_take (i := 0) (v := ?_) rfl (by kernel_rfl) (by kernel_rfl) (by kernel_rfl) (by kernel_rfl) (by kernel_rfl) (fun _ _ _ h => h) (Or.inl ⟨by kernel_rfl, ?_⟩) (by assumption) ?_
        rotate_left
        · (intro w hSw; (try dsimp only at hSw); go_simp; try (with_reducible rfl))
        try simp only [List.getElem_toArray, List.getElem_cons_zero, Act.put, List.setIfInBounds_toArray, List.set_cons_zero, List.set_cons_succ]
        refine PrintLast.wpAnyLast_take (i := 1) (v := ?_) rfl (by kernel_rfl) (by kernel_rfl) (by kernel_rfl) (by kernel_rfl) (by kernel_rfl) (fun _ _ _ h => h) (Or.inl ⟨by kernel_rfl, ?_⟩) (by assumption) ?_
        rotate_left
        · (intro w hSw; (try dsimp only at hSw); go_simp; try (with_reducible rfl))
        try simp only [List.getElem_toArray, List.getElem_cons_zero, List.getElem_cons_succ, Act.put, List.setIfInBounds_toArray, List.set_cons_zero, List.set_cons_succ]
        refine PrintLast.wpAnyLast_take (i := 2) (v := ?_) rfl (by kernel_rfl) (by kernel_rfl) (by kernel_rfl) (by kernel_rfl) (by kernel_rfl) (fun _ _ _ h => h) (Or.inl ⟨by kernel_rfl, ?_⟩) (by assumption) ?_
        rotate_left
        · (intro w hSw; (try dsimp only at hSw); go_simp; try (with_reducible rfl))
        try simp only [List.getElem_toArray, List.getElem_cons_zero, List.getElem_cons_succ, Act.put, List.setIfInBounds_toArray, List.set_cons_zero, List.set_cons_succ]
        refine PrintLast.wpAnyLast_take (i := 3) (v := ?_) rfl (by kernel_rfl) (by kernel_rfl) (by kernel_rfl) (by kernel_rfl) (by kernel_rfl) (fun _ _ _ h => h) (Or.inl ⟨by kernel_rfl, ?_⟩) (by assumption) ?_
        rotate_left
        · (intro w hSw; (try dsimp only at hSw); go_simp; try (with_reducible rfl))
        try simp only [List.getElem_toArray, List.getElem_cons_zero, List.getElem_cons_succ, Act.put, List.setIfInBounds_toArray, List.set_cons_zero, List.set_cons_succ]
        refine PrintLast.wpAnyLast_take (i := 4) (v := ?_) rfl (by kernel_rfl) (by kernel_rfl) (by kernel_rfl) (by kernel_rfl) (by kernel_rfl) (fun _ _ _ h => h) (Or.inl ⟨by kernel_rfl, ?_⟩) (by assumption) ?_
        rotate_left
        · (intro w hSw; (try dsimp only at hSw); go_simp; try (with_reducible rfl))
        try simp only [List.getElem_toArray, List.getElem_cons_zero, List.getElem_cons_succ, Act.put, List.setIfInBounds_toArray, List.set_cons_zero, List.set_cons_succ]
        have HK := Lib.hid hHeld
        clear hHeld
        refine PrintLast.wpAnyLast_ready (rs := [5]) (by kernel_rfl) (by simp) ?_
        refine PrintLast.AllReadyL.cons rfl (by decide) (fun K hK => ?_) PrintLast.AllReadyL.nil
        rw [if_pos (by kernel_rfl)]
        go_simp
        try simp only [List.foldl_cons, List.foldl_nil, List.setIfInBounds_toArray, List.set_cons_zero, List.set_cons_succ, Nat.reduceAdd]
        refine hK.out _ _ ?_ (fun hHeld => ?_)
        · exact (keep5_drew (w := w6) (B := w.heap.size) (a := ⟨w.heap.size + 1, 2, none⟩) (.int .i64 0) (.int .i64 0) (.string ⟨#[]⟩) (.slice none 0 0) (.slice none 0 0) (by show w.heap.size + 1 ≠ w.heap.size; omega)).trans l2
        clear hK K
        try simp only [List.getElem_toArray, List.getElem_cons_zero, List.getElem_cons_succ, Act.put, List.setIfInBounds_toArray, List.set_cons_zero, List.set_cons_succ]
        clear HK
        refine PrintLast.wpAnyLast_take (i := 6) (v := ?_) rfl (by kernel_rfl) (by kernel_rfl) (by kernel_rfl) (by kernel_rfl) (by kernel_rfl) (fun _ _ _ h => h) (Or.inl ⟨by kernel_rfl, ?_⟩) (by assumption) ?_
        rotate_left
        · (intro w hSw; (try dsimp only at hSw); go_simp; try (with_reducible rfl))
        try simp only [List.getElem_toArray, List.getElem_cons_zero, List.getElem_cons_succ, Act.put, List.setIfInBounds_toArray, List.set_cons_zero, List.set_cons_succ]
        refine PrintLast.wpAnyLast_done (by kernel_rfl) ?_ _
        go_wp2_with fail
        exact bodyPost_ret (results_row_tmp rfl _ _ w.heap.size 35 #[.int .i64 0, .int .i64 0, .string ⟨#[]⟩, .slice none 0 0, .slice none 0 0] (0, 0) _ rfl HF5.out Tryz.underlying35 rfl (by kernel_rfl)) rfl ⟨none, 0, 0, none, 0, 0, rfl, HJJ.out, HR5.out⟩
      case neg =>
        have hltz : ¬ (y5.p : Int) < (s.size : Int) := by omega
        have hd2 : decide ((y5.p : Int) < (s.size : Int)) = false := by simpa using hltz
        have hfe := HE2.out
        rw [show (if y5.e = 0 ∧ y5.p < s.size then y5.fail 4 else y5) = y5 from if_neg (fun h => hlt h.2), if_neg (by simpa using he)] at hfe
        have hv := HEQ.out (by rw [← HBE.out]; exact he)
        try simp only at hv
        subst hv
        subst hfe
        clear HE2
        go_wp2_with fail
        go_quiet (fail)
        obtain ⟨⟨v0', v1', v2', v3', v4'⟩, _, hCw⟩ := cells5 HC5.out
        have hfr : ∀ b, (w2.heap.size ≤ b ∧ b < w3.heap.size) → ((((((w5.drewN nq).setCell ⟨w.heap.size, 0, none⟩ (.int .i64 v.k)).setCell ⟨w.heap.size, 1, none⟩ (.int .i64 v.n)).setCell ⟨w.heap.size, 2, none⟩ (.string v.s)).setCell ⟨w.heap.size, 3, none⟩ (.slice A1 n1 c1)).setCell ⟨w.heap.size, 4, none⟩ (.slice A2 n2 c2)).heap[b]? = w4.heap[b]? := fun b hb => (set5_other _ _ _ _ _ (by have := hb.1; omega)).trans (HG5.out.block b (by have := hb.2; omega) (by intro e; have := Option.some.inj e; have := hb.1; omega))
        obtain ⟨⟨b0, b1, b2, b3, b4⟩, ⟨g0, g1, g2, g3, g4⟩, hBw⟩ := cells5 HB5.out
        have hf := set5 (.int .i64 v.k) (.int .i64 v.n) (.string v.s) (.slice A1 n1 c1) (.slice A2 n2 c2) HB5.out
        have hbl : Below w.heap.size w (((((((w5.drewN nq).setCell ⟨w.heap.size, 0, none⟩ (.int .i64 v.k)).setCell ⟨w.heap.size, 1, none⟩ (.int .i64 v.n)).setCell ⟨w.heap.size, 2, none⟩ (.string v.s)).setCell ⟨w.heap.size, 3, none⟩ (.slice A1 n1 c1)).setCell ⟨w.heap.size, 4, none⟩ (.slice A2 n2 c2))) := (bel_set5 (bel_drewN HBW.out _) (Nat.le_refl _) (.int .i64 v.k) (.int .i64 v.n) (.string v.s) (.slice A1 n1 c1) (.slice A2 n2 c2))
        have hjj : JR (((((((w5.drewN nq).setCell ⟨w.heap.size, 0, none⟩ (.int .i64 v.k)).setCell ⟨w.heap.size, 1, none⟩ (.int .i64 v.n)).setCell ⟨w.heap.size, 2, none⟩ (.string v.s)).setCell ⟨w.heap.size, 3, none⟩ (.slice A1 n1 c1)).setCell ⟨w.heap.size, 4, none⟩ (.slice A2 n2 c2))) (fun b => w.heap.size ≤ b) v [.int .i64 v.k, .int .i64 v.n, .string v.s, .slice A1 n1 c1, .slice A2 n2 c2] := JR_mono (F := fun b => w2.heap.size ≤ b ∧ b < w3.heap.size) (fun b hb => by have := hb.1; omega) _ _ (JR_frame (w := w4) (F := fun b => w2.heap.size ≤ b ∧ b < w3.heap.size) hfr _ _ HJ4.out)
        have HF5 := Lib.hid hf; have HR5 := Lib.hid hbl; have HJJ := Lib.hid hjj
        clear hf hbl hjj
        go_wp2_with fail
        exact bodyPost_ret (results_row_tmp rfl _ _ w.heap.size 35 #[.int .i64 v.k, .int .i64 v.n, .string v.s, .slice A1 n1 c1, .slice A2 n2 c2] (0, 0) _ rfl HF5.out Tryz.underlying35 rfl (by kernel_rfl)) rfl ⟨_, _, _, _, _, _, rfl, HJJ.out, HR5.out⟩
    case neg =>
      have d0 : (y5.e == 0) = false := by simpa using he
      have dn : (y5.e != 0) = true := by simpa using he
      have hfe := HE2.out
      rw [show (if y5.e = 0 ∧ y5.p < s.size then y5.fail 4 else y5) = y5 from if_neg (fun h => he h.1), if_pos (by simpa using he)] at hfe
      subst hfe
      clear HE2
      go_wp2_with fail
      go_quiet (fail)
      go_upto_region 9 with (fail)
      obtain ⟨⟨b0, b1, b2, b3, b4⟩, ⟨g0, g1, g2, g3, g4⟩, hBw⟩ := cells5 HB5.out
      have hf := set5_drewN (nq + 1) (.int .i64 0) (.int .i64 0) (.string ⟨#[]⟩) (.slice none 0 0) (.slice none 0 0) HB5.out
      have hbl : Below w.heap.size w ((((((w5.setCell ⟨w.heap.size, 0, none⟩ (.int .i64 0)).setCell ⟨w.heap.size, 1, none⟩ (.int .i64 0)).setCell ⟨w.heap.size, 2, none⟩ (.string ⟨#[]⟩)).setCell ⟨w.heap.size, 3, none⟩ (.slice none 0 0)).setCell ⟨w.heap.size, 4, none⟩ (.slice none 0 0)).drewN (nq + 1)) := bel_drewN (bel_set5 HBW.out (Nat.le_refl _) (.int .i64 0) (.int .i64 0) (.string ⟨#[]⟩) (.slice none 0 0) (.slice none 0 0)) _
      have hjj : JR ((((((w5.setCell ⟨w.heap.size, 0, none⟩ (.int .i64 0)).setCell ⟨w.heap.size, 1, none⟩ (.int .i64 0)).setCell ⟨w.heap.size, 2, none⟩ (.string ⟨#[]⟩)).setCell ⟨w.heap.size, 3, none⟩ (.slice none 0 0)).setCell ⟨w.heap.size, 4, none⟩ (.slice none 0 0)).drewN (nq + 1)) (fun b => w.heap.size ≤ b) zeroV [.int .i64 0, .int .i64 0, .string ⟨#[]⟩, .slice none 0 0, .slice none 0 0] := zero_jr _ _
      have HF5 := Lib.hid hf; have HR5 := Lib.hid hbl; have HJJ := Lib.hid hjj
      clear hf hbl hjj
      refine PrintLast.wp_region_last_drew (S := fun w' => w'.cell? ⟨w.heap.size + 1, 2, none⟩ = some (.int .i64 y5.e)) (ds := []) (by kernel_rfl) ?_ (fun hHeld => ?_)
      · exact l2
      refine PrintLast.wpAnyLast_take (i := 0) (v := ?_) rfl (by kernel_rfl) (by kernel_rfl) (by kernel_rfl) (by kernel_rfl) (by kernel_rfl) (fun _ _ _ h => h) (Or.inl ⟨by kernel_rfl, ?_⟩) (by assumption) ?_
      rotate_left
      · (intro w hSw; (try dsimp only at hSw); go_simp; try (with_reducible rfl))
      try simp only [List.getElem_toArray, List.getElem_cons_zero, Act.put, List.setIfInBounds_toArray, List.set_cons_zero, List.set_cons_succ]
      refine PrintLast.wpAnyLast_take (i := 1) (v := ?_) rfl (by kernel_rfl) (by kernel_rfl) (by kernel_rfl) (by kernel_rfl) (by kernel_rfl) (fun _ _ _ h => h) (Or.inl ⟨by kernel_rfl, ?_⟩) (by assumption) ?_
      rotate_left
      · (intro w hSw; (try dsimp only at hSw); go_simp; try (with_reducible rfl))
      try simp only [List.getElem_toArray, List.getElem_cons_zero, List.getElem_cons_succ, Act.put, List.setIfInBounds_toArray, List.set_cons_zero, List.set_cons_succ]
      refine PrintLast.wpAnyLast_take (i := 2) (v := ?_) rfl (by kernel_rfl) (by kernel_rfl) (by kernel_rfl) (by kernel_rfl) (by kernel_rfl) (fun _ _ _ h => h) (Or.inl ⟨by kernel_rfl, ?_⟩) (by assumption) ?_
      rotate_left
      · (intro w hSw; (try dsimp only at hSw); go_simp; try (with_reducible rfl))
      try simp only [List.getElem_toArray, List.getElem_cons_zero, List.getElem_cons_succ, Act.put, List.setIfInBounds_toArray, List.set_cons_zero, List.set_cons_succ]
      refine PrintLast.wpAnyLast_take (i := 3) (v := ?_) rfl (by kernel_rfl) (by kernel_rfl) (by kernel_rfl) (by kernel_rfl) (by kernel_rfl) (fun _ _ _ h => h) (Or.inl ⟨by kernel_rfl, ?_⟩) (by assumption) ?_
      rotate_left
      · (intro w hSw; (try dsimp only at hSw); go_simp; try (with_reducible rfl))
      try simp only [List.getElem_toArray, List.getElem_cons_zero, List.getElem_cons_succ, Act.put, List.setIfInBounds_toArray, List.set_cons_zero, List.set_cons_succ]
      refine PrintLast.wpAnyLast_take (i := 4) (v := ?_) rfl (by kernel_rfl) (by kernel_rfl) (by kernel_rfl) (by kernel_rfl) (by kernel_rfl) (fun _ _ _ h => h) (Or.inl ⟨by kernel_rfl, ?_⟩) (by assumption) ?_
      rotate_left
      · (intro w hSw; (try dsimp only at hSw); go_simp; try (with_reducible rfl))
      try simp only [List.getElem_toArray, List.getElem_cons_zero, List.getElem_cons_succ, Act.put, List.setIfInBounds_toArray, List.set_cons_zero, List.set_cons_succ]
      have HK := Lib.hid hHeld
      clear hHeld
      refine PrintLast.wpAnyLast_ready (rs := [5]) (by kernel_rfl) (by simp) ?_
      refine PrintLast.AllReadyL.cons rfl (by decide) (fun K hK => ?_) PrintLast.AllReadyL.nil
      rw [if_pos (by kernel_rfl)]
      go_simp
      try simp only [List.foldl_cons, List.foldl_nil, List.setIfInBounds_toArray, List.set_cons_zero, List.set_cons_succ, Nat.reduceAdd]
      refine hK.out _ _ ?_ (fun hHeld => ?_)
      · exact (keep5_drewN (nq + 1) (w := w5) (B := w.heap.size) (a := ⟨w.heap.size + 1, 2, none⟩) (.int .i64 0) (.int .i64 0) (.string ⟨#[]⟩) (.slice none 0 0) (.slice none 0 0) (by show w.heap.size + 1 ≠ w.heap.size; omega)).trans l2
      clear hK K
      try simp only [List.getElem_toArray, List.getElem_cons_zero, List.getElem_cons_succ, Act.put, List.setIfInBounds_toArray, List.set_cons_zero, List.set_cons_succ]
      clear HK
      refine PrintLast.wpAnyLast_take (i := 6) (v := ?_) rfl (by kernel_rfl) (by kernel_rfl) (by kernel_rfl) (by kernel_rfl) (by kernel_rfl) (fun _ _ _ h => h) (Or.inl ⟨by kernel_rfl, ?_⟩) (by assumption) ?_
      rotate_left
      · (intro w hSw; (try dsimp only at hSw); go_simp; try (with_reducible rfl))
      try simp only [List.getElem_toArray, List.getElem_cons_zero, List.getElem_cons_succ, Act.put, List.setIfInBounds_toArray, List.set_cons_zero, List.set_cons_succ]
      refine PrintLast.wpAnyLast_done (by kernel_rfl) ?_ _
      go_wp2_with fail
      exact bodyPost_ret (results_row_tmp rfl _ _ w.heap.size 35 #[.int .i64 0, .int .i64 0, .string ⟨#[]⟩, .slice none 0 0, .slice none 0 0] (0, 0) _ rfl HF5.out Tryz.underlying35 rfl (by kernel_rfl)) rfl ⟨none, 0, 0, none, 0, 0, rfl, HJJ.out, HR5.out⟩
end Go.Proofs.YtjjgbgojlhaapaaGreatDoor
namespace Go.Proofs.YtjjgbgojlhaapaaGreatDoor
open Go.RowKit Go.Lib

/-- value, however deep -/
theorem rdvalue_all (s : ByteArray) (hs : s.size ≤ 1000000) : ∀ (d : Nat) (o : Int), d ≤ 64 → o + d = 64 → ValAtR s o (valueD s d)
  | 0, o, _, h => by
    obtain rfl : o = 64 := by omega
    exact rdvalue_none s hs
  | d + 1, o, hd, h => by
    have ih := rdvalue_all s hs d (o + 1) (by omega) (by omega)
    have hfw : FwdR s (valueD s d) := value_fwd s d
    exact rdvalue_step s o ⟨by omega, by omega⟩ d (fun R x w h1 h2 h3 => rdlist_any s (o + 1) _ ih hs hfw R x w h1 h2 h3) (rdobject_any s (o + 1) _ ih hs hfw) hs
theorem rdparse_all (s : ByteArray) (v : Value) (F : Nat → Prop) (w : World) (hb : BSl w F v s) :
    Calls Tryz.prog 9 #[v] w (PRes s w) :=
  rdparse_any s v F w (fun hs => rdvalue_all s hs 64 0 (Nat.le_refl _) (by omega)) hb
end Go.Proofs.YtjjgbgojlhaapaaGreatDoor
namespace Go.Proofs.YtjjgbgojlhaapaaGreatDoor
open Go.RowKit Go.Lib

theorem one_k {x : JV} (h : oneB x = true) : 1 ≤ x.k ∧ x.k ≤ 7 := by
  have : badK x = false := by
    cases hb : badK x with
    | false => rfl
    | true => simp [oneB, hb] at h
  simp only [badK, Bool.or_eq_false_iff, decide_eq_false_iff_not] at this
  omega
theorem one_range {x : JV} (h : oneB x = true) : -9007199254740991 ≤ x.n ∧ x.n ≤ 9007199254740991 ∧ validB x.s = true ∧ x.s.size ≤ 8000 := by
  have : rangeB x = true := by
    cases hb : rangeB x with
    | true => rfl
    | false => simp [oneB, hb] at h
  simp only [rangeB, shortB, Bool.and_eq_true, decide_eq_true_eq] at this
  exact ⟨this.1.1, this.1.2, this.2⟩
theorem members_short : ∀ (p : Option ByteArray) (l : List (ByteArray × JV)), membersB p l = true → ∀ q ∈ l, shortB q.1 = true
  | _, [], _, q, hq => by simp at hq
  | p, (nm, y) :: r, h, q, hq => by
    simp only [membersB, Bool.and_eq_true] at h
    rcases List.mem_cons.1 hq with rfl | hq
    · exact h.1.1
    · exact members_short (some nm) r h.2 q hq
theorem one_members {x : JV} (h : oneB x = true) : ∀ q ∈ x.m, shortB q.1 = true := by
  have : membersB none x.m = true := by
    cases hb : membersB none x.m with
    | true => rfl
    | false => simp [oneB, hb] at h
  exact members_short none x.m this

set_option maxHeartbeats 4000000 in
set_option maxRecDepth 100000 in
theorem print_at : ∀ d, PrintAt d := by
  intro d
  induction d with
  | zero => intro x cs F w0 b bs w hm; simp [mayJ] at hm
  | succ d ih =>
    intro x cs F w0 b bs w hm h hT h0 hs hlen
    obtain ⟨vl, vm, ⟨rfl, hsz⟩, hl, hmm⟩ := JR_iff.1 h
    obtain ⟨A1, c1, rfl⟩ := hl.form
    obtain ⟨A2, c2, rfl⟩ := hmm.form
    simp only [mayJ, Bool.and_eq_true] at hm
    obtain ⟨⟨hone, hml⟩, hmo⟩ := hm
    obtain ⟨hk1, hk7⟩ := one_k hone
    obtain ⟨hn1, hn2, hv, hs8⟩ := one_range hone
    have hns := one_members hone
    have hlist := fun (W : World) (hW : Below w0.heap.size w0 W) (hS : Sb w0.heap.size b bs W) (hL : bs.length + (91 :: (joinFrom (printB d) true x.l ++ [93])).length ≤ 140737488355328) => list_any d ih x.l _ F w0 b bs W hml hl hT hW hS hL
    have hobj := fun (W : World) (hW : Below w0.heap.size w0 W) (hS : Sb w0.heap.size b bs W) (hL : bs.length + (123 :: (joinFrom (fun p => quoteB p.1 ++ 58 :: printB d p.2) true x.m ++ [125])).length ≤ 140737488355328) => object_any d ih x.m _ F w0 b bs W hmo hns hmm hT hW hS hL
    have hbA : Below w.heap.size w (w.alloc (.cells #[.int .i64 x.k, .int .i64 x.n, .string x.s, .slice A1 x.l.length c1, .slice A2 x.m.length c2] 28)) := bel_alloc (Below.refl _ _) _
    have hpa := post_of_below hs h0.size hbA
    have HPA := Lib.hid hpa; have HL := Lib.hid hlist; have HO := Lib.hid hobj; have HLen := Lib.hid hlen; have HT := Lib.hid hT; have H0 := Lib.hid h0; have HV := Lib.hid hv
    have HA := Lib.hid (H0.out.trans hpa.2.1)
    have hz : w.heap.size < (w.alloc (.cells #[.int .i64 x.k, .int .i64 x.n, .string x.s, .slice A1 x.l.length c1, .slice A2 x.m.length c2] 28)).heap.size := World.block_lt_of_cell? _ ⟨w.heap.size, 0, none⟩ (cell_newB w _ _ 0 _ rfl)
    clear h hl hmm hone hml hmo hns hlist hobj hbA hpa hlen hT h0 hs hv hz ih
    have hor : x.k = 1 ∨ x.k = 2 ∨ x.k = 3 ∨ x.k = 4 ∨ x.k = 5 ∨ x.k = 6 ∨ x.k = 7 := by omega
    have HP := Lib.hid (show printB (d + 1) x = _ from printB.eq_2 x d)
    generalize hP : printB (d + 1) x = P at *
    clear hP
    generalize x.k = kk at *
    go_enter Tryz.func33, Tryz.ntmps33
    rcases hor with rfl | rfl | rfl | rfl | rfl | rfl | rfl
    · have hp' : P = [110, 117, 108, 108] := by rw [HP.out]; simp
      have HPP := Lib.hid hp'
      clear hk1 hk7 hp'
      go_wp2_with fail
      refine Calls.mono (writeString_any w0.heap.size b bs _ _ HPA.out.1 (by have := HLen.out; rw [HPP.out] at this; simpa [ByteArray.size] using this) HA.out.size) ?_
      rintro e w2 ⟨rfl, hp⟩
      go_wp2_with fail
      go_end0
      exact ⟨rfl, by rw [HPP.out]; exact post_trans HPA.out hp⟩
    · have hp' : P = [102, 97, 108, 115, 101] := by rw [HP.out]; simp
      have HPP := Lib.hid hp'
      clear hk1 hk7 hp'
      go_wp2_with fail
      refine Calls.mono (writeString_any w0.heap.size b bs _ _ HPA.out.1 (by have := HLen.out; rw [HPP.out] at this; simpa [ByteArray.size] using this) HA.out.size) ?_
      rintro e w2 ⟨rfl, hp⟩
      go_wp2_with fail
      go_end0
      exact ⟨rfl, by rw [HPP.out]; exact post_trans HPA.out hp⟩
    · have hp' : P = [116, 114, 117, 101] := by rw [HP.out]; simp
      have HPP := Lib.hid hp'
      clear hk1 hk7 hp'
      go_wp2_with fail
      refine Calls.mono (writeString_any w0.heap.size b bs _ _ HPA.out.1 (by have := HLen.out; rw [HPP.out] at this; simpa [ByteArray.size] using this) HA.out.size) ?_
      rintro e w2 ⟨rfl, hp⟩
      go_wp2_with fail
      go_end0
      exact ⟨rfl, by rw [HPP.out]; exact post_trans HPA.out hp⟩
    · have hp' : P = Lib.itoa x.n := by rw [HP.out]; simp
      have HPP := Lib.hid hp'
      clear hk1 hk7 hp'
      have hit := Tryz.strconv_Itoa x.n (by omega) (by omega) _ (HT.out.below HA.out).pow
      have HI := Lib.hid hit
      clear hit
      go_wp2_with fail
      refine Calls.mono HI.out ?_
      rintro e w2 ⟨rfl, k, os, hw2⟩
      have hbg := Lib.below_grow _ (w.alloc (.cells #[.int .i64 4, .int .i64 x.n, .string x.s, .slice A1 x.l.length c1, .slice A2 x.m.length c2] 28)) (Nat.le_refl _) k os
      rw [← hw2] at hbg
      have hpg := post_trans HPA.out (post_of_below HPA.out.1 HA.out.size hbg)
      have HPG := Lib.hid hpg
      clear hpg hbg hw2
      go_wp2_with fail
      refine Calls.mono (writeString_any w0.heap.size b bs _ _ HPG.out.1 (by have := HLen.out; rw [HPP.out] at this; simpa [ByteArray.size] using this) (H0.out.trans HPG.out.2.1).size) ?_
      rintro e w3 ⟨rfl, hp⟩
      go_wp2_with fail
      go_end0
      exact ⟨rfl, by rw [HPP.out]; exact post_trans HPG.out hp⟩
    · have hp' : P = quoteB x.s := by rw [HP.out]; simp
      have HPP := Lib.hid hp'
      clear hk1 hk7 hp'
      go_wp2_with fail
      refine Calls.mono (jquote_any w0.heap.size b bs x.s _ (by omega) (HT.out.below HA.out) HV.out HPA.out.1 (by have := HLen.out; rw [HPP.out] at this; exact this) HA.out.size) ?_
      rintro e w2 ⟨rfl, hp⟩
      go_wp2_with fail
      go_end0
      exact ⟨rfl, by rw [HPP.out]; exact post_trans HPA.out hp⟩
    · have hp' : P = 91 :: (joinFrom (printB d) true x.l ++ [93]) := by rw [HP.out]; simp
      have HPP := Lib.hid hp'
      clear hk1 hk7 hp'
      go_wp2_with fail
      refine Calls.mono (HL.out _ HA.out HPA.out.1 (by have := HLen.out; rw [HPP.out] at this; exact this)) ?_
      rintro e w2 ⟨rfl, hp⟩
      go_wp2_with fail
      go_end0
      exact ⟨rfl, by rw [HPP.out]; exact post_trans HPA.out hp⟩
    · have hp' : P = 123 :: (joinFrom (fun p => quoteB p.1 ++ 58 :: printB d p.2) true x.m ++ [125]) := by rw [HP.out]; simp
      have HPP := Lib.hid hp'
      clear hk1 hk7 hp'
      go_wp2_with fail
      refine Calls.mono (HO.out _ HA.out HPA.out.1 (by have := HLen.out; rw [HPP.out] at this; exact this)) ?_
      rintro e w2 ⟨rfl, hp⟩
      go_wp2_with fail
      go_end0
      exact ⟨rfl, by rw [HPP.out]; exact post_trans HPA.out hp⟩
end Go.Proofs.YtjjgbgojlhaapaaGreatDoor
namespace Go.Proofs.YtjjgbgojlhaapaaGreatDoor
open Go.RowKit Go.Lib

theorem bytesRow_cell (w : World) (l : List UInt8) (cap : Nat) (e : TypeId) (fz : Nat × Nat) (j : Nat) (hj : j < l.length) : (w.drew.alloc (.cells (bytesRow ⟨l.toArray⟩ cap) e fz)).cell? ((⟨w.heap.size, 0, none⟩ : Addr).add j) = some (.int .u8 (l[j].toNat : Int)) := by
  rw [Addr.add_lit]
  have : (w.drew.alloc (.cells (bytesRow ⟨l.toArray⟩ cap) e fz)).heap[w.heap.size]? = some (.cells (bytesRow ⟨l.toArray⟩ cap) e fz) := heap_alloc_new w.drew (.cells (bytesRow ⟨l.toArray⟩ cap) e fz)
  rw [Lib.cell_of_heap this]
  simp only [bytesRow, Nat.zero_add]
  rw [Array.getElem?_append_left (by simpa using hj)]
  simp [hj]
set_option maxRecDepth 100000 in
set_option maxHeartbeats 4000000 in
theorem Print_bad (x : JV) (cs : List Value) (F : Nat → Prop) (w : World) (h : JR w F x cs) (hT : Tabs w) (hm : mayJ 64 x = false) :
    Calls Tryz.prog 14 #[.agg cs.toArray] w fun e w' => e = .returned (.tuple #[.slice none 0 0, .int .i64 4]) ∧ Below w.heap.size w w' := by
  have hbA : Below w.heap.size w (w.alloc (.cells cs.toArray 28)) := bel_alloc (Below.refl _ _) _
  have hc := May_any x cs F _ (JR_later h hbA) (hT.below hbA)
  rw [hm] at hc
  obtain ⟨A1, n1, c1, A2, n2, c2, rfl⟩ := JR_form h
  have HC := Lib.hid hc; have HB := Lib.hid hbA
  clear hc h hT hbA
  go_enter Tryz.func14, Tryz.ntmps14
  go_wp2_with fail
  refine Calls.mono HC.out ?_
  rintro e w2 ⟨rfl, hb⟩
  go_wp2_with fail
  go_ret2
  exact ⟨rfl, bel_trans HB.out hb⟩

set_option maxRecDepth 100000 in
set_option maxHeartbeats 4000000 in
theorem Print_full (x : JV) (cs : List Value) (F : Nat → Prop) (w : World) (h : JR w F x cs) (hT : Tabs w) (hm : mayJ 64 x = true) (hlen : (printB 64 x).length ≤ 140737488355328) :
    Calls Tryz.prog 14 #[.agg cs.toArray] w fun e w' => (∃ g c, e = .returned (.tuple #[.slice (some ⟨g, 0, none⟩) (printB 64 x).length c, .int .i64 0]) ∧ ((printB 64 x).length ≤ c ∧ c ≤ 9223372036854775807) ∧ ∀ j (hj : j < (printB 64 x).length), w'.cell? ((⟨g, 0, none⟩ : Addr).add j) = some (.int .u8 ((printB 64 x)[j].toNat : Int))) ∧ Below w.heap.size w w' := by
  have hbA : Below w.heap.size w (w.alloc (.cells cs.toArray 28)) := bel_alloc (Below.refl _ _) _
  have hc := May_any x cs F _ (JR_later h hbA) (hT.below hbA)
  rw [hm] at hc
  have hp := fun w0 (h0 : Below w.heap.size w w0) b W => print_at 64 x cs F w0 b [] W hm (JR_later h h0) (hT.below h0)
  obtain ⟨A1, n1, c1, A2, n2, c2, rfl⟩ := JR_form h
  have n0 := cell_newB w #[.int .i64 x.k, .int .i64 x.n, .string x.s, .slice A1 n1 c1, .slice A2 n2 c2] 28 0 _ rfl
  have m1 := cell_newB w #[.int .i64 x.k, .int .i64 x.n, .string x.s, .slice A1 n1 c1, .slice A2 n2 c2] 28 1 _ rfl
  have m2 := cell_newB w #[.int .i64 x.k, .int .i64 x.n, .string x.s, .slice A1 n1 c1, .slice A2 n2 c2] 28 2 _ rfl
  have m3 := cell_newB w #[.int .i64 x.k, .int .i64 x.n, .string x.s, .slice A1 n1 c1, .slice A2 n2 c2] 28 3 _ rfl
  have m4 := cell_newB w #[.int .i64 x.k, .int .i64 x.n, .string x.s, .slice A1 n1 c1, .slice A2 n2 c2] 28 4 _ rfl
  have HC := Lib.hid hc; have HB := Lib.hid hbA; have HP := Lib.hid hp; have HL := Lib.hid hlen
  clear hc h hT hbA hp hlen hm
  generalize printB 64 x = P at *
  go_enter Tryz.func14, Tryz.ntmps14
  go_wp2_with fail
  refine Calls.mono HC.out ?_
  rintro e w2 ⟨rfl, hb⟩
  have l0 := cell_later' hb n0
  have l1 := cell_later' hb m1
  have l2 := cell_later' hb m2
  have l3 := cell_later' hb m3
  have l4 := cell_later' hb m4
  have hz : w.heap.size < w2.heap.size := World.block_lt_of_cell? _ _ l0
  have HB2 := Lib.hid (bel_trans HB.out hb)
  have hbW : Below w2.heap.size w2 (w2.alloc (.cells #[.pointer none, .slice none 0 0] 80)) := bel_alloc (Below.refl _ _) _
  have hfr : Sb w2.heap.size w2.heap.size [] (w2.alloc (.cells #[.pointer none, .slice none 0 0] 80)) := Lib.fresh_isBuilder _ _ w2
  have HW := Lib.hid hbW; have HF := Lib.hid hfr
  clear n0 m1 m2 m3 m4 hb hbW hfr
  go_wp2_with fail
  refine Calls.mono (HP.out w2 HB2.out w2.heap.size _ HW.out HF.out (by simpa using HL.out)) ?_
  rintro e w3 ⟨rfl, hp⟩
  have hsb : Sb w2.heap.size w2.heap.size (Lib.byteCells (P)) w3 := by simpa using hp.1
  have hstr := Tryz.Builder_String_any w2.heap.size w2.heap.size (P) w3 hsb (Nat.le_trans HW.out.size hp.2.1.size)
  have HS := Lib.hid hstr; have HP3 := Lib.hid hp.2.1
  clear hp hsb hstr
  go_wp2_with fail
  refine Calls.mono HS.out ?_
  rintro e w4 ⟨rfl, hb4⟩
  have HB4 := Lib.hid (HB2.out.trans ((HW.out.trans (HP3.out.trans hb4)).mono HB2.out.size))
  clear hb4
  go_wp2_with fail
  rw [run_bytes_of_string w4 _ _ 5 _ Tryz.underlying9 Tryz.underlying22 Tryz.underlying5]
  simp only [Result.andThen]
  rw [Oper.upon_value]
  have hcc := bytesRow_cell w4 P
  have hb5 := fun o => (bel_drew HB4.out).alloc (B := w.heap.size) (by have := HB4.out.size; exact this) o
  have HC5 := Lib.hid hcc; have HB5 := Lib.hid hb5
  clear hcc hb5
  go_wp2_with fail
  go_ret2
  exact ⟨⟨w4.heap.size, grownCap w4 P.length 0 5, rfl, ⟨grownCap_ge _ _ _ _, by have := grownCap_le_maxLen w4 P.length 0 5 (by have := HL.out; simp only [maxLen]; omega); simpa [maxLen] using this⟩, fun j hj => HC5.out _ _ _ j hj⟩, HB5.out _⟩
theorem Print_good (x : JV) (cs : List Value) (F : Nat → Prop) (w : World) (h : JR w F x cs) (hT : Tabs w) (hm : mayJ 64 x = true) (hlen : (printB 64 x).length ≤ 140737488355328) :
    Calls Tryz.prog 14 #[.agg cs.toArray] w fun e w' => (∃ g c, e = .returned (.tuple #[.slice (some ⟨g, 0, none⟩) (printB 64 x).length c, .int .i64 0]) ∧ ∀ j (hj : j < (printB 64 x).length), w'.cell? ((⟨g, 0, none⟩ : Addr).add j) = some (.int .u8 ((printB 64 x)[j].toNat : Int))) ∧ Below w.heap.size w w' :=
  (Print_full x cs F w h hT hm hlen).mono fun _ _ ⟨⟨g, c, e1, _, h2⟩, hb⟩ => ⟨⟨g, c, e1, h2⟩, hb⟩
end Go.Proofs.YtjjgbgojlhaapaaGreatDoor
