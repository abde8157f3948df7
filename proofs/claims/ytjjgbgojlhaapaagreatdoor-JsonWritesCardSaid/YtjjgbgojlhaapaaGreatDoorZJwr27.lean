/- Parts of the proof: Gp. -/
import Derived.Test.YtjjgbgojlhaapaaGreatDoorZJwr24
import Derived.Test.YtjjgbgojlhaapaaGreatDoorZJwr25
import Derived.Test.YtjjgbgojlhaapaaGreatDoorZJwr26
import Derived.Test.YtjjgbgojlhaapaaGreatDoorZJwr16
namespace Go.Proofs.YtjjgbgojlhaapaaGreatDoor
open Go.RowKit Go.Lib

def PrAt (d : Nat) : Prop := ∀ (x : JV) (cs : List Value) (F : Nat → Prop) (w : World), mayJ d x = true → JR w F x cs → (printB d x).length ≤ 1000000000 →
  Calls Tryz.prog 35 #[.agg cs.toArray] w fun e w' => e = .returned (.string ⟨(printB d x).toArray⟩) ∧ Below w.heap.size w w'
set_option maxRecDepth 100000 in
set_option maxHeartbeats 8000000 in
theorem print_word1 (x : JV) (cs : List Value) (F : Nat → Prop) (w : World) (hk : x.k = 1) (h : JR w F x cs) : Calls Tryz.prog 35 #[.agg cs.toArray] w fun e w' => e = .returned (.string ⟨([110, 117, 108, 108] : List UInt8).toArray⟩) ∧ Below w.heap.size w w' := by
  obtain ⟨A1, n1, c1, A2, n2, c2, rfl⟩ := JR_form h
  have e1 : (x.k == 1) = true := by rw [hk]; rfl
  clear h hk
  go_enter Tryz.func35, Tryz.ntmps35
  go_wp2_with fail
  go_ret
  exact ⟨rfl, bel_alloc (Below.refl _ _) _⟩
set_option maxRecDepth 100000 in
set_option maxHeartbeats 8000000 in
theorem print_word2 (x : JV) (cs : List Value) (F : Nat → Prop) (w : World) (hk : x.k = 2) (h : JR w F x cs) : Calls Tryz.prog 35 #[.agg cs.toArray] w fun e w' => e = .returned (.string ⟨([102, 97, 108, 115, 101] : List UInt8).toArray⟩) ∧ Below w.heap.size w w' := by
  obtain ⟨A1, n1, c1, A2, n2, c2, rfl⟩ := JR_form h
  have e1 : (x.k == 1) = false := by rw [hk]; rfl
  have e2 : (x.k == 2) = true := by rw [hk]; rfl
  clear h hk
  go_enter Tryz.func35, Tryz.ntmps35
  go_wp2_with fail
  go_ret
  exact ⟨rfl, bel_alloc (Below.refl _ _) _⟩
set_option maxRecDepth 100000 in
set_option maxHeartbeats 8000000 in
theorem print_word3 (x : JV) (cs : List Value) (F : Nat → Prop) (w : World) (hk : x.k = 3) (h : JR w F x cs) : Calls Tryz.prog 35 #[.agg cs.toArray] w fun e w' => e = .returned (.string ⟨([116, 114, 117, 101] : List UInt8).toArray⟩) ∧ Below w.heap.size w w' := by
  obtain ⟨A1, n1, c1, A2, n2, c2, rfl⟩ := JR_form h
  have e1 : (x.k == 1) = false := by rw [hk]; rfl
  have e2 : (x.k == 2) = false := by rw [hk]; rfl
  have e3 : (x.k == 3) = true := by rw [hk]; rfl
  clear h hk
  go_enter Tryz.func35, Tryz.ntmps35
  go_wp2_with fail
  go_ret
  exact ⟨rfl, bel_alloc (Below.refl _ _) _⟩
set_option maxRecDepth 100000 in
set_option maxHeartbeats 8000000 in
theorem print_num (x : JV) (cs : List Value) (F : Nat → Prop) (w : World) (hk : x.k = 4) (hn : -9007199254740991 ≤ x.n ∧ x.n ≤ 9007199254740991) (h : JR w F x cs) : Calls Tryz.prog 35 #[.agg cs.toArray] w fun e w' => e = .returned (.string ⟨(Lib.itoa x.n).toArray⟩) ∧ Below w.heap.size w w' := by
  have hd := fun W => dec_any x.n (by omega) (by omega) W
  obtain ⟨A1, n1, c1, A2, n2, c2, rfl⟩ := JR_form h
  have e1 : (x.k == 1) = false := by rw [hk]; rfl
  have e2 : (x.k == 2) = false := by rw [hk]; rfl
  have e3 : (x.k == 3) = false := by rw [hk]; rfl
  have e4 : (x.k == 4) = true := by rw [hk]; rfl
  have HD := Lib.hid hd
  clear h hk hd hn
  go_enter Tryz.func35, Tryz.ntmps35
  go_wp2_with fail
  refine Calls.mono (HD.out _) ?_
  rintro e w1 ⟨rfl, hb⟩
  go_wp2_with fail
  go_ret
  exact ⟨rfl, bel_trans (bel_alloc (Below.refl _ _) _) hb⟩
set_option maxRecDepth 100000 in
set_option maxHeartbeats 8000000 in
theorem print_text (x : JV) (cs : List Value) (F : Nat → Prop) (w : World) (hk : x.k = 5) (hv : validB x.s = true) (hz : x.s.size ≤ 8000) (h : JR w F x cs) : Calls Tryz.prog 35 #[.agg cs.toArray] w fun e w' => e = .returned (.string ⟨(quoteB x.s).toArray⟩) ∧ Below w.heap.size w w' := by
  have hd := fun W => quote_ref_good x.s hv (by omega) W
  obtain ⟨A1, n1, c1, A2, n2, c2, rfl⟩ := JR_form h
  have e1 : (x.k == 1) = false := by rw [hk]; rfl
  have e2 : (x.k == 2) = false := by rw [hk]; rfl
  have e3 : (x.k == 3) = false := by rw [hk]; rfl
  have e4 : (x.k == 4) = false := by rw [hk]; rfl
  have e5 : (x.k == 5) = true := by rw [hk]; rfl
  have HD := Lib.hid hd
  clear h hk hd hv hz
  go_enter Tryz.func35, Tryz.ntmps35
  go_wp2_with fail
  refine Calls.mono (HD.out _) ?_
  rintro e w1 ⟨rfl, hb⟩
  go_wp2_with fail
  go_ret
  exact ⟨rfl, bel_trans (bel_alloc (Below.refl _ _) _) hb⟩
set_option maxRecDepth 100000 in
set_option maxHeartbeats 8000000 in
theorem print_list_ref (d : Nat) (ih : PrAt d) (x : JV) (cs : List Value) (F : Nat → Prop) (w : World) (hk : x.k = 6) (hmay : ∀ y ∈ x.l, mayJ d y = true) (hlen : (91 :: (joinFrom (printB d) true x.l ++ [93])).length ≤ 1000000000) (h : JR w F x cs) :
    Calls Tryz.prog 35 #[.agg cs.toArray] w fun e w' => e = .returned (.string ⟨(91 :: (joinFrom (printB d) true x.l ++ [93])).toArray⟩) ∧ Below w.heap.size w w' := by
  obtain ⟨vl, vm, ⟨rfl, hsz⟩, hl, hm⟩ := JR_iff.1 h
  obtain ⟨A1, c1, rfl, hl63, hel⟩ := val_cells hl
  obtain ⟨A2, c2, rfl, hm63, hem⟩ := mem_cells hm
  have e1 : (x.k == 1) = false := by rw [hk]; rfl
  have e2 : (x.k == 2) = false := by rw [hk]; rfl
  have e3 : (x.k == 3) = false := by rw [hk]; rfl
  have e4 : (x.k == 4) = false := by rw [hk]; rfl
  have e5 : (x.k == 5) = false := by rw [hk]; rfl
  have e6 : (x.k == 6) = true := by rw [hk]; rfl
  have hl0 := cell_newB w #[.int .i64 x.k, .int .i64 x.n, .string x.s, .slice A1 x.l.length c1, .slice A2 x.m.length c2] 35 3 _ rfl
  have HEL := Lib.hid hel; have IH := Lib.hid ih; have HM := Lib.hid hmay; have HLN := Lib.hid hlen
  clear h hk hl hm hel hem hsz ih hmay hlen hm63
  go_enter Tryz.func35, Tryz.ntmps35
  go_upto_region 1 with (fail)
  have hbA : Below w.heap.size w (w.alloc (.cells #[.int .i64 x.k, .int .i64 x.n, .string x.s, .slice A1 x.l.length c1, .slice A2 x.m.length c2] 35)) := bel_alloc (Below.refl _ _) _
  have ka := cell_newB w #[.int .i64 x.k, .int .i64 x.n, .string x.s, .slice A1 x.l.length c1, .slice A2 x.m.length c2] 35 0 _ rfl
  generalize w.alloc (.cells #[.int .i64 x.k, .int .i64 x.n, .string x.s, .slice A1 x.l.length c1, .slice A2 x.m.length c2] 35) = W at *
  generalize hn : x.l.length = n at *
  have Hn := Lib.hid hn
  clear hn
  go_wp2_with fail
  go_loopg [5, 6] n (fun gg s5 s6 wr => ∃ (k : Nat) (T : List UInt8), k ≤ n ∧ n - k ≤ gg ∧ s6 = .int .i64 k ∧ s5 = .string ⟨T.toArray⟩ ∧ Aside (Below W.heap.size W wr) ∧ Aside (91 :: joinFrom (printB d) true x.l = T ++ joinFrom (printB d) (k == 0) (x.l.drop k)))
  case atStart => exact ⟨0, [91], Nat.zero_le _, by omega, rfl, rfl, Below.refl _ _, rfl⟩
  case round =>
    obtain ⟨k, T, hk, hgg, rfl, rfl, HB, HA⟩ := hrel
    have hbw := bel_trans hbA HB.out
    have l2 := cell_later' HB.out hl0
    have hzr : w.heap.size < wr.heap.size := World.block_lt_of_cell? _ _ l2
    by_cases hlt : k < n
    · have hltz : (k : Int) < (n : Int) := by omega
      obtain ⟨y, hx⟩ : ∃ p, x.l[k]? = some p := get_ex (by have := Hn.out; omega)
      obtain ⟨b, o, B1, k1, d1, B2, k2, d2, rfl, e0, e1', e2', e3', e4', hjr⟩ := HEL.out k y hx
      have r0 := cell_later' hbw e0
      have r1 := cell_later' hbw e1'
      have r2 := cell_later' hbw e2'
      have r3 := cell_later' hbw e3'
      have r4 := cell_later' hbw e4'
      have hbr : b < wr.heap.size := World.block_lt_of_cell? _ _ r0
      have hst := HA.out
      rw [join_step hx] at hst
      have hle : T.length + (printB d y).length + 1 ≤ 1000000000 := by
        have h1 := congrArg List.length hst
        have h2 := HLN.out
        simp only [List.length_cons, List.length_append, List.length_nil] at h1 h2
        split at h1 <;> (try simp only [List.length_cons] at h1) <;> omega
      have hcall := IH.out y _ F wr (HM.out y (List.mem_of_getElem? hx)) (JR_later hjr hbw) (by omega)
      have HC := Lib.hid hcall; have HS := Lib.hid hst; have HLE := Lib.hid hle
      clear hx hjr e0 e1' e2' e3' e4' hcall hst hle
      by_cases hk0 : k = 0
      · have hz1 : decide (0 < k) = false := by simp [hk0]
        have hz2 : decide ((0 : Int) < (k : Int)) = false := by simp [hk0]
        have hT : 91 :: joinFrom (printB d) true x.l = (T ++ printB d y) ++ joinFrom (printB d) (k + 1 == 0) (x.l.drop (k + 1)) := by rw [HS.out, if_pos hk0, List.append_assoc]; rfl
        have s1 := fun W : World => str_sum (P := Tryz.prog) T (printB d y) W (by have := HLE.out; omega)
        generalize T ++ printB d y = T2 at *
        have HT := Lib.hid hT; have HK0 := Lib.hid hk0
        clear hT hk0
        go_wp2_with fail
        refine Calls.mono HC.out ?_
        rintro e w5 ⟨rfl, hb5⟩
        go_wp2_with fail
        go_roundg (n - (k + 1))
        case measure => omega
        case rel => exact ⟨k + 1, T2, by omega, by omega, by simp, rfl, bel_trans HB.out hb5, HT.out⟩
      · have hz1 : decide (0 < k) = true := by simp; omega
        have hz2 : decide ((0 : Int) < (k : Int)) = true := by simp; omega
        have hT : 91 :: joinFrom (printB d) true x.l = (T ++ [44] ++ printB d y) ++ joinFrom (printB d) (k + 1 == 0) (x.l.drop (k + 1)) := by rw [HS.out, if_neg hk0]; simp
        have s0 := fun W : World => str_sum (P := Tryz.prog) T [44] W (by have := HLE.out; simp; omega)
        have hle1 : (T ++ [44]).length = T.length + 1 := by simp
        generalize T ++ [44] = T1 at *
        have s1 := fun W : World => str_sum (P := Tryz.prog) T1 (printB d y) W (by have := HLE.out; omega)
        generalize T1 ++ printB d y = T2 at *
        have HT := Lib.hid hT; have HK0 := Lib.hid hk0
        clear hT hle1 hk0
        go_wp2_with fail
        refine Calls.mono HC.out ?_
        rintro e w5 ⟨rfl, hb5⟩
        go_wp2_with fail
        go_roundg (n - (k + 1))
        case measure => omega
        case rel => exact ⟨k + 1, T2, by omega, by omega, by simp, rfl, bel_trans HB.out hb5, HT.out⟩
    · have hltz : ¬ ((k : Int) < (n : Int)) := by omega
      have hT : 91 :: (joinFrom (printB d) true x.l ++ [93]) = T ++ [93] := by
        have := HA.out
        rw [List.drop_of_length_le (by have := Hn.out; omega)] at this
        rw [← List.cons_append, this]
        simp [joinFrom]
      have hle : T.length + 1 ≤ 1000000000 := by have := HLN.out; rw [hT] at this; simpa using this
      have s0 := fun W : World => str_sum (P := Tryz.prog) T [93] W (by simp; omega)
      generalize T ++ [93] = T1 at *
      have HTT := Lib.hid hT
      clear hT hle
      go_wp2_with fail
      go_ret
      exact ⟨by rw [HTT.out]; rfl, hbw⟩
set_option maxRecDepth 100000 in
set_option maxHeartbeats 8000000 in
theorem print_obj_ref (d : Nat) (ih : PrAt d) (x : JV) (cs : List Value) (F : Nat → Prop) (w : World) (hk : x.k = 7) (hmay : ∀ y ∈ x.m, mayJ d y.2 = true ∧ shortB y.1 = true) (hlen : (123 :: (joinFrom (prMem d) true x.m ++ [125])).length ≤ 1000000000) (h : JR w F x cs) :
    Calls Tryz.prog 35 #[.agg cs.toArray] w fun e w' => e = .returned (.string ⟨(123 :: (joinFrom (prMem d) true x.m ++ [125])).toArray⟩) ∧ Below w.heap.size w w' := by
  obtain ⟨vl, vm, ⟨rfl, hsz⟩, hl, hm⟩ := JR_iff.1 h
  obtain ⟨A1, c1, rfl, hl63, hel⟩ := val_cells hl
  obtain ⟨A2, c2, rfl, hm63, hem⟩ := mem_cells hm
  have e1 : (x.k == 1) = false := by rw [hk]; rfl
  have e2 : (x.k == 2) = false := by rw [hk]; rfl
  have e3 : (x.k == 3) = false := by rw [hk]; rfl
  have e4 : (x.k == 4) = false := by rw [hk]; rfl
  have e5 : (x.k == 5) = false := by rw [hk]; rfl
  have e6 : (x.k == 6) = false := by rw [hk]; rfl
  have hl0 := cell_newB w #[.int .i64 x.k, .int .i64 x.n, .string x.s, .slice A1 x.l.length c1, .slice A2 x.m.length c2] 35 4 _ rfl
  have HEL := Lib.hid hem; have IH := Lib.hid ih; have HM := Lib.hid hmay; have HLN := Lib.hid hlen
  clear h hk hl hm hel hem hsz ih hmay hlen hl63
  go_enter Tryz.func35, Tryz.ntmps35
  go_upto_region 1 with (fail)
  have hbA : Below w.heap.size w (w.alloc (.cells #[.int .i64 x.k, .int .i64 x.n, .string x.s, .slice A1 x.l.length c1, .slice A2 x.m.length c2] 35)) := bel_alloc (Below.refl _ _) _
  have ka := cell_newB w #[.int .i64 x.k, .int .i64 x.n, .string x.s, .slice A1 x.l.length c1, .slice A2 x.m.length c2] 35 0 _ rfl
  generalize w.alloc (.cells #[.int .i64 x.k, .int .i64 x.n, .string x.s, .slice A1 x.l.length c1, .slice A2 x.m.length c2] 35) = W at *
  generalize hn : x.m.length = n at *
  have Hn := Lib.hid hn
  clear hn
  go_wp2_with fail
  go_loopg [7, 8] n (fun gg s7 s8 wr => ∃ (k : Nat) (T : List UInt8), k ≤ n ∧ n - k ≤ gg ∧ s8 = .int .i64 k ∧ s7 = .string ⟨T.toArray⟩ ∧ Aside (Below W.heap.size W wr) ∧ Aside (123 :: joinFrom (prMem d) true x.m = T ++ joinFrom (prMem d) (k == 0) (x.m.drop k)))
  case atStart => exact ⟨0, [123], Nat.zero_le _, by omega, rfl, rfl, Below.refl _ _, rfl⟩
  case round =>
    obtain ⟨k, T, hk, hgg, rfl, rfl, HB, HA⟩ := hrel
    have hbw := bel_trans hbA HB.out
    have l2 := cell_later' HB.out hl0
    have hzr : w.heap.size < wr.heap.size := World.block_lt_of_cell? _ _ l2
    by_cases hlt : k < n
    · have hltz : (k : Int) < (n : Int) := by omega
      obtain ⟨⟨nm, y⟩, hx⟩ : ∃ p, x.m[k]? = some p := get_ex (by have := Hn.out; omega)
      obtain ⟨b, o, B1, k1, d1, B2, k2, d2, rfl, hnz, e0, e1', e2', e3', e4', e5', hjr⟩ := HEL.out k nm y hx
      have hms := HM.out _ (List.mem_of_getElem? hx)
      have hst := HA.out
      rw [join_step hx] at hst
      have hpm : prMem d (nm, y) = quoteB nm ++ [58] ++ printB d y := by simp [prMem]
      have hle : T.length + ((quoteB nm).length + 1 + (printB d y).length) + 1 ≤ 1000000000 := by
        have h1 := congrArg List.length hst
        have h2 := HLN.out
        have h3 := congrArg List.length hpm
        simp only [List.length_cons, List.length_append, List.length_nil] at h1 h2 h3
        split at h1 <;> (try simp only [List.length_cons] at h1) <;> omega
      rw [hpm] at hst
      have hv : validB nm = true ∧ nm.size ≤ 8000 := by have := hms.2; unfold shortB at this; simpa using this
      have hqc := quote_ref_good nm hv.1 (by omega) wr
      have hcall := fun V (hV : Below wr.heap.size wr V) => IH.out y _ F V hms.1 (JR_later hjr (bel_trans hbw hV)) (by omega)
      have HQC := Lib.hid hqc; have HC := Lib.hid hcall; have HS := Lib.hid hst; have HLE := Lib.hid hle
      have R := fun V (hV : Below wr.heap.size wr V) => And.intro (cell_later' (bel_trans hbw hV) e0) (And.intro (cell_later' (bel_trans hbw hV) e1') (And.intro (cell_later' (bel_trans hbw hV) e2') (And.intro (cell_later' (bel_trans hbw hV) e3') (And.intro (cell_later' (bel_trans hbw hV) e4') (cell_later' (bel_trans hbw hV) e5')))))
      have HRR := Lib.hid R
      have r0 := cell_later' hbw e0
      have hbr : b < wr.heap.size := World.block_lt_of_cell? _ _ r0
      clear hx hjr e0 e1' e2' e3' e4' e5' hcall hst hle hqc hpm hms hv hnz R
      generalize quoteB nm = Q at *
      have q1 := fun W : World => str_sum (P := Tryz.prog) Q [58] W (by have := HLE.out; simp; omega)
      have ql : (Q ++ [58]).length = Q.length + 1 := by simp
      generalize Q ++ [58] = Q2 at *
      have q2 := fun W : World => str_sum (P := Tryz.prog) Q2 (printB d y) W (by have := HLE.out; omega)
      have qm : (Q2 ++ printB d y).length = Q.length + 1 + (printB d y).length := by rw [List.length_append, ql]
      generalize Q2 ++ printB d y = M at *
      have HQM := Lib.hid qm
      clear ql qm
      by_cases hk0 : k = 0
      · have hz1 : decide (0 < k) = false := by simp [hk0]
        have hz2 : decide ((0 : Int) < (k : Int)) = false := by simp [hk0]
        have hT : 123 :: joinFrom (prMem d) true x.m = (T ++ M) ++ joinFrom (prMem d) (k + 1 == 0) (x.m.drop (k + 1)) := by rw [HS.out, if_pos hk0, List.append_assoc]; rfl
        have s1 := fun W : World => str_sum (P := Tryz.prog) T M W (by have := HLE.out; have := HQM.out; omega)
        generalize T ++ M = T2 at *
        have HT := Lib.hid hT; have HK0 := Lib.hid hk0
        clear hT hk0
        go_wp2_with fail
        refine Calls.mono HQC.out ?_
        rintro e w4 ⟨rfl, hb4⟩
        obtain ⟨t0, t1, t2, t3, t4, t5⟩ := HRR.out w4 hb4
        have l4 := cell_later' hb4 l2
        go_wp2_with fail
        refine Calls.mono (HC.out _ hb4) ?_
        rintro e w5 ⟨rfl, hb5⟩
        go_wp2_with fail
        go_roundg (n - (k + 1))
        case measure => omega
        case rel => exact ⟨k + 1, T2, by omega, by omega, by simp, rfl, bel_trans HB.out (bel_trans hb4 hb5), HT.out⟩
      · have hz1 : decide (0 < k) = true := by simp; omega
        have hz2 : decide ((0 : Int) < (k : Int)) = true := by simp; omega
        have hT : 123 :: joinFrom (prMem d) true x.m = (T ++ [44] ++ M) ++ joinFrom (prMem d) (k + 1 == 0) (x.m.drop (k + 1)) := by rw [HS.out, if_neg hk0]; simp
        have s0 := fun W : World => str_sum (P := Tryz.prog) T [44] W (by have := HLE.out; simp; omega)
        have hle1 : (T ++ [44]).length = T.length + 1 := by simp
        generalize T ++ [44] = T1 at *
        have s1 := fun W : World => str_sum (P := Tryz.prog) T1 M W (by have := HLE.out; have := HQM.out; omega)
        generalize T1 ++ M = T2 at *
        have HT := Lib.hid hT; have HK0 := Lib.hid hk0
        clear hT hle1 hk0
        go_wp2_with fail
        refine Calls.mono HQC.out ?_
        rintro e w4 ⟨rfl, hb4⟩
        obtain ⟨t0, t1, t2, t3, t4, t5⟩ := HRR.out w4 hb4
        have l4 := cell_later' hb4 l2
        go_wp2_with fail
        refine Calls.mono (HC.out _ hb4) ?_
        rintro e w5 ⟨rfl, hb5⟩
        go_wp2_with fail
        go_roundg (n - (k + 1))
        case measure => omega
        case rel => exact ⟨k + 1, T2, by omega, by omega, by simp, rfl, bel_trans HB.out (bel_trans hb4 hb5), HT.out⟩
    · have hltz : ¬ ((k : Int) < (n : Int)) := by omega
      have hT : 123 :: (joinFrom (prMem d) true x.m ++ [125]) = T ++ [125] := by
        have := HA.out
        rw [List.drop_of_length_le (by have := Hn.out; omega)] at this
        rw [← List.cons_append, this]
        simp [joinFrom]
      have hle : T.length + 1 ≤ 1000000000 := by have := HLN.out; rw [hT] at this; simpa using this
      have s0 := fun W : World => str_sum (P := Tryz.prog) T [125] W (by simp; omega)
      generalize T ++ [125] = T1 at *
      have HTT := Lib.hid hT
      clear hT hle
      go_wp2_with fail
      go_ret
      exact ⟨by rw [HTT.out]; rfl, hbw⟩
theorem print1_at : ∀ d, PrAt d
  | 0 => fun x cs F w h => absurd h (by simp [mayJ])
  | d + 1 => fun x cs F w hm h hlen => by
    have ih := print1_at d
    have hsh := shape_of hm
    rw [printB.eq_2] at hlen ⊢
    cases hsh with
    | word k hk => rcases hk with rfl | rfl | rfl
                   · exact print_word1 _ cs F w rfl h
                   · exact print_word2 _ cs F w rfl h
                   · exact print_word3 _ cs F w rfl h
    | num n hn => exact print_num _ cs F w rfl hn h
    | text s hs =>
      have hv : validB s = true ∧ s.size ≤ 8000 := by unfold shortB at hs; simpa using hs
      exact print_text _ cs F w rfl hv.1 hv.2 h
    | list l hl => exact print_list_ref d ih _ cs F w rfl hl hlen h
    | obj m hmm hl =>
      have hmi := (members_iff none m).1 hmm
      exact print_obj_ref d ih _ cs F w rfl (fun q hq => ⟨hl q hq, hmi.1 q hq⟩) hlen h
end Go.Proofs.YtjjgbgojlhaapaaGreatDoor
