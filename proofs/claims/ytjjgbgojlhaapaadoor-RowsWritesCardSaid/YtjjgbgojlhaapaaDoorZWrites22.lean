/- Parts of the proof: Nb. -/
import Derived.Test.YtjjgbgojlhaapaaDoorZWrites20
import Derived.Test.YtjjgbgojlhaapaaDoorZWrites17
import Derived.Test.YtjjgbgojlhaapaaDoorZWrites21
namespace Go.Proofs.YtjjgbgojlhaapaaDoor
open Go.RowKit Go.Lib

theorem ba_cat (a b : List UInt8) : (⟨a.toArray⟩ : ByteArray) ++ ⟨b.toArray⟩ = ⟨(a ++ b).toArray⟩ := by
  apply ByteArray.ext
  simp [ByteArray.data_append]
theorem str_sum {P : Program} (a b : List UInt8) (W : World) (h : a.length + b.length ≤ 9223372036854775807) : (Op.stringOp .add (⟨a.toArray⟩ : ByteArray) ⟨b.toArray⟩).run P W = .ok (.string ⟨(a ++ b).toArray⟩) W := by
  have := run_string_add_sum (P := P) W (⟨a.toArray⟩ : ByteArray) ⟨b.toArray⟩ (by simpa [ByteArray.size] using h)
  rwa [ba_cat] at this
theorem bs_string (w : World) (l : List UInt8) (t : TypeId) (c cc : Nat) (fz : Nat × Nat) : BSl (w.drew.alloc (.cells (bytesRow ⟨l.toArray⟩ c) t fz)) (fun _ => True) (.slice (some ⟨w.heap.size, 0, none⟩) (⟨l.toArray⟩ : ByteArray).size cc) ⟨l.toArray⟩ := by
  refine .inl ⟨_, _, _, rfl, trivial, fun i hi => ?_⟩
  have h := bytesRow_cell w l c t fz i (by simpa [ByteArray.size] using hi)
  rw [Addr.add_mid] at h
  exact h
theorem JR_num (w : World) (F : Nat → Prop) (n : Int) : JR w F (numV n) (numC n) := by
  exact JR_iff.2 ⟨_, _, ⟨rfl, (show (0 : Nat) ≤ 9223372036854775807 by decide)⟩, Sl.nil none 0, Sl.nil none 0⟩
theorem bsl_later {w w' : World} {v : Value} {s : ByteArray} (h : BSl w (fun b => b < w.heap.size) v s) (hb : Below w.heap.size w w') : BSl w' (fun b => b < w'.heap.size) v s := by
  rcases h with ⟨b, o, c, rfl, hF, hc⟩ | h
  · exact .inl ⟨b, o, c, rfl, Nat.lt_of_lt_of_le hF hb.size, fun i hi => (World.cell?_of_block (w := w) (a := ⟨b, o + i, none⟩) (hb.block b hF)).trans (hc i hi)⟩
  · exact .inr h
set_option maxRecDepth 100000 in
set_option maxHeartbeats 16000000 in
theorem jsonNumbers_may (n : Int) (hn0 : -9223372036854775808 ≤ n) (hn1 : n < 9223372036854775808) (hm : -9007199254740991 ≤ n ∧ n ≤ 9007199254740991) (w : World) (hT : Tabs w) : Calls Tryd.prog 6 #[.int .i64 n] w fun z w' => z = .returned (.bool true) ∧ Below w.heap.size w w' := by
  have hf := first_any w hT
  have HF := Lib.hid hf; have HT := Lib.hid hT
  have hd := fun w => dec_any n hn0 hn1 w
  have hlen := itoa_len n hn0 hn1
  have hpos : 0 < (Lib.itoa n).length := by obtain ⟨c, r, e, _⟩ := itoa_head n; rw [e]; simp
  have h9 := parse_num_more (n := n) (c := 46) (t := [48]) hn0 hn1 (by decide) (by decide)
  have h10 := parse_num_more (n := n) (c := 101) (t := [49]) hn0 hn1 (by decide) (by decide)
  have h11 := parse_zero (n := n) hn0 hn1
  have hN := parse_num hm
  have hM : mayJ 64 (numV n) = true := may_numV hm.1 hm.2
  have d1 : decide (-9007199254740991 ≤ n) = true := by simpa using hm.1
  have d2 : decide (n ≤ 9007199254740991) = true := by simpa using hm.2
  clear hm
  have HD := Lib.hid hd; have HLEN := Lib.hid hlen; have H9 := Lib.hid h9; have H10 := Lib.hid h10; have H11 := Lib.hid h11; have HN := Lib.hid hN; have HM := Lib.hid hM; have HPN := Lib.hid (print_numV 63 n); have HPOS := Lib.hid hpos
  clear hf hT hd hlen h9 h10 h11 hN hM hpos hn0 hn1
  generalize Lib.itoa n = S at *
  have s9 := fun W : World => str_sum (P := Tryd.prog) S [46, 48] W (by have := HLEN.out; simp; omega)
  have s10 := fun W : World => str_sum (P := Tryd.prog) S [101, 49] W (by have := HLEN.out; simp; omega)
  have s11 := fun W : World => str_sum (P := Tryd.prog) [48] S W (by have := HLEN.out; simp; omega)
  rw [show [48] ++ S = 48 :: S from rfl] at s11
  generalize S ++ [46, 48] = S9 at *
  generalize S ++ [101, 49] = S10 at *
  generalize 48 :: S = S11 at *
  go_enter Tryd.func6, Tryd.ntmps6
  go_wp2_with fail
  refine Calls.mono HF.out ?_
  rintro e w1 ⟨rfl, hb1⟩
  have HB1 := Lib.hid hb1
  have hpr := Print_good (numV n) _ (fun _ => True) w1 (JR_num w1 _ n) (HT.out.below hb1) HM.out (by rw [HPN.out]; have := HLEN.out; omega)
  rw [HPN.out] at hpr
  have HPR := Lib.hid hpr
  clear hb1 hpr
  go_wp2_with fail
  refine Calls.mono HPR.out ?_
  rintro e w2 ⟨⟨g, cc, rfl, hbs⟩, hb2⟩
  have hs2 : BSl w2 (fun b => b < w2.heap.size) (.slice (some ⟨g, 0, none⟩) S.length cc) ⟨S.toArray⟩ := by
    refine .inl ⟨g, 0, cc, by rw [list_size], World.block_lt_of_cell? w2 _ (hbs 0 HPOS.out), fun i hi => ?_⟩
    have h := hbs i (by simpa [ByteArray.size] using hi)
    rw [Addr.add_mid] at h
    exact h
  have HS2 := Lib.hid hs2
  clear hbs hs2
  have HB2 := Lib.hid (bel_trans HB1.out hb2)
  clear hb2 HPR
  go_wp2_with fail
  refine Calls.mono (HD.out _) ?_
  rintro e w3 ⟨rfl, hb3⟩
  have HB3 := Lib.hid (bel_trans HB2.out hb3)
  have HS3 := Lib.hid (bsl_later HS2.out hb3)
  clear hb3
  go_wp2_with fail
  rw [run_bytes_of_string w3 _ _ 5 _ Tryd.underlying9 Tryd.underlying58 Tryd.underlying5]
  simp only [Result.andThen]
  rw [Oper.upon_value]
  have hbs := bs_string w3 S 5
  have hb5 := fun o => (bel_drew HB3.out).alloc (B := w.heap.size) (by have := HB3.out.size; exact this) o
  have hbl := fun o => bel_alloc (bel_drew (Below.refl w3.heap.size w3)) o
  have HS5 := Lib.hid hbs; have HB5 := Lib.hid hb5; have HL5 := Lib.hid hbl
  clear hbs hb5 hbl
  go_wp2_with fail
  have hpa := fun c cc fz => parse_any ⟨S.toArray⟩ _ (fun _ => True) _ (HT.out.below (HB5.out _)) (HS5.out c cc fz)
  refine Calls.mono (hpa _ _ _) ?_
  rintro e u8 ⟨A1, n1, c1, A2, n2, c2, rfl, hj, hb⟩
  have hbw := bel_trans (HB5.out _) hb
  have hcw := bel_trans (HL5.out _) hb
  clear hpa hb hj
  rw [HN.out]
  try simp only
  have hA2 := bel_alloc (Below.refl u8.heap.size u8) (.cells #[.int .i64 (JV.k (numV n)), .int .i64 (JV.n (numV n)), .string (JV.s (numV n)), .slice A1 n1 c1, .slice A2 n2 c2] 55)
  have hb2 := bel_trans hbw hA2
  have hc2 := bel_trans hcw hA2
  have hc8 := heap_alloc_new u8 (.cells #[.int .i64 (JV.k (numV n)), .int .i64 (JV.n (numV n)), .string (JV.s (numV n)), .slice A1 n1 c1, .slice A2 n2 c2] 55)
  have hz8 : u8.heap.size < (u8.alloc (.cells #[.int .i64 (JV.k (numV n)), .int .i64 (JV.n (numV n)), .string (JV.s (numV n)), .slice A1 n1 c1, .slice A2 n2 c2] 55)).heap.size := (Array.getElem?_eq_some_iff.1 hc8).1
  have HS8 := Lib.hid (bsl_later HS3.out hc2); have HC8 := Lib.hid hc8; have HZ8 := Lib.hid hz8
  clear hc8 hz8
  have HBN8 := Lib.hid hb2
  clear hb2 hA2 hbw hcw hc2 HS5 HB5 HL5 HB3
  go_upto_region 9 with (fail)
  generalize u8.alloc (.cells #[.int .i64 (JV.k (numV n)), .int .i64 (JV.n (numV n)), .string (JV.s (numV n)), .slice A1 n1 c1, .slice A2 n2 c2] 55) = W8 at *
  go_wp2_with fail
  rw [run_bytes_of_string W8 _ _ 5 _ Tryd.underlying9 Tryd.underlying58 Tryd.underlying5]
  simp only [Result.andThen]
  rw [Oper.upon_value]
  have hbs := bs_string W8 S9 5
  have hb5 := fun o => (bel_drew HBN8.out).alloc (B := w.heap.size) (by have := HBN8.out.size; exact this) o
  have hbl := fun o => bel_alloc (bel_drew (Below.refl W8.heap.size W8)) o
  have HS5 := Lib.hid hbs; have HB5 := Lib.hid hb5; have HL5 := Lib.hid hbl
  clear hbs hb5 hbl
  go_wp2_with fail
  have hpa := fun c cc fz => parse_any ⟨S9.toArray⟩ _ (fun _ => True) _ (HT.out.below (HB5.out _)) (HS5.out c cc fz)
  refine Calls.mono (hpa _ _ _) ?_
  rintro e u9 ⟨A1, n1, c1, A2, n2, c2, rfl, hj, hb⟩
  have hbw := bel_trans (HB5.out _) hb
  have hcw := bel_trans (HL5.out _) hb
  clear hpa hb hj
  rw [H9.out]
  generalize (parseB ⟨S9.toArray⟩).1 = V9 at *
  have hA2 := bel_alloc (Below.refl u9.heap.size u9) (.cells #[.int .i64 (JV.k (V9)), .int .i64 (JV.n (V9)), .string (JV.s (V9)), .slice A1 n1 c1, .slice A2 n2 c2] 55)
  have hb2 := bel_trans hbw hA2
  have hc2 := bel_trans hcw hA2
  have hc8 := (hc2.block u8.heap.size HZ8.out).trans HC8.out
  have hz8 := Nat.lt_of_lt_of_le HZ8.out hc2.size
  have HS9 := Lib.hid (bsl_later HS8.out hc2); have HC9 := Lib.hid hc8; have HZ9 := Lib.hid hz8
  clear hc8 hz8
  have HBN9 := Lib.hid hb2
  clear hb2 hA2 hbw hcw hc2 HS5 HB5 HL5 HBN8
  go_upto_region 10 with (fail)
  generalize u9.alloc (.cells #[.int .i64 (JV.k (V9)), .int .i64 (JV.n (V9)), .string (JV.s (V9)), .slice A1 n1 c1, .slice A2 n2 c2] 55) = W9 at *
  go_wp2_with fail
  rw [run_bytes_of_string W9 _ _ 5 _ Tryd.underlying9 Tryd.underlying58 Tryd.underlying5]
  simp only [Result.andThen]
  rw [Oper.upon_value]
  have hbs := bs_string W9 S10 5
  have hb5 := fun o => (bel_drew HBN9.out).alloc (B := w.heap.size) (by have := HBN9.out.size; exact this) o
  have hbl := fun o => bel_alloc (bel_drew (Below.refl W9.heap.size W9)) o
  have HS5 := Lib.hid hbs; have HB5 := Lib.hid hb5; have HL5 := Lib.hid hbl
  clear hbs hb5 hbl
  go_wp2_with fail
  have hpa := fun c cc fz => parse_any ⟨S10.toArray⟩ _ (fun _ => True) _ (HT.out.below (HB5.out _)) (HS5.out c cc fz)
  refine Calls.mono (hpa _ _ _) ?_
  rintro e u10 ⟨A1, n1, c1, A2, n2, c2, rfl, hj, hb⟩
  have hbw := bel_trans (HB5.out _) hb
  have hcw := bel_trans (HL5.out _) hb
  clear hpa hb hj
  rw [H10.out]
  generalize (parseB ⟨S10.toArray⟩).1 = V10 at *
  have hA2 := bel_alloc (Below.refl u10.heap.size u10) (.cells #[.int .i64 (JV.k (V10)), .int .i64 (JV.n (V10)), .string (JV.s (V10)), .slice A1 n1 c1, .slice A2 n2 c2] 55)
  have hb2 := bel_trans hbw hA2
  have hc2 := bel_trans hcw hA2
  have hc8 := (hc2.block u8.heap.size HZ9.out).trans HC9.out
  have hz8 := Nat.lt_of_lt_of_le HZ9.out hc2.size
  have HS10 := Lib.hid (bsl_later HS9.out hc2); have HC10 := Lib.hid hc8; have HZ10 := Lib.hid hz8
  clear hc8 hz8
  have HBN10 := Lib.hid hb2
  clear hb2 hA2 hbw hcw hc2 HS5 HB5 HL5 HBN9
  go_upto_region 11 with (fail)
  generalize u10.alloc (.cells #[.int .i64 (JV.k (V10)), .int .i64 (JV.n (V10)), .string (JV.s (V10)), .slice A1 n1 c1, .slice A2 n2 c2] 55) = W10 at *
  go_wp2_with fail
  rw [run_bytes_of_string W10 _ _ 5 _ Tryd.underlying9 Tryd.underlying58 Tryd.underlying5]
  simp only [Result.andThen]
  rw [Oper.upon_value]
  have hbs := bs_string W10 S11 5
  have hb5 := fun o => (bel_drew HBN10.out).alloc (B := w.heap.size) (by have := HBN10.out.size; exact this) o
  have hbl := fun o => bel_alloc (bel_drew (Below.refl W10.heap.size W10)) o
  have HS5 := Lib.hid hbs; have HB5 := Lib.hid hb5; have HL5 := Lib.hid hbl
  clear hbs hb5 hbl
  go_wp2_with fail
  have hpa := fun c cc fz => parse_any ⟨S11.toArray⟩ _ (fun _ => True) _ (HT.out.below (HB5.out _)) (HS5.out c cc fz)
  refine Calls.mono (hpa _ _ _) ?_
  rintro e u11 ⟨A1, n1, c1, A2, n2, c2, rfl, hj, hb⟩
  have hbw := bel_trans (HB5.out _) hb
  have hcw := bel_trans (HL5.out _) hb
  clear hpa hb hj
  rw [H11.out]
  generalize (parseB ⟨S11.toArray⟩).1 = V11 at *
  have hA2 := bel_alloc (Below.refl u11.heap.size u11) (.cells #[.int .i64 (JV.k (V11)), .int .i64 (JV.n (V11)), .string (JV.s (V11)), .slice A1 n1 c1, .slice A2 n2 c2] 55)
  have hb2 := bel_trans hbw hA2
  have hc2 := bel_trans hcw hA2
  have hc8 := (hc2.block u8.heap.size HZ10.out).trans HC10.out
  have hz8 := Nat.lt_of_lt_of_le HZ10.out hc2.size
  have HS11 := Lib.hid (bsl_later HS10.out hc2); have HC11 := Lib.hid hc8; have HZ11 := Lib.hid hz8
  clear hc8 hz8
  have HBN11 := Lib.hid hb2
  clear hb2 hA2 hbw hcw hc2 HS5 HB5 HL5 HBN10
  go_upto_region 12 with (fail)
  generalize u11.alloc (.cells #[.int .i64 (JV.k (V11)), .int .i64 (JV.n (V11)), .string (JV.s (V11)), .slice A1 n1 c1, .slice A2 n2 c2] 55) = W11 at *
  have hf2 := first_any _ (HT.out.below HBN11.out)
  have HF2 := Lib.hid hf2
  clear hf2
  go_wp2_with fail
  refine Calls.mono HF2.out ?_
  rintro e w7 ⟨rfl, hb7⟩
  have HB7 := Lib.hid (bel_trans HBN11.out hb7)
  have hcv := (bsl_later HS11.out hb7).conv
  have hc7 := (hb7.block u8.heap.size HZ11.out).trans HC11.out
  obtain ⟨⟨v0, v1, v2, v3, v4⟩, _, hV⟩ := cells5 hc7
  clear hc7
  clear hb7
  go_wp2_with fail
  go_ret
  exact ⟨rfl, HB7.out⟩
set_option maxRecDepth 100000 in
set_option maxHeartbeats 16000000 in
theorem jsonNumbers_low (n : Int) (hn0 : -9223372036854775808 ≤ n) (hn1 : n < 9223372036854775808) (hm : ¬ -9007199254740991 ≤ n) (w : World) (hT : Tabs w) : Calls Tryd.prog 6 #[.int .i64 n] w fun z w' => z = .returned (.bool true) ∧ Below w.heap.size w w' := by
  have hf := first_any w hT
  have HF := Lib.hid hf; have HT := Lib.hid hT
  have hd := fun w => dec_any n hn0 hn1 w
  have hlen := itoa_len n hn0 hn1
  have hpos : 0 < (Lib.itoa n).length := by obtain ⟨c, r, e, _⟩ := itoa_head n; rw [e]; simp
  have h9 := parse_num_more (n := n) (c := 46) (t := [48]) hn0 hn1 (by decide) (by decide)
  have h10 := parse_num_more (n := n) (c := 101) (t := [49]) hn0 hn1 (by decide) (by decide)
  have h11 := parse_zero (n := n) hn0 hn1
  have hN := parse_num_big hn0 hn1 (fun h => hm h.1)
  have hM : mayJ 64 (numV n) = false := by rw [may_numV_iff]; simp [hm]
  have d1 : decide (-9007199254740991 ≤ n) = false := by simpa using hm
  clear hm
  have HD := Lib.hid hd; have HLEN := Lib.hid hlen; have H9 := Lib.hid h9; have H10 := Lib.hid h10; have H11 := Lib.hid h11; have HN := Lib.hid hN; have HM := Lib.hid hM; have HPN := Lib.hid (print_numV 63 n); have HPOS := Lib.hid hpos
  clear hf hT hd hlen h9 h10 h11 hN hM hpos hn0 hn1
  generalize Lib.itoa n = S at *
  have s9 := fun W : World => str_sum (P := Tryd.prog) S [46, 48] W (by have := HLEN.out; simp; omega)
  have s10 := fun W : World => str_sum (P := Tryd.prog) S [101, 49] W (by have := HLEN.out; simp; omega)
  have s11 := fun W : World => str_sum (P := Tryd.prog) [48] S W (by have := HLEN.out; simp; omega)
  rw [show [48] ++ S = 48 :: S from rfl] at s11
  generalize S ++ [46, 48] = S9 at *
  generalize S ++ [101, 49] = S10 at *
  generalize 48 :: S = S11 at *
  go_enter Tryd.func6, Tryd.ntmps6
  go_wp2_with fail
  refine Calls.mono HF.out ?_
  rintro e w1 ⟨rfl, hb1⟩
  have HB1 := Lib.hid hb1
  have hpr := Print_bad (numV n) _ (fun _ => True) w1 (JR_num w1 _ n) (HT.out.below hb1) HM.out
  have HPR := Lib.hid hpr
  clear hb1 hpr
  go_wp2_with fail
  refine Calls.mono HPR.out ?_
  rintro e w2 ⟨rfl, hb2⟩
  have HB2 := Lib.hid (bel_trans HB1.out hb2)
  clear hb2 HPR
  go_wp2_with fail
  refine Calls.mono (HD.out _) ?_
  rintro e w3 ⟨rfl, hb3⟩
  have HB3 := Lib.hid (bel_trans HB2.out hb3)
  clear hb3
  go_wp2_with fail
  rw [run_bytes_of_string w3 _ _ 5 _ Tryd.underlying9 Tryd.underlying58 Tryd.underlying5]
  simp only [Result.andThen]
  rw [Oper.upon_value]
  have hbs := bs_string w3 S 5
  have hb5 := fun o => (bel_drew HB3.out).alloc (B := w.heap.size) (by have := HB3.out.size; exact this) o
  have hbl := fun o => bel_alloc (bel_drew (Below.refl w3.heap.size w3)) o
  have HS5 := Lib.hid hbs; have HB5 := Lib.hid hb5; have HL5 := Lib.hid hbl
  clear hbs hb5 hbl
  go_wp2_with fail
  have hpa := fun c cc fz => parse_any ⟨S.toArray⟩ _ (fun _ => True) _ (HT.out.below (HB5.out _)) (HS5.out c cc fz)
  refine Calls.mono (hpa _ _ _) ?_
  rintro e u8 ⟨A1, n1, c1, A2, n2, c2, rfl, hj, hb⟩
  have hbw := bel_trans (HB5.out _) hb
  have hcw := bel_trans (HL5.out _) hb
  clear hpa hb hj
  rw [HN.out]
  generalize (parseB ⟨S.toArray⟩).1 = V8 at *
  have hA2 := bel_alloc (Below.refl u8.heap.size u8) (.cells #[.int .i64 (JV.k (V8)), .int .i64 (JV.n (V8)), .string (JV.s (V8)), .slice A1 n1 c1, .slice A2 n2 c2] 55)
  have hb2 := bel_trans hbw hA2
  have hc2 := bel_trans hcw hA2
  have HBN8 := Lib.hid hb2
  clear hb2 hA2 hbw hcw hc2 HS5 HB5 HL5 HB3
  go_upto_region 9 with (fail)
  generalize u8.alloc (.cells #[.int .i64 (JV.k (V8)), .int .i64 (JV.n (V8)), .string (JV.s (V8)), .slice A1 n1 c1, .slice A2 n2 c2] 55) = W8 at *
  go_wp2_with fail
  rw [run_bytes_of_string W8 _ _ 5 _ Tryd.underlying9 Tryd.underlying58 Tryd.underlying5]
  simp only [Result.andThen]
  rw [Oper.upon_value]
  have hbs := bs_string W8 S9 5
  have hb5 := fun o => (bel_drew HBN8.out).alloc (B := w.heap.size) (by have := HBN8.out.size; exact this) o
  have hbl := fun o => bel_alloc (bel_drew (Below.refl W8.heap.size W8)) o
  have HS5 := Lib.hid hbs; have HB5 := Lib.hid hb5; have HL5 := Lib.hid hbl
  clear hbs hb5 hbl
  go_wp2_with fail
  have hpa := fun c cc fz => parse_any ⟨S9.toArray⟩ _ (fun _ => True) _ (HT.out.below (HB5.out _)) (HS5.out c cc fz)
  refine Calls.mono (hpa _ _ _) ?_
  rintro e u9 ⟨A1, n1, c1, A2, n2, c2, rfl, hj, hb⟩
  have hbw := bel_trans (HB5.out _) hb
  have hcw := bel_trans (HL5.out _) hb
  clear hpa hb hj
  rw [H9.out]
  generalize (parseB ⟨S9.toArray⟩).1 = V9 at *
  have hA2 := bel_alloc (Below.refl u9.heap.size u9) (.cells #[.int .i64 (JV.k (V9)), .int .i64 (JV.n (V9)), .string (JV.s (V9)), .slice A1 n1 c1, .slice A2 n2 c2] 55)
  have hb2 := bel_trans hbw hA2
  have hc2 := bel_trans hcw hA2
  have HBN9 := Lib.hid hb2
  clear hb2 hA2 hbw hcw hc2 HS5 HB5 HL5 HBN8
  go_upto_region 10 with (fail)
  generalize u9.alloc (.cells #[.int .i64 (JV.k (V9)), .int .i64 (JV.n (V9)), .string (JV.s (V9)), .slice A1 n1 c1, .slice A2 n2 c2] 55) = W9 at *
  go_wp2_with fail
  rw [run_bytes_of_string W9 _ _ 5 _ Tryd.underlying9 Tryd.underlying58 Tryd.underlying5]
  simp only [Result.andThen]
  rw [Oper.upon_value]
  have hbs := bs_string W9 S10 5
  have hb5 := fun o => (bel_drew HBN9.out).alloc (B := w.heap.size) (by have := HBN9.out.size; exact this) o
  have hbl := fun o => bel_alloc (bel_drew (Below.refl W9.heap.size W9)) o
  have HS5 := Lib.hid hbs; have HB5 := Lib.hid hb5; have HL5 := Lib.hid hbl
  clear hbs hb5 hbl
  go_wp2_with fail
  have hpa := fun c cc fz => parse_any ⟨S10.toArray⟩ _ (fun _ => True) _ (HT.out.below (HB5.out _)) (HS5.out c cc fz)
  refine Calls.mono (hpa _ _ _) ?_
  rintro e u10 ⟨A1, n1, c1, A2, n2, c2, rfl, hj, hb⟩
  have hbw := bel_trans (HB5.out _) hb
  have hcw := bel_trans (HL5.out _) hb
  clear hpa hb hj
  rw [H10.out]
  generalize (parseB ⟨S10.toArray⟩).1 = V10 at *
  have hA2 := bel_alloc (Below.refl u10.heap.size u10) (.cells #[.int .i64 (JV.k (V10)), .int .i64 (JV.n (V10)), .string (JV.s (V10)), .slice A1 n1 c1, .slice A2 n2 c2] 55)
  have hb2 := bel_trans hbw hA2
  have hc2 := bel_trans hcw hA2
  have HBN10 := Lib.hid hb2
  clear hb2 hA2 hbw hcw hc2 HS5 HB5 HL5 HBN9
  go_upto_region 11 with (fail)
  generalize u10.alloc (.cells #[.int .i64 (JV.k (V10)), .int .i64 (JV.n (V10)), .string (JV.s (V10)), .slice A1 n1 c1, .slice A2 n2 c2] 55) = W10 at *
  go_wp2_with fail
  rw [run_bytes_of_string W10 _ _ 5 _ Tryd.underlying9 Tryd.underlying58 Tryd.underlying5]
  simp only [Result.andThen]
  rw [Oper.upon_value]
  have hbs := bs_string W10 S11 5
  have hb5 := fun o => (bel_drew HBN10.out).alloc (B := w.heap.size) (by have := HBN10.out.size; exact this) o
  have hbl := fun o => bel_alloc (bel_drew (Below.refl W10.heap.size W10)) o
  have HS5 := Lib.hid hbs; have HB5 := Lib.hid hb5; have HL5 := Lib.hid hbl
  clear hbs hb5 hbl
  go_wp2_with fail
  have hpa := fun c cc fz => parse_any ⟨S11.toArray⟩ _ (fun _ => True) _ (HT.out.below (HB5.out _)) (HS5.out c cc fz)
  refine Calls.mono (hpa _ _ _) ?_
  rintro e u11 ⟨A1, n1, c1, A2, n2, c2, rfl, hj, hb⟩
  have hbw := bel_trans (HB5.out _) hb
  have hcw := bel_trans (HL5.out _) hb
  clear hpa hb hj
  rw [H11.out]
  generalize (parseB ⟨S11.toArray⟩).1 = V11 at *
  have hA2 := bel_alloc (Below.refl u11.heap.size u11) (.cells #[.int .i64 (JV.k (V11)), .int .i64 (JV.n (V11)), .string (JV.s (V11)), .slice A1 n1 c1, .slice A2 n2 c2] 55)
  have hb2 := bel_trans hbw hA2
  have hc2 := bel_trans hcw hA2
  have HBN11 := Lib.hid hb2
  clear hb2 hA2 hbw hcw hc2 HS5 HB5 HL5 HBN10
  go_upto_region 12 with (fail)
  generalize u11.alloc (.cells #[.int .i64 (JV.k (V11)), .int .i64 (JV.n (V11)), .string (JV.s (V11)), .slice A1 n1 c1, .slice A2 n2 c2] 55) = W11 at *
  have hf2 := first_any _ (HT.out.below HBN11.out)
  have HF2 := Lib.hid hf2
  clear hf2
  go_wp2_with fail
  refine Calls.mono HF2.out ?_
  rintro e w7 ⟨rfl, hb7⟩
  have HB7 := Lib.hid (bel_trans HBN11.out hb7)
  clear hb7
  go_wp2_with fail
  go_ret
  exact ⟨rfl, HB7.out⟩
set_option maxRecDepth 100000 in
set_option maxHeartbeats 16000000 in
theorem jsonNumbers_high (n : Int) (hn0 : -9223372036854775808 ≤ n) (hn1 : n < 9223372036854775808) (hm : ¬ n ≤ 9007199254740991) (w : World) (hT : Tabs w) : Calls Tryd.prog 6 #[.int .i64 n] w fun z w' => z = .returned (.bool true) ∧ Below w.heap.size w w' := by
  have hf := first_any w hT
  have HF := Lib.hid hf; have HT := Lib.hid hT
  have hd := fun w => dec_any n hn0 hn1 w
  have hlen := itoa_len n hn0 hn1
  have hpos : 0 < (Lib.itoa n).length := by obtain ⟨c, r, e, _⟩ := itoa_head n; rw [e]; simp
  have h9 := parse_num_more (n := n) (c := 46) (t := [48]) hn0 hn1 (by decide) (by decide)
  have h10 := parse_num_more (n := n) (c := 101) (t := [49]) hn0 hn1 (by decide) (by decide)
  have h11 := parse_zero (n := n) hn0 hn1
  have hN := parse_num_big hn0 hn1 (fun h => hm h.2)
  have hM : mayJ 64 (numV n) = false := by rw [may_numV_iff]; simp [hm]
  have d1 : decide (-9007199254740991 ≤ n) = true := by simp; omega
  have d2 : decide (n ≤ 9007199254740991) = false := by simpa using hm
  clear hm
  have HD := Lib.hid hd; have HLEN := Lib.hid hlen; have H9 := Lib.hid h9; have H10 := Lib.hid h10; have H11 := Lib.hid h11; have HN := Lib.hid hN; have HM := Lib.hid hM; have HPN := Lib.hid (print_numV 63 n); have HPOS := Lib.hid hpos
  clear hf hT hd hlen h9 h10 h11 hN hM hpos hn0 hn1
  generalize Lib.itoa n = S at *
  have s9 := fun W : World => str_sum (P := Tryd.prog) S [46, 48] W (by have := HLEN.out; simp; omega)
  have s10 := fun W : World => str_sum (P := Tryd.prog) S [101, 49] W (by have := HLEN.out; simp; omega)
  have s11 := fun W : World => str_sum (P := Tryd.prog) [48] S W (by have := HLEN.out; simp; omega)
  rw [show [48] ++ S = 48 :: S from rfl] at s11
  generalize S ++ [46, 48] = S9 at *
  generalize S ++ [101, 49] = S10 at *
  generalize 48 :: S = S11 at *
  go_enter Tryd.func6, Tryd.ntmps6
  go_wp2_with fail
  refine Calls.mono HF.out ?_
  rintro e w1 ⟨rfl, hb1⟩
  have HB1 := Lib.hid hb1
  have hpr := Print_bad (numV n) _ (fun _ => True) w1 (JR_num w1 _ n) (HT.out.below hb1) HM.out
  have HPR := Lib.hid hpr
  clear hb1 hpr
  go_wp2_with fail
  refine Calls.mono HPR.out ?_
  rintro e w2 ⟨rfl, hb2⟩
  have HB2 := Lib.hid (bel_trans HB1.out hb2)
  clear hb2 HPR
  go_wp2_with fail
  refine Calls.mono (HD.out _) ?_
  rintro e w3 ⟨rfl, hb3⟩
  have HB3 := Lib.hid (bel_trans HB2.out hb3)
  clear hb3
  go_wp2_with fail
  rw [run_bytes_of_string w3 _ _ 5 _ Tryd.underlying9 Tryd.underlying58 Tryd.underlying5]
  simp only [Result.andThen]
  rw [Oper.upon_value]
  have hbs := bs_string w3 S 5
  have hb5 := fun o => (bel_drew HB3.out).alloc (B := w.heap.size) (by have := HB3.out.size; exact this) o
  have hbl := fun o => bel_alloc (bel_drew (Below.refl w3.heap.size w3)) o
  have HS5 := Lib.hid hbs; have HB5 := Lib.hid hb5; have HL5 := Lib.hid hbl
  clear hbs hb5 hbl
  go_wp2_with fail
  have hpa := fun c cc fz => parse_any ⟨S.toArray⟩ _ (fun _ => True) _ (HT.out.below (HB5.out _)) (HS5.out c cc fz)
  refine Calls.mono (hpa _ _ _) ?_
  rintro e u8 ⟨A1, n1, c1, A2, n2, c2, rfl, hj, hb⟩
  have hbw := bel_trans (HB5.out _) hb
  have hcw := bel_trans (HL5.out _) hb
  clear hpa hb hj
  rw [HN.out]
  generalize (parseB ⟨S.toArray⟩).1 = V8 at *
  have hA2 := bel_alloc (Below.refl u8.heap.size u8) (.cells #[.int .i64 (JV.k (V8)), .int .i64 (JV.n (V8)), .string (JV.s (V8)), .slice A1 n1 c1, .slice A2 n2 c2] 55)
  have hb2 := bel_trans hbw hA2
  have hc2 := bel_trans hcw hA2
  have HBN8 := Lib.hid hb2
  clear hb2 hA2 hbw hcw hc2 HS5 HB5 HL5 HB3
  go_upto_region 9 with (fail)
  generalize u8.alloc (.cells #[.int .i64 (JV.k (V8)), .int .i64 (JV.n (V8)), .string (JV.s (V8)), .slice A1 n1 c1, .slice A2 n2 c2] 55) = W8 at *
  go_wp2_with fail
  rw [run_bytes_of_string W8 _ _ 5 _ Tryd.underlying9 Tryd.underlying58 Tryd.underlying5]
  simp only [Result.andThen]
  rw [Oper.upon_value]
  have hbs := bs_string W8 S9 5
  have hb5 := fun o => (bel_drew HBN8.out).alloc (B := w.heap.size) (by have := HBN8.out.size; exact this) o
  have hbl := fun o => bel_alloc (bel_drew (Below.refl W8.heap.size W8)) o
  have HS5 := Lib.hid hbs; have HB5 := Lib.hid hb5; have HL5 := Lib.hid hbl
  clear hbs hb5 hbl
  go_wp2_with fail
  have hpa := fun c cc fz => parse_any ⟨S9.toArray⟩ _ (fun _ => True) _ (HT.out.below (HB5.out _)) (HS5.out c cc fz)
  refine Calls.mono (hpa _ _ _) ?_
  rintro e u9 ⟨A1, n1, c1, A2, n2, c2, rfl, hj, hb⟩
  have hbw := bel_trans (HB5.out _) hb
  have hcw := bel_trans (HL5.out _) hb
  clear hpa hb hj
  rw [H9.out]
  generalize (parseB ⟨S9.toArray⟩).1 = V9 at *
  have hA2 := bel_alloc (Below.refl u9.heap.size u9) (.cells #[.int .i64 (JV.k (V9)), .int .i64 (JV.n (V9)), .string (JV.s (V9)), .slice A1 n1 c1, .slice A2 n2 c2] 55)
  have hb2 := bel_trans hbw hA2
  have hc2 := bel_trans hcw hA2
  have HBN9 := Lib.hid hb2
  clear hb2 hA2 hbw hcw hc2 HS5 HB5 HL5 HBN8
  go_upto_region 10 with (fail)
  generalize u9.alloc (.cells #[.int .i64 (JV.k (V9)), .int .i64 (JV.n (V9)), .string (JV.s (V9)), .slice A1 n1 c1, .slice A2 n2 c2] 55) = W9 at *
  go_wp2_with fail
  rw [run_bytes_of_string W9 _ _ 5 _ Tryd.underlying9 Tryd.underlying58 Tryd.underlying5]
  simp only [Result.andThen]
  rw [Oper.upon_value]
  have hbs := bs_string W9 S10 5
  have hb5 := fun o => (bel_drew HBN9.out).alloc (B := w.heap.size) (by have := HBN9.out.size; exact this) o
  have hbl := fun o => bel_alloc (bel_drew (Below.refl W9.heap.size W9)) o
  have HS5 := Lib.hid hbs; have HB5 := Lib.hid hb5; have HL5 := Lib.hid hbl
  clear hbs hb5 hbl
  go_wp2_with fail
  have hpa := fun c cc fz => parse_any ⟨S10.toArray⟩ _ (fun _ => True) _ (HT.out.below (HB5.out _)) (HS5.out c cc fz)
  refine Calls.mono (hpa _ _ _) ?_
  rintro e u10 ⟨A1, n1, c1, A2, n2, c2, rfl, hj, hb⟩
  have hbw := bel_trans (HB5.out _) hb
  have hcw := bel_trans (HL5.out _) hb
  clear hpa hb hj
  rw [H10.out]
  generalize (parseB ⟨S10.toArray⟩).1 = V10 at *
  have hA2 := bel_alloc (Below.refl u10.heap.size u10) (.cells #[.int .i64 (JV.k (V10)), .int .i64 (JV.n (V10)), .string (JV.s (V10)), .slice A1 n1 c1, .slice A2 n2 c2] 55)
  have hb2 := bel_trans hbw hA2
  have hc2 := bel_trans hcw hA2
  have HBN10 := Lib.hid hb2
  clear hb2 hA2 hbw hcw hc2 HS5 HB5 HL5 HBN9
  go_upto_region 11 with (fail)
  generalize u10.alloc (.cells #[.int .i64 (JV.k (V10)), .int .i64 (JV.n (V10)), .string (JV.s (V10)), .slice A1 n1 c1, .slice A2 n2 c2] 55) = W10 at *
  go_wp2_with fail
  rw [run_bytes_of_string W10 _ _ 5 _ Tryd.underlying9 Tryd.underlying58 Tryd.underlying5]
  simp only [Result.andThen]
  rw [Oper.upon_value]
  have hbs := bs_string W10 S11 5
  have hb5 := fun o => (bel_drew HBN10.out).alloc (B := w.heap.size) (by have := HBN10.out.size; exact this) o
  have hbl := fun o => bel_alloc (bel_drew (Below.refl W10.heap.size W10)) o
  have HS5 := Lib.hid hbs; have HB5 := Lib.hid hb5; have HL5 := Lib.hid hbl
  clear hbs hb5 hbl
  go_wp2_with fail
  have hpa := fun c cc fz => parse_any ⟨S11.toArray⟩ _ (fun _ => True) _ (HT.out.below (HB5.out _)) (HS5.out c cc fz)
  refine Calls.mono (hpa _ _ _) ?_
  rintro e u11 ⟨A1, n1, c1, A2, n2, c2, rfl, hj, hb⟩
  have hbw := bel_trans (HB5.out _) hb
  have hcw := bel_trans (HL5.out _) hb
  clear hpa hb hj
  rw [H11.out]
  generalize (parseB ⟨S11.toArray⟩).1 = V11 at *
  have hA2 := bel_alloc (Below.refl u11.heap.size u11) (.cells #[.int .i64 (JV.k (V11)), .int .i64 (JV.n (V11)), .string (JV.s (V11)), .slice A1 n1 c1, .slice A2 n2 c2] 55)
  have hb2 := bel_trans hbw hA2
  have hc2 := bel_trans hcw hA2
  have HBN11 := Lib.hid hb2
  clear hb2 hA2 hbw hcw hc2 HS5 HB5 HL5 HBN10
  go_upto_region 12 with (fail)
  generalize u11.alloc (.cells #[.int .i64 (JV.k (V11)), .int .i64 (JV.n (V11)), .string (JV.s (V11)), .slice A1 n1 c1, .slice A2 n2 c2] 55) = W11 at *
  have hf2 := first_any _ (HT.out.below HBN11.out)
  have HF2 := Lib.hid hf2
  clear hf2
  go_wp2_with fail
  refine Calls.mono HF2.out ?_
  rintro e w7 ⟨rfl, hb7⟩
  have HB7 := Lib.hid (bel_trans HBN11.out hb7)
  clear hb7
  go_wp2_with fail
  go_ret
  exact ⟨rfl, HB7.out⟩
theorem jsonNumbers_any (n : Int) (hn0 : -9223372036854775808 ≤ n) (hn1 : n < 9223372036854775808) (w : World) (hT : Tabs w) : Calls Tryd.prog 6 #[.int .i64 n] w fun z w' => z = .returned (.bool true) ∧ Below w.heap.size w w' := by
  by_cases h1 : -9007199254740991 ≤ n
  · by_cases h2 : n ≤ 9007199254740991
    · exact jsonNumbers_may n hn0 hn1 ⟨h1, h2⟩ w hT
    · exact jsonNumbers_high n hn0 hn1 h2 w hT
  · exact jsonNumbers_low n hn0 hn1 h1 w hT
end Go.Proofs.YtjjgbgojlhaapaaDoor
