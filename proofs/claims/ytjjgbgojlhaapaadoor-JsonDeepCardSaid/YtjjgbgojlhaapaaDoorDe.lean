/- JsonDeep: the walk. -/
import Derived.Test.YtjjgbgojlhaapaaDoorFi
import Derived.Test.YtjjgbgojlhaapaaDoorNd
import Derived.Test.YtjjgbgojlhaapaaDoorPb
namespace Go.Proofs.YtjjgbgojlhaapaaDoor
open Go.RowKit Go.Lib

theorem cat_toArray (a b : List UInt8) : (⟨a.toArray⟩ : ByteArray) ++ ⟨b.toArray⟩ = ⟨(a ++ b).toArray⟩ := by
  apply ByteArray.ext
  simp [ByteArray.data_append]
theorem lt_of_gg {k n : Nat} (h : k ≤ n) : (k : Int) ≤ (n : Int) := by omega
set_option maxRecDepth 100000 in
set_option maxHeartbeats 8000000 in
theorem jsonDeep_out (n : Int) (o : Bool) (w : World) (hT : Tabs w) (hn : n < 1 ∨ 200 < n) : Calls Tryd.prog 5 #[.int .i64 n, .bool o] w fun z w' => z = .returned (.bool true) ∧ Below w.heap.size w w' := by
  have hf := first_any w hT
  have HF := Lib.hid hf; have HT := Lib.hid hT
  have hd : (decide (n < 1) || decide (200 < n)) = true := by simpa using hn
  clear hf hT
  by_cases h1 : n < 1
  · have d1 : decide (n < 1) = true := by simpa using h1
    clear hd
    go_enter Tryd.func5, Tryd.ntmps5
    go_wp2_with fail
    refine Calls.mono HF.out ?_
    rintro e w1 ⟨rfl, hb1⟩
    have hf2 := first_any w1 (HT.out.below hb1)
    have HB1 := Lib.hid hb1; have HF2 := Lib.hid hf2
    clear hb1 hf2
    go_wp2_with fail
    refine Calls.mono HF2.out ?_
    rintro e w2 ⟨rfl, hb2⟩
    have HB2 := Lib.hid (bel_trans HB1.out hb2)
    clear hb2
    go_wp2_with fail
    go_ret
    exact ⟨rfl, HB2.out⟩
  · have d1 : decide (n < 1) = false := by simpa using h1
    have d2 : decide (200 < n) = true := by simpa [d1] using hd
    clear hd
    go_enter Tryd.func5, Tryd.ntmps5
    go_wp2_with fail
    refine Calls.mono HF.out ?_
    rintro e w1 ⟨rfl, hb1⟩
    have hf2 := first_any w1 (HT.out.below hb1)
    have HB1 := Lib.hid hb1; have HF2 := Lib.hid hf2
    clear hb1 hf2
    go_wp2_with fail
    refine Calls.mono HF2.out ?_
    rintro e w2 ⟨rfl, hb2⟩
    have HB2 := Lib.hid (bel_trans HB1.out hb2)
    clear hb2
    go_wp2_with fail
    go_ret
    exact ⟨rfl, HB2.out⟩
theorem nest_next (k : Nat) : (⟨(nest false (k + 1)).toArray⟩ : ByteArray) = ⟨#[91]⟩ ++ ⟨(nest false k).toArray⟩ ++ ⟨#[93]⟩ := by
  rw [show (⟨#[91]⟩ : ByteArray) = ⟨[91].toArray⟩ from rfl, show (⟨#[93]⟩ : ByteArray) = ⟨[93].toArray⟩ from rfl, cat_toArray, cat_toArray]
  rcases k with _ | k <;> rfl
theorem nest_nexto (k : Nat) : (⟨(nest true (k + 1 + 1)).toArray⟩ : ByteArray) = ⟨#[123, 34, 97, 34, 58]⟩ ++ ⟨(nest true (k + 1)).toArray⟩ ++ ⟨#[125]⟩ := by
  rw [show (⟨#[123, 34, 97, 34, 58]⟩ : ByteArray) = ⟨[123, 34, 97, 34, 58].toArray⟩ from rfl, show (⟨#[125]⟩ : ByteArray) = ⟨[125].toArray⟩ from rfl, cat_toArray, cat_toArray]
  rfl
theorem bsl_string (w : World) (l : List UInt8) (t : TypeId) (c cc : Nat) (fz : Nat × Nat) : BSl (w.drew.alloc (.cells (bytesRow ⟨l.toArray⟩ c) t fz)) (fun _ => True) (.slice (some ⟨w.heap.size, 0, none⟩) (⟨l.toArray⟩ : ByteArray).size cc) ⟨l.toArray⟩ := by
  refine .inl ⟨_, _, _, rfl, trivial, fun i hi => ?_⟩
  have h := bytesRow_cell w l c t fz i (by simpa [ByteArray.size] using hi)
  rw [Addr.add_mid] at h
  exact h
set_option maxRecDepth 100000 in
set_option maxHeartbeats 8000000 in
theorem jsonDeep_list (m : Nat) (hm : m + 1 ≤ 200) (w : World) (hT : Tabs w) : Calls Tryd.prog 5 #[.int .i64 ((m : Int) + 1), .bool false] w fun z w' => z = .returned (.bool true) ∧ Below w.heap.size w w' := by
  have hf := first_any w hT
  have HF := Lib.hid hf; have HT := Lib.hid hT
  have d1 : decide ((m : Int) + 1 < 1) = false := by simp; omega
  have d2 : decide (200 < (m : Int) + 1) = false := by simp; omega
  clear hf hT
  go_enter Tryd.func5, Tryd.ntmps5
  go_wp2_with fail
  refine Calls.mono HF.out ?_
  rintro e w1 ⟨rfl, hb1⟩
  have HB1 := Lib.hid hb1
  clear hb1
  go_wp2_with fail
  go_loopg [7, 8] (m + 1) (fun gg s7 s8 wr => ∃ k : Nat, k ≤ m + 1 ∧ m + 1 - k ≤ gg ∧ s8 = .int .i64 k ∧ s7 = .string ⟨(nest false k).toArray⟩ ∧ Aside (Below w.heap.size w wr))
  case atStart => exact ⟨0, Nat.zero_le _, by omega, rfl, rfl, HB1.out⟩
  case round =>
    obtain ⟨k, hk, hgg, rfl, rfl, HB⟩ := hrel
    by_cases hlt : k < m + 1
    · have dl : decide ((k : Int) < (m : Int) + 1) = true := by simp; omega
      have hl := nest_len false k
      have c1 := fun W : World => run_string_add_sum (P := Tryd.prog) W ⟨#[91]⟩ ⟨(nest false k).toArray⟩ (by simp [ByteArray.size]; omega)
      have c2 := fun W : World => run_string_add_sum (P := Tryd.prog) W (⟨#[91]⟩ ++ ⟨(nest false k).toArray⟩) ⟨#[93]⟩ (by simp [ByteArray.size]; omega)
      rcases k with _ | k
      · go_wp2_with fail
        go_roundg (m + 1 - 1)
        case measure => omega
        case rel => exact ⟨1, by omega, by omega, by go_num, congrArg Value.string (nest_next 0).symm, HB.out⟩
      · have dk : (((k + 1 : Nat) : Int) == 0) = false := by simp; omega
        go_wp2_with fail
        go_roundg (m + 1 - (k + 1 + 1))
        case measure => omega
        case rel => exact ⟨k + 1 + 1, by omega, by omega, by go_num, congrArg Value.string (nest_next (k + 1)).symm, HB.out⟩
    · have dl : decide ((k : Int) < (m : Int) + 1) = false := by simp; omega
      obtain rfl : k = m + 1 := by omega
      have hnp := nest_parse false m hm
      have hmy := nest_may false m 64
      have HNP := Lib.hid hnp; have HMY := Lib.hid hmy
      clear hnp hmy
      generalize hS : nest false (m + 1) = S at *
      clear hS
      go_wp2_with fail
      rw [run_bytes_of_string wr _ _ 5 _ Tryd.underlying9 Tryd.underlying58 Tryd.underlying5]
      simp only [Result.andThen]
      rw [Oper.upon_value]
      have hbs := bsl_string wr S 5
      have hb5 := fun o => (bel_drew HB.out).alloc (B := w.heap.size) (by have := HB.out.size; exact this) o
      have HS5 := Lib.hid hbs; have HB5 := Lib.hid hb5
      clear hbs hb5
      go_wp2_with fail
      have hpa := fun c cc fz => parse_any ⟨S.toArray⟩ _ (fun _ => True) _ (HT.out.below (HB5.out _)) (HS5.out c cc fz)
      refine Calls.mono (hpa _ _ _) ?_
      rintro e w5 ⟨A1, n1, c1, A2, n2, c2, rfl, hj, hb⟩
      have hbw := bel_trans (HB5.out _) hb
      clear hpa hb
      by_cases h64 : m + 1 ≤ 64
      · have dg : decide (64 < (m : Int) + 1) = false := by simp; omega
        rw [HNP.out.1 h64] at hj ⊢
        simp only at hj ⊢
        have hm1 := HMY.out h64
        generalize nestV false (m + 1) = V at *
        have hA2 := bel_alloc (Below.refl w5.heap.size w5) (.cells #[.int .i64 V.k, .int .i64 V.n, .string V.s, .slice A1 n1 c1, .slice A2 n2 c2] 55)
        have hj2 := JR_later hj hA2
        have hb2 := bel_trans hbw hA2
        have hc2 := heap_alloc_new w5 (.cells #[.int .i64 V.k, .int .i64 V.n, .string V.s, .slice A1 n1 c1, .slice A2 n2 c2] 55)
        have hf2 := first_any _ (HT.out.below hb2)
        have HF2 := Lib.hid hf2; have HC2 := Lib.hid hc2; have HJ2 := Lib.hid hj2; have HB2 := Lib.hid hb2; have HM1 := Lib.hid hm1
        clear hf2 hc2 hj2 hb2 hm1 hA2 hbw hj HNP HMY HS5 HB5
        go_upto_region 16 with (fail)
        generalize w5.alloc (.cells #[.int .i64 V.k, .int .i64 V.n, .string V.s, .slice A1 n1 c1, .slice A2 n2 c2] 55) = w6 at *
        go_wp2_with fail
        refine Calls.mono HF2.out ?_
        rintro e w7 ⟨rfl, hb7⟩
        have hc7 := (hb7.block w5.heap.size (Array.getElem?_eq_some_iff.1 HC2.out).1).trans HC2.out
        have hmay := May_any V _ _ w7 (JR_later HJ2.out hb7) (HT.out.below (bel_trans HB2.out hb7))
        rw [HM1.out] at hmay
        obtain ⟨⟨v0, v1, v2, v3, v4⟩, _, hV⟩ := cells5 hc7
        have HMAY := Lib.hid hmay; have HB7 := Lib.hid (bel_trans HB2.out hb7)
        clear hmay hc7 hb7
        go_wp2_with fail
        refine Calls.mono HMAY.out ?_
        rintro e w8 ⟨rfl, hb8⟩
        have HB8 := Lib.hid (bel_trans HB7.out hb8)
        clear hb8
        go_wp2_with fail
        go_ret
        exact ⟨rfl, HB8.out⟩
      · have dg : decide (64 < (m : Int) + 1) = true := by simp; omega
        have h10 := HNP.out.2 (by omega)
        rw [h10]
        generalize (parseB ⟨S.toArray⟩).1 = V at *
        have hA2 := bel_alloc (Below.refl w5.heap.size w5) (.cells #[.int .i64 V.k, .int .i64 V.n, .string V.s, .slice A1 n1 c1, .slice A2 n2 c2] 55)
        have hb2 := bel_trans hbw hA2
        have hf2 := first_any _ (HT.out.below hb2)
        have HF2 := Lib.hid hf2; have HB2 := Lib.hid hb2
        clear hf2 hb2 hA2 hbw hj HNP HMY HS5 HB5 h10
        go_upto_region 16 with (fail)
        generalize w5.alloc (.cells #[.int .i64 V.k, .int .i64 V.n, .string V.s, .slice A1 n1 c1, .slice A2 n2 c2] 55) = w6 at *
        go_wp2_with fail
        refine Calls.mono HF2.out ?_
        rintro e w7 ⟨rfl, hb7⟩
        have HB7 := Lib.hid (bel_trans HB2.out hb7)
        clear hb7
        go_wp2_with fail
        go_ret
        exact ⟨rfl, HB7.out⟩
set_option maxRecDepth 100000 in
set_option maxHeartbeats 8000000 in
theorem jsonDeep_obj (m : Nat) (hm : m + 1 ≤ 200) (w : World) (hT : Tabs w) : Calls Tryd.prog 5 #[.int .i64 ((m : Int) + 1), .bool true] w fun z w' => z = .returned (.bool true) ∧ Below w.heap.size w w' := by
  have hf := first_any w hT
  have HF := Lib.hid hf; have HT := Lib.hid hT
  have d1 : decide ((m : Int) + 1 < 1) = false := by simp; omega
  have d2 : decide (200 < (m : Int) + 1) = false := by simp; omega
  clear hf hT
  go_enter Tryd.func5, Tryd.ntmps5
  go_wp2_with fail
  refine Calls.mono HF.out ?_
  rintro e w1 ⟨rfl, hb1⟩
  have HB1 := Lib.hid hb1
  clear hb1
  go_wp2_with fail
  go_loopg [7, 8] (m + 1) (fun gg s7 s8 wr => ∃ k : Nat, k ≤ m + 1 ∧ m + 1 - k ≤ gg ∧ s8 = .int .i64 k ∧ s7 = .string ⟨(nest true k).toArray⟩ ∧ Aside (Below w.heap.size w wr))
  case atStart => exact ⟨0, Nat.zero_le _, by omega, rfl, rfl, HB1.out⟩
  case round =>
    obtain ⟨k, hk, hgg, rfl, rfl, HB⟩ := hrel
    by_cases hlt : k < m + 1
    · have dl : decide ((k : Int) < (m : Int) + 1) = true := by simp; omega
      have hl := nest_len true k
      have c1 := fun W : World => run_string_add_sum (P := Tryd.prog) W ⟨#[123, 34, 97, 34, 58]⟩ ⟨(nest true k).toArray⟩ (by simp [ByteArray.size]; omega)
      have c2 := fun W : World => run_string_add_sum (P := Tryd.prog) W (⟨#[123, 34, 97, 34, 58]⟩ ++ ⟨(nest true k).toArray⟩) ⟨#[125]⟩ (by simp [ByteArray.size]; omega)
      rcases k with _ | k
      · go_wp2_with fail
        go_roundg (m + 1 - 1)
        case measure => omega
        case rel => exact ⟨1, by omega, by omega, by go_num, rfl, HB.out⟩
      · have dk : (((k + 1 : Nat) : Int) == 0) = false := by simp; omega
        go_wp2_with fail
        go_roundg (m + 1 - (k + 1 + 1))
        case measure => omega
        case rel => exact ⟨k + 1 + 1, by omega, by omega, by go_num, congrArg Value.string (nest_nexto k).symm, HB.out⟩
    · have dl : decide ((k : Int) < (m : Int) + 1) = false := by simp; omega
      obtain rfl : k = m + 1 := by omega
      have hnp := nest_parse true m hm
      have hmy := nest_may true m 64
      have HNP := Lib.hid hnp; have HMY := Lib.hid hmy
      clear hnp hmy
      generalize hS : nest true (m + 1) = S at *
      clear hS
      go_wp2_with fail
      rw [run_bytes_of_string wr _ _ 5 _ Tryd.underlying9 Tryd.underlying58 Tryd.underlying5]
      simp only [Result.andThen]
      rw [Oper.upon_value]
      have hbs := bsl_string wr S 5
      have hb5 := fun o => (bel_drew HB.out).alloc (B := w.heap.size) (by have := HB.out.size; exact this) o
      have HS5 := Lib.hid hbs; have HB5 := Lib.hid hb5
      clear hbs hb5
      go_wp2_with fail
      have hpa := fun c cc fz => parse_any ⟨S.toArray⟩ _ (fun _ => True) _ (HT.out.below (HB5.out _)) (HS5.out c cc fz)
      refine Calls.mono (hpa _ _ _) ?_
      rintro e w5 ⟨A1, n1, c1, A2, n2, c2, rfl, hj, hb⟩
      have hbw := bel_trans (HB5.out _) hb
      clear hpa hb
      by_cases h64 : m + 1 ≤ 64
      · have dg : decide (64 < (m : Int) + 1) = false := by simp; omega
        rw [HNP.out.1 h64] at hj ⊢
        simp only at hj ⊢
        have hm1 := HMY.out h64
        generalize nestV true (m + 1) = V at *
        have hA2 := bel_alloc (Below.refl w5.heap.size w5) (.cells #[.int .i64 V.k, .int .i64 V.n, .string V.s, .slice A1 n1 c1, .slice A2 n2 c2] 55)
        have hj2 := JR_later hj hA2
        have hb2 := bel_trans hbw hA2
        have hc2 := heap_alloc_new w5 (.cells #[.int .i64 V.k, .int .i64 V.n, .string V.s, .slice A1 n1 c1, .slice A2 n2 c2] 55)
        have hf2 := first_any _ (HT.out.below hb2)
        have HF2 := Lib.hid hf2; have HC2 := Lib.hid hc2; have HJ2 := Lib.hid hj2; have HB2 := Lib.hid hb2; have HM1 := Lib.hid hm1
        clear hf2 hc2 hj2 hb2 hm1 hA2 hbw hj HNP HMY HS5 HB5
        go_upto_region 16 with (fail)
        generalize w5.alloc (.cells #[.int .i64 V.k, .int .i64 V.n, .string V.s, .slice A1 n1 c1, .slice A2 n2 c2] 55) = w6 at *
        go_wp2_with fail
        refine Calls.mono HF2.out ?_
        rintro e w7 ⟨rfl, hb7⟩
        have hc7 := (hb7.block w5.heap.size (Array.getElem?_eq_some_iff.1 HC2.out).1).trans HC2.out
        have hmay := May_any V _ _ w7 (JR_later HJ2.out hb7) (HT.out.below (bel_trans HB2.out hb7))
        rw [HM1.out] at hmay
        obtain ⟨⟨v0, v1, v2, v3, v4⟩, _, hV⟩ := cells5 hc7
        have HMAY := Lib.hid hmay; have HB7 := Lib.hid (bel_trans HB2.out hb7)
        clear hmay hc7 hb7
        go_wp2_with fail
        refine Calls.mono HMAY.out ?_
        rintro e w8 ⟨rfl, hb8⟩
        have HB8 := Lib.hid (bel_trans HB7.out hb8)
        clear hb8
        go_wp2_with fail
        go_ret
        exact ⟨rfl, HB8.out⟩
      · have dg : decide (64 < (m : Int) + 1) = true := by simp; omega
        have h10 := HNP.out.2 (by omega)
        rw [h10]
        generalize (parseB ⟨S.toArray⟩).1 = V at *
        have hA2 := bel_alloc (Below.refl w5.heap.size w5) (.cells #[.int .i64 V.k, .int .i64 V.n, .string V.s, .slice A1 n1 c1, .slice A2 n2 c2] 55)
        have hb2 := bel_trans hbw hA2
        have hf2 := first_any _ (HT.out.below hb2)
        have HF2 := Lib.hid hf2; have HB2 := Lib.hid hb2
        clear hf2 hb2 hA2 hbw hj HNP HMY HS5 HB5 h10
        go_upto_region 16 with (fail)
        generalize w5.alloc (.cells #[.int .i64 V.k, .int .i64 V.n, .string V.s, .slice A1 n1 c1, .slice A2 n2 c2] 55) = w6 at *
        go_wp2_with fail
        refine Calls.mono HF2.out ?_
        rintro e w7 ⟨rfl, hb7⟩
        have HB7 := Lib.hid (bel_trans HB2.out hb7)
        clear hb7
        go_wp2_with fail
        go_ret
        exact ⟨rfl, HB7.out⟩
theorem jsonDeep_any (n : Int) (o : Bool) (w : World) (hT : Tabs w) : Calls Tryd.prog 5 #[.int .i64 n, .bool o] w fun z w' => z = .returned (.bool true) ∧ Below w.heap.size w w' := by
  by_cases hn : n < 1 ∨ 200 < n
  · exact jsonDeep_out n o w hT hn
  · obtain ⟨m, rfl⟩ : ∃ m : Nat, n = (m : Int) + 1 := ⟨(n - 1).toNat, by omega⟩
    cases o
    · exact jsonDeep_list m (by omega) w hT
    · exact jsonDeep_obj m (by omega) w hT
end Go.Proofs.YtjjgbgojlhaapaaDoor
