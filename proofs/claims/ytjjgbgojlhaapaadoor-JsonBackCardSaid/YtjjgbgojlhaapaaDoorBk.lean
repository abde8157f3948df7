/- JsonBack: the walk. -/
import Derived.Test.YtjjgbgojlhaapaaDoorWo
import Derived.Test.YtjjgbgojlhaapaaDoorSm
import Derived.Test.YtjjgbgojlhaapaaDoorRz
namespace Go.Proofs.YtjjgbgojlhaapaaDoor
open Go.RowKit Go.Lib

theorem bsl_below {w w' : World} {F : Nat → Prop} {v : Value} {s : ByteArray} (h : BSl w F v s) (hb : Below w.heap.size w w') : BSl w' F v s := by
  rcases h with ⟨b, o, c, rfl, hF, hc⟩ | h
  · exact .inl ⟨b, o, c, rfl, hF, fun i hi => (World.cell?_of_block (w := w) (a := ⟨b, o + i, none⟩) (hb.block b (World.block_lt_of_cell? w _ (hc i hi)))).trans (hc i hi)⟩
  · exact .inr h
theorem k4_cases {k f : Int} (h : k ≠ 4 → f ≠ 0) : (f == 0) = false ∨ ((f == 0) = true ∧ (k != 4) = false) := by
  by_cases h4 : k = 4
  · by_cases hf : f = 0
    · right; subst h4; subst hf; exact ⟨rfl, rfl⟩
    · left; simpa using hf
  · left; simpa using h h4
set_option maxRecDepth 100000 in
set_option maxHeartbeats 32000000 in
theorem jsonBack_any (x : JV) (cs : List Value) (F : Nat → Prop) (vb : Value) (lb : List UInt8) (F' : Nat → Prop) (cut : Int) (w : World) (h : JR w F x cs) (hvb : BSl w F' vb ⟨lb.toArray⟩) (hT : Tabs w) :
    Calls Tryd.prog 8 #[.agg cs.toArray, vb, .int .i64 cut] w fun z w' => z = .returned (.bool true) ∧ Below w.heap.size w w' := by
  have hq1 : (parseB ⟨lb.toArray⟩).2 ≠ 0 → (parseB ⟨lb.toArray⟩).1 = zeroV := parse_zeroV
  have hq2 : (parseB ⟨lb.toArray⟩).2 = 0 → mayJ 64 (parseB ⟨lb.toArray⟩).1 = true ∧ (printB 64 (parseB ⟨lb.toArray⟩).1).length ≤ 600000 := fun h => ⟨parse_may h, parse_len h⟩
  have hpb := fun W hT hb => parse_any ⟨lb.toArray⟩ vb F' W hT hb
  unfold PRes at hpb
  obtain ⟨A1, n1, c1, A2, n2, c2, rfl⟩ := JR_form h
  obtain ⟨Ab, cb, hvf⟩ := hvb.form
  rw [list_size] at hvf
  have HF1 := Lib.hid hvf
  have hbA : Below w.heap.size w (w.alloc (.cells #[.int .i64 x.k, .int .i64 x.n, .string x.s, .slice A1 n1 c1, .slice A2 n2 c2] 55)) := bel_alloc (Below.refl _ _) _
  have hc0 := heap_alloc_new w (.cells #[.int .i64 x.k, .int .i64 x.n, .string x.s, .slice A1 n1 c1, .slice A2 n2 c2] 55)
  have HJ := Lib.hid (JR_later h hbA); have HT := Lib.hid hT; have HB0 := Lib.hid hbA; have HC0 := Lib.hid hc0; have HSB := Lib.hid (bsl_below hvb hbA)
  have HQ1 := Lib.hid hq1; have HQ2 := Lib.hid hq2; have HPB := Lib.hid hpb
  clear h hT hbA hc0 hvb hq1 hq2 hpb
  subst hvf
  generalize parseB ⟨lb.toArray⟩ = rb at *
  obtain ⟨V5, e5⟩ := rb
  simp only at HQ1 HQ2 HPB
  generalize hnb : lb.length = nb at *
  go_enter Tryd.func8, Tryd.ntmps8
  go_upto_region 1 with (fail)
  generalize w.alloc (.cells #[.int .i64 x.k, .int .i64 x.n, .string x.s, .slice A1 n1 c1, .slice A2 n2 c2] 55) = W0 at *
  have hff := first_any W0 (HT.out.below HB0.out)
  have HFF := Lib.hid hff
  clear hff
  go_wp2_with fail
  refine Calls.mono HFF.out ?_
  rintro e w1 ⟨rfl, hbz⟩
  clear HFF
  have HB2 := Lib.hid (bel_trans HB0.out hbz)
  have HK3 := Lib.hid ((hbz.block w.heap.size (Array.getElem?_eq_some_iff.1 HC0.out).1).trans HC0.out)
  have HS4 := Lib.hid (bsl_below HSB.out hbz)
  have HJ5 := Lib.hid (JR_later HJ.out hbz)
  clear HB0 HC0 HSB HJ
  clear hbz
  obtain ⟨⟨v06, v16, v26, v36, v46⟩, _, hV6⟩ := cells5 HK3.out
  have hfw := few_any x _ _ w1 HJ5.out
  have HFW := Lib.hid hfw
  clear hfw
  go_wp2_with fail
  refine Calls.mono HFW.out ?_
  clear HFW
  cases hfe : fewB x with
  | false =>
    rintro e w7 ⟨rfl, hbz⟩
    have HB8 := Lib.hid (bel_trans HB2.out hbz)
    have HK9 := Lib.hid ((hbz.block w.heap.size (Array.getElem?_eq_some_iff.1 HK3.out).1).trans HK3.out)
    have HS10 := Lib.hid (bsl_below HS4.out hbz)
    have HJ11 := Lib.hid (JR_later HJ5.out hbz)
    clear HB2 HK3 HS4 HJ5 v06 v16 v26 v36 v46 hV6
    clear hbz hfe
    have hff := first_any w7 (HT.out.below HB8.out)
    have HFF := Lib.hid hff
    clear hff
    go_wp2_with fail
    refine Calls.mono HFF.out ?_
    rintro e w12 ⟨rfl, hbz⟩
    clear HFF
    have HB13 := Lib.hid (bel_trans HB8.out hbz)
    have HK14 := Lib.hid ((hbz.block w.heap.size (Array.getElem?_eq_some_iff.1 HK9.out).1).trans HK9.out)
    have HS15 := Lib.hid (bsl_below HS10.out hbz)
    have HJ16 := Lib.hid (JR_later HJ11.out hbz)
    clear HB8 HK9 HS10 HJ11
    clear hbz
    go_wp2_with fail
    go_ret
    exact ⟨rfl, HB13.out⟩
  | true =>
    rintro e w7 ⟨rfl, hbz⟩
    have HB17 := Lib.hid (bel_trans HB2.out hbz)
    have HK18 := Lib.hid ((hbz.block w.heap.size (Array.getElem?_eq_some_iff.1 HK3.out).1).trans HK3.out)
    have HS19 := Lib.hid (bsl_below HS4.out hbz)
    have HJ20 := Lib.hid (JR_later HJ5.out hbz)
    clear HB2 HK3 HS4 HJ5 v06 v16 v26 v36 v46 hV6
    have HFE := Lib.hid hfe
    clear hbz hfe
    by_cases hlb : 21000 < nb
    · have hd1 : decide (21000 < (nb : Int)) = true := decide_eq_true (by omega)
      have hff := first_any w7 (HT.out.below HB17.out)
      have HFF := Lib.hid hff
      clear hff
      go_wp2_with fail
      refine Calls.mono HFF.out ?_
      rintro e w21 ⟨rfl, hbz⟩
      clear HFF
      have HB22 := Lib.hid (bel_trans HB17.out hbz)
      have HK23 := Lib.hid ((hbz.block w.heap.size (Array.getElem?_eq_some_iff.1 HK18.out).1).trans HK18.out)
      have HS24 := Lib.hid (bsl_below HS19.out hbz)
      have HJ25 := Lib.hid (JR_later HJ20.out hbz)
      clear HB17 HK18 HS19 HJ20
      clear hbz
      go_wp2_with fail
      go_ret
      exact ⟨rfl, HB22.out⟩
    · have hd1 : decide (21000 < (nb : Int)) = false := decide_eq_false (by omega)
      by_cases hcut : cut < 0
      · have hd2 : decide (cut < 0) = true := by simpa using hcut
        have hff := first_any w7 (HT.out.below HB17.out)
        have HFF := Lib.hid hff
        clear hff
        go_wp2_with fail
        refine Calls.mono HFF.out ?_
        rintro e w26 ⟨rfl, hbz⟩
        clear HFF
        have HB27 := Lib.hid (bel_trans HB17.out hbz)
        have HK28 := Lib.hid ((hbz.block w.heap.size (Array.getElem?_eq_some_iff.1 HK18.out).1).trans HK18.out)
        have HS29 := Lib.hid (bsl_below HS19.out hbz)
        have HJ30 := Lib.hid (JR_later HJ20.out hbz)
        clear HB17 HK18 HS19 HJ20
        clear hbz
        go_wp2_with fail
        go_ret
        exact ⟨rfl, HB27.out⟩
      · have hd2 : decide (cut < 0) = false := by simpa using hcut
        obtain ⟨⟨v031, v131, v231, v331, v431⟩, _, hV31⟩ := cells5 HK18.out
        cases hm : mayJ 64 x with
        | false =>
          have hcl := Print_bad x _ _ w7 HJ20.out (HT.out.below HB17.out) hm
          have HCL := Lib.hid hcl
          clear hcl
          go_wp2_with fail
          refine Calls.mono HCL.out ?_
          rintro e w32 ⟨rfl, hbz⟩
          clear HCL
          have HB33 := Lib.hid (bel_trans HB17.out hbz)
          have HK34 := Lib.hid ((hbz.block w.heap.size (Array.getElem?_eq_some_iff.1 HK18.out).1).trans HK18.out)
          have HS35 := Lib.hid (bsl_below HS19.out hbz)
          have HJ36 := Lib.hid (JR_later HJ20.out hbz)
          clear HB17 HK18 HS19 HJ20 v031 v131 v231 v331 v431 hV31
          clear hbz
          obtain ⟨⟨v037, v137, v237, v337, v437⟩, _, hV37⟩ := cells5 HK34.out
          have hcl := May_any x _ _ w32 HJ36.out (HT.out.below HB33.out)
          have HCL := Lib.hid hcl
          clear hcl
          go_wp2_with fail
          refine Calls.mono HCL.out ?_
          rw [hm]
          rintro e w38 ⟨rfl, hbz⟩
          clear HCL
          have HB39 := Lib.hid (bel_trans HB33.out hbz)
          have HK40 := Lib.hid ((hbz.block w.heap.size (Array.getElem?_eq_some_iff.1 HK34.out).1).trans HK34.out)
          have HS41 := Lib.hid (bsl_below HS35.out hbz)
          have HJ42 := Lib.hid (JR_later HJ36.out hbz)
          clear HB33 HK34 HS35 HJ36 v037 v137 v237 v337 v437 hV37
          clear hbz hm
          by_cases he5 : e5 = 0
          case neg =>
            have HZ := Lib.hid (HQ1.out he5)
            have hd5 : (e5 != 0) = true := by simpa using he5
            have hpa := HPB.out w38 (HT.out.below HB39.out) HS41.out
            have HPA := Lib.hid hpa
            clear hpa
            go_wp2_with fail
            refine Calls.mono HPA.out ?_
            rintro e u43 ⟨qA1, qn1, qc1, qA2, qn2, qc2, rfl, hj, hb⟩
            clear HPA
            have hA2 := bel_alloc (Below.refl u43.heap.size u43) (.cells #[.int .i64 (JV.k V5), .int .i64 (JV.n V5), .string (JV.s V5), .slice qA1 qn1 qc1, .slice qA2 qn2 qc2] 55)
            have hb2 := bel_trans hb hA2
            have hc2 := heap_alloc_new u43 (.cells #[.int .i64 (JV.k V5), .int .i64 (JV.n V5), .string (JV.s V5), .slice qA1 qn1 qc1, .slice qA2 qn2 qc2] 55)
            have hj2 := JR_later hj hA2
            have HB45 := Lib.hid (bel_trans HB39.out hb2)
            have HK46 := Lib.hid ((hb2.block w.heap.size (Array.getElem?_eq_some_iff.1 HK40.out).1).trans HK40.out)
            have HS47 := Lib.hid (bsl_below HS41.out hb2)
            have HJ48 := Lib.hid (JR_later HJ42.out hb2)
            clear HB39 HK40 HS41 HJ42
            have HK49 := Lib.hid hc2
            have HJ50 := Lib.hid hj2
            clear hA2 hb2 hc2 hj2 hj hb
            go_upto_region 17 with (fail)
            generalize u43.alloc (.cells #[.int .i64 (JV.k V5), .int .i64 (JV.n V5), .string (JV.s V5), .slice qA1 qn1 qc1, .slice qA2 qn2 qc2] 55) = W44 at *
            have hff := first_any W44 (HT.out.below HB45.out)
            have HFF := Lib.hid hff
            clear hff
            go_wp2_with fail
            refine Calls.mono HFF.out ?_
            rintro e w51 ⟨rfl, hbz⟩
            clear HFF
            have HB52 := Lib.hid (bel_trans HB45.out hbz)
            have HK53 := Lib.hid ((hbz.block w.heap.size (Array.getElem?_eq_some_iff.1 HK46.out).1).trans HK46.out)
            have HK54 := Lib.hid ((hbz.block u43.heap.size (Array.getElem?_eq_some_iff.1 HK49.out).1).trans HK49.out)
            have HS55 := Lib.hid (bsl_below HS47.out hbz)
            have HJ56 := Lib.hid (JR_later HJ48.out hbz)
            have HJ57 := Lib.hid (JR_later HJ50.out hbz)
            clear HB45 HK46 HK49 HS47 HJ48 HJ50
            clear hbz
            have hk5 := HK54.out
            rw [HZ.out] at hk5
            have hk6 : w51.cell? ⟨u43.heap.size, 0, none⟩ = some (.int .i64 0) := (cells5 hk5).1.1
            have hV6 := (cells5 hk5).2.2
            clear hk5
            go_wp2_with fail
            go_ret
            exact ⟨rfl, HB52.out⟩
          case pos =>
            have hd5 : (e5 != 0) = false := by rw [he5]; rfl
            obtain ⟨hmy, hlen5⟩ := HQ2.out he5
            have hpp := fun h => parse_print (x := V5) hmy h
            have HPP := Lib.hid hpp; have HMY := Lib.hid hmy; have HLN := Lib.hid hlen5
            clear hpp hmy hlen5
            have hpa := HPB.out w38 (HT.out.below HB39.out) HS41.out
            have HPA := Lib.hid hpa
            clear hpa
            go_wp2_with fail
            refine Calls.mono HPA.out ?_
            rintro e u58 ⟨qA1, qn1, qc1, qA2, qn2, qc2, rfl, hj, hb⟩
            clear HPA
            have hA2 := bel_alloc (Below.refl u58.heap.size u58) (.cells #[.int .i64 (JV.k V5), .int .i64 (JV.n V5), .string (JV.s V5), .slice qA1 qn1 qc1, .slice qA2 qn2 qc2] 55)
            have hb2 := bel_trans hb hA2
            have hc2 := heap_alloc_new u58 (.cells #[.int .i64 (JV.k V5), .int .i64 (JV.n V5), .string (JV.s V5), .slice qA1 qn1 qc1, .slice qA2 qn2 qc2] 55)
            have hj2 := JR_later hj hA2
            have HB60 := Lib.hid (bel_trans HB39.out hb2)
            have HK61 := Lib.hid ((hb2.block w.heap.size (Array.getElem?_eq_some_iff.1 HK40.out).1).trans HK40.out)
            have HS62 := Lib.hid (bsl_below HS41.out hb2)
            have HJ63 := Lib.hid (JR_later HJ42.out hb2)
            clear HB39 HK40 HS41 HJ42
            have HK64 := Lib.hid hc2
            have HJ65 := Lib.hid hj2
            clear hA2 hb2 hc2 hj2 hj hb
            go_upto_region 17 with (fail)
            generalize u58.alloc (.cells #[.int .i64 (JV.k V5), .int .i64 (JV.n V5), .string (JV.s V5), .slice qA1 qn1 qc1, .slice qA2 qn2 qc2] 55) = W59 at *
            obtain ⟨⟨v066, v166, v266, v366, v466⟩, _, hV66⟩ := cells5 HK64.out
            have hcl := Print_full V5 _ _ W59 HJ65.out (HT.out.below HB60.out) HMY.out (by have := HLN.out; omega)
            have HCL := Lib.hid hcl
            clear hcl
            go_wp2_with fail
            refine Calls.mono HCL.out ?_
            rintro e w67 ⟨⟨g5, cc5, rfl, hcap5, hbs⟩, hb3⟩
            clear HCL
            have hs5 : BSl w67 (fun _ => True) (.slice (some ⟨g5, 0, none⟩) (printB 64 V5).length cc5) ⟨(printB 64 V5).toArray⟩ := by
              refine .inl ⟨g5, 0, cc5, by rw [list_size], trivial, fun i hi => ?_⟩
              have h := hbs i (by rw [list_size] at hi; exact hi)
              rw [Addr.add_mid] at h
              exact h
            have HB68 := Lib.hid (bel_trans HB60.out hb3)
            have HK69 := Lib.hid ((hb3.block u58.heap.size (Array.getElem?_eq_some_iff.1 HK64.out).1).trans HK64.out)
            have HJ70 := Lib.hid (JR_later HJ65.out hb3)
            clear HB60 HK64 HJ65 v066 v166 v266 v366 v466 hV66
            have HS5 := Lib.hid hs5
            clear hs5 hbs hb3
            generalize printB 64 V5 = P5 at *
            by_cases hl5 : P5.length ≤ 20000
            · have hd6 : decide (20000 < (P5.length : Int)) = false := decide_eq_false (by omega)
              have hpa := parse_any ⟨P5.toArray⟩ _ _ w67 (HT.out.below HB68.out) HS5.out
              unfold PRes at hpa
              rw [HPP.out hl5] at hpa
              simp only at hpa
              have HPA := Lib.hid hpa
              clear hpa
              go_wp2_with fail
              refine Calls.mono HPA.out ?_
              rintro e u73 ⟨yA1, yn1, yc1, yA2, yn2, yc2, rfl, hj, hb⟩
              clear HPA
              have hA2 := bel_alloc (Below.refl u73.heap.size u73) (.cells #[.int .i64 (JV.k V5), .int .i64 (JV.n V5), .string (JV.s V5), .slice yA1 yn1 yc1, .slice yA2 yn2 yc2] 55)
              have hb2 := bel_trans hb hA2
              have hc2 := heap_alloc_new u73 (.cells #[.int .i64 (JV.k V5), .int .i64 (JV.n V5), .string (JV.s V5), .slice yA1 yn1 yc1, .slice yA2 yn2 yc2] 55)
              have hj2 := JR_later hj hA2
              have HB75 := Lib.hid (bel_trans HB68.out hb2)
              have HK76 := Lib.hid ((hb2.block u58.heap.size (Array.getElem?_eq_some_iff.1 HK69.out).1).trans HK69.out)
              have HJ77 := Lib.hid (JR_later HJ70.out hb2)
              clear HB68 HK69 HJ70
              have HK78 := Lib.hid hc2
              have HJ79 := Lib.hid hj2
              clear hA2 hb2 hc2 hj2 hj hb
              go_upto_region 21 with (fail)
              generalize u73.alloc (.cells #[.int .i64 (JV.k V5), .int .i64 (JV.n V5), .string (JV.s V5), .slice yA1 yn1 yc1, .slice yA2 yn2 yc2] 55) = W74 at *
              have hff := first_any W74 (HT.out.below HB75.out)
              have HFF := Lib.hid hff
              clear hff
              go_wp2_with fail
              refine Calls.mono HFF.out ?_
              rintro e w80 ⟨rfl, hbz⟩
              clear HFF
              have HB81 := Lib.hid (bel_trans HB75.out hbz)
              have HK82 := Lib.hid ((hbz.block u58.heap.size (Array.getElem?_eq_some_iff.1 HK76.out).1).trans HK76.out)
              have HK83 := Lib.hid ((hbz.block u73.heap.size (Array.getElem?_eq_some_iff.1 HK78.out).1).trans HK78.out)
              have HJ84 := Lib.hid (JR_later HJ77.out hbz)
              have HJ85 := Lib.hid (JR_later HJ79.out hbz)
              clear HB75 HK76 HK78 HJ77 HJ79
              clear hbz
              obtain ⟨⟨v086, v186, v286, v386, v486⟩, _, hV86⟩ := cells5 HK82.out
              obtain ⟨⟨v087, v187, v287, v387, v487⟩, _, hV87⟩ := cells5 HK83.out
              have hcl := May_any V5 _ _ w80 HJ84.out (HT.out.below HB81.out)
              have HCL := Lib.hid hcl
              clear hcl
              go_wp2_with fail
              refine Calls.mono HCL.out ?_
              rw [HMY.out]
              rintro e w88 ⟨rfl, hbz⟩
              clear HCL
              have HB89 := Lib.hid (bel_trans HB81.out hbz)
              have HK90 := Lib.hid ((hbz.block u58.heap.size (Array.getElem?_eq_some_iff.1 HK82.out).1).trans HK82.out)
              have HK91 := Lib.hid ((hbz.block u73.heap.size (Array.getElem?_eq_some_iff.1 HK83.out).1).trans HK83.out)
              have HJ92 := Lib.hid (JR_later HJ84.out hbz)
              have HJ93 := Lib.hid (JR_later HJ85.out hbz)
              clear HB81 HK82 HK83 HJ84 HJ85 v086 v186 v286 v386 v486 hV86 v087 v187 v287 v387 v487 hV87
              clear hbz
              obtain ⟨⟨v094, v194, v294, v394, v494⟩, _, hV94⟩ := cells5 HK90.out
              obtain ⟨⟨v095, v195, v295, v395, v495⟩, _, hV95⟩ := cells5 HK91.out
              have hcl := same_any V5 V5 _ _ _ _ w88 HJ93.out HJ92.out
              have HCL := Lib.hid hcl
              clear hcl
              go_wp2_with fail
              refine Calls.mono HCL.out ?_
              rw [same_refl]
              rintro e w96 ⟨rfl, hbz⟩
              clear HCL
              have HB97 := Lib.hid (bel_trans HB89.out hbz)
              have HK98 := Lib.hid ((hbz.block u58.heap.size (Array.getElem?_eq_some_iff.1 HK90.out).1).trans HK90.out)
              have HK99 := Lib.hid ((hbz.block u73.heap.size (Array.getElem?_eq_some_iff.1 HK91.out).1).trans HK91.out)
              have HJ100 := Lib.hid (JR_later HJ92.out hbz)
              have HJ101 := Lib.hid (JR_later HJ93.out hbz)
              clear HB89 HK90 HK91 HJ92 HJ93 v094 v194 v294 v394 v494 hV94 v095 v195 v295 v395 v495 hV95
              go_wp2_with fail
              go_ret
              exact ⟨rfl, HB97.out⟩
            · have hd6 : decide (20000 < (P5.length : Int)) = true := decide_eq_true (by omega)
              have hpa := parse_any ⟨P5.toArray⟩ _ _ w67 (HT.out.below HB68.out) HS5.out
              unfold PRes at hpa
              generalize parseB ⟨P5.toArray⟩ = r6 at hpa
              obtain ⟨V6, e6⟩ := r6
              simp only at hpa
              have HPA := Lib.hid hpa
              clear hpa
              go_wp2_with fail
              refine Calls.mono HPA.out ?_
              rintro e u102 ⟨yA1, yn1, yc1, yA2, yn2, yc2, rfl, hj, hb⟩
              clear HPA
              have hA2 := bel_alloc (Below.refl u102.heap.size u102) (.cells #[.int .i64 (JV.k V6), .int .i64 (JV.n V6), .string (JV.s V6), .slice yA1 yn1 yc1, .slice yA2 yn2 yc2] 55)
              have hb2 := bel_trans hb hA2
              have hc2 := heap_alloc_new u102 (.cells #[.int .i64 (JV.k V6), .int .i64 (JV.n V6), .string (JV.s V6), .slice yA1 yn1 yc1, .slice yA2 yn2 yc2] 55)
              have hj2 := JR_later hj hA2
              have HB104 := Lib.hid (bel_trans HB68.out hb2)
              have HK105 := Lib.hid ((hb2.block u58.heap.size (Array.getElem?_eq_some_iff.1 HK69.out).1).trans HK69.out)
              have HJ106 := Lib.hid (JR_later HJ70.out hb2)
              clear HB68 HK69 HJ70
              have HK107 := Lib.hid hc2
              have HJ108 := Lib.hid hj2
              clear hA2 hb2 hc2 hj2 hj hb
              go_upto_region 21 with (fail)
              generalize u102.alloc (.cells #[.int .i64 (JV.k V6), .int .i64 (JV.n V6), .string (JV.s V6), .slice yA1 yn1 yc1, .slice yA2 yn2 yc2] 55) = W103 at *
              have hff := first_any W103 (HT.out.below HB104.out)
              have HFF := Lib.hid hff
              clear hff
              go_wp2_with fail
              refine Calls.mono HFF.out ?_
              rintro e w109 ⟨rfl, hbz⟩
              clear HFF
              have HB110 := Lib.hid (bel_trans HB104.out hbz)
              have HK111 := Lib.hid ((hbz.block u58.heap.size (Array.getElem?_eq_some_iff.1 HK105.out).1).trans HK105.out)
              have HK112 := Lib.hid ((hbz.block u102.heap.size (Array.getElem?_eq_some_iff.1 HK107.out).1).trans HK107.out)
              have HJ113 := Lib.hid (JR_later HJ106.out hbz)
              have HJ114 := Lib.hid (JR_later HJ108.out hbz)
              clear HB104 HK105 HK107 HJ106 HJ108
              clear hbz
              obtain ⟨⟨v0115, v1115, v2115, v3115, v4115⟩, _, hV115⟩ := cells5 HK111.out
              obtain ⟨⟨v0116, v1116, v2116, v3116, v4116⟩, _, hV116⟩ := cells5 HK112.out
              have hcl := May_any V5 _ _ w109 HJ113.out (HT.out.below HB110.out)
              have HCL := Lib.hid hcl
              clear hcl
              go_wp2_with fail
              refine Calls.mono HCL.out ?_
              rw [HMY.out]
              rintro e w117 ⟨rfl, hbz⟩
              clear HCL
              have HB118 := Lib.hid (bel_trans HB110.out hbz)
              have HK119 := Lib.hid ((hbz.block u58.heap.size (Array.getElem?_eq_some_iff.1 HK111.out).1).trans HK111.out)
              have HK120 := Lib.hid ((hbz.block u102.heap.size (Array.getElem?_eq_some_iff.1 HK112.out).1).trans HK112.out)
              have HJ121 := Lib.hid (JR_later HJ113.out hbz)
              have HJ122 := Lib.hid (JR_later HJ114.out hbz)
              clear HB110 HK111 HK112 HJ113 HJ114 v0115 v1115 v2115 v3115 v4115 hV115 v0116 v1116 v2116 v3116 v4116 hV116
              clear hbz
              go_wp2_with fail
              go_ret
              exact ⟨rfl, HB118.out⟩
        | true =>
          have hfl := few_len (of_decide_eq_true (show decide (0 < countB 100 x 12000) = true from HFE.out)) hm
          have hpos := printed_pos hm
          have hcu := fun j hk h1 h2 => (parse_cut (x := x) (j := j) hm hk h1 h2).1
          have har := fun hl => parse_around (x := x) (pre := [32, 10]) (post := [9, 13]) (by decide) (by decide) hm hl
          have hpr := fun hl => parse_print (x := x) hm hl
          have HCU := Lib.hid hcu; have HAR := Lib.hid har; have HPR := Lib.hid hpr; have HFL := Lib.hid hfl; have HPO := Lib.hid hpos
          clear hcu har hpr hfl hpos
          have hcl := Print_full x _ _ w7 HJ20.out (HT.out.below HB17.out) hm (by have := HFL.out; omega)
          have HCL := Lib.hid hcl
          clear hcl
          go_wp2_with fail
          refine Calls.mono HCL.out ?_
          rintro e w123 ⟨⟨g, cc, rfl, ⟨hcap, hcap2⟩, hbs⟩, hbz⟩
          clear HCL
          have hs3 : BSl w123 (fun _ => True) (.slice (some ⟨g, 0, none⟩) (printB 64 x).length cc) ⟨(printB 64 x).toArray⟩ := by
            refine .inl ⟨g, 0, cc, by rw [list_size], trivial, fun i hi => ?_⟩
            have h := hbs i (by rw [list_size] at hi; exact hi)
            rw [Addr.add_mid] at h
            exact h
          have HB124 := Lib.hid (bel_trans HB17.out hbz)
          have HK125 := Lib.hid ((hbz.block w.heap.size (Array.getElem?_eq_some_iff.1 HK18.out).1).trans HK18.out)
          have HS126 := Lib.hid (bsl_below HS19.out hbz)
          have HJ127 := Lib.hid (JR_later HJ20.out hbz)
          clear HB17 HK18 HS19 HJ20 v031 v131 v231 v331 v431 hV31
          have HSP := Lib.hid hs3; have HCAP := Lib.hid hcap; have HM := Lib.hid hm
          clear hs3 hbs hbz hcap hm
          generalize printB 64 x = P at *
          obtain ⟨⟨v0128, v1128, v2128, v3128, v4128⟩, _, hV128⟩ := cells5 HK125.out
          have hcl := May_any x _ _ w123 HJ127.out (HT.out.below HB124.out)
          have HCL := Lib.hid hcl
          clear hcl
          go_wp2_with fail
          refine Calls.mono HCL.out ?_
          rw [HM.out]
          rintro e w129 ⟨rfl, hbz⟩
          clear HCL
          have HB130 := Lib.hid (bel_trans HB124.out hbz)
          have HK131 := Lib.hid ((hbz.block w.heap.size (Array.getElem?_eq_some_iff.1 HK125.out).1).trans HK125.out)
          have HS132 := Lib.hid (bsl_below HS126.out hbz)
          have HS133 := Lib.hid (bsl_below HSP.out hbz)
          have HJ134 := Lib.hid (JR_later HJ127.out hbz)
          clear HB124 HK125 HS126 HSP HJ127 v0128 v1128 v2128 v3128 v4128 hV128
          clear hbz
          by_cases hl : P.length ≤ 19996
          case neg =>
            have hd3 : decide ((P.length : Int) ≤ 19996) = false := decide_eq_false (by omega)
            by_cases he5 : e5 = 0
            case neg =>
              have HZ := Lib.hid (HQ1.out he5)
              have hd5 : (e5 != 0) = true := by simpa using he5
              have hpa := HPB.out w129 (HT.out.below HB130.out) HS132.out
              have HPA := Lib.hid hpa
              clear hpa
              go_wp2_with fail
              refine Calls.mono HPA.out ?_
              rintro e u135 ⟨qA1, qn1, qc1, qA2, qn2, qc2, rfl, hj, hb⟩
              clear HPA
              have hA2 := bel_alloc (Below.refl u135.heap.size u135) (.cells #[.int .i64 (JV.k V5), .int .i64 (JV.n V5), .string (JV.s V5), .slice qA1 qn1 qc1, .slice qA2 qn2 qc2] 55)
              have hb2 := bel_trans hb hA2
              have hc2 := heap_alloc_new u135 (.cells #[.int .i64 (JV.k V5), .int .i64 (JV.n V5), .string (JV.s V5), .slice qA1 qn1 qc1, .slice qA2 qn2 qc2] 55)
              have hj2 := JR_later hj hA2
              have HB137 := Lib.hid (bel_trans HB130.out hb2)
              have HK138 := Lib.hid ((hb2.block w.heap.size (Array.getElem?_eq_some_iff.1 HK131.out).1).trans HK131.out)
              have HS139 := Lib.hid (bsl_below HS132.out hb2)
              have HJ140 := Lib.hid (JR_later HJ134.out hb2)
              clear HB130 HK131 HS132 HJ134
              have HK141 := Lib.hid hc2
              have HJ142 := Lib.hid hj2
              clear hA2 hb2 hc2 hj2 hj hb
              go_upto_region 17 with (fail)
              generalize u135.alloc (.cells #[.int .i64 (JV.k V5), .int .i64 (JV.n V5), .string (JV.s V5), .slice qA1 qn1 qc1, .slice qA2 qn2 qc2] 55) = W136 at *
              have hff := first_any W136 (HT.out.below HB137.out)
              have HFF := Lib.hid hff
              clear hff
              go_wp2_with fail
              refine Calls.mono HFF.out ?_
              rintro e w143 ⟨rfl, hbz⟩
              clear HFF
              have HB144 := Lib.hid (bel_trans HB137.out hbz)
              have HK145 := Lib.hid ((hbz.block w.heap.size (Array.getElem?_eq_some_iff.1 HK138.out).1).trans HK138.out)
              have HK146 := Lib.hid ((hbz.block u135.heap.size (Array.getElem?_eq_some_iff.1 HK141.out).1).trans HK141.out)
              have HS147 := Lib.hid (bsl_below HS139.out hbz)
              have HJ148 := Lib.hid (JR_later HJ140.out hbz)
              have HJ149 := Lib.hid (JR_later HJ142.out hbz)
              clear HB137 HK138 HK141 HS139 HJ140 HJ142
              clear hbz
              have hk5 := HK146.out
              rw [HZ.out] at hk5
              have hk6 : w143.cell? ⟨u135.heap.size, 0, none⟩ = some (.int .i64 0) := (cells5 hk5).1.1
              have hV6 := (cells5 hk5).2.2
              clear hk5
              go_wp2_with fail
              go_ret
              exact ⟨rfl, HB144.out⟩
            case pos =>
              have hd5 : (e5 != 0) = false := by rw [he5]; rfl
              obtain ⟨hmy, hlen5⟩ := HQ2.out he5
              have hpp := fun h => parse_print (x := V5) hmy h
              have HPP := Lib.hid hpp; have HMY := Lib.hid hmy; have HLN := Lib.hid hlen5
              clear hpp hmy hlen5
              have hpa := HPB.out w129 (HT.out.below HB130.out) HS132.out
              have HPA := Lib.hid hpa
              clear hpa
              go_wp2_with fail
              refine Calls.mono HPA.out ?_
              rintro e u150 ⟨qA1, qn1, qc1, qA2, qn2, qc2, rfl, hj, hb⟩
              clear HPA
              have hA2 := bel_alloc (Below.refl u150.heap.size u150) (.cells #[.int .i64 (JV.k V5), .int .i64 (JV.n V5), .string (JV.s V5), .slice qA1 qn1 qc1, .slice qA2 qn2 qc2] 55)
              have hb2 := bel_trans hb hA2
              have hc2 := heap_alloc_new u150 (.cells #[.int .i64 (JV.k V5), .int .i64 (JV.n V5), .string (JV.s V5), .slice qA1 qn1 qc1, .slice qA2 qn2 qc2] 55)
              have hj2 := JR_later hj hA2
              have HB152 := Lib.hid (bel_trans HB130.out hb2)
              have HK153 := Lib.hid ((hb2.block w.heap.size (Array.getElem?_eq_some_iff.1 HK131.out).1).trans HK131.out)
              have HS154 := Lib.hid (bsl_below HS132.out hb2)
              have HJ155 := Lib.hid (JR_later HJ134.out hb2)
              clear HB130 HK131 HS132 HJ134
              have HK156 := Lib.hid hc2
              have HJ157 := Lib.hid hj2
              clear hA2 hb2 hc2 hj2 hj hb
              go_upto_region 17 with (fail)
              generalize u150.alloc (.cells #[.int .i64 (JV.k V5), .int .i64 (JV.n V5), .string (JV.s V5), .slice qA1 qn1 qc1, .slice qA2 qn2 qc2] 55) = W151 at *
              obtain ⟨⟨v0158, v1158, v2158, v3158, v4158⟩, _, hV158⟩ := cells5 HK156.out
              have hcl := Print_full V5 _ _ W151 HJ157.out (HT.out.below HB152.out) HMY.out (by have := HLN.out; omega)
              have HCL := Lib.hid hcl
              clear hcl
              go_wp2_with fail
              refine Calls.mono HCL.out ?_
              rintro e w159 ⟨⟨g5, cc5, rfl, hcap5, hbs⟩, hb3⟩
              clear HCL
              have hs5 : BSl w159 (fun _ => True) (.slice (some ⟨g5, 0, none⟩) (printB 64 V5).length cc5) ⟨(printB 64 V5).toArray⟩ := by
                refine .inl ⟨g5, 0, cc5, by rw [list_size], trivial, fun i hi => ?_⟩
                have h := hbs i (by rw [list_size] at hi; exact hi)
                rw [Addr.add_mid] at h
                exact h
              have HB160 := Lib.hid (bel_trans HB152.out hb3)
              have HK161 := Lib.hid ((hb3.block u150.heap.size (Array.getElem?_eq_some_iff.1 HK156.out).1).trans HK156.out)
              have HJ162 := Lib.hid (JR_later HJ157.out hb3)
              clear HB152 HK156 HJ157 v0158 v1158 v2158 v3158 v4158 hV158
              have HS5 := Lib.hid hs5
              clear hs5 hbs hb3
              generalize printB 64 V5 = P5 at *
              by_cases hl5 : P5.length ≤ 20000
              · have hd6 : decide (20000 < (P5.length : Int)) = false := decide_eq_false (by omega)
                have hpa := parse_any ⟨P5.toArray⟩ _ _ w159 (HT.out.below HB160.out) HS5.out
                unfold PRes at hpa
                rw [HPP.out hl5] at hpa
                simp only at hpa
                have HPA := Lib.hid hpa
                clear hpa
                go_wp2_with fail
                refine Calls.mono HPA.out ?_
                rintro e u165 ⟨yA1, yn1, yc1, yA2, yn2, yc2, rfl, hj, hb⟩
                clear HPA
                have hA2 := bel_alloc (Below.refl u165.heap.size u165) (.cells #[.int .i64 (JV.k V5), .int .i64 (JV.n V5), .string (JV.s V5), .slice yA1 yn1 yc1, .slice yA2 yn2 yc2] 55)
                have hb2 := bel_trans hb hA2
                have hc2 := heap_alloc_new u165 (.cells #[.int .i64 (JV.k V5), .int .i64 (JV.n V5), .string (JV.s V5), .slice yA1 yn1 yc1, .slice yA2 yn2 yc2] 55)
                have hj2 := JR_later hj hA2
                have HB167 := Lib.hid (bel_trans HB160.out hb2)
                have HK168 := Lib.hid ((hb2.block u150.heap.size (Array.getElem?_eq_some_iff.1 HK161.out).1).trans HK161.out)
                have HJ169 := Lib.hid (JR_later HJ162.out hb2)
                clear HB160 HK161 HJ162
                have HK170 := Lib.hid hc2
                have HJ171 := Lib.hid hj2
                clear hA2 hb2 hc2 hj2 hj hb
                go_upto_region 21 with (fail)
                generalize u165.alloc (.cells #[.int .i64 (JV.k V5), .int .i64 (JV.n V5), .string (JV.s V5), .slice yA1 yn1 yc1, .slice yA2 yn2 yc2] 55) = W166 at *
                have hff := first_any W166 (HT.out.below HB167.out)
                have HFF := Lib.hid hff
                clear hff
                go_wp2_with fail
                refine Calls.mono HFF.out ?_
                rintro e w172 ⟨rfl, hbz⟩
                clear HFF
                have HB173 := Lib.hid (bel_trans HB167.out hbz)
                have HK174 := Lib.hid ((hbz.block u150.heap.size (Array.getElem?_eq_some_iff.1 HK168.out).1).trans HK168.out)
                have HK175 := Lib.hid ((hbz.block u165.heap.size (Array.getElem?_eq_some_iff.1 HK170.out).1).trans HK170.out)
                have HJ176 := Lib.hid (JR_later HJ169.out hbz)
                have HJ177 := Lib.hid (JR_later HJ171.out hbz)
                clear HB167 HK168 HK170 HJ169 HJ171
                clear hbz
                obtain ⟨⟨v0178, v1178, v2178, v3178, v4178⟩, _, hV178⟩ := cells5 HK174.out
                obtain ⟨⟨v0179, v1179, v2179, v3179, v4179⟩, _, hV179⟩ := cells5 HK175.out
                have hcl := May_any V5 _ _ w172 HJ176.out (HT.out.below HB173.out)
                have HCL := Lib.hid hcl
                clear hcl
                go_wp2_with fail
                refine Calls.mono HCL.out ?_
                rw [HMY.out]
                rintro e w180 ⟨rfl, hbz⟩
                clear HCL
                have HB181 := Lib.hid (bel_trans HB173.out hbz)
                have HK182 := Lib.hid ((hbz.block u150.heap.size (Array.getElem?_eq_some_iff.1 HK174.out).1).trans HK174.out)
                have HK183 := Lib.hid ((hbz.block u165.heap.size (Array.getElem?_eq_some_iff.1 HK175.out).1).trans HK175.out)
                have HJ184 := Lib.hid (JR_later HJ176.out hbz)
                have HJ185 := Lib.hid (JR_later HJ177.out hbz)
                clear HB173 HK174 HK175 HJ176 HJ177 v0178 v1178 v2178 v3178 v4178 hV178 v0179 v1179 v2179 v3179 v4179 hV179
                clear hbz
                obtain ⟨⟨v0186, v1186, v2186, v3186, v4186⟩, _, hV186⟩ := cells5 HK182.out
                obtain ⟨⟨v0187, v1187, v2187, v3187, v4187⟩, _, hV187⟩ := cells5 HK183.out
                have hcl := same_any V5 V5 _ _ _ _ w180 HJ185.out HJ184.out
                have HCL := Lib.hid hcl
                clear hcl
                go_wp2_with fail
                refine Calls.mono HCL.out ?_
                rw [same_refl]
                rintro e w188 ⟨rfl, hbz⟩
                clear HCL
                have HB189 := Lib.hid (bel_trans HB181.out hbz)
                have HK190 := Lib.hid ((hbz.block u150.heap.size (Array.getElem?_eq_some_iff.1 HK182.out).1).trans HK182.out)
                have HK191 := Lib.hid ((hbz.block u165.heap.size (Array.getElem?_eq_some_iff.1 HK183.out).1).trans HK183.out)
                have HJ192 := Lib.hid (JR_later HJ184.out hbz)
                have HJ193 := Lib.hid (JR_later HJ185.out hbz)
                clear HB181 HK182 HK183 HJ184 HJ185 v0186 v1186 v2186 v3186 v4186 hV186 v0187 v1187 v2187 v3187 v4187 hV187
                go_wp2_with fail
                go_ret
                exact ⟨rfl, HB189.out⟩
              · have hd6 : decide (20000 < (P5.length : Int)) = true := decide_eq_true (by omega)
                have hpa := parse_any ⟨P5.toArray⟩ _ _ w159 (HT.out.below HB160.out) HS5.out
                unfold PRes at hpa
                generalize parseB ⟨P5.toArray⟩ = r6 at hpa
                obtain ⟨V6, e6⟩ := r6
                simp only at hpa
                have HPA := Lib.hid hpa
                clear hpa
                go_wp2_with fail
                refine Calls.mono HPA.out ?_
                rintro e u194 ⟨yA1, yn1, yc1, yA2, yn2, yc2, rfl, hj, hb⟩
                clear HPA
                have hA2 := bel_alloc (Below.refl u194.heap.size u194) (.cells #[.int .i64 (JV.k V6), .int .i64 (JV.n V6), .string (JV.s V6), .slice yA1 yn1 yc1, .slice yA2 yn2 yc2] 55)
                have hb2 := bel_trans hb hA2
                have hc2 := heap_alloc_new u194 (.cells #[.int .i64 (JV.k V6), .int .i64 (JV.n V6), .string (JV.s V6), .slice yA1 yn1 yc1, .slice yA2 yn2 yc2] 55)
                have hj2 := JR_later hj hA2
                have HB196 := Lib.hid (bel_trans HB160.out hb2)
                have HK197 := Lib.hid ((hb2.block u150.heap.size (Array.getElem?_eq_some_iff.1 HK161.out).1).trans HK161.out)
                have HJ198 := Lib.hid (JR_later HJ162.out hb2)
                clear HB160 HK161 HJ162
                have HK199 := Lib.hid hc2
                have HJ200 := Lib.hid hj2
                clear hA2 hb2 hc2 hj2 hj hb
                go_upto_region 21 with (fail)
                generalize u194.alloc (.cells #[.int .i64 (JV.k V6), .int .i64 (JV.n V6), .string (JV.s V6), .slice yA1 yn1 yc1, .slice yA2 yn2 yc2] 55) = W195 at *
                have hff := first_any W195 (HT.out.below HB196.out)
                have HFF := Lib.hid hff
                clear hff
                go_wp2_with fail
                refine Calls.mono HFF.out ?_
                rintro e w201 ⟨rfl, hbz⟩
                clear HFF
                have HB202 := Lib.hid (bel_trans HB196.out hbz)
                have HK203 := Lib.hid ((hbz.block u150.heap.size (Array.getElem?_eq_some_iff.1 HK197.out).1).trans HK197.out)
                have HK204 := Lib.hid ((hbz.block u194.heap.size (Array.getElem?_eq_some_iff.1 HK199.out).1).trans HK199.out)
                have HJ205 := Lib.hid (JR_later HJ198.out hbz)
                have HJ206 := Lib.hid (JR_later HJ200.out hbz)
                clear HB196 HK197 HK199 HJ198 HJ200
                clear hbz
                obtain ⟨⟨v0207, v1207, v2207, v3207, v4207⟩, _, hV207⟩ := cells5 HK203.out
                obtain ⟨⟨v0208, v1208, v2208, v3208, v4208⟩, _, hV208⟩ := cells5 HK204.out
                have hcl := May_any V5 _ _ w201 HJ205.out (HT.out.below HB202.out)
                have HCL := Lib.hid hcl
                clear hcl
                go_wp2_with fail
                refine Calls.mono HCL.out ?_
                rw [HMY.out]
                rintro e w209 ⟨rfl, hbz⟩
                clear HCL
                have HB210 := Lib.hid (bel_trans HB202.out hbz)
                have HK211 := Lib.hid ((hbz.block u150.heap.size (Array.getElem?_eq_some_iff.1 HK203.out).1).trans HK203.out)
                have HK212 := Lib.hid ((hbz.block u194.heap.size (Array.getElem?_eq_some_iff.1 HK204.out).1).trans HK204.out)
                have HJ213 := Lib.hid (JR_later HJ205.out hbz)
                have HJ214 := Lib.hid (JR_later HJ206.out hbz)
                clear HB202 HK203 HK204 HJ205 HJ206 v0207 v1207 v2207 v3207 v4207 hV207 v0208 v1208 v2208 v3208 v4208 hV208
                clear hbz
                go_wp2_with fail
                go_ret
                exact ⟨rfl, HB210.out⟩
          case pos =>
            have hd3 : decide ((P.length : Int) ≤ 19996) = true := decide_eq_true (by omega)
            have HL := Lib.hid hl
            clear hl
            have hpa := parse_any ⟨P.toArray⟩ _ _ w129 (HT.out.below HB130.out) HS133.out
            unfold PRes at hpa
            rw [HPR.out (by have := HL.out; omega)] at hpa
            simp only at hpa
            have HPA := Lib.hid hpa
            clear hpa
            go_wp2_with fail
            refine Calls.mono HPA.out ?_
            rintro e u215 ⟨aA1, an1, ac1, aA2, an2, ac2, rfl, hj, hb⟩
            clear HPA
            have hA2 := bel_alloc (Below.refl u215.heap.size u215) (.cells #[.int .i64 (JV.k x), .int .i64 (JV.n x), .string (JV.s x), .slice aA1 an1 ac1, .slice aA2 an2 ac2] 55)
            have hb2 := bel_trans hb hA2
            have hc2 := heap_alloc_new u215 (.cells #[.int .i64 (JV.k x), .int .i64 (JV.n x), .string (JV.s x), .slice aA1 an1 ac1, .slice aA2 an2 ac2] 55)
            have hj2 := JR_later hj hA2
            have HB217 := Lib.hid (bel_trans HB130.out hb2)
            have HK218 := Lib.hid ((hb2.block w.heap.size (Array.getElem?_eq_some_iff.1 HK131.out).1).trans HK131.out)
            have HS219 := Lib.hid (bsl_below HS132.out hb2)
            have HS220 := Lib.hid (bsl_below HS133.out hb2)
            have HJ221 := Lib.hid (JR_later HJ134.out hb2)
            clear HB130 HK131 HS132 HS133 HJ134
            have HK222 := Lib.hid hc2
            have HJ223 := Lib.hid hj2
            clear hA2 hb2 hc2 hj2 hj hb
            go_upto_region 10 with (fail)
            generalize u215.alloc (.cells #[.int .i64 (JV.k x), .int .i64 (JV.n x), .string (JV.s x), .slice aA1 an1 ac1, .slice aA2 an2 ac2] 55) = W216 at *
            have hcv := HS220.out.conv
            have s1 := fun W : World => str_sum (P := Tryd.prog) [32, 10] P W (by have := HL.out; simp; omega)
            have hS1 : ([32, 10] ++ P).length = P.length + 2 := by simp
            have hS2 : [32, 10] ++ P ++ [9, 13] = [32, 10] ++ (P ++ [9, 13]) := by simp
            have hS3 : ([32, 10] ++ (P ++ [9, 13])).length ≤ 20000 := by have := HL.out; simp; omega
            have hS4 := HAR.out hS3
            rw [← hS2] at hS4 hS3
            generalize hq : [32, 10] ++ P = S1 at *
            have s2 := fun W : World => str_sum (P := Tryd.prog) S1 [9, 13] W (by have := HL.out; simp; omega)
            generalize S1 ++ [9, 13] = S2 at *
            have HS4 := Lib.hid hS4
            clear hS1 hS2 hS3 hS4 hq HAR
            go_wp2_with fail
            rw [run_bytes_of_string W216 _ _ 5 _ Tryd.underlying9 Tryd.underlying58 Tryd.underlying5]
            simp only [Result.andThen]
            rw [Oper.upon_value]
            have hbs := bs_string W216 S2 5
            have hb5 := fun o => (HB217.out.trans ((bel_drew (Below.refl W216.heap.size W216)).mono HB217.out.size)).alloc (B := w.heap.size) (by have := HB217.out.size; exact this) o
            have hbl := fun o => bel_alloc (bel_drew (Below.refl W216.heap.size W216)) o
            have HS5' := Lib.hid hbs; have HB5' := Lib.hid hb5; have HL5 := Lib.hid hbl
            clear hbs hb5 hbl hcv s1 s2
            go_wp2_with fail
            have hpa := fun c cc fz => parse_any ⟨S2.toArray⟩ _ (fun _ => True) _ (HT.out.below (HB5'.out _)) (HS5'.out c cc fz)
            unfold PRes at hpa
            rw [HS4.out] at hpa
            simp only at hpa
            refine Calls.mono (hpa _ _ _) ?_
            rintro e u224 ⟨bA1, bn1, bc1, bA2, bn2, bc2, rfl, hj, hb0⟩
            have hb := bel_trans (HL5.out _) hb0
            clear hpa hb0 HS5' HB5' HL5 HS4
            have hA2 := bel_alloc (Below.refl u224.heap.size u224) (.cells #[.int .i64 (JV.k x), .int .i64 (JV.n x), .string (JV.s x), .slice bA1 bn1 bc1, .slice bA2 bn2 bc2] 55)
            have hb2 := bel_trans hb hA2
            have hc2 := heap_alloc_new u224 (.cells #[.int .i64 (JV.k x), .int .i64 (JV.n x), .string (JV.s x), .slice bA1 bn1 bc1, .slice bA2 bn2 bc2] 55)
            have hj2 := JR_later hj hA2
            have HB226 := Lib.hid (bel_trans HB217.out hb2)
            have HK227 := Lib.hid ((hb2.block w.heap.size (Array.getElem?_eq_some_iff.1 HK218.out).1).trans HK218.out)
            have HK228 := Lib.hid ((hb2.block u215.heap.size (Array.getElem?_eq_some_iff.1 HK222.out).1).trans HK222.out)
            have HS229 := Lib.hid (bsl_below HS219.out hb2)
            have HS230 := Lib.hid (bsl_below HS220.out hb2)
            have HJ231 := Lib.hid (JR_later HJ221.out hb2)
            have HJ232 := Lib.hid (JR_later HJ223.out hb2)
            clear HB217 HK218 HK222 HS219 HS220 HJ221 HJ223
            have HK233 := Lib.hid hc2
            have HJ234 := Lib.hid hj2
            clear hA2 hb2 hc2 hj2 hj hb
            go_upto_region 11 with (fail)
            generalize u224.alloc (.cells #[.int .i64 (JV.k x), .int .i64 (JV.n x), .string (JV.s x), .slice bA1 bn1 bc1, .slice bA2 bn2 bc2] 55) = W225 at *
            obtain ⟨⟨v0235, v1235, v2235, v3235, v4235⟩, _, hV235⟩ := cells5 HK227.out
            obtain ⟨⟨v0236, v1236, v2236, v3236, v4236⟩, _, hV236⟩ := cells5 HK228.out
            obtain ⟨⟨v0237, v1237, v2237, v3237, v4237⟩, _, hV237⟩ := cells5 HK233.out
            have hcl := same_any x x _ _ _ _ W225 HJ232.out HJ231.out
            have HCL := Lib.hid hcl
            clear hcl
            go_wp2_with fail
            refine Calls.mono HCL.out ?_
            rw [same_refl]
            rintro e w238 ⟨rfl, hbz⟩
            clear HCL
            have HB239 := Lib.hid (bel_trans HB226.out hbz)
            have HK240 := Lib.hid ((hbz.block w.heap.size (Array.getElem?_eq_some_iff.1 HK227.out).1).trans HK227.out)
            have HK241 := Lib.hid ((hbz.block u215.heap.size (Array.getElem?_eq_some_iff.1 HK228.out).1).trans HK228.out)
            have HK242 := Lib.hid ((hbz.block u224.heap.size (Array.getElem?_eq_some_iff.1 HK233.out).1).trans HK233.out)
            have HS243 := Lib.hid (bsl_below HS229.out hbz)
            have HS244 := Lib.hid (bsl_below HS230.out hbz)
            have HJ245 := Lib.hid (JR_later HJ231.out hbz)
            have HJ246 := Lib.hid (JR_later HJ232.out hbz)
            have HJ247 := Lib.hid (JR_later HJ234.out hbz)
            clear HB226 HK227 HK228 HK233 HS229 HS230 HJ231 HJ232 HJ234 v0235 v1235 v2235 v3235 v4235 hV235 v0236 v1236 v2236 v3236 v4236 hV236 v0237 v1237 v2237 v3237 v4237 hV237
            clear hbz
            obtain ⟨⟨v0248, v1248, v2248, v3248, v4248⟩, _, hV248⟩ := cells5 HK240.out
            obtain ⟨⟨v0249, v1249, v2249, v3249, v4249⟩, _, hV249⟩ := cells5 HK241.out
            obtain ⟨⟨v0250, v1250, v2250, v3250, v4250⟩, _, hV250⟩ := cells5 HK242.out
            have hcl := same_any x x _ _ _ _ w238 HJ247.out HJ245.out
            have HCL := Lib.hid hcl
            clear hcl
            go_wp2_with fail
            refine Calls.mono HCL.out ?_
            rw [same_refl]
            rintro e w251 ⟨rfl, hbz⟩
            clear HCL
            have HB252 := Lib.hid (bel_trans HB239.out hbz)
            have HK253 := Lib.hid ((hbz.block w.heap.size (Array.getElem?_eq_some_iff.1 HK240.out).1).trans HK240.out)
            have HK254 := Lib.hid ((hbz.block u215.heap.size (Array.getElem?_eq_some_iff.1 HK241.out).1).trans HK241.out)
            have HK255 := Lib.hid ((hbz.block u224.heap.size (Array.getElem?_eq_some_iff.1 HK242.out).1).trans HK242.out)
            have HS256 := Lib.hid (bsl_below HS243.out hbz)
            have HS257 := Lib.hid (bsl_below HS244.out hbz)
            have HJ258 := Lib.hid (JR_later HJ245.out hbz)
            have HJ259 := Lib.hid (JR_later HJ246.out hbz)
            have HJ260 := Lib.hid (JR_later HJ247.out hbz)
            clear HB239 HK240 HK241 HK242 HS243 HS244 HJ245 HJ246 HJ247 v0248 v1248 v2248 v3248 v4248 hV248 v0249 v1249 v2249 v3249 v4249 hV249 v0250 v1250 v2250 v3250 v4250 hV250
            clear hbz
            clear HK254 HJ259
            clear HK255 HJ260
            have hd4 : decide ((P.length : Int) < 1) = false := decide_eq_false (by have := HPO.out; omega)
            obtain ⟨j, hj⟩ : ∃ j, j = cut.toNat % P.length := ⟨_, rfl⟩
            have hjl : j < P.length := by rw [hj]; exact Nat.mod_lt _ HPO.out
            have hrem : Int.tmod cut (P.length : Int) = (j : Int) := by rw [hj]; exact tmod_nat' (by omega) _
            have hz : ((P.length : Int) == 0) = false := beq_false_of_ne (by have := HPO.out; omega)
            have hj1 : (j : Int) ≤ (cc : Int) := by have := HCAP.out; omega
            have hj2 : (0 : Int) ≤ (j : Int) := by omega
            have hcf : x.k ≠ 4 → (parseB ⟨(P.take j).toArray⟩).2 ≠ 0 := fun hk => HCU.out j hk hjl (by have := HL.out; omega)
            have hse := bsl_take HS257.out (show j ≤ P.length by omega)
            have hpa := parse_any ⟨(P.take j).toArray⟩ _ _ w251 (HT.out.below HB252.out) hse
            unfold PRes at hpa
            have HPA := Lib.hid hpa; have HCF := Lib.hid hcf
            clear hpa hcf hse hj HCU
            generalize (parseB ⟨(P.take j).toArray⟩) = rf at *
            obtain ⟨V9, f⟩ := rf
            simp only at HPA HCF
            go_wp2_with fail
            refine Calls.mono HPA.out ?_
            rintro e u261 ⟨dA1, dn1, dc1, dA2, dn2, dc2, rfl, hj, hb⟩
            clear HPA hrem hz hj1 hj2
            have hA2 := bel_alloc (Below.refl u261.heap.size u261) (.cells #[.int .i64 (JV.k V9), .int .i64 (JV.n V9), .string (JV.s V9), .slice dA1 dn1 dc1, .slice dA2 dn2 dc2] 55)
            have hb2 := bel_trans hb hA2
            have hc2 := heap_alloc_new u261 (.cells #[.int .i64 (JV.k V9), .int .i64 (JV.n V9), .string (JV.s V9), .slice dA1 dn1 dc1, .slice dA2 dn2 dc2] 55)
            have hj2 := JR_later hj hA2
            have HB263 := Lib.hid (bel_trans HB252.out hb2)
            have HK264 := Lib.hid ((hb2.block w.heap.size (Array.getElem?_eq_some_iff.1 HK253.out).1).trans HK253.out)
            have HS265 := Lib.hid (bsl_below HS256.out hb2)
            have HS266 := Lib.hid (bsl_below HS257.out hb2)
            have HJ267 := Lib.hid (JR_later HJ258.out hb2)
            clear HB252 HK253 HS256 HS257 HJ258
            clear hA2 hb2 hc2 hj2 hj hb
            go_upto_region 14 with (fail)
            generalize u261.alloc (.cells #[.int .i64 (JV.k V9), .int .i64 (JV.n V9), .string (JV.s V9), .slice dA1 dn1 dc1, .slice dA2 dn2 dc2] 55) = W262 at *
            obtain ⟨⟨v0268, v1268, v2268, v3268, v4268⟩, _, hV268⟩ := cells5 HK264.out
            rcases k4_cases HCF.out with hf | ⟨hf, hk⟩
            · by_cases he5 : e5 = 0
              case neg =>
                have HZ := Lib.hid (HQ1.out he5)
                have hd5 : (e5 != 0) = true := by simpa using he5
                have hpa := HPB.out W262 (HT.out.below HB263.out) HS265.out
                have HPA := Lib.hid hpa
                clear hpa
                go_wp2_with fail
                refine Calls.mono HPA.out ?_
                rintro e u269 ⟨qA1, qn1, qc1, qA2, qn2, qc2, rfl, hj, hb⟩
                clear HPA
                have hA2 := bel_alloc (Below.refl u269.heap.size u269) (.cells #[.int .i64 (JV.k V5), .int .i64 (JV.n V5), .string (JV.s V5), .slice qA1 qn1 qc1, .slice qA2 qn2 qc2] 55)
                have hb2 := bel_trans hb hA2
                have hc2 := heap_alloc_new u269 (.cells #[.int .i64 (JV.k V5), .int .i64 (JV.n V5), .string (JV.s V5), .slice qA1 qn1 qc1, .slice qA2 qn2 qc2] 55)
                have hj2 := JR_later hj hA2
                have HB271 := Lib.hid (bel_trans HB263.out hb2)
                have HK272 := Lib.hid ((hb2.block w.heap.size (Array.getElem?_eq_some_iff.1 HK264.out).1).trans HK264.out)
                have HS273 := Lib.hid (bsl_below HS265.out hb2)
                have HJ274 := Lib.hid (JR_later HJ267.out hb2)
                clear HB263 HK264 HS265 HJ267 v0268 v1268 v2268 v3268 v4268 hV268
                have HK275 := Lib.hid hc2
                have HJ276 := Lib.hid hj2
                clear hA2 hb2 hc2 hj2 hj hb
                go_upto_region 17 with (fail)
                generalize u269.alloc (.cells #[.int .i64 (JV.k V5), .int .i64 (JV.n V5), .string (JV.s V5), .slice qA1 qn1 qc1, .slice qA2 qn2 qc2] 55) = W270 at *
                have hff := first_any W270 (HT.out.below HB271.out)
                have HFF := Lib.hid hff
                clear hff
                go_wp2_with fail
                refine Calls.mono HFF.out ?_
                rintro e w277 ⟨rfl, hbz⟩
                clear HFF
                have HB278 := Lib.hid (bel_trans HB271.out hbz)
                have HK279 := Lib.hid ((hbz.block w.heap.size (Array.getElem?_eq_some_iff.1 HK272.out).1).trans HK272.out)
                have HK280 := Lib.hid ((hbz.block u269.heap.size (Array.getElem?_eq_some_iff.1 HK275.out).1).trans HK275.out)
                have HS281 := Lib.hid (bsl_below HS273.out hbz)
                have HJ282 := Lib.hid (JR_later HJ274.out hbz)
                have HJ283 := Lib.hid (JR_later HJ276.out hbz)
                clear HB271 HK272 HK275 HS273 HJ274 HJ276
                clear hbz
                have hk5 := HK280.out
                rw [HZ.out] at hk5
                have hk6 : w277.cell? ⟨u269.heap.size, 0, none⟩ = some (.int .i64 0) := (cells5 hk5).1.1
                have hV6 := (cells5 hk5).2.2
                clear hk5
                go_wp2_with fail
                go_ret
                exact ⟨rfl, HB278.out⟩
              case pos =>
                have hd5 : (e5 != 0) = false := by rw [he5]; rfl
                obtain ⟨hmy, hlen5⟩ := HQ2.out he5
                have hpp := fun h => parse_print (x := V5) hmy h
                have HPP := Lib.hid hpp; have HMY := Lib.hid hmy; have HLN := Lib.hid hlen5
                clear hpp hmy hlen5
                have hpa := HPB.out W262 (HT.out.below HB263.out) HS265.out
                have HPA := Lib.hid hpa
                clear hpa
                go_wp2_with fail
                refine Calls.mono HPA.out ?_
                rintro e u284 ⟨qA1, qn1, qc1, qA2, qn2, qc2, rfl, hj, hb⟩
                clear HPA
                have hA2 := bel_alloc (Below.refl u284.heap.size u284) (.cells #[.int .i64 (JV.k V5), .int .i64 (JV.n V5), .string (JV.s V5), .slice qA1 qn1 qc1, .slice qA2 qn2 qc2] 55)
                have hb2 := bel_trans hb hA2
                have hc2 := heap_alloc_new u284 (.cells #[.int .i64 (JV.k V5), .int .i64 (JV.n V5), .string (JV.s V5), .slice qA1 qn1 qc1, .slice qA2 qn2 qc2] 55)
                have hj2 := JR_later hj hA2
                have HB286 := Lib.hid (bel_trans HB263.out hb2)
                have HK287 := Lib.hid ((hb2.block w.heap.size (Array.getElem?_eq_some_iff.1 HK264.out).1).trans HK264.out)
                have HS288 := Lib.hid (bsl_below HS265.out hb2)
                have HJ289 := Lib.hid (JR_later HJ267.out hb2)
                clear HB263 HK264 HS265 HJ267 v0268 v1268 v2268 v3268 v4268 hV268
                have HK290 := Lib.hid hc2
                have HJ291 := Lib.hid hj2
                clear hA2 hb2 hc2 hj2 hj hb
                go_upto_region 17 with (fail)
                generalize u284.alloc (.cells #[.int .i64 (JV.k V5), .int .i64 (JV.n V5), .string (JV.s V5), .slice qA1 qn1 qc1, .slice qA2 qn2 qc2] 55) = W285 at *
                obtain ⟨⟨v0292, v1292, v2292, v3292, v4292⟩, _, hV292⟩ := cells5 HK290.out
                have hcl := Print_full V5 _ _ W285 HJ291.out (HT.out.below HB286.out) HMY.out (by have := HLN.out; omega)
                have HCL := Lib.hid hcl
                clear hcl
                go_wp2_with fail
                refine Calls.mono HCL.out ?_
                rintro e w293 ⟨⟨g5, cc5, rfl, hcap5, hbs⟩, hb3⟩
                clear HCL
                have hs5 : BSl w293 (fun _ => True) (.slice (some ⟨g5, 0, none⟩) (printB 64 V5).length cc5) ⟨(printB 64 V5).toArray⟩ := by
                  refine .inl ⟨g5, 0, cc5, by rw [list_size], trivial, fun i hi => ?_⟩
                  have h := hbs i (by rw [list_size] at hi; exact hi)
                  rw [Addr.add_mid] at h
                  exact h
                have HB294 := Lib.hid (bel_trans HB286.out hb3)
                have HK295 := Lib.hid ((hb3.block u284.heap.size (Array.getElem?_eq_some_iff.1 HK290.out).1).trans HK290.out)
                have HJ296 := Lib.hid (JR_later HJ291.out hb3)
                clear HB286 HK290 HJ291 v0292 v1292 v2292 v3292 v4292 hV292
                have HS5 := Lib.hid hs5
                clear hs5 hbs hb3
                generalize printB 64 V5 = P5 at *
                by_cases hl5 : P5.length ≤ 20000
                · have hd6 : decide (20000 < (P5.length : Int)) = false := decide_eq_false (by omega)
                  have hpa := parse_any ⟨P5.toArray⟩ _ _ w293 (HT.out.below HB294.out) HS5.out
                  unfold PRes at hpa
                  rw [HPP.out hl5] at hpa
                  simp only at hpa
                  have HPA := Lib.hid hpa
                  clear hpa
                  go_wp2_with fail
                  refine Calls.mono HPA.out ?_
                  rintro e u299 ⟨yA1, yn1, yc1, yA2, yn2, yc2, rfl, hj, hb⟩
                  clear HPA
                  have hA2 := bel_alloc (Below.refl u299.heap.size u299) (.cells #[.int .i64 (JV.k V5), .int .i64 (JV.n V5), .string (JV.s V5), .slice yA1 yn1 yc1, .slice yA2 yn2 yc2] 55)
                  have hb2 := bel_trans hb hA2
                  have hc2 := heap_alloc_new u299 (.cells #[.int .i64 (JV.k V5), .int .i64 (JV.n V5), .string (JV.s V5), .slice yA1 yn1 yc1, .slice yA2 yn2 yc2] 55)
                  have hj2 := JR_later hj hA2
                  have HB301 := Lib.hid (bel_trans HB294.out hb2)
                  have HK302 := Lib.hid ((hb2.block u284.heap.size (Array.getElem?_eq_some_iff.1 HK295.out).1).trans HK295.out)
                  have HJ303 := Lib.hid (JR_later HJ296.out hb2)
                  clear HB294 HK295 HJ296
                  have HK304 := Lib.hid hc2
                  have HJ305 := Lib.hid hj2
                  clear hA2 hb2 hc2 hj2 hj hb
                  go_upto_region 21 with (fail)
                  generalize u299.alloc (.cells #[.int .i64 (JV.k V5), .int .i64 (JV.n V5), .string (JV.s V5), .slice yA1 yn1 yc1, .slice yA2 yn2 yc2] 55) = W300 at *
                  have hff := first_any W300 (HT.out.below HB301.out)
                  have HFF := Lib.hid hff
                  clear hff
                  go_wp2_with fail
                  refine Calls.mono HFF.out ?_
                  rintro e w306 ⟨rfl, hbz⟩
                  clear HFF
                  have HB307 := Lib.hid (bel_trans HB301.out hbz)
                  have HK308 := Lib.hid ((hbz.block u284.heap.size (Array.getElem?_eq_some_iff.1 HK302.out).1).trans HK302.out)
                  have HK309 := Lib.hid ((hbz.block u299.heap.size (Array.getElem?_eq_some_iff.1 HK304.out).1).trans HK304.out)
                  have HJ310 := Lib.hid (JR_later HJ303.out hbz)
                  have HJ311 := Lib.hid (JR_later HJ305.out hbz)
                  clear HB301 HK302 HK304 HJ303 HJ305
                  clear hbz
                  obtain ⟨⟨v0312, v1312, v2312, v3312, v4312⟩, _, hV312⟩ := cells5 HK308.out
                  obtain ⟨⟨v0313, v1313, v2313, v3313, v4313⟩, _, hV313⟩ := cells5 HK309.out
                  have hcl := May_any V5 _ _ w306 HJ310.out (HT.out.below HB307.out)
                  have HCL := Lib.hid hcl
                  clear hcl
                  go_wp2_with fail
                  refine Calls.mono HCL.out ?_
                  rw [HMY.out]
                  rintro e w314 ⟨rfl, hbz⟩
                  clear HCL
                  have HB315 := Lib.hid (bel_trans HB307.out hbz)
                  have HK316 := Lib.hid ((hbz.block u284.heap.size (Array.getElem?_eq_some_iff.1 HK308.out).1).trans HK308.out)
                  have HK317 := Lib.hid ((hbz.block u299.heap.size (Array.getElem?_eq_some_iff.1 HK309.out).1).trans HK309.out)
                  have HJ318 := Lib.hid (JR_later HJ310.out hbz)
                  have HJ319 := Lib.hid (JR_later HJ311.out hbz)
                  clear HB307 HK308 HK309 HJ310 HJ311 v0312 v1312 v2312 v3312 v4312 hV312 v0313 v1313 v2313 v3313 v4313 hV313
                  clear hbz
                  obtain ⟨⟨v0320, v1320, v2320, v3320, v4320⟩, _, hV320⟩ := cells5 HK316.out
                  obtain ⟨⟨v0321, v1321, v2321, v3321, v4321⟩, _, hV321⟩ := cells5 HK317.out
                  have hcl := same_any V5 V5 _ _ _ _ w314 HJ319.out HJ318.out
                  have HCL := Lib.hid hcl
                  clear hcl
                  go_wp2_with fail
                  refine Calls.mono HCL.out ?_
                  rw [same_refl]
                  rintro e w322 ⟨rfl, hbz⟩
                  clear HCL
                  have HB323 := Lib.hid (bel_trans HB315.out hbz)
                  have HK324 := Lib.hid ((hbz.block u284.heap.size (Array.getElem?_eq_some_iff.1 HK316.out).1).trans HK316.out)
                  have HK325 := Lib.hid ((hbz.block u299.heap.size (Array.getElem?_eq_some_iff.1 HK317.out).1).trans HK317.out)
                  have HJ326 := Lib.hid (JR_later HJ318.out hbz)
                  have HJ327 := Lib.hid (JR_later HJ319.out hbz)
                  clear HB315 HK316 HK317 HJ318 HJ319 v0320 v1320 v2320 v3320 v4320 hV320 v0321 v1321 v2321 v3321 v4321 hV321
                  go_wp2_with fail
                  go_ret
                  exact ⟨rfl, HB323.out⟩
                · have hd6 : decide (20000 < (P5.length : Int)) = true := decide_eq_true (by omega)
                  have hpa := parse_any ⟨P5.toArray⟩ _ _ w293 (HT.out.below HB294.out) HS5.out
                  unfold PRes at hpa
                  generalize parseB ⟨P5.toArray⟩ = r6 at hpa
                  obtain ⟨V6, e6⟩ := r6
                  simp only at hpa
                  have HPA := Lib.hid hpa
                  clear hpa
                  go_wp2_with fail
                  refine Calls.mono HPA.out ?_
                  rintro e u328 ⟨yA1, yn1, yc1, yA2, yn2, yc2, rfl, hj, hb⟩
                  clear HPA
                  have hA2 := bel_alloc (Below.refl u328.heap.size u328) (.cells #[.int .i64 (JV.k V6), .int .i64 (JV.n V6), .string (JV.s V6), .slice yA1 yn1 yc1, .slice yA2 yn2 yc2] 55)
                  have hb2 := bel_trans hb hA2
                  have hc2 := heap_alloc_new u328 (.cells #[.int .i64 (JV.k V6), .int .i64 (JV.n V6), .string (JV.s V6), .slice yA1 yn1 yc1, .slice yA2 yn2 yc2] 55)
                  have hj2 := JR_later hj hA2
                  have HB330 := Lib.hid (bel_trans HB294.out hb2)
                  have HK331 := Lib.hid ((hb2.block u284.heap.size (Array.getElem?_eq_some_iff.1 HK295.out).1).trans HK295.out)
                  have HJ332 := Lib.hid (JR_later HJ296.out hb2)
                  clear HB294 HK295 HJ296
                  have HK333 := Lib.hid hc2
                  have HJ334 := Lib.hid hj2
                  clear hA2 hb2 hc2 hj2 hj hb
                  go_upto_region 21 with (fail)
                  generalize u328.alloc (.cells #[.int .i64 (JV.k V6), .int .i64 (JV.n V6), .string (JV.s V6), .slice yA1 yn1 yc1, .slice yA2 yn2 yc2] 55) = W329 at *
                  have hff := first_any W329 (HT.out.below HB330.out)
                  have HFF := Lib.hid hff
                  clear hff
                  go_wp2_with fail
                  refine Calls.mono HFF.out ?_
                  rintro e w335 ⟨rfl, hbz⟩
                  clear HFF
                  have HB336 := Lib.hid (bel_trans HB330.out hbz)
                  have HK337 := Lib.hid ((hbz.block u284.heap.size (Array.getElem?_eq_some_iff.1 HK331.out).1).trans HK331.out)
                  have HK338 := Lib.hid ((hbz.block u328.heap.size (Array.getElem?_eq_some_iff.1 HK333.out).1).trans HK333.out)
                  have HJ339 := Lib.hid (JR_later HJ332.out hbz)
                  have HJ340 := Lib.hid (JR_later HJ334.out hbz)
                  clear HB330 HK331 HK333 HJ332 HJ334
                  clear hbz
                  obtain ⟨⟨v0341, v1341, v2341, v3341, v4341⟩, _, hV341⟩ := cells5 HK337.out
                  obtain ⟨⟨v0342, v1342, v2342, v3342, v4342⟩, _, hV342⟩ := cells5 HK338.out
                  have hcl := May_any V5 _ _ w335 HJ339.out (HT.out.below HB336.out)
                  have HCL := Lib.hid hcl
                  clear hcl
                  go_wp2_with fail
                  refine Calls.mono HCL.out ?_
                  rw [HMY.out]
                  rintro e w343 ⟨rfl, hbz⟩
                  clear HCL
                  have HB344 := Lib.hid (bel_trans HB336.out hbz)
                  have HK345 := Lib.hid ((hbz.block u284.heap.size (Array.getElem?_eq_some_iff.1 HK337.out).1).trans HK337.out)
                  have HK346 := Lib.hid ((hbz.block u328.heap.size (Array.getElem?_eq_some_iff.1 HK338.out).1).trans HK338.out)
                  have HJ347 := Lib.hid (JR_later HJ339.out hbz)
                  have HJ348 := Lib.hid (JR_later HJ340.out hbz)
                  clear HB336 HK337 HK338 HJ339 HJ340 v0341 v1341 v2341 v3341 v4341 hV341 v0342 v1342 v2342 v3342 v4342 hV342
                  clear hbz
                  go_wp2_with fail
                  go_ret
                  exact ⟨rfl, HB344.out⟩
            · by_cases he5 : e5 = 0
              case neg =>
                have HZ := Lib.hid (HQ1.out he5)
                have hd5 : (e5 != 0) = true := by simpa using he5
                have hpa := HPB.out W262 (HT.out.below HB263.out) HS265.out
                have HPA := Lib.hid hpa
                clear hpa
                go_wp2_with fail
                refine Calls.mono HPA.out ?_
                rintro e u349 ⟨qA1, qn1, qc1, qA2, qn2, qc2, rfl, hj, hb⟩
                clear HPA
                have hA2 := bel_alloc (Below.refl u349.heap.size u349) (.cells #[.int .i64 (JV.k V5), .int .i64 (JV.n V5), .string (JV.s V5), .slice qA1 qn1 qc1, .slice qA2 qn2 qc2] 55)
                have hb2 := bel_trans hb hA2
                have hc2 := heap_alloc_new u349 (.cells #[.int .i64 (JV.k V5), .int .i64 (JV.n V5), .string (JV.s V5), .slice qA1 qn1 qc1, .slice qA2 qn2 qc2] 55)
                have hj2 := JR_later hj hA2
                have HB351 := Lib.hid (bel_trans HB263.out hb2)
                have HK352 := Lib.hid ((hb2.block w.heap.size (Array.getElem?_eq_some_iff.1 HK264.out).1).trans HK264.out)
                have HS353 := Lib.hid (bsl_below HS265.out hb2)
                have HJ354 := Lib.hid (JR_later HJ267.out hb2)
                clear HB263 HK264 HS265 HJ267 v0268 v1268 v2268 v3268 v4268 hV268
                have HK355 := Lib.hid hc2
                have HJ356 := Lib.hid hj2
                clear hA2 hb2 hc2 hj2 hj hb
                go_upto_region 17 with (fail)
                generalize u349.alloc (.cells #[.int .i64 (JV.k V5), .int .i64 (JV.n V5), .string (JV.s V5), .slice qA1 qn1 qc1, .slice qA2 qn2 qc2] 55) = W350 at *
                have hff := first_any W350 (HT.out.below HB351.out)
                have HFF := Lib.hid hff
                clear hff
                go_wp2_with fail
                refine Calls.mono HFF.out ?_
                rintro e w357 ⟨rfl, hbz⟩
                clear HFF
                have HB358 := Lib.hid (bel_trans HB351.out hbz)
                have HK359 := Lib.hid ((hbz.block w.heap.size (Array.getElem?_eq_some_iff.1 HK352.out).1).trans HK352.out)
                have HK360 := Lib.hid ((hbz.block u349.heap.size (Array.getElem?_eq_some_iff.1 HK355.out).1).trans HK355.out)
                have HS361 := Lib.hid (bsl_below HS353.out hbz)
                have HJ362 := Lib.hid (JR_later HJ354.out hbz)
                have HJ363 := Lib.hid (JR_later HJ356.out hbz)
                clear HB351 HK352 HK355 HS353 HJ354 HJ356
                clear hbz
                have hk5 := HK360.out
                rw [HZ.out] at hk5
                have hk6 : w357.cell? ⟨u349.heap.size, 0, none⟩ = some (.int .i64 0) := (cells5 hk5).1.1
                have hV6 := (cells5 hk5).2.2
                clear hk5
                go_wp2_with fail
                go_ret
                exact ⟨rfl, HB358.out⟩
              case pos =>
                have hd5 : (e5 != 0) = false := by rw [he5]; rfl
                obtain ⟨hmy, hlen5⟩ := HQ2.out he5
                have hpp := fun h => parse_print (x := V5) hmy h
                have HPP := Lib.hid hpp; have HMY := Lib.hid hmy; have HLN := Lib.hid hlen5
                clear hpp hmy hlen5
                have hpa := HPB.out W262 (HT.out.below HB263.out) HS265.out
                have HPA := Lib.hid hpa
                clear hpa
                go_wp2_with fail
                refine Calls.mono HPA.out ?_
                rintro e u364 ⟨qA1, qn1, qc1, qA2, qn2, qc2, rfl, hj, hb⟩
                clear HPA
                have hA2 := bel_alloc (Below.refl u364.heap.size u364) (.cells #[.int .i64 (JV.k V5), .int .i64 (JV.n V5), .string (JV.s V5), .slice qA1 qn1 qc1, .slice qA2 qn2 qc2] 55)
                have hb2 := bel_trans hb hA2
                have hc2 := heap_alloc_new u364 (.cells #[.int .i64 (JV.k V5), .int .i64 (JV.n V5), .string (JV.s V5), .slice qA1 qn1 qc1, .slice qA2 qn2 qc2] 55)
                have hj2 := JR_later hj hA2
                have HB366 := Lib.hid (bel_trans HB263.out hb2)
                have HK367 := Lib.hid ((hb2.block w.heap.size (Array.getElem?_eq_some_iff.1 HK264.out).1).trans HK264.out)
                have HS368 := Lib.hid (bsl_below HS265.out hb2)
                have HJ369 := Lib.hid (JR_later HJ267.out hb2)
                clear HB263 HK264 HS265 HJ267 v0268 v1268 v2268 v3268 v4268 hV268
                have HK370 := Lib.hid hc2
                have HJ371 := Lib.hid hj2
                clear hA2 hb2 hc2 hj2 hj hb
                go_upto_region 17 with (fail)
                generalize u364.alloc (.cells #[.int .i64 (JV.k V5), .int .i64 (JV.n V5), .string (JV.s V5), .slice qA1 qn1 qc1, .slice qA2 qn2 qc2] 55) = W365 at *
                obtain ⟨⟨v0372, v1372, v2372, v3372, v4372⟩, _, hV372⟩ := cells5 HK370.out
                have hcl := Print_full V5 _ _ W365 HJ371.out (HT.out.below HB366.out) HMY.out (by have := HLN.out; omega)
                have HCL := Lib.hid hcl
                clear hcl
                go_wp2_with fail
                refine Calls.mono HCL.out ?_
                rintro e w373 ⟨⟨g5, cc5, rfl, hcap5, hbs⟩, hb3⟩
                clear HCL
                have hs5 : BSl w373 (fun _ => True) (.slice (some ⟨g5, 0, none⟩) (printB 64 V5).length cc5) ⟨(printB 64 V5).toArray⟩ := by
                  refine .inl ⟨g5, 0, cc5, by rw [list_size], trivial, fun i hi => ?_⟩
                  have h := hbs i (by rw [list_size] at hi; exact hi)
                  rw [Addr.add_mid] at h
                  exact h
                have HB374 := Lib.hid (bel_trans HB366.out hb3)
                have HK375 := Lib.hid ((hb3.block u364.heap.size (Array.getElem?_eq_some_iff.1 HK370.out).1).trans HK370.out)
                have HJ376 := Lib.hid (JR_later HJ371.out hb3)
                clear HB366 HK370 HJ371 v0372 v1372 v2372 v3372 v4372 hV372
                have HS5 := Lib.hid hs5
                clear hs5 hbs hb3
                generalize printB 64 V5 = P5 at *
                by_cases hl5 : P5.length ≤ 20000
                · have hd6 : decide (20000 < (P5.length : Int)) = false := decide_eq_false (by omega)
                  have hpa := parse_any ⟨P5.toArray⟩ _ _ w373 (HT.out.below HB374.out) HS5.out
                  unfold PRes at hpa
                  rw [HPP.out hl5] at hpa
                  simp only at hpa
                  have HPA := Lib.hid hpa
                  clear hpa
                  go_wp2_with fail
                  refine Calls.mono HPA.out ?_
                  rintro e u379 ⟨yA1, yn1, yc1, yA2, yn2, yc2, rfl, hj, hb⟩
                  clear HPA
                  have hA2 := bel_alloc (Below.refl u379.heap.size u379) (.cells #[.int .i64 (JV.k V5), .int .i64 (JV.n V5), .string (JV.s V5), .slice yA1 yn1 yc1, .slice yA2 yn2 yc2] 55)
                  have hb2 := bel_trans hb hA2
                  have hc2 := heap_alloc_new u379 (.cells #[.int .i64 (JV.k V5), .int .i64 (JV.n V5), .string (JV.s V5), .slice yA1 yn1 yc1, .slice yA2 yn2 yc2] 55)
                  have hj2 := JR_later hj hA2
                  have HB381 := Lib.hid (bel_trans HB374.out hb2)
                  have HK382 := Lib.hid ((hb2.block u364.heap.size (Array.getElem?_eq_some_iff.1 HK375.out).1).trans HK375.out)
                  have HJ383 := Lib.hid (JR_later HJ376.out hb2)
                  clear HB374 HK375 HJ376
                  have HK384 := Lib.hid hc2
                  have HJ385 := Lib.hid hj2
                  clear hA2 hb2 hc2 hj2 hj hb
                  go_upto_region 21 with (fail)
                  generalize u379.alloc (.cells #[.int .i64 (JV.k V5), .int .i64 (JV.n V5), .string (JV.s V5), .slice yA1 yn1 yc1, .slice yA2 yn2 yc2] 55) = W380 at *
                  have hff := first_any W380 (HT.out.below HB381.out)
                  have HFF := Lib.hid hff
                  clear hff
                  go_wp2_with fail
                  refine Calls.mono HFF.out ?_
                  rintro e w386 ⟨rfl, hbz⟩
                  clear HFF
                  have HB387 := Lib.hid (bel_trans HB381.out hbz)
                  have HK388 := Lib.hid ((hbz.block u364.heap.size (Array.getElem?_eq_some_iff.1 HK382.out).1).trans HK382.out)
                  have HK389 := Lib.hid ((hbz.block u379.heap.size (Array.getElem?_eq_some_iff.1 HK384.out).1).trans HK384.out)
                  have HJ390 := Lib.hid (JR_later HJ383.out hbz)
                  have HJ391 := Lib.hid (JR_later HJ385.out hbz)
                  clear HB381 HK382 HK384 HJ383 HJ385
                  clear hbz
                  obtain ⟨⟨v0392, v1392, v2392, v3392, v4392⟩, _, hV392⟩ := cells5 HK388.out
                  obtain ⟨⟨v0393, v1393, v2393, v3393, v4393⟩, _, hV393⟩ := cells5 HK389.out
                  have hcl := May_any V5 _ _ w386 HJ390.out (HT.out.below HB387.out)
                  have HCL := Lib.hid hcl
                  clear hcl
                  go_wp2_with fail
                  refine Calls.mono HCL.out ?_
                  rw [HMY.out]
                  rintro e w394 ⟨rfl, hbz⟩
                  clear HCL
                  have HB395 := Lib.hid (bel_trans HB387.out hbz)
                  have HK396 := Lib.hid ((hbz.block u364.heap.size (Array.getElem?_eq_some_iff.1 HK388.out).1).trans HK388.out)
                  have HK397 := Lib.hid ((hbz.block u379.heap.size (Array.getElem?_eq_some_iff.1 HK389.out).1).trans HK389.out)
                  have HJ398 := Lib.hid (JR_later HJ390.out hbz)
                  have HJ399 := Lib.hid (JR_later HJ391.out hbz)
                  clear HB387 HK388 HK389 HJ390 HJ391 v0392 v1392 v2392 v3392 v4392 hV392 v0393 v1393 v2393 v3393 v4393 hV393
                  clear hbz
                  obtain ⟨⟨v0400, v1400, v2400, v3400, v4400⟩, _, hV400⟩ := cells5 HK396.out
                  obtain ⟨⟨v0401, v1401, v2401, v3401, v4401⟩, _, hV401⟩ := cells5 HK397.out
                  have hcl := same_any V5 V5 _ _ _ _ w394 HJ399.out HJ398.out
                  have HCL := Lib.hid hcl
                  clear hcl
                  go_wp2_with fail
                  refine Calls.mono HCL.out ?_
                  rw [same_refl]
                  rintro e w402 ⟨rfl, hbz⟩
                  clear HCL
                  have HB403 := Lib.hid (bel_trans HB395.out hbz)
                  have HK404 := Lib.hid ((hbz.block u364.heap.size (Array.getElem?_eq_some_iff.1 HK396.out).1).trans HK396.out)
                  have HK405 := Lib.hid ((hbz.block u379.heap.size (Array.getElem?_eq_some_iff.1 HK397.out).1).trans HK397.out)
                  have HJ406 := Lib.hid (JR_later HJ398.out hbz)
                  have HJ407 := Lib.hid (JR_later HJ399.out hbz)
                  clear HB395 HK396 HK397 HJ398 HJ399 v0400 v1400 v2400 v3400 v4400 hV400 v0401 v1401 v2401 v3401 v4401 hV401
                  go_wp2_with fail
                  go_ret
                  exact ⟨rfl, HB403.out⟩
                · have hd6 : decide (20000 < (P5.length : Int)) = true := decide_eq_true (by omega)
                  have hpa := parse_any ⟨P5.toArray⟩ _ _ w373 (HT.out.below HB374.out) HS5.out
                  unfold PRes at hpa
                  generalize parseB ⟨P5.toArray⟩ = r6 at hpa
                  obtain ⟨V6, e6⟩ := r6
                  simp only at hpa
                  have HPA := Lib.hid hpa
                  clear hpa
                  go_wp2_with fail
                  refine Calls.mono HPA.out ?_
                  rintro e u408 ⟨yA1, yn1, yc1, yA2, yn2, yc2, rfl, hj, hb⟩
                  clear HPA
                  have hA2 := bel_alloc (Below.refl u408.heap.size u408) (.cells #[.int .i64 (JV.k V6), .int .i64 (JV.n V6), .string (JV.s V6), .slice yA1 yn1 yc1, .slice yA2 yn2 yc2] 55)
                  have hb2 := bel_trans hb hA2
                  have hc2 := heap_alloc_new u408 (.cells #[.int .i64 (JV.k V6), .int .i64 (JV.n V6), .string (JV.s V6), .slice yA1 yn1 yc1, .slice yA2 yn2 yc2] 55)
                  have hj2 := JR_later hj hA2
                  have HB410 := Lib.hid (bel_trans HB374.out hb2)
                  have HK411 := Lib.hid ((hb2.block u364.heap.size (Array.getElem?_eq_some_iff.1 HK375.out).1).trans HK375.out)
                  have HJ412 := Lib.hid (JR_later HJ376.out hb2)
                  clear HB374 HK375 HJ376
                  have HK413 := Lib.hid hc2
                  have HJ414 := Lib.hid hj2
                  clear hA2 hb2 hc2 hj2 hj hb
                  go_upto_region 21 with (fail)
                  generalize u408.alloc (.cells #[.int .i64 (JV.k V6), .int .i64 (JV.n V6), .string (JV.s V6), .slice yA1 yn1 yc1, .slice yA2 yn2 yc2] 55) = W409 at *
                  have hff := first_any W409 (HT.out.below HB410.out)
                  have HFF := Lib.hid hff
                  clear hff
                  go_wp2_with fail
                  refine Calls.mono HFF.out ?_
                  rintro e w415 ⟨rfl, hbz⟩
                  clear HFF
                  have HB416 := Lib.hid (bel_trans HB410.out hbz)
                  have HK417 := Lib.hid ((hbz.block u364.heap.size (Array.getElem?_eq_some_iff.1 HK411.out).1).trans HK411.out)
                  have HK418 := Lib.hid ((hbz.block u408.heap.size (Array.getElem?_eq_some_iff.1 HK413.out).1).trans HK413.out)
                  have HJ419 := Lib.hid (JR_later HJ412.out hbz)
                  have HJ420 := Lib.hid (JR_later HJ414.out hbz)
                  clear HB410 HK411 HK413 HJ412 HJ414
                  clear hbz
                  obtain ⟨⟨v0421, v1421, v2421, v3421, v4421⟩, _, hV421⟩ := cells5 HK417.out
                  obtain ⟨⟨v0422, v1422, v2422, v3422, v4422⟩, _, hV422⟩ := cells5 HK418.out
                  have hcl := May_any V5 _ _ w415 HJ419.out (HT.out.below HB416.out)
                  have HCL := Lib.hid hcl
                  clear hcl
                  go_wp2_with fail
                  refine Calls.mono HCL.out ?_
                  rw [HMY.out]
                  rintro e w423 ⟨rfl, hbz⟩
                  clear HCL
                  have HB424 := Lib.hid (bel_trans HB416.out hbz)
                  have HK425 := Lib.hid ((hbz.block u364.heap.size (Array.getElem?_eq_some_iff.1 HK417.out).1).trans HK417.out)
                  have HK426 := Lib.hid ((hbz.block u408.heap.size (Array.getElem?_eq_some_iff.1 HK418.out).1).trans HK418.out)
                  have HJ427 := Lib.hid (JR_later HJ419.out hbz)
                  have HJ428 := Lib.hid (JR_later HJ420.out hbz)
                  clear HB416 HK417 HK418 HJ419 HJ420 v0421 v1421 v2421 v3421 v4421 hV421 v0422 v1422 v2422 v3422 v4422 hV422
                  clear hbz
                  go_wp2_with fail
                  go_ret
                  exact ⟨rfl, HB424.out⟩
end Go.Proofs.YtjjgbgojlhaapaaDoor
