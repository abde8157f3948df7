/- JsonWords: the walk. -/
import Derived.Test.YtjjgbgojlhaapaaDoorNb
import Derived.Test.YtjjgbgojlhaapaaDoorCn
import Derived.Test.YtjjgbgojlhaapaaDoorCb
import Derived.Test.YtjjgbgojlhaapaaDoorRc
namespace Go.Proofs.YtjjgbgojlhaapaaDoor
open Go.RowKit Go.Lib

theorem tmod_nat' {cut : Int} (h : 0 ≤ cut) (n : Nat) : Int.tmod cut (n : Int) = ((cut.toNat % n : Nat) : Int) := by
  obtain ⟨m, rfl⟩ := Int.eq_ofNat_of_zero_le h
  rw [Int.tmod_eq_emod_of_nonneg (by omega)]
  rfl
theorem blank_not {c : Nat} (hc : c < 256) (h1 : c ≠ 32) (h2 : c ≠ 9) (h3 : c ≠ 10) (h4 : c ≠ 13) : isBlank (UInt8.ofNat c) = false := by
  have hn : (UInt8.ofNat c).toNat = c := by rw [UInt8.toNat_ofNat']; omega
  have key : ∀ k : UInt8, c ≠ k.toNat → UInt8.ofNat c ≠ k := fun k hk e => hk (by rw [← e, hn])
  simp [isBlank, key 32 h1, key 9 h2, key 10 h3, key 13 h4]
theorem printed_pos {x : JV} (h : mayJ 64 x = true) : 0 < (printB 64 x).length := print_pos h
set_option maxRecDepth 100000 in
set_option maxHeartbeats 16000000 in
theorem jsonWords_any (x : JV) (cs : List Value) (F : Nat → Prop) (c : Nat) (hc : c < 256) (cut : Int) (w : World) (h : JR w F x cs) (hT : Tabs w) :
    Calls Tryd.prog 7 #[.agg cs.toArray, .int .u8 (c : Int), .int .i64 cut] w fun z w' => z = .returned (.bool true) ∧ Below w.heap.size w w' := by
  obtain ⟨A1, n1, c1, A2, n2, c2, rfl⟩ := JR_form h
  have hbA : Below w.heap.size w (w.alloc (.cells #[.int .i64 x.k, .int .i64 x.n, .string x.s, .slice A1 n1 c1, .slice A2 n2 c2] 55)) := bel_alloc (Below.refl _ _) _
  have hc0 := heap_alloc_new w (.cells #[.int .i64 x.k, .int .i64 x.n, .string x.s, .slice A1 n1 c1, .slice A2 n2 c2] 55)
  have HJ := Lib.hid h; have HT := Lib.hid hT; have HB0 := Lib.hid hbA; have HC0 := Lib.hid hc0
  clear h hT hbA hc0
  go_enter Tryd.func7, Tryd.ntmps7
  go_upto_region 1 with (fail)
  generalize w.alloc (.cells #[.int .i64 x.k, .int .i64 x.n, .string x.s, .slice A1 n1 c1, .slice A2 n2 c2] 55) = W0 at *
  have hff := first_any _ (HT.out.below HB0.out)
  have HFF := Lib.hid hff
  clear hff
  go_wp2_with fail
  refine Calls.mono HFF.out ?_
  rintro e w1 ⟨rfl, hbz⟩
  have HBZ := Lib.hid (bel_trans HB0.out hbz)
  have hc1 := (hbz.block w.heap.size (Array.getElem?_eq_some_iff.1 HC0.out).1).trans HC0.out
  obtain ⟨⟨v0, v1, v2, v3, v4⟩, _, hV⟩ := cells5 hc1
  have hfw := few_any x _ F w1 (JR_later HJ.out HBZ.out)
  have HFW := Lib.hid hfw; have HC1 := Lib.hid hc1; have HB1 := Lib.hid HBZ.out
  clear hfw hc1 hbz HBZ HFF
  go_wp2_with fail
  refine Calls.mono HFW.out ?_
  cases hfe : fewB x with
  | false =>
    rintro e w2 ⟨rfl, hb2⟩
    have HB2 := Lib.hid (bel_trans HB1.out hb2)
    clear hb2 HFW HC1 hfe
    have hff := first_any _ (HT.out.below HB2.out)
    have HFF := Lib.hid hff
    clear hff
    go_wp2_with fail
    refine Calls.mono HFF.out ?_
    rintro e w3 ⟨rfl, hbz⟩
    have HBZ := Lib.hid (bel_trans HB2.out hbz)
    clear hbz
    go_wp2_with fail
    go_ret
    exact ⟨rfl, HBZ.out⟩
  | true =>
    rintro e w2 ⟨rfl, hb2⟩
    have HB2 := Lib.hid (bel_trans HB1.out hb2)
    have hc2 := (hb2.block w.heap.size (Array.getElem?_eq_some_iff.1 HC1.out).1).trans HC1.out
    obtain ⟨⟨v0', v1', v2', v3', v4'⟩, _, hV'⟩ := cells5 hc2
    have HC2 := Lib.hid hc2; have HFE := Lib.hid hfe
    clear hb2 HFW HC1 hfe hc2 v0 v1 v2 v3 v4 hV
    by_cases hcut : cut < 0
    · have hd : decide (cut < 0) = true := by simpa using hcut
      have hff := first_any _ (HT.out.below HB2.out)
      have HFF := Lib.hid hff
      clear hff
      go_wp2_with fail
      refine Calls.mono HFF.out ?_
      rintro e w3 ⟨rfl, hbz⟩
      have HBZ := Lib.hid (bel_trans HB2.out hbz)
      clear hbz
      go_wp2_with fail
      go_ret
      exact ⟨rfl, HBZ.out⟩
    · have hd : decide (cut < 0) = false := by simpa using hcut
      cases hm : mayJ 64 x with
      | false =>
        have hpr := Print_bad x _ F w2 (JR_later HJ.out HB2.out) (HT.out.below HB2.out) hm
        have HPR := Lib.hid hpr
        clear hpr hm
        go_wp2_with fail
        refine Calls.mono HPR.out ?_
        rintro e w3 ⟨rfl, hb3⟩
        have HB3 := Lib.hid (bel_trans HB2.out hb3)
        clear hb3 HPR
        have hff := first_any _ (HT.out.below HB3.out)
        have HFF := Lib.hid hff
        clear hff
        go_wp2_with fail
        refine Calls.mono HFF.out ?_
        rintro e w4 ⟨rfl, hbz⟩
        have HBZ := Lib.hid (bel_trans HB3.out hbz)
        clear hbz
        go_wp2_with fail
        go_ret
        exact ⟨rfl, HBZ.out⟩
      | true =>
        have hfl := few_len (of_decide_eq_true (show decide (0 < countB 100 x 12000) = true from HFE.out)) hm
        have hpr := Print_full x _ F w2 (JR_later HJ.out HB2.out) (HT.out.below HB2.out) hm (by omega)
        have hpos := printed_pos hm
        have hcu := fun j hk h1 h2 => parse_cut (x := x) (j := j) hm hk h1 h2
        have hmo := fun c hk hc h1 => parse_more (x := x) (c := c) hm hk hc h1
        have har := fun c hc hl => parse_around (x := x) (pre := []) (post := [c]) (by simp) hc hm hl
        have hsh := shape_of (d := 63) hm
        have hkk : x.k = 1 ∨ x.k = 2 ∨ x.k = 3 ∨ x.k = 4 ∨ x.k = 5 ∨ x.k = 6 ∨ x.k = 7 := by
          cases hsh with
          | word k hk => rcases hk with rfl | rfl | rfl <;> simp [JV.k]
          | num n hn => simp [JV.k, numV]
          | text s hs => simp [JV.k, wordV]
          | list l hl => simp [JV.k, listV]
          | obj m hm hl => simp [JV.k, objV]
        have HPR := Lib.hid hpr; have HCU := Lib.hid hcu; have HMO := Lib.hid hmo; have HAR := Lib.hid har; have HFL := Lib.hid hfl; have HKK := Lib.hid hkk; have HPO := Lib.hid hpos
        clear hpr hcu hmo har hsh hfl hkk hm hpos
        generalize printB 64 x = P at *
        go_wp2_with fail
        refine Calls.mono HPR.out ?_
        rintro e w3 ⟨⟨g, cc, rfl, ⟨hcap, hcap2⟩, hbs⟩, hb3⟩
        have hs3 : BSl w3 (fun b => b < w3.heap.size) (.slice (some ⟨g, 0, none⟩) P.length cc) ⟨P.toArray⟩ := by
          refine .inl ⟨g, 0, cc, by rw [list_size], World.block_lt_of_cell? w3 _ (hbs 0 HPO.out), fun i hi => ?_⟩
          have h := hbs i (by rw [list_size] at hi; exact hi)
          rw [Addr.add_mid] at h
          exact h
        have HB3 := Lib.hid (bel_trans HB2.out hb3)
        have hc3 := (hb3.block w.heap.size (Array.getElem?_eq_some_iff.1 HC2.out).1).trans HC2.out
        obtain ⟨⟨v0, v1, v2, v3, v4⟩, _, hV⟩ := cells5 hc3
        have HC3 := Lib.hid hc3; have HS3 := Lib.hid hs3; have HCAP := Lib.hid hcap
        clear hb3 HPR HC2 hc3 hs3 hbs v0' v1' v2' v3' v4' hV' hcap
        by_cases hl : 15000 < P.length
        · have hd1 : decide (15000 < (P.length : Int)) = true := decide_eq_true (by omega)
          have hff := first_any _ (HT.out.below HB3.out)
          have HFF := Lib.hid hff
          clear hff
          go_wp2_with fail
          refine Calls.mono HFF.out ?_
          rintro e w4 ⟨rfl, hbz⟩
          have HBZ := Lib.hid (bel_trans HB3.out hbz)
          clear hbz
          go_wp2_with fail
          go_ret
          exact ⟨rfl, HBZ.out⟩
        · have hd1 : decide (15000 < (P.length : Int)) = false := decide_eq_false (by omega)
          have hd2 : decide ((P.length : Int) < 1) = false := decide_eq_false (by have := HPO.out; omega)
          by_cases hk4 : x.k = 4
          · have hd3 : (x.k == 4) = true := by simpa using hk4
            have hff := first_any _ (HT.out.below HB3.out)
            have HFF := Lib.hid hff
            clear hff
            go_wp2_with fail
            refine Calls.mono HFF.out ?_
            rintro e w4 ⟨rfl, hbz⟩
            have HBZ := Lib.hid (bel_trans HB3.out hbz)
            clear hbz
            go_wp2_with fail
            go_ret
            exact ⟨rfl, HBZ.out⟩
          · have hd3 : (x.k == 4) = false := by simpa using hk4
            obtain ⟨j, hj⟩ : ∃ j, j = cut.toNat % P.length := ⟨_, rfl⟩
            have hjl : j < P.length := by rw [hj]; exact Nat.mod_lt _ HPO.out
            have hrem : Int.tmod cut (P.length : Int) = (j : Int) := by rw [hj]; exact tmod_nat' (by omega) _
            have hz : ((P.length : Int) == 0) = false := beq_false_of_ne (by have := HPO.out; omega)
            have hj1 : (j : Int) ≤ (cc : Int) := by have := HCAP.out; omega
            have hj2 : (0 : Int) ≤ (j : Int) := by omega
            have hcf := HCU.out j hk4 hjl (by omega)
            have hse := bsl_take HS3.out (show j ≤ P.length by omega)
            have hpa := parse_any ⟨(P.take j).toArray⟩ _ _ w3 (HT.out.below HB3.out) hse
            have HPA := Lib.hid hpa; have HCF := Lib.hid hcf; have HL := Lib.hid hl; have HJL := Lib.hid hjl
            clear hpa hcf hse hj hcut HCU hl
            unfold PRes at HPA
            generalize (parseB ⟨(P.take j).toArray⟩) = rf at *
            obtain ⟨V9, f⟩ := rf
            simp only at HPA HCF
            go_wp2_with fail
            refine Calls.mono HPA.out ?_
            rintro e u4 ⟨B1, m1, d1, B2, m2, d2, rfl, hj, hb⟩
            have hbw := bel_trans HB3.out hb
            have hA2 := bel_alloc (Below.refl u4.heap.size u4) (.cells #[.int .i64 (JV.k V9), .int .i64 (JV.n V9), .string (JV.s V9), .slice B1 m1 d1, .slice B2 m2 d2] 55)
            have hb2 := bel_trans hbw hA2
            have hc2 := bel_trans hb hA2
            have hs4 := bsl_later HS3.out hc2
            have hc4 := (hc2.block w.heap.size (Array.getElem?_eq_some_iff.1 HC3.out).1).trans HC3.out
            have HB4 := Lib.hid hb2; have HS4 := Lib.hid hs4; have HC4 := Lib.hid hc4
            clear hA2 hb2 hc2 hs4 hc4 hbw hb hj HPA v0 v1 v2 v3 v4 hV hrem hz hj1 hj2
            go_upto_region 10 with (fail)
            generalize u4.alloc (.cells #[.int .i64 (JV.k V9), .int .i64 (JV.n V9), .string (JV.s V9), .slice B1 m1 d1, .slice B2 m2 d2] 55) = w4 at *
            have hcp := copyBytes_any _ P _ w4 HS4.out (by have := HFL.out; omega)
            have HCP := Lib.hid hcp
            clear hcp
            go_wp2_with fail
            refine Calls.mono HCP.out ?_
            rintro e w5 ⟨⟨v', rfl, hown⟩, hb5⟩
            obtain ⟨i0, hi, hz0, hz1, hz2⟩ := info_parts u8Info
            have hown' : (w5.alloc (.cells #[.int .u8 (c : Int)] 5)).ownsRow w4.heap.size 5 1 v' P.length (Lib.byteCells P) := own_laterB hown (bel_alloc (Below.refl _ _) _)
            have hsrc : ∀ j u, [Value.int .u8 (c : Int)][j]? = some u → (w5.alloc (.cells #[.int .u8 (c : Int)] 5)).cell? ((⟨w5.heap.size, 0, none⟩ : Addr).add j) = some u := fun j u hj => by
              rw [Addr.add_lit, Lib.cell_of_heap (heap_alloc_new w5 _)]
              simpa using hj
            have hbA5 : Below w4.heap.size w4 (w5.alloc (.cells #[.int .u8 (c : Int)] 5)) := bel_alloc hb5 _
            have s1 : P.length + 1 ≤ maxLen := by have := HFL.out; simp only [maxLen]; omega
            have s2 : (P.length + 1) * 1 ≤ 140737488355328 := by have := HFL.out; omega
            have one1 : ∀ u ∈ [Value.int .u8 (c : Int)], u.oneCell' = true := fun u hu => by rw [List.mem_singleton.1 hu]; rfl
            have SR := Lib.hid hsrc; have O0 := Lib.hid hown'; have S1 := Lib.hid s1; have S2 := Lib.hid s2; have S3 := Lib.hid hbA5.size; have HBA := Lib.hid hbA5; have ONE := Lib.hid one1
            have hform := own_sliceB hown
            clear hsrc hown hown' s1 s2 one1 hb5 HCP hbA5
            obtain ⟨A5, c5, rfl⟩ := hform
            go_wp2_with (at_builtin; refine wpList_append_ownB rfl _ _ 58 rfl w4.heap.size 5 i0 (.int .u8 0) 1 1 Tryd.underlying58 hi hz0 hz1 hz2 rfl (by decide) _ _ _ rfl O0.out ⟨w5.heap.size, 0, none⟩ 1 1 [.int .u8 (c : Int)] rfl rfl SR.out ONE.out S1.out S2.out S3.out ?_)
            intro v6 w6 ho6 hg6 hv6
            have hb6 : Below w4.heap.size w4 w6 := bel_grown HBA.out hg6 (fun k hk => (O0.out.lt k hk).1)
            have ho6' : w6.ownsRow w4.heap.size 5 1 v6 (P ++ [UInt8.ofNat c]).length (Lib.byteCells (P ++ [UInt8.ofNat c])) := by
              have e1 : Lib.byteCells (P ++ [UInt8.ofNat c]) = Lib.byteCells P ++ [.int .u8 (c : Int)] := by
                have : (UInt8.ofNat c).toNat = c := by rw [UInt8.toNat_ofNat']; omega
                simp only [Lib.byteCells, List.map_append, List.map_cons, List.map_nil, this]
              rw [e1, List.length_append]
              exact ho6
            have hs6 := own_bsl ho6'
            obtain ⟨A6, c6, rfl⟩ := own_sliceB ho6
            have hbw6 := bel_trans HB4.out hb6
            have hpa := parse_any ⟨(P ++ [UInt8.ofNat c]).toArray⟩ _ _ w6 (HT.out.below hbw6) hs6
            have hgz : (parseB ⟨(P ++ [UInt8.ofNat c]).toArray⟩).2 = 0 ↔ isBlank (UInt8.ofNat c) = true := by
              constructor
              · intro h0
                cases hbl : isBlank (UInt8.ofNat c) with
                | true => rfl
                | false => rw [HMO.out _ hk4 hbl (by have := HL.out; omega)] at h0; exact absurd h0 (by decide)
              · intro hbl
                have := HAR.out (UInt8.ofNat c) (fun b hb => by rw [List.mem_singleton.1 hb]; exact hbl) (by have := HL.out; simp; omega)
                rw [List.nil_append] at this
                rw [this]
            have hc6 := (hb6.block w.heap.size (Array.getElem?_eq_some_iff.1 HC4.out).1).trans HC4.out
            have HPA := Lib.hid hpa; have HGZ := Lib.hid hgz; have HB6 := Lib.hid hbw6; have HC6 := Lib.hid hc6
            clear hpa hgz hbw6 ho6 hg6 hv6 ho6' hs6 hb6 hc6 O0 SR S1 S2 S3 HBA ONE HMO HAR HC4 HS4 HB4
            unfold PRes at HPA
            generalize hlen6 : (P ++ [UInt8.ofNat c]).length = n6 at *
            generalize (parseB ⟨(P ++ [UInt8.ofNat c]).toArray⟩) = rg at *
            obtain ⟨V10, gg⟩ := rg
            simp only at HPA HGZ
            go_wp2_with fail
            refine Calls.mono HPA.out ?_
            rintro e u7 ⟨B1', m1', d1', B2', m2', d2', rfl, hj, hb⟩
            have hbw := bel_trans HB6.out hb
            have hA2 := bel_alloc (Below.refl u7.heap.size u7) (.cells #[.int .i64 (JV.k V10), .int .i64 (JV.n V10), .string (JV.s V10), .slice B1' m1' d1', .slice B2' m2' d2'] 55)
            have hb2 := bel_trans hbw hA2
            have hc2 := bel_trans hb hA2
            have hc7 := (hc2.block w.heap.size (Array.getElem?_eq_some_iff.1 HC6.out).1).trans HC6.out
            have HB7 := Lib.hid hb2; have HC7 := Lib.hid hc7
            clear hA2 hb2 hc2 hc7 hbw hb hj HPA HB6 HC6
            go_upto_region 11 with (fail)
            generalize u7.alloc (.cells #[.int .i64 (JV.k V10), .int .i64 (JV.n V10), .string (JV.s V10), .slice B1' m1' d1', .slice B2' m2' d2'] 55) = w7 at *
            by_cases n32 : c = 32
            · have hcc := n32
              have e32 : ((c : Int) == 32) = true := by rw [n32]; rfl
              have hbl : isBlank (UInt8.ofNat c) = true := by subst hcc; decide
              have hg0 : (gg == 0) = true := by rw [Bool.eq_iff_iff]; rw [beq_iff_eq, HGZ.out, hbl]
              clear hbl
              have hff := first_any _ (HT.out.below HB7.out)
              have HFF := Lib.hid hff
              clear hff
              go_wp2_with fail
              refine Calls.mono HFF.out ?_
              rintro e w8 ⟨rfl, hbz⟩
              have HBZ := Lib.hid (bel_trans HB7.out hbz)
              have hc8 := (hbz.block w.heap.size (Array.getElem?_eq_some_iff.1 HC7.out).1).trans HC7.out
              obtain ⟨⟨v0, v1, v2, v3, v4⟩, _, hV⟩ := cells5 hc8
              clear hbz hc8
              have hf0 : (f != 0) = true := by simpa using HCF.out.1
              rcases HKK.out with hk | hk | hk | hk | hk | hk | hk
              · have hf2 := HCF.out.2 (by omega)
                rw [hk] at v0
                subst hf2
                go_wp2_with fail
                go_ret
                exact ⟨rfl, HBZ.out⟩
              · have hf2 := HCF.out.2 (by omega)
                rw [hk] at v0
                subst hf2
                go_wp2_with fail
                go_ret
                exact ⟨rfl, HBZ.out⟩
              · have hf2 := HCF.out.2 (by omega)
                rw [hk] at v0
                subst hf2
                go_wp2_with fail
                go_ret
                exact ⟨rfl, HBZ.out⟩
              · exact absurd hk hk4
              · rw [hk] at v0
                go_wp2_with fail
                go_ret
                exact ⟨rfl, HBZ.out⟩
              · rw [hk] at v0
                go_wp2_with fail
                go_ret
                exact ⟨rfl, HBZ.out⟩
              · rw [hk] at v0
                go_wp2_with fail
                go_ret
                exact ⟨rfl, HBZ.out⟩
            · have e32 : ((c : Int) == 32) = false := beq_false_of_ne (by omega)
              by_cases n9 : c = 9
              · have hcc := n9
                have e9 : ((c : Int) == 9) = true := by rw [n9]; rfl
                have hbl : isBlank (UInt8.ofNat c) = true := by subst hcc; decide
                have hg0 : (gg == 0) = true := by rw [Bool.eq_iff_iff]; rw [beq_iff_eq, HGZ.out, hbl]
                clear hbl
                have hff := first_any _ (HT.out.below HB7.out)
                have HFF := Lib.hid hff
                clear hff
                go_wp2_with fail
                refine Calls.mono HFF.out ?_
                rintro e w8 ⟨rfl, hbz⟩
                have HBZ := Lib.hid (bel_trans HB7.out hbz)
                have hc8 := (hbz.block w.heap.size (Array.getElem?_eq_some_iff.1 HC7.out).1).trans HC7.out
                obtain ⟨⟨v0, v1, v2, v3, v4⟩, _, hV⟩ := cells5 hc8
                clear hbz hc8
                have hf0 : (f != 0) = true := by simpa using HCF.out.1
                rcases HKK.out with hk | hk | hk | hk | hk | hk | hk
                · have hf2 := HCF.out.2 (by omega)
                  rw [hk] at v0
                  subst hf2
                  go_wp2_with fail
                  go_ret
                  exact ⟨rfl, HBZ.out⟩
                · have hf2 := HCF.out.2 (by omega)
                  rw [hk] at v0
                  subst hf2
                  go_wp2_with fail
                  go_ret
                  exact ⟨rfl, HBZ.out⟩
                · have hf2 := HCF.out.2 (by omega)
                  rw [hk] at v0
                  subst hf2
                  go_wp2_with fail
                  go_ret
                  exact ⟨rfl, HBZ.out⟩
                · exact absurd hk hk4
                · rw [hk] at v0
                  go_wp2_with fail
                  go_ret
                  exact ⟨rfl, HBZ.out⟩
                · rw [hk] at v0
                  go_wp2_with fail
                  go_ret
                  exact ⟨rfl, HBZ.out⟩
                · rw [hk] at v0
                  go_wp2_with fail
                  go_ret
                  exact ⟨rfl, HBZ.out⟩
              · have e9 : ((c : Int) == 9) = false := beq_false_of_ne (by omega)
                by_cases n10 : c = 10
                · have hcc := n10
                  have e10 : ((c : Int) == 10) = true := by rw [n10]; rfl
                  have hbl : isBlank (UInt8.ofNat c) = true := by subst hcc; decide
                  have hg0 : (gg == 0) = true := by rw [Bool.eq_iff_iff]; rw [beq_iff_eq, HGZ.out, hbl]
                  clear hbl
                  have hff := first_any _ (HT.out.below HB7.out)
                  have HFF := Lib.hid hff
                  clear hff
                  go_wp2_with fail
                  refine Calls.mono HFF.out ?_
                  rintro e w8 ⟨rfl, hbz⟩
                  have HBZ := Lib.hid (bel_trans HB7.out hbz)
                  have hc8 := (hbz.block w.heap.size (Array.getElem?_eq_some_iff.1 HC7.out).1).trans HC7.out
                  obtain ⟨⟨v0, v1, v2, v3, v4⟩, _, hV⟩ := cells5 hc8
                  clear hbz hc8
                  have hf0 : (f != 0) = true := by simpa using HCF.out.1
                  rcases HKK.out with hk | hk | hk | hk | hk | hk | hk
                  · have hf2 := HCF.out.2 (by omega)
                    rw [hk] at v0
                    subst hf2
                    go_wp2_with fail
                    go_ret
                    exact ⟨rfl, HBZ.out⟩
                  · have hf2 := HCF.out.2 (by omega)
                    rw [hk] at v0
                    subst hf2
                    go_wp2_with fail
                    go_ret
                    exact ⟨rfl, HBZ.out⟩
                  · have hf2 := HCF.out.2 (by omega)
                    rw [hk] at v0
                    subst hf2
                    go_wp2_with fail
                    go_ret
                    exact ⟨rfl, HBZ.out⟩
                  · exact absurd hk hk4
                  · rw [hk] at v0
                    go_wp2_with fail
                    go_ret
                    exact ⟨rfl, HBZ.out⟩
                  · rw [hk] at v0
                    go_wp2_with fail
                    go_ret
                    exact ⟨rfl, HBZ.out⟩
                  · rw [hk] at v0
                    go_wp2_with fail
                    go_ret
                    exact ⟨rfl, HBZ.out⟩
                · have e10 : ((c : Int) == 10) = false := beq_false_of_ne (by omega)
                  by_cases n13 : c = 13
                  · have hcc := n13
                    have e13 : ((c : Int) == 13) = true := by rw [n13]; rfl
                    have hbl : isBlank (UInt8.ofNat c) = true := by subst hcc; decide
                    have hg0 : (gg == 0) = true := by rw [Bool.eq_iff_iff]; rw [beq_iff_eq, HGZ.out, hbl]
                    clear hbl
                    have hff := first_any _ (HT.out.below HB7.out)
                    have HFF := Lib.hid hff
                    clear hff
                    go_wp2_with fail
                    refine Calls.mono HFF.out ?_
                    rintro e w8 ⟨rfl, hbz⟩
                    have HBZ := Lib.hid (bel_trans HB7.out hbz)
                    have hc8 := (hbz.block w.heap.size (Array.getElem?_eq_some_iff.1 HC7.out).1).trans HC7.out
                    obtain ⟨⟨v0, v1, v2, v3, v4⟩, _, hV⟩ := cells5 hc8
                    clear hbz hc8
                    have hf0 : (f != 0) = true := by simpa using HCF.out.1
                    rcases HKK.out with hk | hk | hk | hk | hk | hk | hk
                    · have hf2 := HCF.out.2 (by omega)
                      rw [hk] at v0
                      subst hf2
                      go_wp2_with fail
                      go_ret
                      exact ⟨rfl, HBZ.out⟩
                    · have hf2 := HCF.out.2 (by omega)
                      rw [hk] at v0
                      subst hf2
                      go_wp2_with fail
                      go_ret
                      exact ⟨rfl, HBZ.out⟩
                    · have hf2 := HCF.out.2 (by omega)
                      rw [hk] at v0
                      subst hf2
                      go_wp2_with fail
                      go_ret
                      exact ⟨rfl, HBZ.out⟩
                    · exact absurd hk hk4
                    · rw [hk] at v0
                      go_wp2_with fail
                      go_ret
                      exact ⟨rfl, HBZ.out⟩
                    · rw [hk] at v0
                      go_wp2_with fail
                      go_ret
                      exact ⟨rfl, HBZ.out⟩
                    · rw [hk] at v0
                      go_wp2_with fail
                      go_ret
                      exact ⟨rfl, HBZ.out⟩
                  · have e13 : ((c : Int) == 13) = false := beq_false_of_ne (by omega)
                    have hbl : isBlank (UInt8.ofNat c) = false := blank_not hc n32 n9 n10 n13
                    have hg0 : (gg == 0) = false := by rw [Bool.eq_iff_iff]; rw [beq_iff_eq, HGZ.out, hbl]
                    clear hbl
                    have hff := first_any _ (HT.out.below HB7.out)
                    have HFF := Lib.hid hff
                    clear hff
                    go_wp2_with fail
                    refine Calls.mono HFF.out ?_
                    rintro e w8 ⟨rfl, hbz⟩
                    have HBZ := Lib.hid (bel_trans HB7.out hbz)
                    have hc8 := (hbz.block w.heap.size (Array.getElem?_eq_some_iff.1 HC7.out).1).trans HC7.out
                    obtain ⟨⟨v0, v1, v2, v3, v4⟩, _, hV⟩ := cells5 hc8
                    clear hbz hc8
                    have hf0 : (f != 0) = true := by simpa using HCF.out.1
                    rcases HKK.out with hk | hk | hk | hk | hk | hk | hk
                    · have hf2 := HCF.out.2 (by omega)
                      rw [hk] at v0
                      subst hf2
                      go_wp2_with fail
                      go_ret
                      exact ⟨rfl, HBZ.out⟩
                    · have hf2 := HCF.out.2 (by omega)
                      rw [hk] at v0
                      subst hf2
                      go_wp2_with fail
                      go_ret
                      exact ⟨rfl, HBZ.out⟩
                    · have hf2 := HCF.out.2 (by omega)
                      rw [hk] at v0
                      subst hf2
                      go_wp2_with fail
                      go_ret
                      exact ⟨rfl, HBZ.out⟩
                    · exact absurd hk hk4
                    · rw [hk] at v0
                      go_wp2_with fail
                      go_ret
                      exact ⟨rfl, HBZ.out⟩
                    · rw [hk] at v0
                      go_wp2_with fail
                      go_ret
                      exact ⟨rfl, HBZ.out⟩
                    · rw [hk] at v0
                      go_wp2_with fail
                      go_ret
                      exact ⟨rfl, HBZ.out⟩
end Go.Proofs.YtjjgbgojlhaapaaDoor
