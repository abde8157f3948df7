/- Parts of the proof: Un. -/
import Derived.Test.YtjjgbgojlhaapaaGreatDoorZJls21
import Derived.Test.YtjjgbgojlhaapaaGreatDoorZJls22
import Derived.Test.YtjjgbgojlhaapaaGreatDoorZJls17
import Derived.Deep.CutBlock
namespace Go.Proofs.YtjjgbgojlhaapaaGreatDoor
open Go.RowKit Go.Lib

theorem take_fold {l : List ByteArray} {k : Nat} {x : ByteArray} (h : l[k]? = some x) : (l.take (k + 1)).foldl uniqStep [] = uniqStep ((l.take k).foldl uniqStep []) x := by
  rw [take_snoc' h, List.foldl_append]; rfl
theorem uniq_small (l : List ByteArray) (k : Nat) : ((l.take k).foldl uniqStep []).length ≤ k := by
  have h := (uniq_len (l.take k)).1
  have h2 : (l.take k).length ≤ k := List.length_take_le _ _
  exact Nat.le_trans h h2
theorem uK_succ (out : List ByteArray) (x y : ByteArray) (m : Nat) (h : out[m]? = some y) : uK out x (m + 1) = if Op.bytesLess y.toList x.toList then m + 1 else uK out x m := by
  have e : out.getD m x = y := by rw [List.getD_eq_getElem?_getD, h]; rfl
  rw [uK, e]
theorem i64_small {m : Nat} (h : m ≤ 1000000) : IntKind.i64.wrap (m : Int) = m := by rw [IntWalk.i64_in _ (by omega)]
theorem w64_small {m : Nat} (h : m ≤ 1000000) : wrap64 (m : Int) = m := by unfold wrap64; omega
def UnS (b p : Nat) (x : ByteArray) (w : World) : Prop := w.cell? ⟨b, p, none⟩ = some (.string x)
set_option maxRecDepth 100000 in
set_option maxHeartbeats 16000000 in
theorem unique_any (l : List ByteArray) (v : Value) (F : Nat → Prop) (w : World) (hs : Sl strTy w F v l) (hl : l.length ≤ 1000000) :
    Calls Tryz.prog 25 #[v] w fun e w' => (∃ A c, e = .returned (.slice A (uniqB l).length c)) ∧ Below w.heap.size w w' := by
  obtain ⟨A0, c0, rfl, hc⟩ := str_cells hs
  have HC := Lib.hid hc; have HL := Lib.hid hl
  clear hs hc hl
  go_enter Tryz.func25, Tryz.ntmps25
  go_wp2_with fail
  go_loopg [3, 4] l.length (fun gg s3 s4 wr => ∃ (k : Nat) (out : List ByteArray), k ≤ l.length ∧ l.length - k ≤ gg ∧ s4 = .int .i64 k ∧ ∃ A c, s3 = .slice A out.length c ∧ Aside (out = (l.take k).foldl uniqStep []) ∧ Aside (wr.ownsRow w.heap.size 9 1 (.slice A out.length c) out.length (out.map Value.string)) ∧ Aside (Below w.heap.size w wr))
  case atStart => exact ⟨0, [], Nat.zero_le _, by omega, rfl, none, 0, rfl, rfl, World.ownsRow_nil _ _ _ _, Below.refl _ _⟩
  case round =>
    obtain ⟨k, out, hk, hgg, rfl, A, c, rfl, hout, ho, hbw⟩ := hrel
    replace hout := hout.out
    replace ho := ho.out
    replace hbw := hbw.out
    have hon : out.length ≤ 1000000 := by have := uniq_small l k; rw [← hout] at this; have := HL.out; omega
    have HON := Lib.hid hon; have HOUT := Lib.hid hout; have HO := Lib.hid ho; have HBW := Lib.hid hbw
    have hk0 : (0 : Int) ≤ (k : Int) := by omega
    clear hon hout ho hbw
    by_cases hlt : k < l.length
    · obtain ⟨x, hx⟩ : ∃ x, l[k]? = some x := get_ex hlt
      have hd1 : decide ((k : Int) < (l.length : Int)) = true := decide_eq_true (by omega)
      have hi1 : (k : Int) < (l.length : Int) := by omega
      obtain ⟨b, o, rfl, e0⟩ := HC.out k x hx
      have HX := Lib.hid hx
      have HE := Lib.hid (cell_later' HBW.out e0)
      clear hx e0
      obtain ⟨K, hK⟩ : ∃ K, uK out x out.length = K := ⟨_, rfl⟩
      have HKK := Lib.hid hK
      clear hK
      obtain ⟨wa, rfl⟩ : ∃ wa, wa = wr := ⟨wr, rfl⟩
      go_upto_block 2 with (fail)
      go_cut [5] from 14 to 29 (fun s5 wx => s5 = .int .i64 K ∧ Aside (Below wa.heap.size wa wx))
      case first => as_aux_lemma =>
        go_wp2_with fail
        go_loopg [5] out.length (fun gg s5 w2 => ∃ j : Nat, j ≤ out.length ∧ j ≤ gg ∧ s5 = .int .i64 j ∧ Aside (uK out x j = K) ∧ Aside (Below wa.heap.size wa w2))
        case atStart => exact ⟨out.length, Nat.le_refl _, Nat.le_refl _, rfl, HKK.out, Below.refl _ _⟩
        case round =>
          obtain ⟨j, hj, hgj, rfl, huk, hb2⟩ := hrel
          replace huk := huk.out
          replace hb2 := hb2.out
          have HB2 := Lib.hid hb2; have HUK := Lib.hid huk
          have z0 := cell_later' HB2.out HE.out
          have HO2 := Lib.hid (own_laterB HO.out HB2.out)
          clear hb2 huk
          rcases Nat.eq_zero_or_pos j with rfl | hj0
          · have hd2 : decide ((0 : Int) < ((0 : Nat) : Int)) = false := rfl
            have hK0 : K = 0 := HUK.out.symm
            subst hK0
            go_wp2_with fail
            go_quiet (fail)
            go_wp2_with fail
            go_meet
            case rel => exact ⟨rfl, bel_drewN HB2.out _⟩
          · obtain ⟨m, rfl⟩ : ∃ m, j = m + 1 := ⟨j - 1, by omega⟩
            obtain ⟨y, hy⟩ : ∃ y, out[m]? = some y := get_ex (by omega)
            have hus := uK_succ out x y m hy
            rw [HUK.out] at hus
            obtain ⟨g, cap, hAg, _⟩ := own_pos HO2.out (by omega)
            obtain ⟨rfl, rfl⟩ : A = some ⟨g, 0, none⟩ ∧ c = cap := by simpa using hAg
            have z1 := own_at HO2.out (j := m) (u := .string y) (by rw [List.getElem?_map, hy]; rfl)
            have hm0 : (0 : Int) ≤ (m : Int) := by omega
            have hmo : (m : Int) < (out.length : Int) := by omega
            have hd2 : decide ((0 : Int) < (m : Int) + 1) = true := decide_eq_true (by omega)
            have hm6 : m ≤ 1000000 := by have := HON.out; omega
            have hw2 : wrap64 (m : Int) = m := w64_small hm6
            have hw1 : IntKind.i64.wrap (m : Int) = m := i64_small hm6
            have HUS := Lib.hid hus; have HY := Lib.hid hy
            clear hus hy hAg
            cases hls : Op.bytesLess y.toList x.toList with
            | true =>
              have hKm : K = m + 1 := by have h := HUS.out; rw [hls] at h; exact h
              subst hKm
              clear HUS
              go_wp2_with fail
              go_quiet (fail)
              go_wp2_with fail
              go_meet
              case rel => exact ⟨rfl, bel_drewN HB2.out _⟩
            | false =>
              have hKm : uK out x m = K := by have h := HUS.out; rw [hls] at h; exact h.symm
              have HKM := Lib.hid hKm
              clear HUS hKm hw2
              go_wp2_with fail
              go_quiet (fail)
              go_wp2_with fail
              go_roundg m
              case measure => omega
              case rel => exact ⟨m, by omega, Nat.le_refl _, rfl, HKM.out, bel_drewN HB2.out _⟩
      case rest =>
        obtain ⟨rfl, hb3⟩ := hcut
        replace hb3 := hb3.out
        have HB3 := Lib.hid (bel_trans HBW.out hb3)
        have z0 := cell_later' hb3 HE.out
        have HO3 := Lib.hid (own_laterB HO.out hb3)
        clear hb3 HBW HO HE
        have hKl : K ≤ out.length := by rw [← HKK.out]; exact uK_le _ _ _
        have hK0 : (0 : Int) ≤ (K : Int) := by omega
        by_cases hKo : K < out.length
        · obtain ⟨y, hy⟩ : ∃ y, out[K]? = some y := get_ex hKo
          obtain ⟨g, cap, hAg, _⟩ := own_pos HO3.out (by omega)
          obtain ⟨rfl, rfl⟩ : A = some ⟨g, 0, none⟩ ∧ c = cap := by simpa using hAg
          have z1 := own_at HO3.out (j := K) (u := .string y) (by rw [List.getElem?_map, hy]; rfl)
          have hd2 : decide (K < out.length) = true := decide_eq_true hKo
          have hd3 : decide ((K : Int) < (out.length : Int)) = true := decide_eq_true (by omega)
          have hi2 : (K : Int) < (out.length : Int) := by omega
          have HY := Lib.hid hy
          clear hy hAg
          by_cases hxy : y.toList = x.toList
          · have he : (y.toList == x.toList) = true := by simpa using hxy
            have hyx : y = x := ba_inj hxy
            have hst : uniqStep out x = out := by
              unfold uniqStep
              rw [HKK.out, if_pos (by rw [HY.out, hyx])]
            have HST := Lib.hid hst
            clear hst hyx
            go_wp2_with fail
            go_quiet (fail)
            go_wp2_with fail
            go_roundg (l.length - (k + 1))
            case measure => omega
            case rel => exact ⟨k + 1, out, by omega, by omega, congrArg (Value.int .i64) (by have := HL.out; first | (unfold wrap64; omega) | omega), _, _, rfl, (show out = (l.take (k + 1)).foldl uniqStep [] from by rw [take_fold HX.out, ← HOUT.out, HST.out]), own_laterB HO3.out (bel_drewN (Below.refl _ _) _), bel_drewN HB3.out _⟩
          · have he : (y.toList == x.toList) = false := by simpa using hxy
            have hne : out[K]? ≠ some x := by rw [HY.out]; intro e; exact hxy (by rw [Option.some.inj e])
            have HNE := Lib.hid hne
            clear hne hxy
            go_wp2_with fail
            go_quiet (fail)
            go_wp2_with fail
            have hst : uniqStep out x = out.take K ++ x :: out.drop K := by
              unfold uniqStep
              rw [HKK.out, if_neg HNE.out]
            have HST := Lib.hid hst
            clear hst
            have hkl : (K : Int) ≤ (out.length : Int) := by omega
            have hlc : out.length ≤ c := by
              rcases HO3.out.2 with ⟨h0, hl0⟩ | ⟨_, _, _, h0, _, _, hnc, _⟩
              · omega
              · injection h0 with _ _ h3
                omega
            have hkc : (K : Int) ≤ (c : Int) := by omega
            have hKl2 := Lib.hid hKl; have hlc2 := Lib.hid hlc
            have HOD := Lib.hid (own_laterB HO3.out (show Below wc.heap.size wc (wc.drewN nq).drew from bel_drew (bel_drewN (Below.refl _ _) nq)))
            have HBD := Lib.hid (bel_drew (bel_drewN HB3.out nq))
            have HSS := Lib.hid (show UnS b (o + k) x (wc.drewN nq).drew from z0)
            clear HO3 HB3 z0 HNE hlc
            refine PrintLast.wp_region_last_drew (S := UnS b (o + k) x) (ds := [12]) (by kernel_rfl) HSS.out (fun hHeld => ?_)
            generalize (wc.drewN nq).drew = D at *
            refine PrintLast.wpAnyLast_take (i := 0) (v := ?_) rfl (by kernel_rfl) (by kernel_rfl) (by kernel_rfl) (by kernel_rfl) (by kernel_rfl) (fun _ _ _ h => h) (Or.inl ⟨by kernel_rfl, ?_⟩) (by assumption) ?_
            rotate_left
            · (intro w hSw; have z0 : w.cell? ⟨b, o + k, none⟩ = some (.string x) := hSw; go_simp; try (with_reducible rfl))
            try simp only [List.getElem_toArray, List.getElem_cons_zero, List.getElem_cons_succ, Act.put, List.setIfInBounds_toArray, List.set_cons_zero, List.set_cons_succ]
            refine PrintLast.wpAnyLast_take (i := 1) (v := ?_) rfl (by kernel_rfl) (by kernel_rfl) (by kernel_rfl) (by kernel_rfl) (by kernel_rfl) (fun _ _ _ h => h) (Or.inl ⟨by kernel_rfl, ?_⟩) (by assumption) ?_
            rotate_left
            · (intro w hSw; have z0 : w.cell? ⟨b, o + k, none⟩ = some (.string x) := hSw; go_simp; try (with_reducible rfl))
            try simp only [List.getElem_toArray, List.getElem_cons_zero, List.getElem_cons_succ, Act.put, List.setIfInBounds_toArray, List.set_cons_zero, List.set_cons_succ]
            refine PrintLast.wpAnyLast_take (i := 2) (v := ?_) rfl (by kernel_rfl) (by kernel_rfl) (by kernel_rfl) (by kernel_rfl) (by kernel_rfl) (fun _ _ _ h => h) (Or.inl ⟨by kernel_rfl, ?_⟩) (by assumption) ?_
            rotate_left
            · (intro w hSw; have z0 : w.cell? ⟨b, o + k, none⟩ = some (.string x) := hSw; go_simp; try (with_reducible rfl))
            try simp only [List.getElem_toArray, List.getElem_cons_zero, List.getElem_cons_succ, Act.put, List.setIfInBounds_toArray, List.set_cons_zero, List.set_cons_succ]
            refine PrintLast.wpAnyLast_take (i := 3) (v := ?_) rfl (by kernel_rfl) (by kernel_rfl) (by kernel_rfl) (by kernel_rfl) (by kernel_rfl) (fun _ _ _ h => h) (Or.inl ⟨by kernel_rfl, ?_⟩) (by assumption) ?_
            rotate_left
            · (intro w hSw; have z0 : w.cell? ⟨b, o + k, none⟩ = some (.string x) := hSw; go_simp; try (with_reducible rfl))
            try simp only [List.getElem_toArray, List.getElem_cons_zero, List.getElem_cons_succ, Act.put, List.setIfInBounds_toArray, List.set_cons_zero, List.set_cons_succ]
            refine PrintLast.wpAnyLast_take (i := 4) (v := ?_) rfl (by kernel_rfl) (by kernel_rfl) (by kernel_rfl) (by kernel_rfl) (by kernel_rfl) (fun _ _ _ h => h) (Or.inl ⟨by kernel_rfl, ?_⟩) (by assumption) ?_
            rotate_left
            · (intro w hSw; have z0 : w.cell? ⟨b, o + k, none⟩ = some (.string x) := hSw; go_simp; try (with_reducible rfl))
            try simp only [List.getElem_toArray, List.getElem_cons_zero, List.getElem_cons_succ, Act.put, List.setIfInBounds_toArray, List.set_cons_zero, List.set_cons_succ]
            refine PrintLast.wpAnyLast_take (i := 5) (v := ?_) rfl (by kernel_rfl) (by kernel_rfl) (by kernel_rfl) (by kernel_rfl) (by kernel_rfl) (fun _ _ _ h => h) (Or.inl ⟨by kernel_rfl, ?_⟩) (by assumption) ?_
            rotate_left
            · (intro w hSw; have z0 : w.cell? ⟨b, o + k, none⟩ = some (.string x) := hSw; go_simp; try (with_reducible rfl))
            try simp only [List.getElem_toArray, List.getElem_cons_zero, List.getElem_cons_succ, Act.put, List.setIfInBounds_toArray, List.set_cons_zero, List.set_cons_succ]
            refine PrintLast.wpAnyLast_take (i := 6) (v := ?_) rfl (by kernel_rfl) (by kernel_rfl) (by kernel_rfl) (by kernel_rfl) (by kernel_rfl) (fun _ _ _ h => h) (Or.inl ⟨by kernel_rfl, ?_⟩) (by assumption) ?_
            rotate_left
            · (intro w hSw; have z0 : w.cell? ⟨b, o + k, none⟩ = some (.string x) := hSw; go_simp; try (with_reducible rfl))
            try simp only [List.getElem_toArray, List.getElem_cons_zero, List.getElem_cons_succ, Act.put, List.setIfInBounds_toArray, List.set_cons_zero, List.set_cons_succ]
            refine PrintLast.wpAnyLast_take (i := 8) (v := ?_) rfl (by kernel_rfl) (by kernel_rfl) (by kernel_rfl) (by kernel_rfl) (by kernel_rfl) (fun _ _ _ h => h) (Or.inl ⟨by kernel_rfl, ?_⟩) (by assumption) ?_
            rotate_left
            · (intro w hSw; have z0 : w.cell? ⟨b, o + k, none⟩ = some (.string x) := hSw; go_simp; try (with_reducible rfl))
            try simp only [List.getElem_toArray, List.getElem_cons_zero, List.getElem_cons_succ, Act.put, List.setIfInBounds_toArray, List.set_cons_zero, List.set_cons_succ]
            refine PrintLast.wpAnyLast_take (i := 9) (v := ?_) rfl (by kernel_rfl) (by kernel_rfl) (by kernel_rfl) (by kernel_rfl) (by kernel_rfl) (fun _ _ _ h => h) (Or.inl ⟨by kernel_rfl, ?_⟩) (by assumption) ?_
            rotate_left
            · (intro w hSw; have z0 : w.cell? ⟨b, o + k, none⟩ = some (.string x) := hSw; go_simp; try (with_reducible rfl))
            try simp only [List.getElem_toArray, List.getElem_cons_zero, List.getElem_cons_succ, Act.put, List.setIfInBounds_toArray, List.set_cons_zero, List.set_cons_succ]
            refine PrintLast.wpAnyLast_take (i := 10) (v := ?_) rfl (by kernel_rfl) (by kernel_rfl) (by kernel_rfl) (by kernel_rfl) (by kernel_rfl) (fun _ _ _ h => h) (Or.inl ⟨by kernel_rfl, ?_⟩) (by assumption) ?_
            rotate_left
            · (intro w hSw; have z0 : w.cell? ⟨b, o + k, none⟩ = some (.string x) := hSw; go_simp; try (with_reducible rfl))
            try simp only [List.getElem_toArray, List.getElem_cons_zero, List.getElem_cons_succ, Act.put, List.setIfInBounds_toArray, List.set_cons_zero, List.set_cons_succ]
            have HK := Lib.hid hHeld
            clear hHeld
            obtain ⟨i0, hi, hz0, hz1, hz2⟩ := info_parts strInfo
            refine PrintLast.wpAnyLast_ready (rs := [7]) (by kernel_rfl) (by simp) ?_
            refine PrintLast.AllReadyL.cons rfl (by decide) (fun J hJ => ?_) PrintLast.AllReadyL.nil
            rw [if_pos (by kernel_rfl)]
            go_simp
            try simp only [List.foldl_cons, List.foldl_nil, List.setIfInBounds_toArray, List.set_cons_zero, List.set_cons_succ, Nat.reduceAdd]
            refine hJ.out _ _ ?_ (fun hHeld => ?_)
            · exact cell_later' (bel_alloc (Below.refl D.heap.size D) (.cells #[.string x] 9)) HK.out
            clear hJ J hHeld
            try simp only [List.getElem_toArray, List.getElem_cons_zero, List.getElem_cons_succ, Act.put, List.setIfInBounds_toArray, List.set_cons_zero, List.set_cons_succ]
            refine PrintLast.wpAnyLast_ready (rs := [11]) (by kernel_rfl) (by simp) ?_
            refine PrintLast.AllReadyL.cons rfl (by decide) (fun J hJ => ?_) PrintLast.AllReadyL.nil
            have hal := bel_alloc (Below.refl D.heap.size D) (.cells #[.string x] 9)
            have hsz : (D.alloc (.cells #[.string x] 9)).heap.size = D.heap.size + 1 := by show (D.heap.push _).size = _; simp
            have hsrc := own_src (size := 1) (own_laterB HOD.out hal) hKl2.out
            simp only [Nat.mul_one] at hsrc
            try simp only [Option.map_some, Addr.add_lit, Nat.zero_add] at hsrc
            have hlen : ((out.map Value.string).drop K).length = (out.length - K) * 1 := by rw [List.length_drop, List.length_map, Nat.mul_one]
            have hone : ∀ u ∈ (out.map Value.string).drop K, u.oneCell' = true := fun u hu => by
              obtain ⟨y, _, rfl⟩ := List.mem_map.1 (List.mem_of_mem_drop hu)
              rfl
            have hM : 1 + (out.length - K) ≤ maxLen := by have := HON.out; simp only [maxLen]; omega
            have hby : (1 + (out.length - K)) * 16 ≤ 140737488355328 := by have := HON.out; omega
            refine step_append_opt rfl _ _ 54 rfl D.heap.size 9 i0 _ 1 16 Tryz.underlying54 hi hz0 hz1 hz2 rfl (by decide) _ 1 [.string x] rfl (own_new D D.heap.size 9 [.string x] 1 rfl (Nat.le_refl _)) _ (out.length - K) ((out.map Value.string).drop K) rfl hsrc hlen hone hM hby (by omega) ?_
            intro v1 W1 ho1 hg1 hx1
            have hb1 : Below D.heap.size D W1 := bel_grown hal hg1 (fun j hj => by obtain rfl := Option.some.inj hj; exact Nat.le_refl _)
            obtain ⟨g1, cap1, rfl, hbg1⟩ := own_pos ho1 (by omega)
            refine hJ.out _ _ ?_ (fun hHeld => ?_)
            · exact cell_later' hb1 HK.out
            clear hJ J hHeld
            try simp only [List.getElem_toArray, List.getElem_cons_zero, List.getElem_cons_succ, Act.put, List.setIfInBounds_toArray, List.set_cons_zero, List.set_cons_succ]
            refine PrintLast.wpAnyLast_ready (rs := [12]) (by kernel_rfl) (by simp) ?_
            refine PrintLast.AllReadyL.cons_last rfl (by decide) (fun J hJ => ?_) PrintLast.AllReadyL.nil
            have hown1 := own_take (size := 1) (own_laterB HOD.out hb1) hKl2.out
            simp only [Nat.mul_one] at hown1
            have hone2 : ∀ u ∈ [Value.string x] ++ (out.map Value.string).drop K, u.oneCell' = true := fun u hu => by
              rcases List.mem_append.1 hu with hu | hu
              · rw [List.mem_singleton.1 hu]; rfl
              · exact hone u hu
            have hM2 : K + (1 + (out.length - K)) ≤ maxLen := by have := HON.out; have := hKl2.out; simp only [maxLen]; omega
            have hby2 : (K + (1 + (out.length - K))) * 16 ≤ 140737488355328 := by have := HON.out; have := hKl2.out; omega
            have hs1 := hb1.size
            have hs2 := HBD.out.size
            refine step_append_own rfl _ _ 54 rfl w.heap.size 9 i0 _ 1 16 Tryz.underlying54 hi hz0 hz1 hz2 rfl (by decide) _ K ((out.map Value.string).take K) rfl hown1 ⟨g1, 0, none⟩ (1 + (out.length - K)) cap1 _ rfl ho1.1 (ho1.cells (g := g1) rfl) hone2 hM2 hby2 (by omega) ?_
            intro v2 W2 ho2 hg2 hx2
            refine hJ.out _ _ ?_
            clear hJ J
            try simp only [List.getElem_toArray, List.getElem_cons_zero, List.getElem_cons_succ, Act.put, List.setIfInBounds_toArray, List.set_cons_zero, List.set_cons_succ]
            obtain ⟨A7, c7, rfl⟩ := own_sliceB ho2
            have hun : (uniqStep out x).length = K + (1 + (out.length - K)) ∧ (uniqStep out x).map Value.string = (out.map Value.string).take K ++ ([Value.string x] ++ (out.map Value.string).drop K) := by
              rw [HST.out]
              have := hKl2.out
              exact ⟨by rw [List.length_append, List.length_cons, List.length_take, List.length_drop]; omega, by simp [List.map_take, List.map_drop]⟩
            have hbw := bel_trans HBD.out hb1
            have hbw2 : Below w.heap.size w W2 := bel_grown hbw hg2 (fun j hj => (hown1.lt j hj).1)
            rw [← hun.1] at ho2
            rw [← hun.2] at ho2
            have HO7 := Lib.hid ho2; have HB7 := Lib.hid hbw2; have HUN := Lib.hid hun.1
            clear ho1 hg1 hx1 hb1 hbg1 hown1 hone2 hM2 hby2 hs1 hs2 ho2 hg2 hx2 hun hbw hbw2 hal hsz hsrc hlen hone hM hby HK HOD HBD
            refine PrintLast.wpAnyLast_any (i := 13) (v := ?_) rfl (Region.noSelect_spec (by kernel_rfl)) (fun _ _ _ h => h) _ _ _ _ (Region.free_spec rfl (by kernel_rfl)) (List.contains_iff_mem.1 (by kernel_rfl)) (Or.inl ⟨by kernel_rfl, ?_⟩) ?_
            rotate_left
            · (intro w; go_simp; try (with_reducible rfl))
            try simp only [List.getElem_toArray, List.getElem_cons_zero, List.getElem_cons_succ, Act.put, List.setIfInBounds_toArray, List.set_cons_zero, List.set_cons_succ]
            refine PrintLast.wpAnyLast_done (by kernel_rfl) ?_ _
            generalize (if c = K then _ else _ : Option Addr) = sv
            go_wp2_with fail
            go_roundg (l.length - (k + 1))
            case measure => omega
            case rel => exact ⟨k + 1, uniqStep out x, by omega, by omega, congrArg (Value.int .i64) (by have := HL.out; first | (unfold wrap64; omega) | omega), A7, c7, by rw [HUN.out], (show uniqStep out x = (l.take (k + 1)).foldl uniqStep [] from by rw [take_fold HX.out, ← HOUT.out]), HO7.out, HB7.out⟩
        · have hd2 : decide (K < out.length) = false := decide_eq_false hKo
          have hd3 : decide ((K : Int) < (out.length : Int)) = false := decide_eq_false (by omega)
          have hne : out[K]? ≠ some x := by rw [List.getElem?_eq_none (by omega)]; exact fun e => by cases e
          have HNE := Lib.hid hne
          clear hne
          go_wp2_with fail
          go_quiet (fail)
          go_wp2_with fail
          have hst : uniqStep out x = out.take K ++ x :: out.drop K := by
            unfold uniqStep
            rw [HKK.out, if_neg HNE.out]
          have HST := Lib.hid hst
          clear hst
          have hkl : (K : Int) ≤ (out.length : Int) := by omega
          have hlc : out.length ≤ c := by
            rcases HO3.out.2 with ⟨h0, hl0⟩ | ⟨_, _, _, h0, _, _, hnc, _⟩
            · omega
            · injection h0 with _ _ h3
              omega
          have hkc : (K : Int) ≤ (c : Int) := by omega
          have hKl2 := Lib.hid hKl; have hlc2 := Lib.hid hlc
          have HOD := Lib.hid (own_laterB HO3.out (show Below wc.heap.size wc (wc.drewN nq).drew from bel_drew (bel_drewN (Below.refl _ _) nq)))
          have HBD := Lib.hid (bel_drew (bel_drewN HB3.out nq))
          have HSS := Lib.hid (show UnS b (o + k) x (wc.drewN nq).drew from z0)
          clear HO3 HB3 z0 HNE hlc
          refine PrintLast.wp_region_last_drew (S := UnS b (o + k) x) (ds := [12]) (by kernel_rfl) HSS.out (fun hHeld => ?_)
          generalize (wc.drewN nq).drew = D at *
          refine PrintLast.wpAnyLast_take (i := 0) (v := ?_) rfl (by kernel_rfl) (by kernel_rfl) (by kernel_rfl) (by kernel_rfl) (by kernel_rfl) (fun _ _ _ h => h) (Or.inl ⟨by kernel_rfl, ?_⟩) (by assumption) ?_
          rotate_left
          · (intro w hSw; have z0 : w.cell? ⟨b, o + k, none⟩ = some (.string x) := hSw; go_simp; try (with_reducible rfl))
          try simp only [List.getElem_toArray, List.getElem_cons_zero, List.getElem_cons_succ, Act.put, List.setIfInBounds_toArray, List.set_cons_zero, List.set_cons_succ]
          refine PrintLast.wpAnyLast_take (i := 1) (v := ?_) rfl (by kernel_rfl) (by kernel_rfl) (by kernel_rfl) (by kernel_rfl) (by kernel_rfl) (fun _ _ _ h => h) (Or.inl ⟨by kernel_rfl, ?_⟩) (by assumption) ?_
          rotate_left
          · (intro w hSw; have z0 : w.cell? ⟨b, o + k, none⟩ = some (.string x) := hSw; go_simp; try (with_reducible rfl))
          try simp only [List.getElem_toArray, List.getElem_cons_zero, List.getElem_cons_succ, Act.put, List.setIfInBounds_toArray, List.set_cons_zero, List.set_cons_succ]
          refine PrintLast.wpAnyLast_take (i := 2) (v := ?_) rfl (by kernel_rfl) (by kernel_rfl) (by kernel_rfl) (by kernel_rfl) (by kernel_rfl) (fun _ _ _ h => h) (Or.inl ⟨by kernel_rfl, ?_⟩) (by assumption) ?_
          rotate_left
          · (intro w hSw; have z0 : w.cell? ⟨b, o + k, none⟩ = some (.string x) := hSw; go_simp; try (with_reducible rfl))
          try simp only [List.getElem_toArray, List.getElem_cons_zero, List.getElem_cons_succ, Act.put, List.setIfInBounds_toArray, List.set_cons_zero, List.set_cons_succ]
          refine PrintLast.wpAnyLast_take (i := 3) (v := ?_) rfl (by kernel_rfl) (by kernel_rfl) (by kernel_rfl) (by kernel_rfl) (by kernel_rfl) (fun _ _ _ h => h) (Or.inl ⟨by kernel_rfl, ?_⟩) (by assumption) ?_
          rotate_left
          · (intro w hSw; have z0 : w.cell? ⟨b, o + k, none⟩ = some (.string x) := hSw; go_simp; try (with_reducible rfl))
          try simp only [List.getElem_toArray, List.getElem_cons_zero, List.getElem_cons_succ, Act.put, List.setIfInBounds_toArray, List.set_cons_zero, List.set_cons_succ]
          refine PrintLast.wpAnyLast_take (i := 4) (v := ?_) rfl (by kernel_rfl) (by kernel_rfl) (by kernel_rfl) (by kernel_rfl) (by kernel_rfl) (fun _ _ _ h => h) (Or.inl ⟨by kernel_rfl, ?_⟩) (by assumption) ?_
          rotate_left
          · (intro w hSw; have z0 : w.cell? ⟨b, o + k, none⟩ = some (.string x) := hSw; go_simp; try (with_reducible rfl))
          try simp only [List.getElem_toArray, List.getElem_cons_zero, List.getElem_cons_succ, Act.put, List.setIfInBounds_toArray, List.set_cons_zero, List.set_cons_succ]
          refine PrintLast.wpAnyLast_take (i := 5) (v := ?_) rfl (by kernel_rfl) (by kernel_rfl) (by kernel_rfl) (by kernel_rfl) (by kernel_rfl) (fun _ _ _ h => h) (Or.inl ⟨by kernel_rfl, ?_⟩) (by assumption) ?_
          rotate_left
          · (intro w hSw; have z0 : w.cell? ⟨b, o + k, none⟩ = some (.string x) := hSw; go_simp; try (with_reducible rfl))
          try simp only [List.getElem_toArray, List.getElem_cons_zero, List.getElem_cons_succ, Act.put, List.setIfInBounds_toArray, List.set_cons_zero, List.set_cons_succ]
          refine PrintLast.wpAnyLast_take (i := 6) (v := ?_) rfl (by kernel_rfl) (by kernel_rfl) (by kernel_rfl) (by kernel_rfl) (by kernel_rfl) (fun _ _ _ h => h) (Or.inl ⟨by kernel_rfl, ?_⟩) (by assumption) ?_
          rotate_left
          · (intro w hSw; have z0 : w.cell? ⟨b, o + k, none⟩ = some (.string x) := hSw; go_simp; try (with_reducible rfl))
          try simp only [List.getElem_toArray, List.getElem_cons_zero, List.getElem_cons_succ, Act.put, List.setIfInBounds_toArray, List.set_cons_zero, List.set_cons_succ]
          refine PrintLast.wpAnyLast_take (i := 8) (v := ?_) rfl (by kernel_rfl) (by kernel_rfl) (by kernel_rfl) (by kernel_rfl) (by kernel_rfl) (fun _ _ _ h => h) (Or.inl ⟨by kernel_rfl, ?_⟩) (by assumption) ?_
          rotate_left
          · (intro w hSw; have z0 : w.cell? ⟨b, o + k, none⟩ = some (.string x) := hSw; go_simp; try (with_reducible rfl))
          try simp only [List.getElem_toArray, List.getElem_cons_zero, List.getElem_cons_succ, Act.put, List.setIfInBounds_toArray, List.set_cons_zero, List.set_cons_succ]
          refine PrintLast.wpAnyLast_take (i := 9) (v := ?_) rfl (by kernel_rfl) (by kernel_rfl) (by kernel_rfl) (by kernel_rfl) (by kernel_rfl) (fun _ _ _ h => h) (Or.inl ⟨by kernel_rfl, ?_⟩) (by assumption) ?_
          rotate_left
          · (intro w hSw; have z0 : w.cell? ⟨b, o + k, none⟩ = some (.string x) := hSw; go_simp; try (with_reducible rfl))
          try simp only [List.getElem_toArray, List.getElem_cons_zero, List.getElem_cons_succ, Act.put, List.setIfInBounds_toArray, List.set_cons_zero, List.set_cons_succ]
          refine PrintLast.wpAnyLast_take (i := 10) (v := ?_) rfl (by kernel_rfl) (by kernel_rfl) (by kernel_rfl) (by kernel_rfl) (by kernel_rfl) (fun _ _ _ h => h) (Or.inl ⟨by kernel_rfl, ?_⟩) (by assumption) ?_
          rotate_left
          · (intro w hSw; have z0 : w.cell? ⟨b, o + k, none⟩ = some (.string x) := hSw; go_simp; try (with_reducible rfl))
          try simp only [List.getElem_toArray, List.getElem_cons_zero, List.getElem_cons_succ, Act.put, List.setIfInBounds_toArray, List.set_cons_zero, List.set_cons_succ]
          have HK := Lib.hid hHeld
          clear hHeld
          obtain ⟨i0, hi, hz0, hz1, hz2⟩ := info_parts strInfo
          refine PrintLast.wpAnyLast_ready (rs := [7]) (by kernel_rfl) (by simp) ?_
          refine PrintLast.AllReadyL.cons rfl (by decide) (fun J hJ => ?_) PrintLast.AllReadyL.nil
          rw [if_pos (by kernel_rfl)]
          go_simp
          try simp only [List.foldl_cons, List.foldl_nil, List.setIfInBounds_toArray, List.set_cons_zero, List.set_cons_succ, Nat.reduceAdd]
          refine hJ.out _ _ ?_ (fun hHeld => ?_)
          · exact cell_later' (bel_alloc (Below.refl D.heap.size D) (.cells #[.string x] 9)) HK.out
          clear hJ J hHeld
          try simp only [List.getElem_toArray, List.getElem_cons_zero, List.getElem_cons_succ, Act.put, List.setIfInBounds_toArray, List.set_cons_zero, List.set_cons_succ]
          refine PrintLast.wpAnyLast_ready (rs := [11]) (by kernel_rfl) (by simp) ?_
          refine PrintLast.AllReadyL.cons rfl (by decide) (fun J hJ => ?_) PrintLast.AllReadyL.nil
          have hal := bel_alloc (Below.refl D.heap.size D) (.cells #[.string x] 9)
          have hsz : (D.alloc (.cells #[.string x] 9)).heap.size = D.heap.size + 1 := by show (D.heap.push _).size = _; simp
          have hsrc := own_src (size := 1) (own_laterB HOD.out hal) hKl2.out
          simp only [Nat.mul_one] at hsrc
          try simp only [Option.map_some, Addr.add_lit, Nat.zero_add] at hsrc
          have hlen : ((out.map Value.string).drop K).length = (out.length - K) * 1 := by rw [List.length_drop, List.length_map, Nat.mul_one]
          have hone : ∀ u ∈ (out.map Value.string).drop K, u.oneCell' = true := fun u hu => by
            obtain ⟨y, _, rfl⟩ := List.mem_map.1 (List.mem_of_mem_drop hu)
            rfl
          have hM : 1 + (out.length - K) ≤ maxLen := by have := HON.out; simp only [maxLen]; omega
          have hby : (1 + (out.length - K)) * 16 ≤ 140737488355328 := by have := HON.out; omega
          refine step_append_opt rfl _ _ 54 rfl D.heap.size 9 i0 _ 1 16 Tryz.underlying54 hi hz0 hz1 hz2 rfl (by decide) _ 1 [.string x] rfl (own_new D D.heap.size 9 [.string x] 1 rfl (Nat.le_refl _)) _ (out.length - K) ((out.map Value.string).drop K) rfl hsrc hlen hone hM hby (by omega) ?_
          intro v1 W1 ho1 hg1 hx1
          have hb1 : Below D.heap.size D W1 := bel_grown hal hg1 (fun j hj => by obtain rfl := Option.some.inj hj; exact Nat.le_refl _)
          obtain ⟨g1, cap1, rfl, hbg1⟩ := own_pos ho1 (by omega)
          refine hJ.out _ _ ?_ (fun hHeld => ?_)
          · exact cell_later' hb1 HK.out
          clear hJ J hHeld
          try simp only [List.getElem_toArray, List.getElem_cons_zero, List.getElem_cons_succ, Act.put, List.setIfInBounds_toArray, List.set_cons_zero, List.set_cons_succ]
          refine PrintLast.wpAnyLast_ready (rs := [12]) (by kernel_rfl) (by simp) ?_
          refine PrintLast.AllReadyL.cons_last rfl (by decide) (fun J hJ => ?_) PrintLast.AllReadyL.nil
          have hown1 := own_take (size := 1) (own_laterB HOD.out hb1) hKl2.out
          simp only [Nat.mul_one] at hown1
          have hone2 : ∀ u ∈ [Value.string x] ++ (out.map Value.string).drop K, u.oneCell' = true := fun u hu => by
            rcases List.mem_append.1 hu with hu | hu
            · rw [List.mem_singleton.1 hu]; rfl
            · exact hone u hu
          have hM2 : K + (1 + (out.length - K)) ≤ maxLen := by have := HON.out; have := hKl2.out; simp only [maxLen]; omega
          have hby2 : (K + (1 + (out.length - K))) * 16 ≤ 140737488355328 := by have := HON.out; have := hKl2.out; omega
          have hs1 := hb1.size
          have hs2 := HBD.out.size
          refine step_append_own rfl _ _ 54 rfl w.heap.size 9 i0 _ 1 16 Tryz.underlying54 hi hz0 hz1 hz2 rfl (by decide) _ K ((out.map Value.string).take K) rfl hown1 ⟨g1, 0, none⟩ (1 + (out.length - K)) cap1 _ rfl ho1.1 (ho1.cells (g := g1) rfl) hone2 hM2 hby2 (by omega) ?_
          intro v2 W2 ho2 hg2 hx2
          refine hJ.out _ _ ?_
          clear hJ J
          try simp only [List.getElem_toArray, List.getElem_cons_zero, List.getElem_cons_succ, Act.put, List.setIfInBounds_toArray, List.set_cons_zero, List.set_cons_succ]
          obtain ⟨A7, c7, rfl⟩ := own_sliceB ho2
          have hun : (uniqStep out x).length = K + (1 + (out.length - K)) ∧ (uniqStep out x).map Value.string = (out.map Value.string).take K ++ ([Value.string x] ++ (out.map Value.string).drop K) := by
            rw [HST.out]
            have := hKl2.out
            exact ⟨by rw [List.length_append, List.length_cons, List.length_take, List.length_drop]; omega, by simp [List.map_take, List.map_drop]⟩
          have hbw := bel_trans HBD.out hb1
          have hbw2 : Below w.heap.size w W2 := bel_grown hbw hg2 (fun j hj => (hown1.lt j hj).1)
          rw [← hun.1] at ho2
          rw [← hun.2] at ho2
          have HO7 := Lib.hid ho2; have HB7 := Lib.hid hbw2; have HUN := Lib.hid hun.1
          clear ho1 hg1 hx1 hb1 hbg1 hown1 hone2 hM2 hby2 hs1 hs2 ho2 hg2 hx2 hun hbw hbw2 hal hsz hsrc hlen hone hM hby HK HOD HBD
          refine PrintLast.wpAnyLast_any (i := 13) (v := ?_) rfl (Region.noSelect_spec (by kernel_rfl)) (fun _ _ _ h => h) _ _ _ _ (Region.free_spec rfl (by kernel_rfl)) (List.contains_iff_mem.1 (by kernel_rfl)) (Or.inl ⟨by kernel_rfl, ?_⟩) ?_
          rotate_left
          · (intro w; go_simp; try (with_reducible rfl))
          try simp only [List.getElem_toArray, List.getElem_cons_zero, List.getElem_cons_succ, Act.put, List.setIfInBounds_toArray, List.set_cons_zero, List.set_cons_succ]
          refine PrintLast.wpAnyLast_done (by kernel_rfl) ?_ _
          generalize (if c = K then _ else _ : Option Addr) = sv
          go_wp2_with fail
          go_roundg (l.length - (k + 1))
          case measure => omega
          case rel => exact ⟨k + 1, uniqStep out x, by omega, by omega, congrArg (Value.int .i64) (by have := HL.out; first | (unfold wrap64; omega) | omega), A7, c7, by rw [HUN.out], (show uniqStep out x = (l.take (k + 1)).foldl uniqStep [] from by rw [take_fold HX.out, ← HOUT.out]), HO7.out, HB7.out⟩
    · have hd1 : decide ((k : Int) < (l.length : Int)) = false := decide_eq_false (by omega)
      obtain rfl : k = l.length := by omega
      have hu : uniqB l = out := by rw [HOUT.out, List.take_length]; rfl
      have HU := Lib.hid hu
      clear hu
      go_wp2_with fail
      go_ret
      exact ⟨⟨A, c, show Ending.returned (.slice A out.length c) = _ from by rw [HU.out]⟩, HBW.out⟩
end Go.Proofs.YtjjgbgojlhaapaaGreatDoor
