/- Parts of the proof: Gq, Pa. -/
import Derived.Test.YtjjgbgojlhaapaaGreatDoorZJwr23
import Derived.Test.YtjjgbgojlhaapaaGreatDoorZJwr4
import Derived.Lib.AppendStr
import Derived.Lib.AppendIntMem
import Derived.Test.YtjjgbgojlhaapaaGreatDoorZJwr7
namespace Go.Proofs.YtjjgbgojlhaapaaGreatDoor
open Go.RowKit Go.Lib

theorem nat_eq {c k : Nat} (h : c ≠ k) : ((c : Int) == (k : Int)) = false := beq_false_of_ne (by omega)
set_option maxRecDepth 100000 in
set_option maxHeartbeats 4000000 in
theorem short_ref (c : UInt8) (w : World) : Calls Tryz.prog 81 #[.int .u8 (c.toNat : Int)] w fun e w' => e = .returned (.int .u8 ((shortR c).toNat : Int)) ∧ w' = w := by
  have hne : ∀ k : UInt8, c ≠ k → ((c.toNat : Int) == (k.toNat : Int)) = false := fun k h => nat_eq (fun e => h (UInt8.toNat_inj.1 e))
  unfold shortR
  by_cases h1 : c = 34
  · subst h1
    go_enter Tryz.func81, Tryz.ntmps81
    go_wp2_with fail
    go_ret
    exact ⟨rfl, rfl⟩
  · have e1 : ((c.toNat : Int) == 34) = false := hne 34 h1
    rw [if_neg h1]
    by_cases h2 : c = 92
    · subst h2
      go_enter Tryz.func81, Tryz.ntmps81
      go_wp2_with fail
      go_ret
      exact ⟨rfl, rfl⟩
    · have e2 : ((c.toNat : Int) == 92) = false := hne 92 h2
      rw [if_neg h2]
      by_cases h3 : c = 8
      · subst h3
        go_enter Tryz.func81, Tryz.ntmps81
        go_wp2_with fail
        go_ret
        exact ⟨rfl, rfl⟩
      · have e3 : ((c.toNat : Int) == 8) = false := hne 8 h3
        rw [if_neg h3]
        by_cases h4 : c = 12
        · subst h4
          go_enter Tryz.func81, Tryz.ntmps81
          go_wp2_with fail
          go_ret
          exact ⟨rfl, rfl⟩
        · have e4 : ((c.toNat : Int) == 12) = false := hne 12 h4
          rw [if_neg h4]
          by_cases h5 : c = 10
          · subst h5
            go_enter Tryz.func81, Tryz.ntmps81
            go_wp2_with fail
            go_ret
            exact ⟨rfl, rfl⟩
          · have e5 : ((c.toNat : Int) == 10) = false := hne 10 h5
            rw [if_neg h5]
            by_cases h6 : c = 13
            · subst h6
              go_enter Tryz.func81, Tryz.ntmps81
              go_wp2_with fail
              go_ret
              exact ⟨rfl, rfl⟩
            · have e6 : ((c.toNat : Int) == 13) = false := hne 13 h6
              rw [if_neg h6]
              by_cases h7 : c = 9
              · subst h7
                go_enter Tryz.func81, Tryz.ntmps81
                go_wp2_with fail
                go_ret
                exact ⟨rfl, rfl⟩
              · have e7 : ((c.toNat : Int) == 9) = false := hne 9 h7
                rw [if_neg h7]
                clear hne
                go_enter Tryz.func81, Tryz.ntmps81
                go_wp2_with fail
                go_ret
                exact ⟨rfl, rfl⟩
/-! Hex -/
def hexL (l : List UInt8) : List UInt8 := l.flatMap fun c => [hexAt (c.toNat / 16), hexAt (c.toNat % 16)]
theorem hexL_snoc (l : List UInt8) (c : UInt8) : hexL (l ++ [c]) = hexL l ++ [hexAt (c.toNat / 16), hexAt (c.toNat % 16)] := by simp [hexL]
theorem hexL_len (l : List UInt8) : (hexL l).length = l.length * 2 := by
  induction l with
  | nil => rfl
  | cons c l ih => simp only [hexL, List.flatMap_cons, List.length_append, List.length_cons, List.length_nil] at *; omega
theorem take_snoc {α : Type} {l : List α} {k : Nat} {x : α} (h : l[k]? = some x) : l.take (k + 1) = l.take k ++ [x] := by
  rw [List.take_add_one, h]; rfl
theorem u8_and15' : ∀ b : Nat, b < 256 → bits .and .u8 (b : Int) 15 = ((b % 16 : Nat) : Int) := by decide +kernel
set_option maxRecDepth 100000 in
set_option maxHeartbeats 8000000 in
theorem hex_ref (v : Value) (l : List UInt8) (F : Nat → Prop) (w : World) (hb : BSl w F v ⟨l.toArray⟩) (hl : l.length ≤ 1000000) :
    Calls Tryz.prog 82 #[v] w fun e w' => e = .returned (.string ⟨(hexL l).toArray⟩) ∧ Below w.heap.size w w' := by
  obtain ⟨i0, hi, hz0, hz1, hz2⟩ := info_parts u8Info
  have hcell : ∀ k c, l[k]? = some c → ∃ b o cc, v = .slice (some ⟨b, o, none⟩) l.length cc ∧ w.cell? ⟨b, o + k, none⟩ = some (.int .u8 (c.toNat : Int)) := fun k c hk => by
    have hlt := lt_of_get hk
    rcases hb with ⟨b, o, cc, rfl, hF, hc⟩ | ⟨h0, _⟩
    · refine ⟨b, o, cc, by rw [list_size], ?_⟩
      have := hc k (by rw [list_size]; exact hlt)
      rw [this]
      have h2 : l[k] = c := (List.getElem?_eq_some_iff.1 hk).2
      show some (Value.int .u8 ((l[k]).toNat : Int)) = _
      rw [h2]
    · rw [list_size] at h0; omega
  obtain ⟨A, cc, hv⟩ := hb.form
  rw [list_size] at hv
  subst hv
  have HC := Lib.hid hcell; have HL := Lib.hid hl
  clear hb hcell hl
  generalize hn : l.length = n at *
  have Hn := Lib.hid hn
  clear hn
  go_enter Tryz.func82, Tryz.ntmps82
  go_wp2_with fail
  go_loopg [4, 5] n (fun gg s4 s5 wr => ∃ k : Nat, k ≤ n ∧ n - k ≤ gg ∧ s5 = .int .i64 k ∧ Aside (Below w.heap.size w wr) ∧ Aside (wr.ownsRow w.heap.size 5 1 s4 (k * 2) (Lib.byteCells (hexL (l.take k)))))
  case atStart => exact ⟨0, Nat.zero_le _, by omega, rfl, Below.refl _ _, World.ownsRow_nil _ _ _ _⟩
  case round =>
    obtain ⟨k, hk, hgg, rfl, HB, HO⟩ := hrel
    obtain ⟨A4, c4, rfl⟩ := own_sliceB HO.out
    by_cases hlt : k < n
    · have hltz : (k : Int) < (n : Int) := by omega
      obtain ⟨c, hx⟩ : ∃ x, l[k]? = some x := get_ex (by have := Hn.out; omega)
      obtain ⟨b, o, cc', hv, l0⟩ := HC.out k c hx
      have hbx := c.toNat_lt
      injection hv with e1 e2 e3
      subst e1; subst e3; clear e2
      have r0 := cell_later' HB.out l0
      have hbr : b < wr.heap.size := World.block_lt_of_cell? _ _ r0
      have hA := u8_and15' c.toNat hbx
      obtain ⟨q, hq⟩ : ∃ q, q = c.toNat / 16 := ⟨_, rfl⟩
      obtain ⟨r, hr⟩ : ∃ r, r = c.toNat % 16 := ⟨_, rfl⟩
      have hq2 : ((c.toNat : Int) / 16) = (q : Int) := by omega
      have hq16 : q < 16 := by omega
      have hr16 : r < 16 := by omega
      have hqz : (q : Int) < 16 := by omega
      have hrz : (r : Int) < 16 := by omega
      have hr2 : bits .and .u8 (c.toNat : Int) 15 = (r : Int) := by rw [hA, hr]
      have hst : Lib.byteCells (hexL (l.take (k + 1))) = Lib.byteCells (hexL (l.take k)) ++ [.int .u8 ((hexAt q).toNat : Int), .int .u8 ((hexAt r).toNat : Int)] := by
        rw [take_snoc hx, hexL_snoc, hq, hr]; simp [Lib.byteCells]
      have HST := Lib.hid hst
      clear hst hA hq hr hx l0 hbx
      go_wp2_with fail
      refine PrintLast.wp_region_last_drew (S := fun w' => w'.cell? ⟨b, o + k, none⟩ = some (.int .u8 (c.toNat : Int))) (ds := [16]) (by kernel_rfl) ?_ (fun hHeld => ?_)
      · simpa using r0
      refine PrintLast.wpAnyLast_take (i := 0) (v := ?_) rfl (by kernel_rfl) (by kernel_rfl) (by kernel_rfl) (by kernel_rfl) (by kernel_rfl) (fun _ _ _ h => h) (Or.inl ⟨by kernel_rfl, ?_⟩) (by assumption) ?_
      rotate_left
      · (intro w hSw; (try dsimp only at hSw); go_simp; try (with_reducible rfl))
      try simp only [List.getElem_toArray, List.getElem_cons_zero, Act.put, List.setIfInBounds_toArray, List.set_cons_zero, List.set_cons_succ]
      refine PrintLast.wpAnyLast_take (i := 1) (v := ?_) rfl (by kernel_rfl) (by kernel_rfl) (by kernel_rfl) (by kernel_rfl) (by kernel_rfl) (fun _ _ _ h => h) (Or.inl ⟨by kernel_rfl, ?_⟩) (by assumption) ?_
      rotate_left
      · (intro w hSw; (try dsimp only at hSw); go_simp; try (with_reducible rfl))
      try simp only [List.getElem_toArray, List.getElem_cons_zero, List.getElem_cons_succ, Act.put, List.setIfInBounds_toArray, List.set_cons_zero, List.set_cons_succ]
      refine PrintLast.wpAnyLast_take (i := 2) (v := ?_) rfl (by kernel_rfl) (by kernel_rfl) (by kernel_rfl) (by kernel_rfl) (by kernel_rfl) (fun _ _ _ h => h) (Or.inl ⟨by kernel_rfl, ?_⟩) (by assumption) ?_
      rotate_left
      · (intro w hSw; (try dsimp only at hSw); go_simp; try (with_reducible rfl))
      try simp only [List.getElem_toArray, List.getElem_cons_zero, List.getElem_cons_succ, Act.put, List.setIfInBounds_toArray, List.set_cons_zero, List.set_cons_succ]
      refine PrintLast.wpAnyLast_take (i := 3) (v := ?_) rfl (by kernel_rfl) (by kernel_rfl) (by kernel_rfl) (by kernel_rfl) (by kernel_rfl) (fun _ _ _ h => h) (Or.inl ⟨by kernel_rfl, ?_⟩) (by assumption) ?_
      rotate_left
      · (intro w hSw; (try dsimp only at hSw); go_simp; try (with_reducible rfl))
      try simp only [List.getElem_toArray, List.getElem_cons_zero, List.getElem_cons_succ, Act.put, List.setIfInBounds_toArray, List.set_cons_zero, List.set_cons_succ]
      refine PrintLast.wpAnyLast_take (i := 4) (v := ?_) rfl (by kernel_rfl) (by kernel_rfl) (by kernel_rfl) (by kernel_rfl) (by kernel_rfl) (fun _ _ _ h => h) (Or.inl ⟨by kernel_rfl, ?_⟩) (by assumption) ?_
      rotate_left
      · (intro w hSw; (try dsimp only at hSw); go_simp; try (with_reducible rfl))
      try simp only [List.getElem_toArray, List.getElem_cons_zero, List.getElem_cons_succ, Act.put, List.setIfInBounds_toArray, List.set_cons_zero, List.set_cons_succ]
      refine PrintLast.wpAnyLast_take (i := 5) (v := ?_) rfl (by kernel_rfl) (by kernel_rfl) (by kernel_rfl) (by kernel_rfl) (by kernel_rfl) (fun _ _ _ h => h) (Or.inl ⟨by kernel_rfl, ?_⟩) (by assumption) ?_
      rotate_left
      · (intro w hSw; (try dsimp only at hSw); go_simp; try (with_reducible rfl))
      try simp only [List.getElem_toArray, List.getElem_cons_zero, List.getElem_cons_succ, Act.put, List.setIfInBounds_toArray, List.set_cons_zero, List.set_cons_succ]
      refine PrintLast.wpAnyLast_take (i := 6) (v := ?_) rfl (by kernel_rfl) (by kernel_rfl) (by kernel_rfl) (by kernel_rfl) (by kernel_rfl) (fun _ _ _ h => h) (Or.inl ⟨by kernel_rfl, ?_⟩) (by assumption) ?_
      rotate_left
      · (intro w hSw; (try dsimp only at hSw); go_simp; try (with_reducible rfl))
      try simp only [List.getElem_toArray, List.getElem_cons_zero, List.getElem_cons_succ, Act.put, List.setIfInBounds_toArray, List.set_cons_zero, List.set_cons_succ]
      refine PrintLast.wpAnyLast_take (i := 7) (v := ?_) rfl (by kernel_rfl) (by kernel_rfl) (by kernel_rfl) (by kernel_rfl) (by kernel_rfl) (fun _ _ _ h => h) (Or.inl ⟨by kernel_rfl, ?_⟩) (by assumption) ?_
      rotate_left
      · (intro w hSw; (try dsimp only at hSw); go_simp; try (with_reducible rfl))
      try simp only [List.getElem_toArray, List.getElem_cons_zero, List.getElem_cons_succ, Act.put, List.setIfInBounds_toArray, List.set_cons_zero, List.set_cons_succ]
      refine PrintLast.wpAnyLast_take (i := 8) (v := ?_) rfl (by kernel_rfl) (by kernel_rfl) (by kernel_rfl) (by kernel_rfl) (by kernel_rfl) (fun _ _ _ h => h) (Or.inl ⟨by kernel_rfl, ?_⟩) (by assumption) ?_
      rotate_left
      · (intro w hSw; (try dsimp only at hSw); go_simp; try (with_reducible rfl))
      try simp only [List.getElem_toArray, List.getElem_cons_zero, List.getElem_cons_succ, Act.put, List.setIfInBounds_toArray, List.set_cons_zero, List.set_cons_succ]
      refine PrintLast.wpAnyLast_take (i := 9) (v := ?_) rfl (by kernel_rfl) (by kernel_rfl) (by kernel_rfl) (by kernel_rfl) (by kernel_rfl) (fun _ _ _ h => h) (Or.inl ⟨by kernel_rfl, ?_⟩) (by assumption) ?_
      rotate_left
      · (intro w hSw; (try dsimp only at hSw); go_simp; try (with_reducible rfl))
      try simp only [List.getElem_toArray, List.getElem_cons_zero, List.getElem_cons_succ, Act.put, List.setIfInBounds_toArray, List.set_cons_zero, List.set_cons_succ]
      refine PrintLast.wpAnyLast_take (i := 10) (v := ?_) rfl (by kernel_rfl) (by kernel_rfl) (by kernel_rfl) (by kernel_rfl) (by kernel_rfl) (fun _ _ _ h => h) (Or.inl ⟨by kernel_rfl, ?_⟩) (by assumption) ?_
      rotate_left
      · (intro w hSw; (try dsimp only at hSw); go_simp; try (with_reducible rfl))
      try simp only [List.getElem_toArray, List.getElem_cons_zero, List.getElem_cons_succ, Act.put, List.setIfInBounds_toArray, List.set_cons_zero, List.set_cons_succ]
      refine PrintLast.wpAnyLast_take (i := 11) (v := ?_) rfl (by kernel_rfl) (by kernel_rfl) (by kernel_rfl) (by kernel_rfl) (by kernel_rfl) (fun _ _ _ h => h) (Or.inl ⟨by kernel_rfl, ?_⟩) (by assumption) ?_
      rotate_left
      · (intro w hSw; (try dsimp only at hSw); go_simp; try (with_reducible rfl))
      try simp only [List.getElem_toArray, List.getElem_cons_zero, List.getElem_cons_succ, Act.put, List.setIfInBounds_toArray, List.set_cons_zero, List.set_cons_succ]
      refine PrintLast.wpAnyLast_take (i := 12) (v := ?_) rfl (by kernel_rfl) (by kernel_rfl) (by kernel_rfl) (by kernel_rfl) (by kernel_rfl) (fun _ _ _ h => h) (Or.inl ⟨by kernel_rfl, ?_⟩) (by assumption) ?_
      rotate_left
      · (intro w hSw; (try dsimp only at hSw); go_simp; try (with_reducible rfl))
      try simp only [List.getElem_toArray, List.getElem_cons_zero, List.getElem_cons_succ, Act.put, List.setIfInBounds_toArray, List.set_cons_zero, List.set_cons_succ]
      refine PrintLast.wpAnyLast_take (i := 13) (v := ?_) rfl (by kernel_rfl) (by kernel_rfl) (by kernel_rfl) (by kernel_rfl) (by kernel_rfl) (fun _ _ _ h => h) (Or.inl ⟨by kernel_rfl, ?_⟩) (by assumption) ?_
      rotate_left
      · (intro w hSw; (try dsimp only at hSw); go_simp; try (with_reducible rfl))
      try simp only [List.getElem_toArray, List.getElem_cons_zero, List.getElem_cons_succ, Act.put, List.setIfInBounds_toArray, List.set_cons_zero, List.set_cons_succ]
      refine PrintLast.wpAnyLast_take (i := 14) (v := ?_) rfl (by kernel_rfl) (by kernel_rfl) (by kernel_rfl) (by kernel_rfl) (by kernel_rfl) (fun _ _ _ h => h) (Or.inl ⟨by kernel_rfl, ?_⟩) (by assumption) ?_
      rotate_left
      · (intro w hSw; (try dsimp only at hSw); go_simp; try (with_reducible rfl))
      try simp only [List.getElem_toArray, List.getElem_cons_zero, List.getElem_cons_succ, Act.put, List.setIfInBounds_toArray, List.set_cons_zero, List.set_cons_succ]
      try simp only [hex_val]
      have HK := Lib.hid hHeld
      clear hHeld
      refine PrintLast.wpAnyLast_ready (rs := [15]) (by kernel_rfl) (by simp) ?_
      refine PrintLast.AllReadyL.cons rfl (by decide) (fun K hK => ?_) PrintLast.AllReadyL.nil
      rw [if_pos (by kernel_rfl)]
      go_simp
      try simp only [List.foldl_cons, List.foldl_nil, List.setIfInBounds_toArray, List.set_cons_zero, List.set_cons_succ, Nat.reduceAdd]
      refine hK.out _ _ ?_ (fun hHeld => ?_)
      · exact (cell_later' (bel_alloc (Below.refl wr.heap.size wr) _) r0 : _)
      clear hK K
      try simp only [List.getElem_toArray, List.getElem_cons_zero, List.getElem_cons_succ, Act.put, List.setIfInBounds_toArray, List.set_cons_zero, List.set_cons_succ]
      clear HK hHeld
      have hblk : Below wr.heap.size wr (wr.alloc (.cells #[.int .u8 ((hexAt q).toNat : Int), .int .u8 ((hexAt r).toNat : Int)] 5)).drew := bel_drew (bel_alloc (Below.refl _ _) _)
      have hnew : ∀ j u, [Value.int .u8 ((hexAt q).toNat : Int), .int .u8 ((hexAt r).toNat : Int)][j]? = some u → (wr.alloc (.cells #[.int .u8 ((hexAt q).toNat : Int), .int .u8 ((hexAt r).toNat : Int)] 5)).drew.cell? ((⟨wr.heap.size, 0, none⟩ : Addr).add j) = some u := fun j u hj => by
        rw [Addr.add_lit, Lib.cell_of_heap (w := (wr.alloc (.cells #[.int .u8 ((hexAt q).toNat : Int), .int .u8 ((hexAt r).toNat : Int)] 5)).drew) (heap_alloc_new wr _)]
        simpa using hj
      have hown := own_laterB HO.out hblk
      have s1 : k * 2 + 2 ≤ maxLen := by have := HL.out; simp only [maxLen]; omega
      have s2 : (k * 2 + 2) * 1 ≤ 140737488355328 := by have := HL.out; omega
      have s3 := Nat.le_trans HB.out.size hblk.size
      have HW := Lib.hid hblk; have HN := Lib.hid hnew; have HO2 := Lib.hid hown; have S1 := Lib.hid s1; have S2 := Lib.hid s2; have S3 := Lib.hid s3
      clear hblk hnew hown s1 s2 s3
      generalize (wr.alloc (.cells #[.int .u8 ((hexAt q).toNat : Int), .int .u8 ((hexAt r).toNat : Int)] 5)).drew = U at *
      refine PrintLast.wpAnyLast_ready (rs := [16]) (by kernel_rfl) (by simp) ?_
      refine PrintLast.AllReadyL.cons_last rfl (by decide) (fun K hK => ?_) PrintLast.AllReadyL.nil
      refine step_append_own rfl _ _ 22 rfl w.heap.size 5 i0 (.int .u8 0) 1 1 Tryz.underlying22 hi hz0 hz1 hz2 rfl (by decide) _ _ _ rfl HO2.out ⟨wr.heap.size, 0, none⟩ 2 2 _ rfl rfl HN.out (by intro u hu; simp at hu; rcases hu with rfl | rfl <;> rfl) S1.out S2.out S3.out ?_
      intro v6 w6 ho6 hg6 _
      refine hK.out _ _ ?_
      clear hK K
      try simp only [List.getElem_toArray, List.getElem_cons_zero, List.getElem_cons_succ, Act.put, List.setIfInBounds_toArray, List.set_cons_zero, List.set_cons_succ]
      have hb6 : Below w.heap.size w w6 := bel_grown (bel_trans HB.out HW.out) hg6 (fun j hj => (HO2.out.lt j hj).1)
      rw [← HST.out] at ho6
      obtain ⟨A6, c6, rfl⟩ := own_sliceB ho6
      have HO6 := Lib.hid ho6; have HB6 := Lib.hid hb6
      clear ho6 hg6 hb6
      refine PrintLast.wpAnyLast_any (i := 17) (v := ?_) rfl (Region.noSelect_spec (by kernel_rfl)) (fun _ _ _ h => h) _ _ _ _ (Region.free_spec rfl (by kernel_rfl)) (List.contains_iff_mem.1 (by kernel_rfl)) (Or.inl ⟨by kernel_rfl, ?_⟩) ?_
      rotate_left
      · (intro w; go_simp; try (with_reducible rfl))
      try simp only [List.getElem_toArray, List.getElem_cons_zero, List.getElem_cons_succ, Act.put, List.setIfInBounds_toArray, List.set_cons_zero, List.set_cons_succ]
      refine PrintLast.wpAnyLast_done (by kernel_rfl) ?_ _
      go_wp2_with fail
      go_roundg (n - (k + 1))
      case measure => omega
      case rel =>
        refine ⟨k + 1, by omega, by omega, congrArg (Value.int .i64) (by have := HL.out; unfold wrap64; omega), HB6.out, ?_⟩
        have := HO6.out
        rw [show k * 2 + 2 = (k + 1) * 2 by omega] at this
        show World.ownsRow _ _ _ _ _ _ _
        rw [show (k + 1) * 2 = k * 2 + 2 by omega]
        exact HO6.out
    · have hltz : ¬ ((k : Int) < (n : Int)) := by omega
      have ho := HO.out
      have hkl : k * 2 = (hexL l).length := by rw [hexL_len, Hn.out]; omega
      rw [List.take_of_length_le (by have := Hn.out; omega), hkl] at ho
      have hcv := (own_bsl ho).conv
      rw [← hkl] at hcv
      have HBB := Lib.hid HB.out
      clear ho hkl HO HB HC
      go_wp2_with fail
      go_ret
      exact ⟨rfl, HBB.out⟩
/-! Quote -/
theorem str_cat {P : Program} (a b : List UInt8) (W : World) (h : a.length + b.length ≤ 9223372036854775807) : (Op.stringOp .add (⟨a.toArray⟩ : ByteArray) ⟨b.toArray⟩).run P W = .ok (.string ⟨(a ++ b).toArray⟩) W := by
  have := run_string_add_sum (P := P) W (⟨a.toArray⟩ : ByteArray) ⟨b.toArray⟩ (by simpa [ByteArray.size] using h)
  have e : (⟨a.toArray⟩ : ByteArray) ++ ⟨b.toArray⟩ = ⟨(a ++ b).toArray⟩ := by
    apply ByteArray.ext
    simp [ByteArray.data_append]
  rwa [e] at this
def qOut (s : ByteArray) (k : Nat) : List UInt8 := 34 :: (s.data.toList.take k).flatMap qByte
theorem byteAt_get {s : ByteArray} {k : Nat} (h : k < s.size) : s.data.toList[k]? = some (byteAt s k) := by
  have hl : k < s.data.toList.length := by rw [Array.length_toList]; exact h
  unfold byteAt
  rw [List.getD_eq_getElem?_getD, List.getElem?_eq_getElem hl]
  rfl
theorem qOut_snoc {s : ByteArray} {k : Nat} (h : k < s.size) : qOut s (k + 1) = qOut s k ++ qByte (byteAt s k) := by
  unfold qOut
  rw [take_snoc (byteAt_get h), List.flatMap_append]
  simp
theorem qByte_len (c : UInt8) : (qByte c).length ≤ 6 := by
  unfold qByte
  split
  · simp
  · split <;> simp
theorem qOut_len (s : ByteArray) : ∀ k, k ≤ s.size → (qOut s k).length ≤ 1 + 6 * k
  | 0, _ => by simp [qOut]
  | k + 1, h => by
    rw [qOut_snoc (by omega), List.length_append]
    have := qOut_len s k (by omega)
    have := qByte_len (byteAt s k)
    omega
theorem qOut_end {s : ByteArray} (hv : validB s = true) : quoteB s = qOut s s.size ++ [34] := by
  rw [quote_bytes hv]
  unfold qOut
  rw [List.take_of_length_le (by rw [Array.length_toList]; exact Nat.le_refl _)]
  rfl
set_option maxRecDepth 100000 in
set_option maxHeartbeats 8000000 in
theorem quote_ref_good (s : ByteArray) (hv : validB s = true) (hs : s.size ≤ 1000000) (w : World) : Calls Tryz.prog 63 #[.string s] w fun e w' => e = .returned (.tuple #[.string ⟨(quoteB s).toArray⟩, .int .i64 0]) ∧ Below w.heap.size w w' := by
  obtain ⟨i0, hi, hz0, hz1, hz2⟩ := info_parts u8Info
  have hc := valid_ref s (by omega) w
  rw [hv] at hc
  have hq := qOut_end hv
  have HC := Lib.hid hc; have HQ := Lib.hid hq
  clear hc hv hq
  have hb0 : Below w.heap.size w (w.alloc (.cells #[.int .u8 34] 5)) := bel_alloc (Below.refl _ _) _
  have ho0 : (w.alloc (.cells #[.int .u8 34] 5)).ownsRow w.heap.size 5 1 (.slice (some ⟨w.heap.size, 0, none⟩) 1 1) (qOut s 0).length (Lib.byteCells (qOut s 0)) :=
    ⟨by simp [qOut, Lib.byteCells], .inr ⟨w.heap.size, 1, #[.int .u8 34], rfl, Nat.le_refl _, heap_alloc_new w _, Nat.le_refl _, by decide, rfl, by simp [qOut, Lib.byteCells]⟩⟩
  have HB0 := Lib.hid hb0; have HO0 := Lib.hid ho0
  clear hb0 ho0
  go_enter Tryz.func63, Tryz.ntmps63
  go_wp2_with fail
  refine Calls.mono HC.out ?_
  rintro e w1 ⟨rfl, rfl⟩
  go_upto_region 4 with (fail)
  go_wp2_with fail
  go_loopg [4, 5] s.size (fun gg s4 s5 wr => ∃ (k ln : Nat), k ≤ s.size ∧ s.size - k ≤ gg ∧ s5 = .int .i64 (k : Int) ∧ (∃ A c, s4 = .slice A ln c ∧ (qOut s k).length = ln ∧ Below w1.heap.size w1 wr ∧ wr.ownsRow w1.heap.size 5 1 s4 ln (Lib.byteCells (qOut s k))))
  case atStart => exact ⟨0, 1, by omega, by omega, rfl, _, _, rfl, rfl, HB0.out, HO0.out⟩
  case round =>
    obtain ⟨k, ln0, hk, hgg, rfl, A4, c4, rfl, hln, HBr, HOr⟩ := hrel
    have hlb : ln0 ≤ 6000001 := by have := qOut_len s k hk; omega
    have HBW := Lib.hid HBr; have HOW := Lib.hid HOr; have HLN := Lib.hid hlb
    clear HBr HOr hlb
    by_cases hlt : k < s.size
    · have hltz : (k : Int) < (s.size : Int) := by omega
      have hq0 : (0 : Int) ≤ (k : Int) := by omega
      have hgb := get_byte hlt
      have hst := qOut_snoc hlt
      have hbb := (byteAt s k).toNat_lt
      have hsr := fun W => short_ref (byteAt s k) W
      have HSR := Lib.hid hsr
      clear hsr
      generalize hB : byteAt s k = B at *
      by_cases hsh : shortR B = 0
      case neg =>
        have e1 : (((shortR B).toNat : Int) != 0) = true := by
          have h1 : (shortR B).toNat ≠ 0 := fun e => hsh (UInt8.toNat_inj.1 e)
          simp; omega
        have hqb : qByte B = [92, shortR B] := by unfold qByte; rw [if_pos hsh]
        have hst2 : (qOut s (k + 1)).length = ln0 + 2 ∧ Lib.byteCells (qOut s (k + 1)) = Lib.byteCells (qOut s k) ++ [.int .u8 92, .int .u8 ((shortR B).toNat : Int)] := by
          rw [hst, hqb, List.length_append, hln]
          exact ⟨rfl, by simp [Lib.byteCells]⟩
        have HST := Lib.hid hst2
        clear hst hst2 hqb hsh hbb
        have hsrc : ∀ j u, [Value.int .u8 92, .int .u8 ((shortR B).toNat : Int)][j]? = some u → (wr.alloc (.cells #[.int .u8 92, .int .u8 ((shortR B).toNat : Int)] 5)).cell? ((⟨wr.heap.size, 0, none⟩ : Addr).add j) = some u := fun j u hj => by
          rw [Addr.add_lit, Lib.cell_of_heap (heap_alloc_new wr _)]
          simpa using hj
        have hbA : Below w1.heap.size w1 (wr.alloc (.cells #[.int .u8 92, .int .u8 ((shortR B).toNat : Int)] 5)) := bel_alloc HBW.out _
        have hown := own_laterB HOW.out (bel_alloc (Below.refl wr.heap.size wr) (.cells #[.int .u8 92, .int .u8 ((shortR B).toNat : Int)] 5))
        have s1 : ln0 + 2 ≤ maxLen := by have := HLN.out; simp only [maxLen]; omega
        have s2 : (ln0 + 2) * 1 ≤ 140737488355328 := by have := HLN.out; omega
        have SR := Lib.hid hsrc; have OA := Lib.hid hown; have S1 := Lib.hid s1; have S2 := Lib.hid s2; have S3 := Lib.hid hbA.size; have HBA := Lib.hid hbA
        clear hsrc hbA hown s1 s2
        generalize shortR B = sb at *
        go_wp2_with fail
        refine Calls.mono (HSR.out _) ?_
        rintro e w2 ⟨rfl, hw⟩
        replace hw := hw.symm
        subst hw
        go_wp2_with fail
        refine Calls.mono (HSR.out _) ?_
        rintro e w2 ⟨rfl, hw⟩
        replace hw := hw.symm
        subst hw
        go_wp2_with (at_builtin; refine wpList_append_ownB rfl _ _ 22 rfl w1.heap.size 5 i0 (.int .u8 0) 1 1 Tryz.underlying22 hi hz0 hz1 hz2 rfl (by decide) _ _ _ rfl OA.out ⟨wr.heap.size, 0, none⟩ 2 2 [.int .u8 92, .int .u8 (sb.toNat : Int)] rfl rfl SR.out (by intro u hu; simp at hu; rcases hu with rfl | rfl <;> rfl) S1.out S2.out S3.out ?_)
        intro v6 w6 ho6 hg6 _
        have hb6 : Below w1.heap.size w1 w6 := bel_grown HBA.out hg6 (fun j hj => (OA.out.lt j hj).1)
        have ho7 : w6.ownsRow w1.heap.size 5 1 v6 (qOut s (k + 1)).length (Lib.byteCells (qOut s (k + 1))) := by
          rw [HST.out.1, HST.out.2]
          exact ho6
        obtain ⟨A6, c6, rfl⟩ := own_sliceB ho7
        have HO7 := Lib.hid ho7; have HB6 := Lib.hid hb6
        clear ho6 ho7 hg6 hb6
        generalize hln2 : (qOut s (k + 1)).length = ln at *
        go_wp2_with fail
        go_roundg (s.size - (k + 1))
        case measure => omega
        case rel => exact ⟨k + 1, ln, by omega, by omega, congrArg (Value.int .i64) (by first | (unfold wrap64; omega) | omega), _, _, rfl, hln2, HB6.out, HO7.out⟩
      case pos =>
        have e1 : (((shortR B).toNat : Int) != 0) = false := by rw [hsh]; rfl
        by_cases h32 : B < 32
        case neg =>
          have h32n : ¬ B.toNat < 32 := fun h => h32 (UInt8.lt_iff_toNat_lt.2 h)
          have e2 : decide ((B.toNat : Int) < 32) = false := decide_eq_false (by omega)
          have hqb : qByte B = [B] := by unfold qByte; rw [hsh, if_neg (by decide), if_neg h32]
          have hst2 : (qOut s (k + 1)).length = ln0 + 1 ∧ Lib.byteCells (qOut s (k + 1)) = Lib.byteCells (qOut s k) ++ [.int .u8 (B.toNat : Int)] := by
            rw [hst, hqb, List.length_append, hln]
            exact ⟨rfl, by simp [Lib.byteCells]⟩
          have HST := Lib.hid hst2
          clear hst hst2 hqb hsh hbb h32 h32n
          have hsrc : ∀ j u, [Value.int .u8 (B.toNat : Int)][j]? = some u → (wr.alloc (.cells #[.int .u8 (B.toNat : Int)] 5)).cell? ((⟨wr.heap.size, 0, none⟩ : Addr).add j) = some u := fun j u hj => by
            rw [Addr.add_lit, Lib.cell_of_heap (heap_alloc_new wr _)]
            simpa using hj
          have hbA : Below w1.heap.size w1 (wr.alloc (.cells #[.int .u8 (B.toNat : Int)] 5)) := bel_alloc HBW.out _
          have hown := own_laterB HOW.out (bel_alloc (Below.refl wr.heap.size wr) (.cells #[.int .u8 (B.toNat : Int)] 5))
          have s1 : ln0 + 1 ≤ maxLen := by have := HLN.out; simp only [maxLen]; omega
          have s2 : (ln0 + 1) * 1 ≤ 140737488355328 := by have := HLN.out; omega
          have SR := Lib.hid hsrc; have OA := Lib.hid hown; have S1 := Lib.hid s1; have S2 := Lib.hid s2; have S3 := Lib.hid hbA.size; have HBA := Lib.hid hbA
          clear hsrc hbA hown s1 s2
          go_wp2_with fail
          refine Calls.mono (HSR.out _) ?_
          rintro e w2 ⟨rfl, hw⟩
          replace hw := hw.symm
          subst hw
          go_wp2_with (at_builtin; refine wpList_append_ownB rfl _ _ 22 rfl w1.heap.size 5 i0 (.int .u8 0) 1 1 Tryz.underlying22 hi hz0 hz1 hz2 rfl (by decide) _ _ _ rfl OA.out ⟨wr.heap.size, 0, none⟩ 1 1 [.int .u8 (B.toNat : Int)] rfl rfl SR.out (by intro u hu; simp at hu; rw [hu]; rfl) S1.out S2.out S3.out ?_)
          intro v6 w6 ho6 hg6 _
          have hb6 : Below w1.heap.size w1 w6 := bel_grown HBA.out hg6 (fun j hj => (OA.out.lt j hj).1)
          have ho7 : w6.ownsRow w1.heap.size 5 1 v6 (qOut s (k + 1)).length (Lib.byteCells (qOut s (k + 1))) := by
            rw [HST.out.1, HST.out.2]
            exact ho6
          obtain ⟨A6, c6, rfl⟩ := own_sliceB ho7
          have HO7 := Lib.hid ho7; have HB6 := Lib.hid hb6
          clear ho6 ho7 hg6 hb6
          generalize hln2 : (qOut s (k + 1)).length = ln at *
          go_wp2_with fail
          go_roundg (s.size - (k + 1))
          case measure => omega
          case rel => exact ⟨k + 1, ln, by omega, by omega, congrArg (Value.int .i64) (by first | (unfold wrap64; omega) | omega), _, _, rfl, hln2, HB6.out, HO7.out⟩
        case pos =>
          have h32n : B.toNat < 32 := UInt8.lt_iff_toNat_lt.1 h32
          have e2 : decide ((B.toNat : Int) < 32) = true := decide_eq_true (by omega)
          have hqb : qByte B = [92, 117, 48, 48] ++ hexL [B] := by unfold qByte; rw [hsh, if_neg (by decide), if_pos h32]; rfl
          have hxl : ([92, 117, 48, 48] ++ hexL [B]).length = 6 := rfl
          have hst2 : (qOut s (k + 1)).length = ln0 + 6 ∧ Lib.byteCells (qOut s (k + 1)) = Lib.byteCells (qOut s k) ++ Lib.byteCells ([92, 117, 48, 48] ++ hexL [B]) := by
            rw [hst, hqb, List.length_append, hln]
            exact ⟨by rw [hxl], by simp [Lib.byteCells]⟩
          have hsum := fun W : World => str_cat (P := Tryz.prog) [92, 117, 48, 48] (hexL [B]) W (by rw [← List.length_append, hxl]; decide)
          have hbA : Below w1.heap.size w1 (wr.alloc (.cells #[.int .u8 (B.toNat : Int)] 5)) := bel_alloc HBW.out _
          have hbs : BSl (wr.alloc (.cells #[.int .u8 (B.toNat : Int)] 5)) (fun _ => True) (.slice (some ⟨wr.heap.size, 0, none⟩) 1 1) ⟨[B].toArray⟩ := .inl ⟨wr.heap.size, 0, 1, rfl, trivial, fun i hi => by
            obtain rfl : i = 0 := by rw [list_size] at hi; simpa using hi
            rw [Lib.cell_of_heap (heap_alloc_new wr _)]; rfl⟩
          have hhx := hex_ref _ [B] _ _ hbs (by simp)
          have how := own_laterB HOW.out (bel_alloc (Below.refl wr.heap.size wr) (.cells #[.int .u8 (B.toNat : Int)] 5))
          have HST := Lib.hid hst2; have HHX := Lib.hid hhx; have HBA := Lib.hid hbA; have OA := Lib.hid how; have HXL := Lib.hid hxl
          clear hst hst2 hqb hsh hbb h32 h32n hhx hbs hbA how
          generalize [92, 117, 48, 48] ++ hexL [B] = X at *
          generalize hexL [B] = X2 at *
          go_wp2_with fail
          refine Calls.mono (HSR.out _) ?_
          rintro e w2 ⟨rfl, hw⟩
          replace hw := hw.symm
          subst hw
          go_wp2_with fail
          refine Calls.mono HHX.out ?_
          rintro e w5 ⟨rfl, hb5⟩
          have hbw5 := bel_trans HBA.out hb5
          have how5 := own_laterB OA.out hb5
          obtain ⟨v6, w6, hrun, ho6, hg6, _⟩ := run_append_own_string (P := Tryz.prog) w5 w1.heap.size 22 9 22 5 i0 Tryz.underlying22 Tryz.underlying9 hi hz0 hz1 hz2 _ _ _ how5 ⟨X.toArray⟩ (by rw [list_size, HXL.out]; have := HLN.out; simp only [maxLen]; omega) (by rw [list_size, HXL.out]; have := HLN.out; omega) hbw5.size
          have hb6 : Below w1.heap.size w1 w6 := bel_grown hbw5 hg6 (fun j hj => (how5.lt j hj).1)
          have ho7 : w6.ownsRow w1.heap.size 5 1 v6 (qOut s (k + 1)).length (Lib.byteCells (qOut s (k + 1))) := by
            rw [HST.out.1, HST.out.2]
            rw [list_size, HXL.out, strCells_toArray] at ho6
            exact ho6
          have HRUN := Lib.hid hrun; have HO7 := Lib.hid ho7; have HB6 := Lib.hid hb6
          clear hrun ho6 ho7 hg6 hb6 how5 hbw5 hb5
          obtain ⟨A6, c6, rfl⟩ := own_sliceB HO7.out
          generalize hln2 : (qOut s (k + 1)).length = ln at *
          go_wp2_with (at_builtin; refine wpList_append_runN rfl _ _ 22 9 rfl _ _ _ _ rfl rfl HRUN.out ?_)
          go_wp2_with fail
          go_roundg (s.size - (k + 1))
          case measure => omega
          case rel => exact ⟨k + 1, ln, by omega, by omega, congrArg (Value.int .i64) (by first | (unfold wrap64; omega) | omega), _, _, rfl, hln2, HB6.out, HO7.out⟩
    · have hltz : ¬ (k : Int) < (s.size : Int) := by omega
      obtain rfl : k = s.size := by omega
      have hst2 : (quoteB s).length = ln0 + 1 ∧ Lib.byteCells (quoteB s) = Lib.byteCells (qOut s s.size) ++ [.int .u8 34] := by
        rw [HQ.out, List.length_append, hln]
        exact ⟨rfl, by simp [Lib.byteCells]⟩
      have HST := Lib.hid hst2
      clear hst2
      have hsrc : ∀ j u, [Value.int .u8 34][j]? = some u → (wr.alloc (.cells #[.int .u8 34] 5)).cell? ((⟨wr.heap.size, 0, none⟩ : Addr).add j) = some u := fun j u hj => by
        rw [Addr.add_lit, Lib.cell_of_heap (heap_alloc_new wr _)]
        simpa using hj
      have hbA : Below w1.heap.size w1 (wr.alloc (.cells #[.int .u8 34] 5)) := bel_alloc HBW.out _
      have hown := own_laterB HOW.out (bel_alloc (Below.refl wr.heap.size wr) (.cells #[.int .u8 34] 5))
      have s1 : ln0 + 1 ≤ maxLen := by have := HLN.out; simp only [maxLen]; omega
      have s2 : (ln0 + 1) * 1 ≤ 140737488355328 := by have := HLN.out; omega
      have SR := Lib.hid hsrc; have OA := Lib.hid hown; have S1 := Lib.hid s1; have S2 := Lib.hid s2; have S3 := Lib.hid hbA.size; have HBA := Lib.hid hbA
      clear hsrc hbA hown s1 s2
      go_wp2_with (at_builtin; refine wpList_append_ownB rfl _ _ 22 rfl w1.heap.size 5 i0 (.int .u8 0) 1 1 Tryz.underlying22 hi hz0 hz1 hz2 rfl (by decide) _ _ _ rfl OA.out ⟨wr.heap.size, 0, none⟩ 1 1 [.int .u8 34] rfl rfl SR.out (by intro u hu; simp at hu; rw [hu]; rfl) S1.out S2.out S3.out ?_)
      intro v6 w6 ho6 hg6 _
      have hb6 : Below w1.heap.size w1 w6 := bel_grown HBA.out hg6 (fun j hj => (OA.out.lt j hj).1)
      have ho7 : w6.ownsRow w1.heap.size 5 1 v6 (quoteB s).length (Lib.byteCells (quoteB s)) := by
        rw [HST.out.1, HST.out.2]
        exact ho6
      have hcv := (own_bsl ho7).conv
      have HB6 := Lib.hid hb6
      clear ho6 hg6 hb6
      obtain ⟨A6, c6, rfl⟩ := own_sliceB ho7
      clear ho7
      generalize (quoteB s).length = ln at *
      go_wp2_with fail
      go_ret2
      exact ⟨rfl, HB6.out⟩
end Go.Proofs.YtjjgbgojlhaapaaGreatDoor
namespace Go.Proofs.YtjjgbgojlhaapaaGreatDoor
open Go.RowKit Go.Lib

theorem one_k {x : JV} (h : oneB x = true) : 1 ≤ x.k ∧ x.k ≤ 7 := by
  have : badK x = false := by
    cases hb : badK x with
    | false => rfl
    | true => simp [oneB, hb] at h
  simp only [badK, Bool.or_eq_false_iff, decide_eq_false_iff_not] at this
  omega
theorem one_range {x : JV} (h : oneB x = true) : -9007199254740991 ≤ x.n ∧ x.n ≤ 9007199254740991 ∧ validB x.s = true ∧ x.s.size ≤ 8000 := by
  have : rangeB x = true := by
    cases hb : rangeB x with
    | true => rfl
    | false => simp [oneB, hb] at h
  simp only [rangeB, shortB, Bool.and_eq_true, decide_eq_true_eq] at this
  exact ⟨this.1.1, this.1.2, this.2⟩
theorem members_short : ∀ (p : Option ByteArray) (l : List (ByteArray × JV)), membersB p l = true → ∀ q ∈ l, shortB q.1 = true
  | _, [], _, q, hq => by simp at hq
  | p, (nm, y) :: r, h, q, hq => by
    simp only [membersB, Bool.and_eq_true] at h
    rcases List.mem_cons.1 hq with rfl | hq
    · exact h.1.1
    · exact members_short (some nm) r h.2 q hq
theorem one_members {x : JV} (h : oneB x = true) : ∀ q ∈ x.m, shortB q.1 = true := by
  have : membersB none x.m = true := by
    cases hb : membersB none x.m with
    | true => rfl
    | false => simp [oneB, hb] at h
  exact members_short none x.m this

set_option maxHeartbeats 4000000 in
set_option maxRecDepth 100000 in
theorem print_at : ∀ d, PrintAt d := by
  intro d
  induction d with
  | zero => intro x cs F w0 b bs w hm; simp [mayJ] at hm
  | succ d ih =>
    intro x cs F w0 b bs w hm h hT h0 hs hlen
    obtain ⟨vl, vm, ⟨rfl, hsz⟩, hl, hmm⟩ := JR_iff.1 h
    obtain ⟨A1, c1, rfl⟩ := hl.form
    obtain ⟨A2, c2, rfl⟩ := hmm.form
    simp only [mayJ, Bool.and_eq_true] at hm
    obtain ⟨⟨hone, hml⟩, hmo⟩ := hm
    obtain ⟨hk1, hk7⟩ := one_k hone
    obtain ⟨hn1, hn2, hv, hs8⟩ := one_range hone
    have hns := one_members hone
    have hlist := fun (W : World) (hW : Below w0.heap.size w0 W) (hS : Sb w0.heap.size b bs W) (hL : bs.length + (91 :: (joinFrom (printB d) true x.l ++ [93])).length ≤ 140737488355328) => list_any d ih x.l _ F w0 b bs W hml hl hT hW hS hL
    have hobj := fun (W : World) (hW : Below w0.heap.size w0 W) (hS : Sb w0.heap.size b bs W) (hL : bs.length + (123 :: (joinFrom (fun p => quoteB p.1 ++ 58 :: printB d p.2) true x.m ++ [125])).length ≤ 140737488355328) => object_any d ih x.m _ F w0 b bs W hmo hns hmm hT hW hS hL
    have hbA : Below w.heap.size w (w.alloc (.cells #[.int .i64 x.k, .int .i64 x.n, .string x.s, .slice A1 x.l.length c1, .slice A2 x.m.length c2] 28)) := bel_alloc (Below.refl _ _) _
    have hpa := post_of_below hs h0.size hbA
    have HPA := Lib.hid hpa; have HL := Lib.hid hlist; have HO := Lib.hid hobj; have HLen := Lib.hid hlen; have HT := Lib.hid hT; have H0 := Lib.hid h0; have HV := Lib.hid hv
    have HA := Lib.hid (H0.out.trans hpa.2.1)
    have hz : w.heap.size < (w.alloc (.cells #[.int .i64 x.k, .int .i64 x.n, .string x.s, .slice A1 x.l.length c1, .slice A2 x.m.length c2] 28)).heap.size := World.block_lt_of_cell? _ ⟨w.heap.size, 0, none⟩ (cell_newB w _ _ 0 _ rfl)
    clear h hl hmm hone hml hmo hns hlist hobj hbA hpa hlen hT h0 hs hv hz ih
    have hor : x.k = 1 ∨ x.k = 2 ∨ x.k = 3 ∨ x.k = 4 ∨ x.k = 5 ∨ x.k = 6 ∨ x.k = 7 := by omega
    have HP := Lib.hid (show printB (d + 1) x = _ from printB.eq_2 x d)
    generalize hP : printB (d + 1) x = P at *
    clear hP
    generalize x.k = kk at *
    go_enter Tryz.func33, Tryz.ntmps33
    rcases hor with rfl | rfl | rfl | rfl | rfl | rfl | rfl
    · have hp' : P = [110, 117, 108, 108] := by rw [HP.out]; simp
      have HPP := Lib.hid hp'
      clear hk1 hk7 hp'
      go_wp2_with fail
      refine Calls.mono (writeString_any w0.heap.size b bs _ _ HPA.out.1 (by have := HLen.out; rw [HPP.out] at this; simpa [ByteArray.size] using this) HA.out.size) ?_
      rintro e w2 ⟨rfl, hp⟩
      go_wp2_with fail
      go_end0
      exact ⟨rfl, by rw [HPP.out]; exact post_trans HPA.out hp⟩
    · have hp' : P = [102, 97, 108, 115, 101] := by rw [HP.out]; simp
      have HPP := Lib.hid hp'
      clear hk1 hk7 hp'
      go_wp2_with fail
      refine Calls.mono (writeString_any w0.heap.size b bs _ _ HPA.out.1 (by have := HLen.out; rw [HPP.out] at this; simpa [ByteArray.size] using this) HA.out.size) ?_
      rintro e w2 ⟨rfl, hp⟩
      go_wp2_with fail
      go_end0
      exact ⟨rfl, by rw [HPP.out]; exact post_trans HPA.out hp⟩
    · have hp' : P = [116, 114, 117, 101] := by rw [HP.out]; simp
      have HPP := Lib.hid hp'
      clear hk1 hk7 hp'
      go_wp2_with fail
      refine Calls.mono (writeString_any w0.heap.size b bs _ _ HPA.out.1 (by have := HLen.out; rw [HPP.out] at this; simpa [ByteArray.size] using this) HA.out.size) ?_
      rintro e w2 ⟨rfl, hp⟩
      go_wp2_with fail
      go_end0
      exact ⟨rfl, by rw [HPP.out]; exact post_trans HPA.out hp⟩
    · have hp' : P = Lib.itoa x.n := by rw [HP.out]; simp
      have HPP := Lib.hid hp'
      clear hk1 hk7 hp'
      have hit := Tryz.strconv_Itoa x.n (by omega) (by omega) _ (HT.out.below HA.out).pow
      have HI := Lib.hid hit
      clear hit
      go_wp2_with fail
      refine Calls.mono HI.out ?_
      rintro e w2 ⟨rfl, k, os, hw2⟩
      have hbg := Lib.below_grow _ (w.alloc (.cells #[.int .i64 4, .int .i64 x.n, .string x.s, .slice A1 x.l.length c1, .slice A2 x.m.length c2] 28)) (Nat.le_refl _) k os
      rw [← hw2] at hbg
      have hpg := post_trans HPA.out (post_of_below HPA.out.1 HA.out.size hbg)
      have HPG := Lib.hid hpg
      clear hpg hbg hw2
      go_wp2_with fail
      refine Calls.mono (writeString_any w0.heap.size b bs _ _ HPG.out.1 (by have := HLen.out; rw [HPP.out] at this; simpa [ByteArray.size] using this) (H0.out.trans HPG.out.2.1).size) ?_
      rintro e w3 ⟨rfl, hp⟩
      go_wp2_with fail
      go_end0
      exact ⟨rfl, by rw [HPP.out]; exact post_trans HPG.out hp⟩
    · have hp' : P = quoteB x.s := by rw [HP.out]; simp
      have HPP := Lib.hid hp'
      clear hk1 hk7 hp'
      go_wp2_with fail
      refine Calls.mono (jquote_any w0.heap.size b bs x.s _ (by omega) (HT.out.below HA.out) HV.out HPA.out.1 (by have := HLen.out; rw [HPP.out] at this; exact this) HA.out.size) ?_
      rintro e w2 ⟨rfl, hp⟩
      go_wp2_with fail
      go_end0
      exact ⟨rfl, by rw [HPP.out]; exact post_trans HPA.out hp⟩
    · have hp' : P = 91 :: (joinFrom (printB d) true x.l ++ [93]) := by rw [HP.out]; simp
      have HPP := Lib.hid hp'
      clear hk1 hk7 hp'
      go_wp2_with fail
      refine Calls.mono (HL.out _ HA.out HPA.out.1 (by have := HLen.out; rw [HPP.out] at this; exact this)) ?_
      rintro e w2 ⟨rfl, hp⟩
      go_wp2_with fail
      go_end0
      exact ⟨rfl, by rw [HPP.out]; exact post_trans HPA.out hp⟩
    · have hp' : P = 123 :: (joinFrom (fun p => quoteB p.1 ++ 58 :: printB d p.2) true x.m ++ [125]) := by rw [HP.out]; simp
      have HPP := Lib.hid hp'
      clear hk1 hk7 hp'
      go_wp2_with fail
      refine Calls.mono (HO.out _ HA.out HPA.out.1 (by have := HLen.out; rw [HPP.out] at this; exact this)) ?_
      rintro e w2 ⟨rfl, hp⟩
      go_wp2_with fail
      go_end0
      exact ⟨rfl, by rw [HPP.out]; exact post_trans HPA.out hp⟩
end Go.Proofs.YtjjgbgojlhaapaaGreatDoor
