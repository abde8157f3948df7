/- Parts of the proof: Dc. -/
import Derived.Test.YtjjgbgojlhaapaaGreatDoorZJwr8
import Derived.Test.YtjjgbgojlhaapaaGreatDoorZJwr4
import Derived.Lib.SlBytesRow
namespace Go.Proofs.YtjjgbgojlhaapaaGreatDoor
open Go.RowKit Go.Lib

theorem conv1_at {W : World} {g c n : Nat} (h : c < 256) (hc : W.cell? ⟨g, 0, none⟩ = some (.int .u8 (c : Int))) : (convert 22 9 (.slice (some ⟨g, 0, none⟩) 1 n)).run Tryz.prog W = .ok (.string ⟨#[UInt8.ofNat c]⟩) W :=
  Lib.run_convert_whole W _ 5 _ Tryz.underlying22 Tryz.underlying5 Tryz.underlying9 g 0 ⟨#[UInt8.ofNat c]⟩ (fun i hi => by
    obtain rfl : i = 0 := by simp [ByteArray.size] at hi; exact hi
    rw [Nat.zero_add, hc]
    have : (UInt8.ofNat c).toNat = c := by rw [UInt8.toNat_ofNat']; omega
    show _ = some (Value.int .u8 ((UInt8.ofNat c).toNat : Int))
    rw [this]) n
theorem conv1 (W : World) (c : Nat) (h : c < 256) : (convert 22 9 (.slice (some ⟨W.heap.size, 0, none⟩) 1 1)).run Tryz.prog (W.alloc (.cells #[.int .u8 (c : Int)] 5)) = .ok (.string ⟨#[UInt8.ofNat c]⟩) (W.alloc (.cells #[.int .u8 (c : Int)] 5)) :=
  conv1_at h (by rw [Lib.cell_of_heap (heap_alloc_new W _)]; rfl)
theorem ba1 (l : List UInt8) (c : UInt8) : (⟨l.toArray⟩ : ByteArray) ++ ⟨#[c]⟩ = ⟨(l ++ [c]).toArray⟩ := by
  apply ByteArray.ext
  simp [ByteArray.data_append]
theorem ba0 (l : List UInt8) (c : UInt8) : (⟨#[c]⟩ : ByteArray) ++ ⟨l.toArray⟩ = ⟨(c :: l).toArray⟩ := by
  apply ByteArray.ext
  simp [ByteArray.data_append]
theorem dec_small' {u : Nat} (h : u < 10) : decDigits u = [UInt8.ofNat (48 + u)] := by rw [decDigits, dif_pos h]
theorem dec_big' {u : Nat} (h : ¬ u < 10) : decDigits u = decDigits (u / 10) ++ [UInt8.ofNat (48 + u % 10)] := by rw [decDigits, dif_neg h]
theorem tdiv_nat (u : Nat) : Int.tdiv (u : Int) 10 = ((u / 10 : Nat) : Int) := by rw [Int.tdiv_eq_ediv_of_nonneg (by omega)]; omega
theorem tmod_nat (u : Nat) : Int.tmod (u : Int) 10 = ((u % 10 : Nat) : Int) := by rw [Int.tmod_eq_emod_of_nonneg (by omega)]; omega
set_option maxRecDepth 100000 in
set_option maxHeartbeats 4000000 in
theorem dec_small_any (u : Nat) (hu : u < 10) (w : World) : Calls Tryz.prog 62 #[.int .i64 (u : Int)] w fun e w' => e = .returned (.string ⟨(decDigits u).toArray⟩) ∧ Below w.heap.size w w' := by
  rw [dec_small' hu]
  have h0 : decide ((u : Int) < 0) = false := by simp
  have h1 : decide ((u : Int) < 10) = true := by simp; omega
  obtain ⟨c, hc⟩ : ∃ c, c = 48 + u := ⟨_, rfl⟩
  have h2 : wrap64 (48 + (u : Int)) = (c : Int) := by unfold wrap64; omega
  have cv := fun W : World => conv1 W c (by omega)
  have hc2 : c < 256 := by omega
  have h3 : IntKind.u8.wrap (c : Int) = (c : Int) := by unfold IntKind.wrap; simp [IntKind.bits, IntKind.signed]; omega
  rw [← hc]
  clear hc hu
  go_enter Tryz.func62, Tryz.ntmps62
  go_wp2_with fail
  go_ret
  exact ⟨rfl, bel_alloc (Below.refl _ _) _⟩
set_option maxRecDepth 100000 in
set_option maxHeartbeats 4000000 in
theorem dec_neg1_any (u : Nat) (h1 : 0 < u) (hu : u < 10) (w : World) : Calls Tryz.prog 62 #[.int .i64 (-(u : Int))] w fun e w' => e = .returned (.string ⟨(45 :: decDigits u).toArray⟩) ∧ Below w.heap.size w w' := by
  rw [dec_small' hu]
  have h0 : decide (-(u : Int) < 0) = true := by simp; omega
  have hq : (Int.tdiv (-(u : Int)) 10) = 0 := by rw [Int.neg_tdiv, tdiv_nat]; omega
  have hr : (Int.tmod (-(u : Int)) 10) = -(u : Int) := by rw [Int.neg_tmod, tmod_nat]; omega
  obtain ⟨c, hc⟩ : ∃ c, c = 48 + u := ⟨_, rfl⟩
  have h2 : wrap64 (48 + (u : Int)) = (c : Int) := by unfold wrap64; omega
  have cv := fun W : World => conv1 W c (by omega)
  have c1 := fun W : World => run_string_add_sum (P := Tryz.prog) W ⟨#[45]⟩ ⟨#[UInt8.ofNat c]⟩ (by simp [ByteArray.size])
  have hc2 : c < 256 := by omega
  have h3 : (c : Int) % 256 = (c : Int) := by omega
  rw [← hc]
  clear hc hu
  go_enter Tryz.func62, Tryz.ntmps62
  go_wp2_with fail
  go_ret
  exact ⟨rfl, bel_alloc (Below.refl _ _) _⟩
set_option maxRecDepth 100000 in
set_option maxHeartbeats 8000000 in
theorem dec_pos_step (u : Nat) (hu : ¬ u < 10) (hm : u < 9223372036854775808) (w : World) (hl : (decDigits (u / 10)).length ≤ 100)
    (ih : ∀ w, Calls Tryz.prog 62 #[.int .i64 ((u / 10 : Nat) : Int)] w fun e w' => e = .returned (.string ⟨(decDigits (u / 10)).toArray⟩) ∧ Below w.heap.size w w') :
    Calls Tryz.prog 62 #[.int .i64 (u : Int)] w fun e w' => e = .returned (.string ⟨(decDigits u).toArray⟩) ∧ Below w.heap.size w w' := by
  rw [dec_big' hu]
  have h0 : decide ((u : Int) < 0) = false := by simp
  have h1 : decide ((u : Int) < 10) = false := by simp; omega
  obtain ⟨q, hqd⟩ : ∃ q, q = u / 10 := ⟨_, rfl⟩
  have hq : wrap64 (Int.tdiv (u : Int) 10) = (q : Int) := by rw [tdiv_nat, ← hqd]; unfold wrap64; omega
  obtain ⟨c, hc⟩ : ∃ c, c = 48 + u % 10 := ⟨_, rfl⟩
  have h2 : wrap64 (48 + Int.tmod (u : Int) 10) = (c : Int) := by rw [tmod_nat]; unfold wrap64; omega
  have hc2 : c < 256 := by omega
  have hq' : IntKind.i64.wrap ((u : Int) / 10) = (q : Int) := by rw [PrintLast.i64_w]; unfold wrap64; omega
  have h2' : IntKind.i64.wrap (48 + Int.tmod (u : Int) 10) = (c : Int) := by rw [PrintLast.i64_w]; exact h2
  have h3 : (c : Int) % 256 = (c : Int) := by omega
  have h3' : IntKind.u8.wrap (c : Int) = (c : Int) := by rw [IntKind.wrap_u8]; exact h3
  rw [← hqd] at ih hl ⊢
  rw [← hc]
  generalize decDigits q = D at *
  have c1 := fun W : World => run_string_add_sum (P := Tryz.prog) W ⟨D.toArray⟩ ⟨#[UInt8.ofNat c]⟩ (by simp [ByteArray.size]; omega)
  have FIN : Ending.returned (.string (⟨D.toArray⟩ ++ ⟨#[UInt8.ofNat c]⟩)) = .returned (.string ⟨(D ++ [UInt8.ofNat c]).toArray⟩) := by rw [ba1]
  clear hc hu hqd hl hm
  go_enter Tryz.func62, Tryz.ntmps62
  go_upto_region 7 with (fail)
  refine PrintLast.wp_region_last_drew (S := fun _ => True) (ds := []) (by kernel_rfl) trivial (fun hHeld => ?_)
  refine PrintLast.wpAnyLast_take (i := 0) (v := ?_) rfl (by kernel_rfl) (by kernel_rfl) (by kernel_rfl) (by kernel_rfl) (by kernel_rfl) (fun _ _ _ h => h) (Or.inl ⟨by kernel_rfl, ?_⟩) (by assumption) ?_
  rotate_left
  · (intro w hSw; (try dsimp only at hSw); go_simp; try (with_reducible rfl))
  try simp only [List.getElem_toArray, List.getElem_cons_zero, Act.put, List.setIfInBounds_toArray, List.set_cons_zero, List.set_cons_succ]
  refine PrintLast.wpAnyLast_take (i := 1) (v := ?_) rfl (by kernel_rfl) (by kernel_rfl) (by kernel_rfl) (by kernel_rfl) (by kernel_rfl) (fun _ _ _ h => h) (Or.inl ⟨by kernel_rfl, ?_⟩) (by assumption) ?_
  rotate_left
  · (intro w hSw; (try dsimp only at hSw); go_simp; try (with_reducible rfl))
  try simp only [List.getElem_toArray, List.getElem_cons_zero, List.getElem_cons_succ, Act.put, List.setIfInBounds_toArray, List.set_cons_zero, List.set_cons_succ]
  refine PrintLast.wpAnyLast_take (i := 3) (v := ?_) rfl (by kernel_rfl) (by kernel_rfl) (by kernel_rfl) (by kernel_rfl) (by kernel_rfl) (fun _ _ _ h => h) (Or.inl ⟨by kernel_rfl, ?_⟩) (by assumption) ?_
  rotate_left
  · (intro w hSw; (try dsimp only at hSw); go_simp; try (with_reducible rfl))
  try simp only [List.getElem_toArray, List.getElem_cons_zero, List.getElem_cons_succ, Act.put, List.setIfInBounds_toArray, List.set_cons_zero, List.set_cons_succ]
  refine PrintLast.wpAnyLast_take (i := 4) (v := ?_) rfl (by kernel_rfl) (by kernel_rfl) (by kernel_rfl) (by kernel_rfl) (by kernel_rfl) (fun _ _ _ h => h) (Or.inl ⟨by kernel_rfl, ?_⟩) (by assumption) ?_
  rotate_left
  · (intro w hSw; (try dsimp only at hSw); go_simp; try (with_reducible rfl))
  try simp only [List.getElem_toArray, List.getElem_cons_zero, List.getElem_cons_succ, Act.put, List.setIfInBounds_toArray, List.set_cons_zero, List.set_cons_succ]
  refine PrintLast.wpAnyLast_take (i := 5) (v := ?_) rfl (by kernel_rfl) (by kernel_rfl) (by kernel_rfl) (by kernel_rfl) (by kernel_rfl) (fun _ _ _ h => h) (Or.inl ⟨by kernel_rfl, ?_⟩) (by assumption) ?_
  rotate_left
  · (intro w hSw; (try dsimp only at hSw); go_simp; try (with_reducible rfl))
  try simp only [List.getElem_toArray, List.getElem_cons_zero, List.getElem_cons_succ, Act.put, List.setIfInBounds_toArray, List.set_cons_zero, List.set_cons_succ]
  refine PrintLast.wpAnyLast_take (i := 6) (v := ?_) rfl (by kernel_rfl) (by kernel_rfl) (by kernel_rfl) (by kernel_rfl) (by kernel_rfl) (fun _ _ _ h => h) (Or.inl ⟨by kernel_rfl, ?_⟩) (by assumption) ?_
  rotate_left
  · (intro w hSw; (try dsimp only at hSw); go_simp; try (with_reducible rfl))
  try simp only [List.getElem_toArray, List.getElem_cons_zero, List.getElem_cons_succ, Act.put, List.setIfInBounds_toArray, List.set_cons_zero, List.set_cons_succ]
  refine PrintLast.wpAnyLast_ready (rs := [2, 7]) (by kernel_rfl) (by simp) ?_
  refine PrintLast.AllReadyL.cons rfl (by decide) (fun K hK => ?_) (PrintLast.AllReadyL.cons rfl (by decide) (fun K hK => ?_) PrintLast.AllReadyL.nil)
  · clear hHeld
    rw [if_pos (by kernel_rfl)]
    go_simp
    go_at_call 62; refine (ih _).mono ?_; rintro e w2 ⟨rfl, hb2⟩
    go_wp2_with fail
    refine hK.out _ _ trivial (fun hHeld => ?_)
    clear hK K
    try simp only [List.getElem_toArray, List.getElem_cons_zero, List.getElem_cons_succ, Act.put, List.setIfInBounds_toArray, List.set_cons_zero, List.set_cons_succ]
    have hB2 := bel_trans (bel_drew (Below.refl w.heap.size w)) hb2
    refine PrintLast.wpAnyLast_ready (rs := [7]) (by kernel_rfl) (by simp) ?_
    refine PrintLast.AllReadyL.cons rfl (by decide) (fun K hK => ?_) PrintLast.AllReadyL.nil
    rw [if_pos (by kernel_rfl)]
    go_simp
    try simp only [List.foldl_cons, List.foldl_nil, List.setIfInBounds_toArray, List.set_cons_zero, List.set_cons_succ, Nat.reduceAdd]
    refine hK.out _ _ trivial (fun hHeld => ?_)
    clear hK K
    try simp only [List.getElem_toArray, List.getElem_cons_zero, List.getElem_cons_succ, Act.put, List.setIfInBounds_toArray, List.set_cons_zero, List.set_cons_succ]
    have CF : (w2.alloc (.cells #[.int .u8 (c : Int)] 5)).cell? ⟨w2.heap.size, 0, none⟩ = some (.int .u8 (c : Int)) := by rw [Lib.cell_of_heap (heap_alloc_new w2 _)]; rfl
    have hB3 := bel_alloc hB2 (.cells #[.int .u8 (c : Int)] 5)
    refine PrintLast.wpAnyLast_ready (rs := [8]) (by kernel_rfl) (by simp) ?_
    refine PrintLast.AllReadyL.cons rfl (by decide) (fun K hK => ?_) PrintLast.AllReadyL.nil
    rw [if_pos (by kernel_rfl)]
    go_simp
    rw [conv1_at hc2 CF]
    simp only [Result.andThen]
    rw [Oper.upon_value]
    refine hK.out _ _ trivial (fun hHeld => ?_)
    clear hK K
    try simp only [Act.put, List.setIfInBounds_toArray, List.set_cons_zero, List.set_cons_succ]
    refine PrintLast.wpAnyLast_take (i := 9) (v := ?_) rfl (by kernel_rfl) (by kernel_rfl) (by kernel_rfl) (by kernel_rfl) (by kernel_rfl) (fun _ _ _ h => h) (Or.inl ⟨by kernel_rfl, ?_⟩) (by assumption) ?_
    rotate_left
    · (intro w hSw; (try dsimp only at hSw); go_simp; try (with_reducible rfl))
    try simp only [List.getElem_toArray, List.getElem_cons_zero, List.getElem_cons_succ, Act.put, List.setIfInBounds_toArray, List.set_cons_zero, List.set_cons_succ]
    refine PrintLast.wpAnyLast_take (i := 10) (v := ?_) rfl (by kernel_rfl) (by kernel_rfl) (by kernel_rfl) (by kernel_rfl) (by kernel_rfl) (fun _ _ _ h => h) (Or.inl ⟨by kernel_rfl, ?_⟩) (by assumption) ?_
    rotate_left
    · (intro w hSw; (try dsimp only at hSw); go_simp; try (with_reducible rfl))
    try simp only [List.getElem_toArray, List.getElem_cons_zero, List.getElem_cons_succ, Act.put, List.setIfInBounds_toArray, List.set_cons_zero, List.set_cons_succ]
    refine PrintLast.wpAnyLast_done (by kernel_rfl) ?_ _
    go_wp2_with fail
    go_ret
    exact ⟨FIN, hB3⟩
  · clear hHeld
    rw [if_pos (by kernel_rfl)]
    go_simp
    try simp only [List.foldl_cons, List.foldl_nil, List.setIfInBounds_toArray, List.set_cons_zero, List.set_cons_succ, Nat.reduceAdd]
    refine hK.out _ _ trivial (fun hHeld => ?_)
    clear hK K
    try simp only [List.getElem_toArray, List.getElem_cons_zero, List.getElem_cons_succ, Act.put, List.setIfInBounds_toArray, List.set_cons_zero, List.set_cons_succ]
    have CF : (w.alloc (.cells #[.int .u8 (c : Int)] 5)).drew.cell? ⟨w.heap.size, 0, none⟩ = some (.int .u8 (c : Int)) := by rw [Lib.cell_of_heap (w := (w.alloc (.cells #[.int .u8 (c : Int)] 5)).drew) (heap_alloc_new w _)]; rfl
    have hB3 := bel_drew (bel_alloc (Below.refl w.heap.size w) (.cells #[.int .u8 (c : Int)] 5))
    generalize hX : (w.alloc (.cells #[.int .u8 (c : Int)] 5)).drew = X at *
    clear hX
    refine PrintLast.wpAnyLast_ready (rs := [2, 8]) (by kernel_rfl) (by simp) ?_
    refine PrintLast.AllReadyL.cons rfl (by decide) (fun K hK => ?_) (PrintLast.AllReadyL.cons rfl (by decide) (fun K hK => ?_) PrintLast.AllReadyL.nil)
    · clear hHeld
      rw [if_pos (by kernel_rfl)]
      go_simp
      go_at_call 62; refine (ih _).mono ?_; rintro e w2 ⟨rfl, hb2⟩
      go_wp2_with fail
      refine hK.out _ _ trivial (fun hHeld => ?_)
      clear hK K
      try simp only [List.getElem_toArray, List.getElem_cons_zero, List.getElem_cons_succ, Act.put, List.setIfInBounds_toArray, List.set_cons_zero, List.set_cons_succ]
      have hB2 := bel_trans hB3 hb2
      replace CF := cell_later' hb2 CF
      refine PrintLast.wpAnyLast_ready (rs := [8]) (by kernel_rfl) (by simp) ?_
      refine PrintLast.AllReadyL.cons rfl (by decide) (fun K hK => ?_) PrintLast.AllReadyL.nil
      rw [if_pos (by kernel_rfl)]
      go_simp
      rw [conv1_at hc2 CF]
      simp only [Result.andThen]
      rw [Oper.upon_value]
      refine hK.out _ _ trivial (fun hHeld => ?_)
      clear hK K
      try simp only [Act.put, List.setIfInBounds_toArray, List.set_cons_zero, List.set_cons_succ]
      refine PrintLast.wpAnyLast_take (i := 9) (v := ?_) rfl (by kernel_rfl) (by kernel_rfl) (by kernel_rfl) (by kernel_rfl) (by kernel_rfl) (fun _ _ _ h => h) (Or.inl ⟨by kernel_rfl, ?_⟩) (by assumption) ?_
      rotate_left
      · (intro w hSw; (try dsimp only at hSw); go_simp; try (with_reducible rfl))
      try simp only [List.getElem_toArray, List.getElem_cons_zero, List.getElem_cons_succ, Act.put, List.setIfInBounds_toArray, List.set_cons_zero, List.set_cons_succ]
      refine PrintLast.wpAnyLast_take (i := 10) (v := ?_) rfl (by kernel_rfl) (by kernel_rfl) (by kernel_rfl) (by kernel_rfl) (by kernel_rfl) (fun _ _ _ h => h) (Or.inl ⟨by kernel_rfl, ?_⟩) (by assumption) ?_
      rotate_left
      · (intro w hSw; (try dsimp only at hSw); go_simp; try (with_reducible rfl))
      try simp only [List.getElem_toArray, List.getElem_cons_zero, List.getElem_cons_succ, Act.put, List.setIfInBounds_toArray, List.set_cons_zero, List.set_cons_succ]
      refine PrintLast.wpAnyLast_done (by kernel_rfl) ?_ _
      go_wp2_with fail
      go_ret
      exact ⟨FIN, hB2⟩
    · clear hHeld
      rw [if_pos (by kernel_rfl)]
      go_simp
      rw [conv1_at hc2 CF]
      simp only [Result.andThen]
      rw [Oper.upon_value]
      refine hK.out _ _ trivial (fun hHeld => ?_)
      clear hK K
      try simp only [Act.put, List.setIfInBounds_toArray, List.set_cons_zero, List.set_cons_succ]
      refine PrintLast.wpAnyLast_ready (rs := [2]) (by kernel_rfl) (by simp) ?_
      refine PrintLast.AllReadyL.cons rfl (by decide) (fun K hK => ?_) PrintLast.AllReadyL.nil
      rw [if_pos (by kernel_rfl)]
      go_simp
      go_at_call 62; refine (ih _).mono ?_; rintro e w2 ⟨rfl, hb2⟩
      go_wp2_with fail
      refine hK.out _ _ trivial (fun hHeld => ?_)
      clear hK K
      try simp only [List.getElem_toArray, List.getElem_cons_zero, List.getElem_cons_succ, Act.put, List.setIfInBounds_toArray, List.set_cons_zero, List.set_cons_succ]
      have hB2 := bel_trans hB3 hb2
      refine PrintLast.wpAnyLast_take (i := 9) (v := ?_) rfl (by kernel_rfl) (by kernel_rfl) (by kernel_rfl) (by kernel_rfl) (by kernel_rfl) (fun _ _ _ h => h) (Or.inl ⟨by kernel_rfl, ?_⟩) (by assumption) ?_
      rotate_left
      · (intro w hSw; (try dsimp only at hSw); go_simp; try (with_reducible rfl))
      try simp only [List.getElem_toArray, List.getElem_cons_zero, List.getElem_cons_succ, Act.put, List.setIfInBounds_toArray, List.set_cons_zero, List.set_cons_succ]
      refine PrintLast.wpAnyLast_take (i := 10) (v := ?_) rfl (by kernel_rfl) (by kernel_rfl) (by kernel_rfl) (by kernel_rfl) (by kernel_rfl) (fun _ _ _ h => h) (Or.inl ⟨by kernel_rfl, ?_⟩) (by assumption) ?_
      rotate_left
      · (intro w hSw; (try dsimp only at hSw); go_simp; try (with_reducible rfl))
      try simp only [List.getElem_toArray, List.getElem_cons_zero, List.getElem_cons_succ, Act.put, List.setIfInBounds_toArray, List.set_cons_zero, List.set_cons_succ]
      refine PrintLast.wpAnyLast_done (by kernel_rfl) ?_ _
      go_wp2_with fail
      go_ret
      exact ⟨FIN, hB2⟩
set_option maxRecDepth 100000 in
set_option maxHeartbeats 8000000 in
theorem dec_neg_step (u : Nat) (hu : ¬ u < 10) (hm : u ≤ 9223372036854775808) (w : World) (hl : (decDigits (u / 10)).length ≤ 100)
    (ih : ∀ w, Calls Tryz.prog 62 #[.int .i64 ((u / 10 : Nat) : Int)] w fun e w' => e = .returned (.string ⟨(decDigits (u / 10)).toArray⟩) ∧ Below w.heap.size w w') :
    Calls Tryz.prog 62 #[.int .i64 (-(u : Int))] w fun e w' => e = .returned (.string ⟨(45 :: decDigits u).toArray⟩) ∧ Below w.heap.size w w' := by
  rw [dec_big' hu]
  have hpos : 0 < u := by omega
  have h0 : decide (-(u : Int) < 0) = true := by simp; omega
  obtain ⟨q, hqd⟩ : ∃ q, q = u / 10 := ⟨_, rfl⟩
  have hq : Int.tdiv (-(u : Int)) 10 = -(q : Int) := by rw [Int.neg_tdiv, tdiv_nat, ← hqd]
  have hqw : wrap64 (-(q : Int)) = -(q : Int) := by unfold wrap64; omega
  have hqe : (-(q : Int) == 0) = false := by simp; omega
  obtain ⟨c, hc⟩ : ∃ c, c = 48 + u % 10 := ⟨_, rfl⟩
  have hr : Int.tmod (-(u : Int)) 10 = -((u % 10 : Nat) : Int) := by rw [Int.neg_tmod, tmod_nat]
  have h2' : IntKind.i64.wrap (48 - -((u % 10 : Nat) : Int)) = (c : Int) := by rw [PrintLast.i64_w]; unfold wrap64; omega
  have h2'' : IntKind.i64.wrap (48 + ((u % 10 : Nat) : Int)) = (c : Int) := by rw [PrintLast.i64_w]; unfold wrap64; omega
  have hq' : IntKind.i64.wrap (-(q : Int)) = -(q : Int) := by rw [PrintLast.i64_w]; exact hqw
  have hq'' : IntKind.i64.wrap (q : Int) = (q : Int) := by rw [PrintLast.i64_w]; unfold wrap64; omega
  have hc2 : c < 256 := by omega
  have h3' : IntKind.u8.wrap (c : Int) = (c : Int) := by rw [IntKind.wrap_u8]; omega
  rw [← hqd] at ih hl ⊢
  rw [← hc]
  generalize u % 10 = m at *
  generalize decDigits q = D at *
  have c0 := fun W : World => run_string_add_sum (P := Tryz.prog) W ⟨#[45]⟩ ⟨D.toArray⟩ (by simp [ByteArray.size]; omega)
  have c1 := fun W : World => run_string_add_sum (P := Tryz.prog) W (⟨#[45]⟩ ++ ⟨D.toArray⟩) ⟨#[UInt8.ofNat c]⟩ (by simp [ByteArray.size]; omega)
  have FIN : Ending.returned (.string (⟨#[45]⟩ ++ ⟨D.toArray⟩ ++ ⟨#[UInt8.ofNat c]⟩)) = .returned (.string ⟨(45 :: (D ++ [UInt8.ofNat c])).toArray⟩) := by rw [ba0, ba1]; rfl
  clear hc hu hqd hl hm
  go_enter Tryz.func62, Tryz.ntmps62
  go_upto_region 4 with (fail)
  refine PrintLast.wp_region_last_drew (S := fun _ => True) (ds := []) (by kernel_rfl) trivial (fun hHeld => ?_)
  refine PrintLast.wpAnyLast_take (i := 0) (v := ?_) rfl (by kernel_rfl) (by kernel_rfl) (by kernel_rfl) (by kernel_rfl) (by kernel_rfl) (fun _ _ _ h => h) (Or.inl ⟨by kernel_rfl, ?_⟩) (by assumption) ?_
  rotate_left
  · (intro w hSw; (try dsimp only at hSw); go_simp; try (with_reducible rfl))
  try simp only [List.getElem_toArray, List.getElem_cons_zero, Act.put, List.setIfInBounds_toArray, List.set_cons_zero, List.set_cons_succ]
  refine PrintLast.wpAnyLast_take (i := 1) (v := ?_) rfl (by kernel_rfl) (by kernel_rfl) (by kernel_rfl) (by kernel_rfl) (by kernel_rfl) (fun _ _ _ h => h) (Or.inl ⟨by kernel_rfl, ?_⟩) (by assumption) ?_
  rotate_left
  · (intro w hSw; (try dsimp only at hSw); go_simp; try (with_reducible rfl))
  try simp only [List.getElem_toArray, List.getElem_cons_zero, List.getElem_cons_succ, Act.put, List.setIfInBounds_toArray, List.set_cons_zero, List.set_cons_succ]
  refine PrintLast.wpAnyLast_take (i := 2) (v := ?_) rfl (by kernel_rfl) (by kernel_rfl) (by kernel_rfl) (by kernel_rfl) (by kernel_rfl) (fun _ _ _ h => h) (Or.inl ⟨by kernel_rfl, ?_⟩) (by assumption) ?_
  rotate_left
  · (intro w hSw; (try dsimp only at hSw); go_simp; try (with_reducible rfl))
  try simp only [List.getElem_toArray, List.getElem_cons_zero, List.getElem_cons_succ, Act.put, List.setIfInBounds_toArray, List.set_cons_zero, List.set_cons_succ]
  refine PrintLast.wpAnyLast_take (i := 5) (v := ?_) rfl (by kernel_rfl) (by kernel_rfl) (by kernel_rfl) (by kernel_rfl) (by kernel_rfl) (fun _ _ _ h => h) (Or.inl ⟨by kernel_rfl, ?_⟩) (by assumption) ?_
  rotate_left
  · (intro w hSw; (try dsimp only at hSw); go_simp; try (with_reducible rfl))
  try simp only [List.getElem_toArray, List.getElem_cons_zero, List.getElem_cons_succ, Act.put, List.setIfInBounds_toArray, List.set_cons_zero, List.set_cons_succ]
  refine PrintLast.wpAnyLast_take (i := 6) (v := ?_) rfl (by kernel_rfl) (by kernel_rfl) (by kernel_rfl) (by kernel_rfl) (by kernel_rfl) (fun _ _ _ h => h) (Or.inl ⟨by kernel_rfl, ?_⟩) (by assumption) ?_
  rotate_left
  · (intro w hSw; (try dsimp only at hSw); go_simp; try (with_reducible rfl))
  try simp only [List.getElem_toArray, List.getElem_cons_zero, List.getElem_cons_succ, Act.put, List.setIfInBounds_toArray, List.set_cons_zero, List.set_cons_succ]
  refine PrintLast.wpAnyLast_take (i := 7) (v := ?_) rfl (by kernel_rfl) (by kernel_rfl) (by kernel_rfl) (by kernel_rfl) (by kernel_rfl) (fun _ _ _ h => h) (Or.inl ⟨by kernel_rfl, ?_⟩) (by assumption) ?_
  rotate_left
  · (intro w hSw; (try dsimp only at hSw); go_simp; try (with_reducible rfl))
  try simp only [List.getElem_toArray, List.getElem_cons_zero, List.getElem_cons_succ, Act.put, List.setIfInBounds_toArray, List.set_cons_zero, List.set_cons_succ]
  refine PrintLast.wpAnyLast_take (i := 8) (v := ?_) rfl (by kernel_rfl) (by kernel_rfl) (by kernel_rfl) (by kernel_rfl) (by kernel_rfl) (fun _ _ _ h => h) (Or.inl ⟨by kernel_rfl, ?_⟩) (by assumption) ?_
  rotate_left
  · (intro w hSw; (try dsimp only at hSw); go_simp; try (with_reducible rfl))
  try simp only [List.getElem_toArray, List.getElem_cons_zero, List.getElem_cons_succ, Act.put, List.setIfInBounds_toArray, List.set_cons_zero, List.set_cons_succ]
  refine PrintLast.wpAnyLast_ready (rs := [3, 9]) (by kernel_rfl) (by simp) ?_
  refine PrintLast.AllReadyL.cons rfl (by decide) (fun K hK => ?_) (PrintLast.AllReadyL.cons rfl (by decide) (fun K hK => ?_) PrintLast.AllReadyL.nil)
  · clear hHeld
    rw [if_pos (by kernel_rfl)]
    go_simp
    go_at_call 62; refine (ih _).mono ?_; rintro e w2 ⟨rfl, hb2⟩
    go_wp2_with fail
    refine hK.out _ _ trivial (fun hHeld => ?_)
    clear hK K
    try simp only [List.getElem_toArray, List.getElem_cons_zero, List.getElem_cons_succ, Act.put, List.setIfInBounds_toArray, List.set_cons_zero, List.set_cons_succ]
    have hB2 := bel_trans (bel_drew (Below.refl w.heap.size w)) hb2
    refine PrintLast.wpAnyLast_take (i := 4) (v := ?_) rfl (by kernel_rfl) (by kernel_rfl) (by kernel_rfl) (by kernel_rfl) (by kernel_rfl) (fun _ _ _ h => h) (Or.inl ⟨by kernel_rfl, ?_⟩) (by assumption) ?_
    rotate_left
    · (intro w hSw; (try dsimp only at hSw); go_simp; try (with_reducible rfl))
    try simp only [List.getElem_toArray, List.getElem_cons_zero, List.getElem_cons_succ, Act.put, List.setIfInBounds_toArray, List.set_cons_zero, List.set_cons_succ]
    refine PrintLast.wpAnyLast_ready (rs := [9]) (by kernel_rfl) (by simp) ?_
    refine PrintLast.AllReadyL.cons rfl (by decide) (fun K hK => ?_) PrintLast.AllReadyL.nil
    rw [if_pos (by kernel_rfl)]
    go_simp
    try simp only [List.foldl_cons, List.foldl_nil, List.setIfInBounds_toArray, List.set_cons_zero, List.set_cons_succ, Nat.reduceAdd]
    refine hK.out _ _ trivial (fun hHeld => ?_)
    clear hK K
    try simp only [List.getElem_toArray, List.getElem_cons_zero, List.getElem_cons_succ, Act.put, List.setIfInBounds_toArray, List.set_cons_zero, List.set_cons_succ]
    have CF : (w2.alloc (.cells #[.int .u8 (c : Int)] 5)).cell? ⟨w2.heap.size, 0, none⟩ = some (.int .u8 (c : Int)) := by rw [Lib.cell_of_heap (heap_alloc_new w2 _)]; rfl
    have hB3 := bel_alloc hB2 (.cells #[.int .u8 (c : Int)] 5)
    refine PrintLast.wpAnyLast_ready (rs := [10]) (by kernel_rfl) (by simp) ?_
    refine PrintLast.AllReadyL.cons rfl (by decide) (fun K hK => ?_) PrintLast.AllReadyL.nil
    rw [if_pos (by kernel_rfl)]
    go_simp
    rw [conv1_at hc2 CF]
    simp only [Result.andThen]
    rw [Oper.upon_value]
    refine hK.out _ _ trivial (fun hHeld => ?_)
    clear hK K
    try simp only [Act.put, List.setIfInBounds_toArray, List.set_cons_zero, List.set_cons_succ]
    refine PrintLast.wpAnyLast_take (i := 11) (v := ?_) rfl (by kernel_rfl) (by kernel_rfl) (by kernel_rfl) (by kernel_rfl) (by kernel_rfl) (fun _ _ _ h => h) (Or.inl ⟨by kernel_rfl, ?_⟩) (by assumption) ?_
    rotate_left
    · (intro w hSw; (try dsimp only at hSw); go_simp; try (with_reducible rfl))
    try simp only [List.getElem_toArray, List.getElem_cons_zero, List.getElem_cons_succ, Act.put, List.setIfInBounds_toArray, List.set_cons_zero, List.set_cons_succ]
    refine PrintLast.wpAnyLast_take (i := 12) (v := ?_) rfl (by kernel_rfl) (by kernel_rfl) (by kernel_rfl) (by kernel_rfl) (by kernel_rfl) (fun _ _ _ h => h) (Or.inl ⟨by kernel_rfl, ?_⟩) (by assumption) ?_
    rotate_left
    · (intro w hSw; (try dsimp only at hSw); go_simp; try (with_reducible rfl))
    try simp only [List.getElem_toArray, List.getElem_cons_zero, List.getElem_cons_succ, Act.put, List.setIfInBounds_toArray, List.set_cons_zero, List.set_cons_succ]
    refine PrintLast.wpAnyLast_done (by kernel_rfl) ?_ _
    go_wp2_with fail
    go_ret
    exact ⟨FIN, hB3⟩
  · clear hHeld
    rw [if_pos (by kernel_rfl)]
    go_simp
    try simp only [List.foldl_cons, List.foldl_nil, List.setIfInBounds_toArray, List.set_cons_zero, List.set_cons_succ, Nat.reduceAdd]
    refine hK.out _ _ trivial (fun hHeld => ?_)
    clear hK K
    try simp only [List.getElem_toArray, List.getElem_cons_zero, List.getElem_cons_succ, Act.put, List.setIfInBounds_toArray, List.set_cons_zero, List.set_cons_succ]
    have CF : (w.alloc (.cells #[.int .u8 (c : Int)] 5)).drew.cell? ⟨w.heap.size, 0, none⟩ = some (.int .u8 (c : Int)) := by rw [Lib.cell_of_heap (w := (w.alloc (.cells #[.int .u8 (c : Int)] 5)).drew) (heap_alloc_new w _)]; rfl
    have hB3 := bel_drew (bel_alloc (Below.refl w.heap.size w) (.cells #[.int .u8 (c : Int)] 5))
    generalize hX : (w.alloc (.cells #[.int .u8 (c : Int)] 5)).drew = X at *
    clear hX
    refine PrintLast.wpAnyLast_ready (rs := [3, 10]) (by kernel_rfl) (by simp) ?_
    refine PrintLast.AllReadyL.cons rfl (by decide) (fun K hK => ?_) (PrintLast.AllReadyL.cons rfl (by decide) (fun K hK => ?_) PrintLast.AllReadyL.nil)
    · clear hHeld
      rw [if_pos (by kernel_rfl)]
      go_simp
      go_at_call 62; refine (ih _).mono ?_; rintro e w2 ⟨rfl, hb2⟩
      go_wp2_with fail
      refine hK.out _ _ trivial (fun hHeld => ?_)
      clear hK K
      try simp only [List.getElem_toArray, List.getElem_cons_zero, List.getElem_cons_succ, Act.put, List.setIfInBounds_toArray, List.set_cons_zero, List.set_cons_succ]
      have hB2 := bel_trans hB3 hb2
      replace CF := cell_later' hb2 CF
      refine PrintLast.wpAnyLast_take (i := 4) (v := ?_) rfl (by kernel_rfl) (by kernel_rfl) (by kernel_rfl) (by kernel_rfl) (by kernel_rfl) (fun _ _ _ h => h) (Or.inl ⟨by kernel_rfl, ?_⟩) (by assumption) ?_
      rotate_left
      · (intro w hSw; (try dsimp only at hSw); go_simp; try (with_reducible rfl))
      try simp only [List.getElem_toArray, List.getElem_cons_zero, List.getElem_cons_succ, Act.put, List.setIfInBounds_toArray, List.set_cons_zero, List.set_cons_succ]
      refine PrintLast.wpAnyLast_ready (rs := [10]) (by kernel_rfl) (by simp) ?_
      refine PrintLast.AllReadyL.cons rfl (by decide) (fun K hK => ?_) PrintLast.AllReadyL.nil
      rw [if_pos (by kernel_rfl)]
      go_simp
      rw [conv1_at hc2 CF]
      simp only [Result.andThen]
      rw [Oper.upon_value]
      refine hK.out _ _ trivial (fun hHeld => ?_)
      clear hK K
      try simp only [Act.put, List.setIfInBounds_toArray, List.set_cons_zero, List.set_cons_succ]
      refine PrintLast.wpAnyLast_take (i := 11) (v := ?_) rfl (by kernel_rfl) (by kernel_rfl) (by kernel_rfl) (by kernel_rfl) (by kernel_rfl) (fun _ _ _ h => h) (Or.inl ⟨by kernel_rfl, ?_⟩) (by assumption) ?_
      rotate_left
      · (intro w hSw; (try dsimp only at hSw); go_simp; try (with_reducible rfl))
      try simp only [List.getElem_toArray, List.getElem_cons_zero, List.getElem_cons_succ, Act.put, List.setIfInBounds_toArray, List.set_cons_zero, List.set_cons_succ]
      refine PrintLast.wpAnyLast_take (i := 12) (v := ?_) rfl (by kernel_rfl) (by kernel_rfl) (by kernel_rfl) (by kernel_rfl) (by kernel_rfl) (fun _ _ _ h => h) (Or.inl ⟨by kernel_rfl, ?_⟩) (by assumption) ?_
      rotate_left
      · (intro w hSw; (try dsimp only at hSw); go_simp; try (with_reducible rfl))
      try simp only [List.getElem_toArray, List.getElem_cons_zero, List.getElem_cons_succ, Act.put, List.setIfInBounds_toArray, List.set_cons_zero, List.set_cons_succ]
      refine PrintLast.wpAnyLast_done (by kernel_rfl) ?_ _
      go_wp2_with fail
      go_ret
      exact ⟨FIN, hB2⟩
    · clear hHeld
      rw [if_pos (by kernel_rfl)]
      go_simp
      rw [conv1_at hc2 CF]
      simp only [Result.andThen]
      rw [Oper.upon_value]
      refine hK.out _ _ trivial (fun hHeld => ?_)
      clear hK K
      try simp only [Act.put, List.setIfInBounds_toArray, List.set_cons_zero, List.set_cons_succ]
      refine PrintLast.wpAnyLast_ready (rs := [3]) (by kernel_rfl) (by simp) ?_
      refine PrintLast.AllReadyL.cons rfl (by decide) (fun K hK => ?_) PrintLast.AllReadyL.nil
      rw [if_pos (by kernel_rfl)]
      go_simp
      go_at_call 62; refine (ih _).mono ?_; rintro e w2 ⟨rfl, hb2⟩
      go_wp2_with fail
      refine hK.out _ _ trivial (fun hHeld => ?_)
      clear hK K
      try simp only [List.getElem_toArray, List.getElem_cons_zero, List.getElem_cons_succ, Act.put, List.setIfInBounds_toArray, List.set_cons_zero, List.set_cons_succ]
      have hB2 := bel_trans hB3 hb2
      refine PrintLast.wpAnyLast_take (i := 4) (v := ?_) rfl (by kernel_rfl) (by kernel_rfl) (by kernel_rfl) (by kernel_rfl) (by kernel_rfl) (fun _ _ _ h => h) (Or.inl ⟨by kernel_rfl, ?_⟩) (by assumption) ?_
      rotate_left
      · (intro w hSw; (try dsimp only at hSw); go_simp; try (with_reducible rfl))
      try simp only [List.getElem_toArray, List.getElem_cons_zero, List.getElem_cons_succ, Act.put, List.setIfInBounds_toArray, List.set_cons_zero, List.set_cons_succ]
      refine PrintLast.wpAnyLast_take (i := 11) (v := ?_) rfl (by kernel_rfl) (by kernel_rfl) (by kernel_rfl) (by kernel_rfl) (by kernel_rfl) (fun _ _ _ h => h) (Or.inl ⟨by kernel_rfl, ?_⟩) (by assumption) ?_
      rotate_left
      · (intro w hSw; (try dsimp only at hSw); go_simp; try (with_reducible rfl))
      try simp only [List.getElem_toArray, List.getElem_cons_zero, List.getElem_cons_succ, Act.put, List.setIfInBounds_toArray, List.set_cons_zero, List.set_cons_succ]
      refine PrintLast.wpAnyLast_take (i := 12) (v := ?_) rfl (by kernel_rfl) (by kernel_rfl) (by kernel_rfl) (by kernel_rfl) (by kernel_rfl) (fun _ _ _ h => h) (Or.inl ⟨by kernel_rfl, ?_⟩) (by assumption) ?_
      rotate_left
      · (intro w hSw; (try dsimp only at hSw); go_simp; try (with_reducible rfl))
      try simp only [List.getElem_toArray, List.getElem_cons_zero, List.getElem_cons_succ, Act.put, List.setIfInBounds_toArray, List.set_cons_zero, List.set_cons_succ]
      refine PrintLast.wpAnyLast_done (by kernel_rfl) ?_ _
      go_wp2_with fail
      go_ret
      exact ⟨FIN, hB2⟩
theorem dec_len' : ∀ (k u : Nat), u < 10 ^ (k + 1) → (decDigits u).length ≤ k + 1
  | 0, u, h => by rw [dec_small' (by omega)]; simp
  | k + 1, u, h => by
    by_cases h0 : u < 10
    · rw [dec_small' h0]; simp
    · rw [dec_big' h0]
      rw [Nat.pow_succ] at h
      have := dec_len' k (u / 10) (by generalize 10 ^ (k + 1) = T at *; omega)
      simp; omega
theorem dec_len20 (u : Nat) (h : u ≤ 9223372036854775808) : (decDigits u).length ≤ 100 := by
  have := dec_len' 18 u (by have : (10 : Nat) ^ (18 + 1) = 10000000000000000000 := by decide
                            omega)
  omega
theorem dec_pos_any : ∀ (u : Nat), u < 9223372036854775808 → ∀ w, Calls Tryz.prog 62 #[.int .i64 (u : Int)] w fun e w' => e = .returned (.string ⟨(decDigits u).toArray⟩) ∧ Below w.heap.size w w' := fun u => by
  induction u using Nat.strongRecOn with
  | _ u ih =>
    intro hm w
    by_cases h : u < 10
    · exact dec_small_any u h w
    · exact dec_pos_step u h hm w (dec_len20 _ (by omega)) (fun w => ih (u / 10) (by omega) (by omega) w)
/-- Dec writes a number as Itoa does -/
theorem dec_any (n : Int) (h0 : -9223372036854775808 ≤ n) (h1 : n < 9223372036854775808) (w : World) : Calls Tryz.prog 62 #[.int .i64 n] w fun e w' => e = .returned (.string ⟨(Lib.itoa n).toArray⟩) ∧ Below w.heap.size w w' := by
  unfold Lib.itoa
  by_cases hn : n < 0
  · rw [if_pos hn]
    obtain ⟨u, rfl⟩ : ∃ u : Nat, n = -(u : Int) := ⟨n.natAbs, by omega⟩
    rw [show (-(u : Int)).natAbs = u by omega]
    by_cases h : u < 10
    · exact dec_neg1_any u (by omega) h w
    · exact dec_neg_step u h (by omega) w (dec_len20 _ (by omega)) (fun w => dec_pos_any (u / 10) (by omega) w)
  · rw [if_neg hn]
    obtain ⟨u, rfl⟩ : ∃ u : Nat, n = (u : Int) := ⟨n.toNat, by omega⟩
    rw [Int.toNat_natCast]
    exact dec_pos_any u (by omega) w
end Go.Proofs.YtjjgbgojlhaapaaGreatDoor
