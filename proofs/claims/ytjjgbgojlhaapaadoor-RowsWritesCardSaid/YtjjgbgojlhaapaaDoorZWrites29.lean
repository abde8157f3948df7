/- Parts of the proof: Hs, Hj. -/
import Derived.Test.YtjjgbgojlhaapaaDoorZWrites26
namespace Go.Proofs.YtjjgbgojlhaapaaDoor
open Go.RowKit Go.Lib

theorem rputState_ways : ∀ b16 b20 b25 b29 b38 : Bool, (b16 = false ∧ (b16 && b20 && (b25 || b29) && b38) = false) ∨ (b16 = true ∧ b20 = false ∧ (b16 && b20 && (b25 || b29) && b38) = false) ∨ (b16 = true ∧ b20 = true ∧ b25 = false ∧ b29 = false ∧ (b16 && b20 && (b25 || b29) && b38) = false) ∨ (b16 = true ∧ b20 = true ∧ b25 = false ∧ b29 = true ∧ b38 = false ∧ (b16 && b20 && (b25 || b29) && b38) = false) ∨ (b16 = true ∧ b20 = true ∧ b25 = false ∧ b29 = true ∧ b38 = true ∧ (b16 && b20 && (b25 || b29) && b38) = true) ∨ (b16 = true ∧ b20 = true ∧ b25 = true ∧ b38 = false ∧ (b16 && b20 && (b25 || b29) && b38) = false) ∨ (b16 = true ∧ b20 = true ∧ b25 = true ∧ b38 = true ∧ (b16 && b20 && (b25 || b29) && b38) = true) := by decide
set_option maxRecDepth 100000 in
set_option maxHeartbeats 64000000 in
theorem rputState (r s : Int) (w : World)  (hsm : SmJ (stateO r s)) (hlen : mayJ 64 (stateO r s) = true → (printB 64 (stateO r s)).length ≤ 1000000000) :
    Calls Tryd.prog 22 #[.agg #[.int .i64 r, .int .i64 s]] w fun e w' => e = .returned (putB (stateOk r s) (stateO r s)) ∧ Below w.heap.size w w' := by
  rcases rputState_ways (decide (0 ≤ r)) (decide (r ≤ 2)) ((s == 0)) ((s == 1)) (decide (0 < r + s)) with ⟨h16, hk⟩ | ⟨h16, h20, hk⟩ | ⟨h16, h20, h25, h29, hk⟩ | ⟨h16, h20, h25, h29, h38, hk⟩ | ⟨h16, h20, h25, h29, h38, hk⟩ | ⟨h16, h20, h25, h38, hk⟩ | ⟨h16, h20, h25, h38, hk⟩
  all_goals
    first
      | (have hok : (stateOk r s) = false := hk; rw [hok]; obtain ⟨S, E, hput, hp⟩ := printedC (stateO r s) false hsm hlen; replace hput : putB false (stateO r s) = .tuple #[.string S, .int .i64 E] := hput; rw [hput]; have HP := Lib.hid hp; clear hp hput hok hk hlen hsm)
      | (have hok : (stateOk r s) = true := hk; rw [hok]; obtain ⟨S, E, hput, hp⟩ := printedC (stateO r s) true hsm hlen; replace hput : putB true (stateO r s) = .tuple #[.string S, .int .i64 E] := hput; rw [hput]; have HP := Lib.hid hp; clear hp hput hok hk hlen hsm)
    try (have HSW := stWrap r s (by assumption) (by assumption) (by first | exact Or.inl (by assumption) | exact Or.inr (by assumption)))
    have n0 := cell_newB w #[.int .i64 r, .int .i64 s] 49 0 _ rfl
    have n1 := cell_newB w #[.int .i64 r, .int .i64 s] 49 1 _ rfl
    have HB := Lib.hid (bel_alloc (Below.refl w.heap.size w) (.cells #[.int .i64 r, .int .i64 s] 49))
    go_enter Tryd.func22, Tryd.ntmps22
    go_wp2_with fail
    generalize w.alloc (.cells #[.int .i64 r, .int .i64 s] 49) = W at *
    refine wp_region_E (by kernel_rfl) ?_
    have RC : ∀ w2, Lat W.drew w2 → w2.cell? ⟨w.heap.size, 0, none⟩ = some (.int .i64 r) ∧ w2.cell? ⟨w.heap.size, 1, none⟩ = some (.int .i64 s) := fun w2 hE => ⟨cell_later' hE n0, cell_later' hE n1⟩
    clear n0 n1
    have HRC := Lib.hid RC
    clear RC
    have HBV := Lib.hid (bel_drew HB.out)
    clear HB
    generalize W.drew = V at *
    refine wpAnyE_tk 0 (v := ?_) rfl (by kernel_rfl) (by kernel_rfl) (by kernel_rfl) (by kernel_rfl) ?_ ?_
    rotate_left
    · intro w2 hE
      obtain ⟨q0, q1⟩ := HRC.out w2 hE
      go_simp
      try (with_reducible rfl)
    try simp only [List.getElem_toArray, List.getElem_cons_zero, Act.put, List.setIfInBounds_toArray, List.set_cons_zero, List.set_cons_succ]
    refine wpAnyE_tk 1 (v := ?_) rfl (by kernel_rfl) (by kernel_rfl) (by kernel_rfl) (by kernel_rfl) ?_ ?_
    rotate_left
    · intro w2 hE
      obtain ⟨q0, q1⟩ := HRC.out w2 hE
      go_simp
      try (with_reducible rfl)
    try simp only [List.getElem_toArray, List.getElem_cons_zero, List.getElem_cons_succ, Act.put, List.setIfInBounds_toArray, List.set_cons_zero, List.set_cons_succ]
    refine wpAnyE_tk 2 (v := ?_) rfl (by kernel_rfl) (by kernel_rfl) (by kernel_rfl) (by kernel_rfl) ?_ ?_
    rotate_left
    · intro w2 hE
      obtain ⟨q0, q1⟩ := HRC.out w2 hE
      go_simp
      exact rnumber _ _
    try simp only [List.getElem_toArray, List.getElem_cons_zero, List.getElem_cons_succ, Act.put, List.setIfInBounds_toArray, List.set_cons_zero, List.set_cons_succ]
    refine wpAnyE_tk 3 (v := ?_) rfl (by kernel_rfl) (by kernel_rfl) (by kernel_rfl) (by kernel_rfl) ?_ ?_
    rotate_left
    · intro w2 hE
      obtain ⟨q0, q1⟩ := HRC.out w2 hE
      go_simp
      try (with_reducible rfl)
    try simp only [List.getElem_toArray, List.getElem_cons_zero, List.getElem_cons_succ, Act.put, List.setIfInBounds_toArray, List.set_cons_zero, List.set_cons_succ]
    refine wpAnyE_tk 4 (v := ?_) rfl (by kernel_rfl) (by kernel_rfl) (by kernel_rfl) (by kernel_rfl) ?_ ?_
    rotate_left
    · intro w2 hE
      obtain ⟨q0, q1⟩ := HRC.out w2 hE
      go_simp
      try (with_reducible rfl)
    try simp only [List.getElem_toArray, List.getElem_cons_zero, List.getElem_cons_succ, Act.put, List.setIfInBounds_toArray, List.set_cons_zero, List.set_cons_succ]
    refine wpAnyE_tk 5 (v := ?_) rfl (by kernel_rfl) (by kernel_rfl) (by kernel_rfl) (by kernel_rfl) ?_ ?_
    rotate_left
    · intro w2 hE
      obtain ⟨q0, q1⟩ := HRC.out w2 hE
      go_simp
      try (with_reducible rfl)
    try simp only [List.getElem_toArray, List.getElem_cons_zero, List.getElem_cons_succ, Act.put, List.setIfInBounds_toArray, List.set_cons_zero, List.set_cons_succ]
    refine wpAnyE_tk 6 (v := ?_) rfl (by kernel_rfl) (by kernel_rfl) (by kernel_rfl) (by kernel_rfl) ?_ ?_
    rotate_left
    · intro w2 hE
      obtain ⟨q0, q1⟩ := HRC.out w2 hE
      go_simp
      exact rnumber _ _
    try simp only [List.getElem_toArray, List.getElem_cons_zero, List.getElem_cons_succ, Act.put, List.setIfInBounds_toArray, List.set_cons_zero, List.set_cons_succ]
    refine wpAnyE_tk 7 (v := ?_) rfl (by kernel_rfl) (by kernel_rfl) (by kernel_rfl) (by kernel_rfl) ?_ ?_
    rotate_left
    · intro w2 hE
      obtain ⟨q0, q1⟩ := HRC.out w2 hE
      go_simp
      try (with_reducible rfl)
    try simp only [List.getElem_toArray, List.getElem_cons_zero, List.getElem_cons_succ, Act.put, List.setIfInBounds_toArray, List.set_cons_zero, List.set_cons_succ]
    refine wpAnyE_tk 10 (v := ?_) rfl (by kernel_rfl) (by kernel_rfl) (by kernel_rfl) (by kernel_rfl) ?_ ?_
    rotate_left
    · intro w2 hE
      obtain ⟨q0, q1⟩ := HRC.out w2 hE
      go_simp
      try (with_reducible rfl)
    try simp only [List.getElem_toArray, List.getElem_cons_zero, List.getElem_cons_succ, Act.put, List.setIfInBounds_toArray, List.set_cons_zero, List.set_cons_succ]
    refine wpAnyE_tk 11 (v := ?_) rfl (by kernel_rfl) (by kernel_rfl) (by kernel_rfl) (by kernel_rfl) ?_ ?_
    rotate_left
    · intro w2 hE
      obtain ⟨q0, q1⟩ := HRC.out w2 hE
      go_simp
      try (with_reducible rfl)
    try simp only [List.getElem_toArray, List.getElem_cons_zero, List.getElem_cons_succ, Act.put, List.setIfInBounds_toArray, List.set_cons_zero, List.set_cons_succ]
    refine wpAnyE_tk 12 (v := ?_) rfl (by kernel_rfl) (by kernel_rfl) (by kernel_rfl) (by kernel_rfl) ?_ ?_
    rotate_left
    · intro w2 hE
      obtain ⟨q0, q1⟩ := HRC.out w2 hE
      go_simp
      try (with_reducible rfl)
    try simp only [List.getElem_toArray, List.getElem_cons_zero, List.getElem_cons_succ, Act.put, List.setIfInBounds_toArray, List.set_cons_zero, List.set_cons_succ]
    refine wpAnyE_one (i := 8) (by kernel_rfl) rfl (fun w2 hE K hK => ?_)
    rw [if_pos (by kernel_rfl)]
    obtain ⟨q0, q1⟩ := HRC.out w2 hE
    have HB2 := Lib.hid (bel_trans HBV.out hE)
    clear HBV hE HRC
    go_simp
    have hsl : Sl memTy (w2.alloc (Obj.cells #[.string ⟨#[114, 101, 97, 100]⟩, .int .i64 4, .int .i64 r, .string ⟨#[]⟩, .slice none 0 0, .slice none 0 0, .string ⟨#[115, 116, 97, 114]⟩, .int .i64 4, .int .i64 s, .string ⟨#[]⟩, .slice none 0 0, .slice none 0 0] 91)) (fun _ => True) (.slice (some ⟨w2.heap.size, 0, none⟩) 2 2) [(nmRead, numV r), (nmStar, numV s)] :=
      new_members (T := 91) w2 ([(nmRead, numV r)] ++ [(nmStar, numV s)]) _ (by simp) (fun W => (Chunks.append (mem_chunk nmRead (numV r) _ (by decide) (num_jr W _ r)) (mem_chunk nmStar (numV s) _ (by decide) (num_jr W _ s))))
    refine hK.out _ _ (bel_alloc (Below.refl _ _) _) ?_
    clear hK K
    have hbA := bel_trans HB2.out (bel_alloc (Below.refl _ w2) (Obj.cells #[.string ⟨#[114, 101, 97, 100]⟩, .int .i64 4, .int .i64 r, .string ⟨#[]⟩, .slice none 0 0, .slice none 0 0, .string ⟨#[115, 116, 97, 114]⟩, .int .i64 4, .int .i64 s, .string ⟨#[]⟩, .slice none 0 0, .slice none 0 0] 91))
    have hSC : ∀ w3, Lat (w2.alloc (Obj.cells #[.string ⟨#[114, 101, 97, 100]⟩, .int .i64 4, .int .i64 r, .string ⟨#[]⟩, .slice none 0 0, .slice none 0 0, .string ⟨#[115, 116, 97, 114]⟩, .int .i64 4, .int .i64 s, .string ⟨#[]⟩, .slice none 0 0, .slice none 0 0] 91)) w3 → w3.cell? ⟨w.heap.size, 0, none⟩ = some (.int .i64 r) ∧ w3.cell? ⟨w.heap.size, 1, none⟩ = some (.int .i64 s) := fun w3 hE => ⟨cell_later' (bel_trans (bel_alloc (Below.refl _ w2) (Obj.cells #[.string ⟨#[114, 101, 97, 100]⟩, .int .i64 4, .int .i64 r, .string ⟨#[]⟩, .slice none 0 0, .slice none 0 0, .string ⟨#[115, 116, 97, 114]⟩, .int .i64 4, .int .i64 s, .string ⟨#[]⟩, .slice none 0 0, .slice none 0 0] 91)) hE) q0, cell_later' (bel_trans (bel_alloc (Below.refl _ w2) (Obj.cells #[.string ⟨#[114, 101, 97, 100]⟩, .int .i64 4, .int .i64 r, .string ⟨#[]⟩, .slice none 0 0, .slice none 0 0, .string ⟨#[115, 116, 97, 114]⟩, .int .i64 4, .int .i64 s, .string ⟨#[]⟩, .slice none 0 0, .slice none 0 0] 91)) hE) q1⟩
    have HSC := Lib.hid hSC
    clear hSC q0 q1
    have hj := obj_jr hsl
    have HB3 := Lib.hid hbA
    clear hsl hbA HB2
    generalize w2.alloc (Obj.cells #[.string ⟨#[114, 101, 97, 100]⟩, .int .i64 4, .int .i64 r, .string ⟨#[]⟩, .slice none 0 0, .slice none 0 0, .string ⟨#[115, 116, 97, 114]⟩, .int .i64 4, .int .i64 s, .string ⟨#[]⟩, .slice none 0 0, .slice none 0 0] 91) = W3 at *
    generalize w2.heap.size = gz at *
    have HJ := Lib.hid hj
    clear w2 hj
    refine wpAnyE_tk 9 (v := ?_) rfl (by kernel_rfl) (by kernel_rfl) (by kernel_rfl) (by kernel_rfl) ?_ ?_
    rotate_left
    · intro w2 hE
      obtain ⟨q0, q1⟩ := HSC.out w2 hE
      go_simp
      exact robject _ _ _ _
    try simp only [List.getElem_toArray, List.getElem_cons_zero, List.getElem_cons_succ, Act.put, List.setIfInBounds_toArray, List.set_cons_zero, List.set_cons_succ]
    refine wpAnyE_tk 13 (v := ?_) rfl (by kernel_rfl) (by kernel_rfl) (by kernel_rfl) (by kernel_rfl) ?_ ?_
    rotate_left
    · intro w2 hE
      obtain ⟨q0, q1⟩ := HSC.out w2 hE
      go_simp
      try (with_reducible rfl)
    try simp only [List.getElem_toArray, List.getElem_cons_zero, List.getElem_cons_succ, Act.put, List.setIfInBounds_toArray, List.set_cons_zero, List.set_cons_succ]
    first
      | (have _hw := (show decide (0 ≤ r) = true by assumption)
         refine wpAnyE_tk 14 (v := ?_) rfl (by kernel_rfl) (by kernel_rfl) (by kernel_rfl) (by kernel_rfl) ?_ ?_
         rotate_left
         · intro w2 hE
           obtain ⟨q0, q1⟩ := HSC.out w2 hE
           go_simp
           try (with_reducible rfl)
         try simp only [List.getElem_toArray, List.getElem_cons_zero, List.getElem_cons_succ, Act.put, List.setIfInBounds_toArray, List.set_cons_zero, List.set_cons_succ])
      | (refine wpAnyE_sk 14 rfl (by kernel_rfl) (by kernel_rfl) (by kernel_rfl) (by kernel_rfl) ?_; try simp only [List.getElem_toArray, List.getElem_cons_zero, List.getElem_cons_succ, Act.put, List.setIfInBounds_toArray, List.set_cons_zero, List.set_cons_succ])
    first
      | (have _hw := (show decide (0 ≤ r) = true by assumption)
         refine wpAnyE_tk 15 (v := ?_) rfl (by kernel_rfl) (by kernel_rfl) (by kernel_rfl) (by kernel_rfl) ?_ ?_
         rotate_left
         · intro w2 hE
           obtain ⟨q0, q1⟩ := HSC.out w2 hE
           go_simp
           try (with_reducible rfl)
         try simp only [List.getElem_toArray, List.getElem_cons_zero, List.getElem_cons_succ, Act.put, List.setIfInBounds_toArray, List.set_cons_zero, List.set_cons_succ])
      | (refine wpAnyE_sk 15 rfl (by kernel_rfl) (by kernel_rfl) (by kernel_rfl) (by kernel_rfl) ?_; try simp only [List.getElem_toArray, List.getElem_cons_zero, List.getElem_cons_succ, Act.put, List.setIfInBounds_toArray, List.set_cons_zero, List.set_cons_succ])
    first
      | (have _hw := (show decide (0 ≤ r) = true by assumption)
         refine wpAnyE_tk 16 (v := ?_) rfl (by kernel_rfl) (by kernel_rfl) (by kernel_rfl) (by kernel_rfl) ?_ ?_
         rotate_left
         · intro w2 hE
           obtain ⟨q0, q1⟩ := HSC.out w2 hE
           go_simp
           try (with_reducible rfl)
         try simp only [List.getElem_toArray, List.getElem_cons_zero, List.getElem_cons_succ, Act.put, List.setIfInBounds_toArray, List.set_cons_zero, List.set_cons_succ])
      | (refine wpAnyE_sk 16 rfl (by kernel_rfl) (by kernel_rfl) (by kernel_rfl) (by kernel_rfl) ?_; try simp only [List.getElem_toArray, List.getElem_cons_zero, List.getElem_cons_succ, Act.put, List.setIfInBounds_toArray, List.set_cons_zero, List.set_cons_succ])
    refine wpAnyE_tk 17 (v := ?_) rfl (by kernel_rfl) (by kernel_rfl) (by kernel_rfl) (by kernel_rfl) ?_ ?_
    rotate_left
    · intro w2 hE
      obtain ⟨q0, q1⟩ := HSC.out w2 hE
      go_simp
      try (with_reducible rfl)
    try simp only [List.getElem_toArray, List.getElem_cons_zero, List.getElem_cons_succ, Act.put, List.setIfInBounds_toArray, List.set_cons_zero, List.set_cons_succ]
    refine wpAnyE_tk 18 (v := ?_) rfl (by kernel_rfl) (by kernel_rfl) (by kernel_rfl) (by kernel_rfl) ?_ ?_
    rotate_left
    · intro w2 hE
      obtain ⟨q0, q1⟩ := HSC.out w2 hE
      go_simp
      try (with_reducible rfl)
    try simp only [List.getElem_toArray, List.getElem_cons_zero, List.getElem_cons_succ, Act.put, List.setIfInBounds_toArray, List.set_cons_zero, List.set_cons_succ]
    first
      | (have _hw := (show decide (r ≤ 2) = true by assumption)
         refine wpAnyE_tk 19 (v := ?_) rfl (by kernel_rfl) (by kernel_rfl) (by kernel_rfl) (by kernel_rfl) ?_ ?_
         rotate_left
         · intro w2 hE
           obtain ⟨q0, q1⟩ := HSC.out w2 hE
           go_simp
           try (with_reducible rfl)
         try simp only [List.getElem_toArray, List.getElem_cons_zero, List.getElem_cons_succ, Act.put, List.setIfInBounds_toArray, List.set_cons_zero, List.set_cons_succ])
      | (refine wpAnyE_sk 19 rfl (by kernel_rfl) (by kernel_rfl) (by kernel_rfl) (by kernel_rfl) ?_; try simp only [List.getElem_toArray, List.getElem_cons_zero, List.getElem_cons_succ, Act.put, List.setIfInBounds_toArray, List.set_cons_zero, List.set_cons_succ])
    first
      | (have _hw := (show decide (r ≤ 2) = true by assumption)
         refine wpAnyE_tk 20 (v := ?_) rfl (by kernel_rfl) (by kernel_rfl) (by kernel_rfl) (by kernel_rfl) ?_ ?_
         rotate_left
         · intro w2 hE
           obtain ⟨q0, q1⟩ := HSC.out w2 hE
           go_simp
           try (with_reducible rfl)
         try simp only [List.getElem_toArray, List.getElem_cons_zero, List.getElem_cons_succ, Act.put, List.setIfInBounds_toArray, List.set_cons_zero, List.set_cons_succ])
      | (refine wpAnyE_sk 20 rfl (by kernel_rfl) (by kernel_rfl) (by kernel_rfl) (by kernel_rfl) ?_; try simp only [List.getElem_toArray, List.getElem_cons_zero, List.getElem_cons_succ, Act.put, List.setIfInBounds_toArray, List.set_cons_zero, List.set_cons_succ])
    first
      | (have _hw := (show decide (r ≤ 2) = true by assumption)
         refine wpAnyE_tk 21 (v := ?_) rfl (by kernel_rfl) (by kernel_rfl) (by kernel_rfl) (by kernel_rfl) ?_ ?_
         rotate_left
         · intro w2 hE
           obtain ⟨q0, q1⟩ := HSC.out w2 hE
           go_simp
           try (with_reducible rfl)
         try simp only [List.getElem_toArray, List.getElem_cons_zero, List.getElem_cons_succ, Act.put, List.setIfInBounds_toArray, List.set_cons_zero, List.set_cons_succ])
      | (refine wpAnyE_sk 21 rfl (by kernel_rfl) (by kernel_rfl) (by kernel_rfl) (by kernel_rfl) ?_; try simp only [List.getElem_toArray, List.getElem_cons_zero, List.getElem_cons_succ, Act.put, List.setIfInBounds_toArray, List.set_cons_zero, List.set_cons_succ])
    first
      | (have _hw := (show decide (r ≤ 2) = true by assumption)
         refine wpAnyE_tk 22 (v := ?_) rfl (by kernel_rfl) (by kernel_rfl) (by kernel_rfl) (by kernel_rfl) ?_ ?_
         rotate_left
         · intro w2 hE
           obtain ⟨q0, q1⟩ := HSC.out w2 hE
           go_simp
           try (with_reducible rfl)
         try simp only [List.getElem_toArray, List.getElem_cons_zero, List.getElem_cons_succ, Act.put, List.setIfInBounds_toArray, List.set_cons_zero, List.set_cons_succ])
      | (refine wpAnyE_sk 22 rfl (by kernel_rfl) (by kernel_rfl) (by kernel_rfl) (by kernel_rfl) ?_; try simp only [List.getElem_toArray, List.getElem_cons_zero, List.getElem_cons_succ, Act.put, List.setIfInBounds_toArray, List.set_cons_zero, List.set_cons_succ])
    first
      | (have _hw := (show (s == 0) = false by assumption)
         refine wpAnyE_tk 23 (v := ?_) rfl (by kernel_rfl) (by kernel_rfl) (by kernel_rfl) (by kernel_rfl) ?_ ?_
         rotate_left
         · intro w2 hE
           obtain ⟨q0, q1⟩ := HSC.out w2 hE
           go_simp
           try (with_reducible rfl)
         try simp only [List.getElem_toArray, List.getElem_cons_zero, List.getElem_cons_succ, Act.put, List.setIfInBounds_toArray, List.set_cons_zero, List.set_cons_succ])
      | (refine wpAnyE_sk 23 rfl (by kernel_rfl) (by kernel_rfl) (by kernel_rfl) (by kernel_rfl) ?_; try simp only [List.getElem_toArray, List.getElem_cons_zero, List.getElem_cons_succ, Act.put, List.setIfInBounds_toArray, List.set_cons_zero, List.set_cons_succ])
    first
      | (have _hw := (show (s == 0) = false by assumption)
         refine wpAnyE_tk 24 (v := ?_) rfl (by kernel_rfl) (by kernel_rfl) (by kernel_rfl) (by kernel_rfl) ?_ ?_
         rotate_left
         · intro w2 hE
           obtain ⟨q0, q1⟩ := HSC.out w2 hE
           go_simp
           try (with_reducible rfl)
         try simp only [List.getElem_toArray, List.getElem_cons_zero, List.getElem_cons_succ, Act.put, List.setIfInBounds_toArray, List.set_cons_zero, List.set_cons_succ])
      | (refine wpAnyE_sk 24 rfl (by kernel_rfl) (by kernel_rfl) (by kernel_rfl) (by kernel_rfl) ?_; try simp only [List.getElem_toArray, List.getElem_cons_zero, List.getElem_cons_succ, Act.put, List.setIfInBounds_toArray, List.set_cons_zero, List.set_cons_succ])
    first
      | (have _hw := (show (s == 0) = false by assumption)
         refine wpAnyE_tk 25 (v := ?_) rfl (by kernel_rfl) (by kernel_rfl) (by kernel_rfl) (by kernel_rfl) ?_ ?_
         rotate_left
         · intro w2 hE
           obtain ⟨q0, q1⟩ := HSC.out w2 hE
           go_simp
           try (with_reducible rfl)
         try simp only [List.getElem_toArray, List.getElem_cons_zero, List.getElem_cons_succ, Act.put, List.setIfInBounds_toArray, List.set_cons_zero, List.set_cons_succ])
      | (refine wpAnyE_sk 25 rfl (by kernel_rfl) (by kernel_rfl) (by kernel_rfl) (by kernel_rfl) ?_; try simp only [List.getElem_toArray, List.getElem_cons_zero, List.getElem_cons_succ, Act.put, List.setIfInBounds_toArray, List.set_cons_zero, List.set_cons_succ])
    first
      | (have _hw := (show decide (r ≤ 2) = true by assumption)
         refine wpAnyE_tk 26 (v := ?_) rfl (by kernel_rfl) (by kernel_rfl) (by kernel_rfl) (by kernel_rfl) ?_ ?_
         rotate_left
         · intro w2 hE
           obtain ⟨q0, q1⟩ := HSC.out w2 hE
           go_simp
           try (with_reducible rfl)
         try simp only [List.getElem_toArray, List.getElem_cons_zero, List.getElem_cons_succ, Act.put, List.setIfInBounds_toArray, List.set_cons_zero, List.set_cons_succ])
      | (refine wpAnyE_sk 26 rfl (by kernel_rfl) (by kernel_rfl) (by kernel_rfl) (by kernel_rfl) ?_; try simp only [List.getElem_toArray, List.getElem_cons_zero, List.getElem_cons_succ, Act.put, List.setIfInBounds_toArray, List.set_cons_zero, List.set_cons_succ])
    refine wpAnyE_tk 27 (v := ?_) rfl (by kernel_rfl) (by kernel_rfl) (by kernel_rfl) (by kernel_rfl) ?_ ?_
    rotate_left
    · intro w2 hE
      obtain ⟨q0, q1⟩ := HSC.out w2 hE
      go_simp
      try (with_reducible rfl)
    try simp only [List.getElem_toArray, List.getElem_cons_zero, List.getElem_cons_succ, Act.put, List.setIfInBounds_toArray, List.set_cons_zero, List.set_cons_succ]
    refine wpAnyE_tk 28 (v := ?_) rfl (by kernel_rfl) (by kernel_rfl) (by kernel_rfl) (by kernel_rfl) ?_ ?_
    rotate_left
    · intro w2 hE
      obtain ⟨q0, q1⟩ := HSC.out w2 hE
      go_simp
      try (with_reducible rfl)
    try simp only [List.getElem_toArray, List.getElem_cons_zero, List.getElem_cons_succ, Act.put, List.setIfInBounds_toArray, List.set_cons_zero, List.set_cons_succ]
    first
      | (have _hw := (show (s == 0) = true by assumption)
         refine wpAnyE_tk 29 (v := ?_) rfl (by kernel_rfl) (by kernel_rfl) (by kernel_rfl) (by kernel_rfl) ?_ ?_
         rotate_left
         · intro w2 hE
           obtain ⟨q0, q1⟩ := HSC.out w2 hE
           go_simp
           try (with_reducible rfl)
         try simp only [List.getElem_toArray, List.getElem_cons_zero, List.getElem_cons_succ, Act.put, List.setIfInBounds_toArray, List.set_cons_zero, List.set_cons_succ])
      | (have _hw := (show (s == 1) = true by assumption)
         refine wpAnyE_tk 29 (v := ?_) rfl (by kernel_rfl) (by kernel_rfl) (by kernel_rfl) (by kernel_rfl) ?_ ?_
         rotate_left
         · intro w2 hE
           obtain ⟨q0, q1⟩ := HSC.out w2 hE
           go_simp
           try (with_reducible rfl)
         try simp only [List.getElem_toArray, List.getElem_cons_zero, List.getElem_cons_succ, Act.put, List.setIfInBounds_toArray, List.set_cons_zero, List.set_cons_succ])
      | (refine wpAnyE_sk 29 rfl (by kernel_rfl) (by kernel_rfl) (by kernel_rfl) (by kernel_rfl) ?_; try simp only [List.getElem_toArray, List.getElem_cons_zero, List.getElem_cons_succ, Act.put, List.setIfInBounds_toArray, List.set_cons_zero, List.set_cons_succ])
    first
      | (have _hw := (show (s == 0) = true by assumption)
         refine wpAnyE_tk 30 (v := ?_) rfl (by kernel_rfl) (by kernel_rfl) (by kernel_rfl) (by kernel_rfl) ?_ ?_
         rotate_left
         · intro w2 hE
           obtain ⟨q0, q1⟩ := HSC.out w2 hE
           go_simp
           try (with_reducible rfl)
         try simp only [List.getElem_toArray, List.getElem_cons_zero, List.getElem_cons_succ, Act.put, List.setIfInBounds_toArray, List.set_cons_zero, List.set_cons_succ])
      | (have _hw := (show (s == 1) = true by assumption)
         refine wpAnyE_tk 30 (v := ?_) rfl (by kernel_rfl) (by kernel_rfl) (by kernel_rfl) (by kernel_rfl) ?_ ?_
         rotate_left
         · intro w2 hE
           obtain ⟨q0, q1⟩ := HSC.out w2 hE
           go_simp
           try (with_reducible rfl)
         try simp only [List.getElem_toArray, List.getElem_cons_zero, List.getElem_cons_succ, Act.put, List.setIfInBounds_toArray, List.set_cons_zero, List.set_cons_succ])
      | (refine wpAnyE_sk 30 rfl (by kernel_rfl) (by kernel_rfl) (by kernel_rfl) (by kernel_rfl) ?_; try simp only [List.getElem_toArray, List.getElem_cons_zero, List.getElem_cons_succ, Act.put, List.setIfInBounds_toArray, List.set_cons_zero, List.set_cons_succ])
    first
      | (have _hw := (show (s == 0) = true by assumption)
         refine wpAnyE_tk 31 (v := ?_) rfl (by kernel_rfl) (by kernel_rfl) (by kernel_rfl) (by kernel_rfl) ?_ ?_
         rotate_left
         · intro w2 hE
           obtain ⟨q0, q1⟩ := HSC.out w2 hE
           go_simp
           try (with_reducible rfl)
         try simp only [List.getElem_toArray, List.getElem_cons_zero, List.getElem_cons_succ, Act.put, List.setIfInBounds_toArray, List.set_cons_zero, List.set_cons_succ])
      | (have _hw := (show (s == 1) = true by assumption)
         refine wpAnyE_tk 31 (v := ?_) rfl (by kernel_rfl) (by kernel_rfl) (by kernel_rfl) (by kernel_rfl) ?_ ?_
         rotate_left
         · intro w2 hE
           obtain ⟨q0, q1⟩ := HSC.out w2 hE
           go_simp
           try (with_reducible rfl)
         try simp only [List.getElem_toArray, List.getElem_cons_zero, List.getElem_cons_succ, Act.put, List.setIfInBounds_toArray, List.set_cons_zero, List.set_cons_succ])
      | (refine wpAnyE_sk 31 rfl (by kernel_rfl) (by kernel_rfl) (by kernel_rfl) (by kernel_rfl) ?_; try simp only [List.getElem_toArray, List.getElem_cons_zero, List.getElem_cons_succ, Act.put, List.setIfInBounds_toArray, List.set_cons_zero, List.set_cons_succ])
    first
      | (have _hw := (show (s == 0) = true by assumption)
         refine wpAnyE_tk 32 (v := ?_) rfl (by kernel_rfl) (by kernel_rfl) (by kernel_rfl) (by kernel_rfl) ?_ ?_
         rotate_left
         · intro w2 hE
           obtain ⟨q0, q1⟩ := HSC.out w2 hE
           go_simp
           try (with_reducible rfl)
         try simp only [List.getElem_toArray, List.getElem_cons_zero, List.getElem_cons_succ, Act.put, List.setIfInBounds_toArray, List.set_cons_zero, List.set_cons_succ])
      | (have _hw := (show (s == 1) = true by assumption)
         refine wpAnyE_tk 32 (v := ?_) rfl (by kernel_rfl) (by kernel_rfl) (by kernel_rfl) (by kernel_rfl) ?_ ?_
         rotate_left
         · intro w2 hE
           obtain ⟨q0, q1⟩ := HSC.out w2 hE
           go_simp
           try (with_reducible rfl)
         try simp only [List.getElem_toArray, List.getElem_cons_zero, List.getElem_cons_succ, Act.put, List.setIfInBounds_toArray, List.set_cons_zero, List.set_cons_succ])
      | (refine wpAnyE_sk 32 rfl (by kernel_rfl) (by kernel_rfl) (by kernel_rfl) (by kernel_rfl) ?_; try simp only [List.getElem_toArray, List.getElem_cons_zero, List.getElem_cons_succ, Act.put, List.setIfInBounds_toArray, List.set_cons_zero, List.set_cons_succ])
    first
      | (have _hw := (show (s == 0) = true by assumption)
         refine wpAnyE_tk 33 (v := ?_) rfl (by kernel_rfl) (by kernel_rfl) (by kernel_rfl) (by kernel_rfl) ?_ ?_
         rotate_left
         · intro w2 hE
           obtain ⟨q0, q1⟩ := HSC.out w2 hE
           go_simp
           try (with_reducible rfl)
         try simp only [List.getElem_toArray, List.getElem_cons_zero, List.getElem_cons_succ, Act.put, List.setIfInBounds_toArray, List.set_cons_zero, List.set_cons_succ])
      | (have _hw := (show (s == 1) = true by assumption)
         refine wpAnyE_tk 33 (v := ?_) rfl (by kernel_rfl) (by kernel_rfl) (by kernel_rfl) (by kernel_rfl) ?_ ?_
         rotate_left
         · intro w2 hE
           obtain ⟨q0, q1⟩ := HSC.out w2 hE
           go_simp
           try (with_reducible rfl)
         try simp only [List.getElem_toArray, List.getElem_cons_zero, List.getElem_cons_succ, Act.put, List.setIfInBounds_toArray, List.set_cons_zero, List.set_cons_succ])
      | (refine wpAnyE_sk 33 rfl (by kernel_rfl) (by kernel_rfl) (by kernel_rfl) (by kernel_rfl) ?_; try simp only [List.getElem_toArray, List.getElem_cons_zero, List.getElem_cons_succ, Act.put, List.setIfInBounds_toArray, List.set_cons_zero, List.set_cons_succ])
    first
      | (have _hw := (show (s == 0) = true by assumption)
         refine wpAnyE_tk 34 (v := ?_) rfl (by kernel_rfl) (by kernel_rfl) (by kernel_rfl) (by kernel_rfl) ?_ ?_
         rotate_left
         · intro w2 hE
           obtain ⟨q0, q1⟩ := HSC.out w2 hE
           go_simp
           try (with_reducible rfl)
         try simp only [List.getElem_toArray, List.getElem_cons_zero, List.getElem_cons_succ, Act.put, List.setIfInBounds_toArray, List.set_cons_zero, List.set_cons_succ])
      | (have _hw := (show (s == 1) = true by assumption)
         refine wpAnyE_tk 34 (v := ?_) rfl (by kernel_rfl) (by kernel_rfl) (by kernel_rfl) (by kernel_rfl) ?_ ?_
         rotate_left
         · intro w2 hE
           obtain ⟨q0, q1⟩ := HSC.out w2 hE
           go_simp
           try (with_reducible rfl)
         try simp only [List.getElem_toArray, List.getElem_cons_zero, List.getElem_cons_succ, Act.put, List.setIfInBounds_toArray, List.set_cons_zero, List.set_cons_succ])
      | (refine wpAnyE_sk 34 rfl (by kernel_rfl) (by kernel_rfl) (by kernel_rfl) (by kernel_rfl) ?_; try simp only [List.getElem_toArray, List.getElem_cons_zero, List.getElem_cons_succ, Act.put, List.setIfInBounds_toArray, List.set_cons_zero, List.set_cons_succ])
    refine wpAnyE_tk 35 (v := ?_) rfl (by kernel_rfl) (by kernel_rfl) (by kernel_rfl) (by kernel_rfl) ?_ ?_
    rotate_left
    · intro w2 hE
      obtain ⟨q0, q1⟩ := HSC.out w2 hE
      go_simp
      try (with_reducible rfl)
    try simp only [List.getElem_toArray, List.getElem_cons_zero, List.getElem_cons_succ, Act.put, List.setIfInBounds_toArray, List.set_cons_zero, List.set_cons_succ]
    refine wpAnyE_one (i := 36) (by kernel_rfl) rfl (fun w4 hE K hK => ?_)
    rw [if_pos (by kernel_rfl)]
    have HP4 := Lib.hid (HP.out _ _ w4 (JR_later HJ.out hE))
    have HB4 := Lib.hid (bel_trans HB3.out hE)
    clear hE HP HB3 HSC
    go_simp
    refine HP4.out.mono ?_
    rintro e w5 ⟨rfl, hb⟩
    refine hK.out _ _ hb ?_
    clear hK K
    have HB5 := Lib.hid (bel_trans HB4.out hb)
    clear hb HP4 HB4
    try simp only [List.getElem_toArray, List.getElem_cons_zero, List.getElem_cons_succ, Act.put, List.setIfInBounds_toArray, List.set_cons_zero, List.set_cons_succ]
    refine wpAnyE_tk 37 (v := ?_) rfl (by kernel_rfl) (by kernel_rfl) (by kernel_rfl) (by kernel_rfl) ?_ ?_
    rotate_left
    · intro w2 hE
      go_simp
      try (with_reducible rfl)
    try simp only [List.getElem_toArray, List.getElem_cons_zero, List.getElem_cons_succ, Act.put, List.setIfInBounds_toArray, List.set_cons_zero, List.set_cons_succ]
    refine wpAnyE_tk 38 (v := ?_) rfl (by kernel_rfl) (by kernel_rfl) (by kernel_rfl) (by kernel_rfl) ?_ ?_
    rotate_left
    · intro w2 hE
      go_simp
      try (with_reducible rfl)
    try simp only [List.getElem_toArray, List.getElem_cons_zero, List.getElem_cons_succ, Act.put, List.setIfInBounds_toArray, List.set_cons_zero, List.set_cons_succ]
    refine wpAnyE_tk 39 (v := ?_) rfl (by kernel_rfl) (by kernel_rfl) (by kernel_rfl) (by kernel_rfl) ?_ ?_
    rotate_left
    · intro w2 hE
      go_simp
      try (with_reducible rfl)
    try simp only [List.getElem_toArray, List.getElem_cons_zero, List.getElem_cons_succ, Act.put, List.setIfInBounds_toArray, List.set_cons_zero, List.set_cons_succ]
    refine wpAnyE_tk 40 (v := ?_) rfl (by kernel_rfl) (by kernel_rfl) (by kernel_rfl) (by kernel_rfl) ?_ ?_
    rotate_left
    · intro w2 hE
      go_simp
      try (with_reducible rfl)
    try simp only [List.getElem_toArray, List.getElem_cons_zero, List.getElem_cons_succ, Act.put, List.setIfInBounds_toArray, List.set_cons_zero, List.set_cons_succ]
    refine wpAnyE_done (by kernel_rfl) (fun w6 hE6 => ?_) _
    have HB6 := Lib.hid (bel_trans HB5.out hE6)
    clear hE6
    go_wp2_with fail
    go_ret2
    exact ⟨rfl, HB6.out⟩
end Go.Proofs.YtjjgbgojlhaapaaDoor
namespace Go.Proofs.YtjjgbgojlhaapaaDoor
open Go.RowKit Go.Lib

theorem jnumber (n : Int) (w : World) : Calls Tryd.prog 39 #[.int .i64 n] w fun e w' => e = .returned (.agg #[.int .i64 4, .int .i64 n, .string ⟨#[]⟩, .slice none 0 0, .slice none 0 0]) ∧ Below w.heap.size w w' := number_any n w
theorem jwords (s : ByteArray) (w : World) : Calls Tryd.prog 44 #[.string s] w fun e w' => e = .returned (.agg #[.int .i64 5, .int .i64 0, .string s, .slice none 0 0, .slice none 0 0]) ∧ Below w.heap.size w w' := words_any s w
theorem jshort (s : ByteArray) (hs : s.size ≤ 1000000000) (w : World) (hT : Tabs w) : Calls Tryd.prog 43 #[.string s] w fun e w' => e = .returned (.bool (short5R s)) ∧ Below w.heap.size w w' := by
  have hv := valid_any s w (by omega) hT
  unfold short5R
  cases h1 : validB s with
  | false =>
    rw [h1] at hv
    rw [Bool.and_false]
    go_enter Tryd.func43, Tryd.ntmps43
    go_wp2_with fail
    refine Calls.mono hv ?_
    rintro e w' ⟨rfl, hb⟩
    go_wp2_with fail
    go_ret
    exact ⟨rfl, hb⟩
  | true =>
    rw [h1] at hv
    rw [Bool.and_true]
    go_enter Tryd.func43, Tryd.ntmps43
    go_wp2_with fail
    refine Calls.mono hv ?_
    rintro e w' ⟨rfl, hb⟩
    go_wp2_with fail
    go_ret
    exact ⟨ret_bool (by simp; omega), hb⟩
theorem jprint_false (A : Option Addr) (n c : Nat) (w : World) : Calls Tryd.prog 40 #[.bool false, .slice A n c] w fun e w' => e = .returned (.tuple #[.string ⟨#[]⟩, .int .i64 4]) ∧ Below w.heap.size w w' := by
  go_enter Tryd.func40, Tryd.ntmps40
  go_wp2_with fail
  go_ret2
  exact ⟨rfl, Below.refl _ _⟩
theorem printedJ (ms : List (ByteArray × JV)) (ok : Bool) (hlen : mayJ 64 (.mk 7 0 ⟨#[]⟩ [] ms) = true → (printB 64 (.mk 7 0 ⟨#[]⟩ [] ms)).length ≤ 1000000000) :
    ∃ S E, putB ok (.mk 7 0 ⟨#[]⟩ [] ms) = .tuple #[.string S, .int .i64 E] ∧ ∀ (v : Value) (F : Nat → Prop) (w : World), Sl memTy w F v ms → Tabs w → Calls Tryd.prog 40 #[.bool ok, v] w fun e w' => e = .returned (.tuple #[.string S, .int .i64 E]) ∧ Below w.heap.size w w' := by
  cases ok with
  | false =>
    refine ⟨_, _, rfl, fun v F w h _ => ?_⟩
    obtain ⟨A, c, rfl⟩ := h.form
    exact jprint_false A _ c w
  | true => exact ⟨_, _, rfl, fun v F w h hT => rprint_any v ms F w h hT fun hm => Nat.le_trans (hlen hm) (by decide)⟩
end Go.Proofs.YtjjgbgojlhaapaaDoor
