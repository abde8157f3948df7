/- Parts of the proof: Hf. -/
import Derived.Test.YtjjgbgojlhaapaaDoorZWrites26
namespace Go.Proofs.YtjjgbgojlhaapaaDoor
open Go.RowKit Go.Lib

theorem rputFeed_ways : ∀ b16 b20 b25 : Bool, (b16 = false ∧ (b16 && b20 && b25) = false) ∨ (b16 = true ∧ b20 = false ∧ (b16 && b20 && b25) = false) ∨ (b16 = true ∧ b20 = true ∧ b25 = false ∧ (b16 && b20 && b25) = false) ∨ (b16 = true ∧ b20 = true ∧ b25 = true ∧ (b16 && b20 && b25) = true) := by decide
set_option maxRecDepth 100000 in
set_option maxHeartbeats 64000000 in
theorem rputFeed (t : ByteArray) (n : Int) (w : World) (ht : t.size ≤ 1000000) (hsm : SmJ (feedO n t)) (hlen : mayJ 64 (feedO n t) = true → (printB 64 (feedO n t)).length ≤ 1000000000) :
    Calls Tryd.prog 16 #[.agg #[.string t, .int .i64 n]] w fun e w' => e = .returned (putB (feedOk n t) (feedO n t)) ∧ Below w.heap.size w w' := by
  rcases rputFeed_ways (decide (0 ≤ n)) (decide (n ≤ 1000000)) (short5R t) with ⟨h16, hk⟩ | ⟨h16, h20, hk⟩ | ⟨h16, h20, h25, hk⟩ | ⟨h16, h20, h25, hk⟩
  all_goals
    first
      | (have hok : (feedOk n t) = false := hk; rw [hok]; obtain ⟨S, E, hput, hp⟩ := printedC (feedO n t) false hsm hlen; replace hput : putB false (feedO n t) = .tuple #[.string S, .int .i64 E] := hput; rw [hput]; have HP := Lib.hid hp; clear hp hput hok hk hlen hsm)
      | (have hok : (feedOk n t) = true := hk; rw [hok]; obtain ⟨S, E, hput, hp⟩ := printedC (feedO n t) true hsm hlen; replace hput : putB true (feedO n t) = .tuple #[.string S, .int .i64 E] := hput; rw [hput]; have HP := Lib.hid hp; clear hp hput hok hk hlen hsm)
    have n0 := cell_newB w #[.string t, .int .i64 n] 44 0 _ rfl
    have n1 := cell_newB w #[.string t, .int .i64 n] 44 1 _ rfl
    have HB := Lib.hid (bel_alloc (Below.refl w.heap.size w) (.cells #[.string t, .int .i64 n] 44))
    go_enter Tryd.func16, Tryd.ntmps16
    go_wp2_with fail
    generalize w.alloc (.cells #[.string t, .int .i64 n] 44) = W at *
    refine wp_region_E (by kernel_rfl) ?_
    have RC : ∀ w2, Lat W.drew w2 → w2.cell? ⟨w.heap.size, 0, none⟩ = some (.string t) ∧ w2.cell? ⟨w.heap.size, 1, none⟩ = some (.int .i64 n) := fun w2 hE => ⟨cell_later' hE n0, cell_later' hE n1⟩
    clear n0 n1
    have HRC := Lib.hid RC
    clear RC
    have HBV := Lib.hid (bel_drew HB.out)
    clear HB
    generalize W.drew = V at *
    refine wpAnyE_tk 0 (v := ?_) rfl (by kernel_rfl) (by kernel_rfl) (by kernel_rfl) (by kernel_rfl) ?_ ?_
    rotate_left
    · intro w2 hE
      obtain ⟨q0, q1⟩ := HRC.out w2 hE
      go_simp
      try (with_reducible rfl)
    try simp only [List.getElem_toArray, List.getElem_cons_zero, Act.put, List.setIfInBounds_toArray, List.set_cons_zero, List.set_cons_succ]
    refine wpAnyE_tk 1 (v := ?_) rfl (by kernel_rfl) (by kernel_rfl) (by kernel_rfl) (by kernel_rfl) ?_ ?_
    rotate_left
    · intro w2 hE
      obtain ⟨q0, q1⟩ := HRC.out w2 hE
      go_simp
      try (with_reducible rfl)
    try simp only [List.getElem_toArray, List.getElem_cons_zero, List.getElem_cons_succ, Act.put, List.setIfInBounds_toArray, List.set_cons_zero, List.set_cons_succ]
    refine wpAnyE_tk 2 (v := ?_) rfl (by kernel_rfl) (by kernel_rfl) (by kernel_rfl) (by kernel_rfl) ?_ ?_
    rotate_left
    · intro w2 hE
      obtain ⟨q0, q1⟩ := HRC.out w2 hE
      go_simp
      exact rnumber _ _
    try simp only [List.getElem_toArray, List.getElem_cons_zero, List.getElem_cons_succ, Act.put, List.setIfInBounds_toArray, List.set_cons_zero, List.set_cons_succ]
    refine wpAnyE_tk 3 (v := ?_) rfl (by kernel_rfl) (by kernel_rfl) (by kernel_rfl) (by kernel_rfl) ?_ ?_
    rotate_left
    · intro w2 hE
      obtain ⟨q0, q1⟩ := HRC.out w2 hE
      go_simp
      try (with_reducible rfl)
    try simp only [List.getElem_toArray, List.getElem_cons_zero, List.getElem_cons_succ, Act.put, List.setIfInBounds_toArray, List.set_cons_zero, List.set_cons_succ]
    refine wpAnyE_tk 4 (v := ?_) rfl (by kernel_rfl) (by kernel_rfl) (by kernel_rfl) (by kernel_rfl) ?_ ?_
    rotate_left
    · intro w2 hE
      obtain ⟨q0, q1⟩ := HRC.out w2 hE
      go_simp
      try (with_reducible rfl)
    try simp only [List.getElem_toArray, List.getElem_cons_zero, List.getElem_cons_succ, Act.put, List.setIfInBounds_toArray, List.set_cons_zero, List.set_cons_succ]
    refine wpAnyE_tk 5 (v := ?_) rfl (by kernel_rfl) (by kernel_rfl) (by kernel_rfl) (by kernel_rfl) ?_ ?_
    rotate_left
    · intro w2 hE
      obtain ⟨q0, q1⟩ := HRC.out w2 hE
      go_simp
      try (with_reducible rfl)
    try simp only [List.getElem_toArray, List.getElem_cons_zero, List.getElem_cons_succ, Act.put, List.setIfInBounds_toArray, List.set_cons_zero, List.set_cons_succ]
    refine wpAnyE_tk 6 (v := ?_) rfl (by kernel_rfl) (by kernel_rfl) (by kernel_rfl) (by kernel_rfl) ?_ ?_
    rotate_left
    · intro w2 hE
      obtain ⟨q0, q1⟩ := HRC.out w2 hE
      go_simp
      exact rtext _ _
    try simp only [List.getElem_toArray, List.getElem_cons_zero, List.getElem_cons_succ, Act.put, List.setIfInBounds_toArray, List.set_cons_zero, List.set_cons_succ]
    refine wpAnyE_tk 7 (v := ?_) rfl (by kernel_rfl) (by kernel_rfl) (by kernel_rfl) (by kernel_rfl) ?_ ?_
    rotate_left
    · intro w2 hE
      obtain ⟨q0, q1⟩ := HRC.out w2 hE
      go_simp
      try (with_reducible rfl)
    try simp only [List.getElem_toArray, List.getElem_cons_zero, List.getElem_cons_succ, Act.put, List.setIfInBounds_toArray, List.set_cons_zero, List.set_cons_succ]
    refine wpAnyE_tk 10 (v := ?_) rfl (by kernel_rfl) (by kernel_rfl) (by kernel_rfl) (by kernel_rfl) ?_ ?_
    rotate_left
    · intro w2 hE
      obtain ⟨q0, q1⟩ := HRC.out w2 hE
      go_simp
      try (with_reducible rfl)
    try simp only [List.getElem_toArray, List.getElem_cons_zero, List.getElem_cons_succ, Act.put, List.setIfInBounds_toArray, List.set_cons_zero, List.set_cons_succ]
    refine wpAnyE_tk 11 (v := ?_) rfl (by kernel_rfl) (by kernel_rfl) (by kernel_rfl) (by kernel_rfl) ?_ ?_
    rotate_left
    · intro w2 hE
      obtain ⟨q0, q1⟩ := HRC.out w2 hE
      go_simp
      try (with_reducible rfl)
    try simp only [List.getElem_toArray, List.getElem_cons_zero, List.getElem_cons_succ, Act.put, List.setIfInBounds_toArray, List.set_cons_zero, List.set_cons_succ]
    refine wpAnyE_tk 12 (v := ?_) rfl (by kernel_rfl) (by kernel_rfl) (by kernel_rfl) (by kernel_rfl) ?_ ?_
    rotate_left
    · intro w2 hE
      obtain ⟨q0, q1⟩ := HRC.out w2 hE
      go_simp
      try (with_reducible rfl)
    try simp only [List.getElem_toArray, List.getElem_cons_zero, List.getElem_cons_succ, Act.put, List.setIfInBounds_toArray, List.set_cons_zero, List.set_cons_succ]
    refine wpAnyE_one (i := 8) (by kernel_rfl) rfl (fun w2 hE K hK => ?_)
    rw [if_pos (by kernel_rfl)]
    obtain ⟨q0, q1⟩ := HRC.out w2 hE
    have HB2 := Lib.hid (bel_trans HBV.out hE)
    clear HBV hE HRC
    go_simp
    have hsl : Sl memTy (w2.alloc (Obj.cells #[.string ⟨#[110]⟩, .int .i64 4, .int .i64 n, .string ⟨#[]⟩, .slice none 0 0, .slice none 0 0, .string ⟨#[116, 105, 116, 108, 101]⟩, .int .i64 5, .int .i64 0, .string t, .slice none 0 0, .slice none 0 0] 91)) (fun _ => True) (.slice (some ⟨w2.heap.size, 0, none⟩) 2 2) [(nmN, numV n), (nmTitle, wordV t)] :=
      new_members (T := 91) w2 ([(nmN, numV n)] ++ [(nmTitle, wordV t)]) _ (by simp) (fun W => (Chunks.append (mem_chunk nmN (numV n) _ (by decide) (num_jr W _ n)) (mem_chunk nmTitle (wordV t) _ (by decide) (word_jr W _ (nm := t) (by omega)))))
    refine hK.out _ _ (bel_alloc (Below.refl _ _) _) ?_
    clear hK K
    have hbA := bel_trans HB2.out (bel_alloc (Below.refl _ w2) (Obj.cells #[.string ⟨#[110]⟩, .int .i64 4, .int .i64 n, .string ⟨#[]⟩, .slice none 0 0, .slice none 0 0, .string ⟨#[116, 105, 116, 108, 101]⟩, .int .i64 5, .int .i64 0, .string t, .slice none 0 0, .slice none 0 0] 91))
    have hSC : ∀ w3, Lat (w2.alloc (Obj.cells #[.string ⟨#[110]⟩, .int .i64 4, .int .i64 n, .string ⟨#[]⟩, .slice none 0 0, .slice none 0 0, .string ⟨#[116, 105, 116, 108, 101]⟩, .int .i64 5, .int .i64 0, .string t, .slice none 0 0, .slice none 0 0] 91)) w3 → w3.cell? ⟨w.heap.size, 0, none⟩ = some (.string t) ∧ w3.cell? ⟨w.heap.size, 1, none⟩ = some (.int .i64 n) := fun w3 hE => ⟨cell_later' (bel_trans (bel_alloc (Below.refl _ w2) (Obj.cells #[.string ⟨#[110]⟩, .int .i64 4, .int .i64 n, .string ⟨#[]⟩, .slice none 0 0, .slice none 0 0, .string ⟨#[116, 105, 116, 108, 101]⟩, .int .i64 5, .int .i64 0, .string t, .slice none 0 0, .slice none 0 0] 91)) hE) q0, cell_later' (bel_trans (bel_alloc (Below.refl _ w2) (Obj.cells #[.string ⟨#[110]⟩, .int .i64 4, .int .i64 n, .string ⟨#[]⟩, .slice none 0 0, .slice none 0 0, .string ⟨#[116, 105, 116, 108, 101]⟩, .int .i64 5, .int .i64 0, .string t, .slice none 0 0, .slice none 0 0] 91)) hE) q1⟩
    have HSC := Lib.hid hSC
    clear hSC q0 q1
    have hj := obj_jr hsl
    have HB3 := Lib.hid hbA
    clear hsl hbA HB2
    generalize w2.alloc (Obj.cells #[.string ⟨#[110]⟩, .int .i64 4, .int .i64 n, .string ⟨#[]⟩, .slice none 0 0, .slice none 0 0, .string ⟨#[116, 105, 116, 108, 101]⟩, .int .i64 5, .int .i64 0, .string t, .slice none 0 0, .slice none 0 0] 91) = W3 at *
    generalize w2.heap.size = gz at *
    have HJ := Lib.hid hj
    clear w2 hj
    refine wpAnyE_tk 9 (v := ?_) rfl (by kernel_rfl) (by kernel_rfl) (by kernel_rfl) (by kernel_rfl) ?_ ?_
    rotate_left
    · intro w2 hE
      obtain ⟨q0, q1⟩ := HSC.out w2 hE
      go_simp
      exact robject _ _ _ _
    try simp only [List.getElem_toArray, List.getElem_cons_zero, List.getElem_cons_succ, Act.put, List.setIfInBounds_toArray, List.set_cons_zero, List.set_cons_succ]
    refine wpAnyE_tk 13 (v := ?_) rfl (by kernel_rfl) (by kernel_rfl) (by kernel_rfl) (by kernel_rfl) ?_ ?_
    rotate_left
    · intro w2 hE
      obtain ⟨q0, q1⟩ := HSC.out w2 hE
      go_simp
      try (with_reducible rfl)
    try simp only [List.getElem_toArray, List.getElem_cons_zero, List.getElem_cons_succ, Act.put, List.setIfInBounds_toArray, List.set_cons_zero, List.set_cons_succ]
    first
      | (have _hw := (show decide (0 ≤ n) = true by assumption)
         refine wpAnyE_tk 14 (v := ?_) rfl (by kernel_rfl) (by kernel_rfl) (by kernel_rfl) (by kernel_rfl) ?_ ?_
         rotate_left
         · intro w2 hE
           obtain ⟨q0, q1⟩ := HSC.out w2 hE
           go_simp
           try (with_reducible rfl)
         try simp only [List.getElem_toArray, List.getElem_cons_zero, List.getElem_cons_succ, Act.put, List.setIfInBounds_toArray, List.set_cons_zero, List.set_cons_succ])
      | (refine wpAnyE_sk 14 rfl (by kernel_rfl) (by kernel_rfl) (by kernel_rfl) (by kernel_rfl) ?_; try simp only [List.getElem_toArray, List.getElem_cons_zero, List.getElem_cons_succ, Act.put, List.setIfInBounds_toArray, List.set_cons_zero, List.set_cons_succ])
    first
      | (have _hw := (show decide (0 ≤ n) = true by assumption)
         refine wpAnyE_tk 15 (v := ?_) rfl (by kernel_rfl) (by kernel_rfl) (by kernel_rfl) (by kernel_rfl) ?_ ?_
         rotate_left
         · intro w2 hE
           obtain ⟨q0, q1⟩ := HSC.out w2 hE
           go_simp
           try (with_reducible rfl)
         try simp only [List.getElem_toArray, List.getElem_cons_zero, List.getElem_cons_succ, Act.put, List.setIfInBounds_toArray, List.set_cons_zero, List.set_cons_succ])
      | (refine wpAnyE_sk 15 rfl (by kernel_rfl) (by kernel_rfl) (by kernel_rfl) (by kernel_rfl) ?_; try simp only [List.getElem_toArray, List.getElem_cons_zero, List.getElem_cons_succ, Act.put, List.setIfInBounds_toArray, List.set_cons_zero, List.set_cons_succ])
    first
      | (have _hw := (show decide (0 ≤ n) = true by assumption)
         refine wpAnyE_tk 16 (v := ?_) rfl (by kernel_rfl) (by kernel_rfl) (by kernel_rfl) (by kernel_rfl) ?_ ?_
         rotate_left
         · intro w2 hE
           obtain ⟨q0, q1⟩ := HSC.out w2 hE
           go_simp
           try (with_reducible rfl)
         try simp only [List.getElem_toArray, List.getElem_cons_zero, List.getElem_cons_succ, Act.put, List.setIfInBounds_toArray, List.set_cons_zero, List.set_cons_succ])
      | (refine wpAnyE_sk 16 rfl (by kernel_rfl) (by kernel_rfl) (by kernel_rfl) (by kernel_rfl) ?_; try simp only [List.getElem_toArray, List.getElem_cons_zero, List.getElem_cons_succ, Act.put, List.setIfInBounds_toArray, List.set_cons_zero, List.set_cons_succ])
    refine wpAnyE_tk 17 (v := ?_) rfl (by kernel_rfl) (by kernel_rfl) (by kernel_rfl) (by kernel_rfl) ?_ ?_
    rotate_left
    · intro w2 hE
      obtain ⟨q0, q1⟩ := HSC.out w2 hE
      go_simp
      try (with_reducible rfl)
    try simp only [List.getElem_toArray, List.getElem_cons_zero, List.getElem_cons_succ, Act.put, List.setIfInBounds_toArray, List.set_cons_zero, List.set_cons_succ]
    refine wpAnyE_tk 18 (v := ?_) rfl (by kernel_rfl) (by kernel_rfl) (by kernel_rfl) (by kernel_rfl) ?_ ?_
    rotate_left
    · intro w2 hE
      obtain ⟨q0, q1⟩ := HSC.out w2 hE
      go_simp
      try (with_reducible rfl)
    try simp only [List.getElem_toArray, List.getElem_cons_zero, List.getElem_cons_succ, Act.put, List.setIfInBounds_toArray, List.set_cons_zero, List.set_cons_succ]
    first
      | (have _hw := (show decide (n ≤ 1000000) = true by assumption)
         refine wpAnyE_tk 19 (v := ?_) rfl (by kernel_rfl) (by kernel_rfl) (by kernel_rfl) (by kernel_rfl) ?_ ?_
         rotate_left
         · intro w2 hE
           obtain ⟨q0, q1⟩ := HSC.out w2 hE
           go_simp
           try (with_reducible rfl)
         try simp only [List.getElem_toArray, List.getElem_cons_zero, List.getElem_cons_succ, Act.put, List.setIfInBounds_toArray, List.set_cons_zero, List.set_cons_succ])
      | (refine wpAnyE_sk 19 rfl (by kernel_rfl) (by kernel_rfl) (by kernel_rfl) (by kernel_rfl) ?_; try simp only [List.getElem_toArray, List.getElem_cons_zero, List.getElem_cons_succ, Act.put, List.setIfInBounds_toArray, List.set_cons_zero, List.set_cons_succ])
    first
      | (have _hw := (show decide (n ≤ 1000000) = true by assumption)
         refine wpAnyE_tk 20 (v := ?_) rfl (by kernel_rfl) (by kernel_rfl) (by kernel_rfl) (by kernel_rfl) ?_ ?_
         rotate_left
         · intro w2 hE
           obtain ⟨q0, q1⟩ := HSC.out w2 hE
           go_simp
           try (with_reducible rfl)
         try simp only [List.getElem_toArray, List.getElem_cons_zero, List.getElem_cons_succ, Act.put, List.setIfInBounds_toArray, List.set_cons_zero, List.set_cons_succ])
      | (refine wpAnyE_sk 20 rfl (by kernel_rfl) (by kernel_rfl) (by kernel_rfl) (by kernel_rfl) ?_; try simp only [List.getElem_toArray, List.getElem_cons_zero, List.getElem_cons_succ, Act.put, List.setIfInBounds_toArray, List.set_cons_zero, List.set_cons_succ])
    first
      | (have _hw := (show decide (n ≤ 1000000) = true by assumption)
         refine wpAnyE_tk 21 (v := ?_) rfl (by kernel_rfl) (by kernel_rfl) (by kernel_rfl) (by kernel_rfl) ?_ ?_
         rotate_left
         · intro w2 hE
           obtain ⟨q0, q1⟩ := HSC.out w2 hE
           go_simp
           have hv := rshort t (by omega) w2
           first | rw [show short5R t = true by assumption] at hv | rw [show short5R t = false by assumption] at hv
           exact hv
         try simp only [List.getElem_toArray, List.getElem_cons_zero, List.getElem_cons_succ, Act.put, List.setIfInBounds_toArray, List.set_cons_zero, List.set_cons_succ])
      | (refine wpAnyE_sk 21 rfl (by kernel_rfl) (by kernel_rfl) (by kernel_rfl) (by kernel_rfl) ?_; try simp only [List.getElem_toArray, List.getElem_cons_zero, List.getElem_cons_succ, Act.put, List.setIfInBounds_toArray, List.set_cons_zero, List.set_cons_succ])
    refine wpAnyE_tk 22 (v := ?_) rfl (by kernel_rfl) (by kernel_rfl) (by kernel_rfl) (by kernel_rfl) ?_ ?_
    rotate_left
    · intro w2 hE
      obtain ⟨q0, q1⟩ := HSC.out w2 hE
      go_simp
      try (with_reducible rfl)
    try simp only [List.getElem_toArray, List.getElem_cons_zero, List.getElem_cons_succ, Act.put, List.setIfInBounds_toArray, List.set_cons_zero, List.set_cons_succ]
    refine wpAnyE_one (i := 23) (by kernel_rfl) rfl (fun w4 hE K hK => ?_)
    rw [if_pos (by kernel_rfl)]
    have HP4 := Lib.hid (HP.out _ _ w4 (JR_later HJ.out hE))
    have HB4 := Lib.hid (bel_trans HB3.out hE)
    clear hE HP HB3 HSC
    go_simp
    refine HP4.out.mono ?_
    rintro e w5 ⟨rfl, hb⟩
    refine hK.out _ _ hb ?_
    clear hK K
    have HB5 := Lib.hid (bel_trans HB4.out hb)
    clear hb HP4 HB4
    try simp only [List.getElem_toArray, List.getElem_cons_zero, List.getElem_cons_succ, Act.put, List.setIfInBounds_toArray, List.set_cons_zero, List.set_cons_succ]
    refine wpAnyE_tk 24 (v := ?_) rfl (by kernel_rfl) (by kernel_rfl) (by kernel_rfl) (by kernel_rfl) ?_ ?_
    rotate_left
    · intro w2 hE
      go_simp
      try (with_reducible rfl)
    try simp only [List.getElem_toArray, List.getElem_cons_zero, List.getElem_cons_succ, Act.put, List.setIfInBounds_toArray, List.set_cons_zero, List.set_cons_succ]
    refine wpAnyE_tk 25 (v := ?_) rfl (by kernel_rfl) (by kernel_rfl) (by kernel_rfl) (by kernel_rfl) ?_ ?_
    rotate_left
    · intro w2 hE
      go_simp
      try (with_reducible rfl)
    try simp only [List.getElem_toArray, List.getElem_cons_zero, List.getElem_cons_succ, Act.put, List.setIfInBounds_toArray, List.set_cons_zero, List.set_cons_succ]
    refine wpAnyE_tk 26 (v := ?_) rfl (by kernel_rfl) (by kernel_rfl) (by kernel_rfl) (by kernel_rfl) ?_ ?_
    rotate_left
    · intro w2 hE
      go_simp
      try (with_reducible rfl)
    try simp only [List.getElem_toArray, List.getElem_cons_zero, List.getElem_cons_succ, Act.put, List.setIfInBounds_toArray, List.set_cons_zero, List.set_cons_succ]
    refine wpAnyE_tk 27 (v := ?_) rfl (by kernel_rfl) (by kernel_rfl) (by kernel_rfl) (by kernel_rfl) ?_ ?_
    rotate_left
    · intro w2 hE
      go_simp
      try (with_reducible rfl)
    try simp only [List.getElem_toArray, List.getElem_cons_zero, List.getElem_cons_succ, Act.put, List.setIfInBounds_toArray, List.set_cons_zero, List.set_cons_succ]
    refine wpAnyE_done (by kernel_rfl) (fun w6 hE6 => ?_) _
    have HB6 := Lib.hid (bel_trans HB5.out hE6)
    clear hE6
    go_wp2_with fail
    go_ret2
    exact ⟨rfl, HB6.out⟩
end Go.Proofs.YtjjgbgojlhaapaaDoor
