/- Parts of the proof: He. -/
import Derived.Test.YtjjgbgojlhaapaaDoorZWrites26
namespace Go.Proofs.YtjjgbgojlhaapaaDoor
open Go.RowKit Go.Lib

theorem rputEntry_ways : ∀ b24 b28 b33 b38 b43 b48 : Bool, (b24 = false ∧ (b24 && b28 && b33 && b38 && b43 && b48) = false) ∨ (b24 = true ∧ b28 = false ∧ (b24 && b28 && b33 && b38 && b43 && b48) = false) ∨ (b24 = true ∧ b28 = true ∧ b33 = false ∧ (b24 && b28 && b33 && b38 && b43 && b48) = false) ∨ (b24 = true ∧ b28 = true ∧ b33 = true ∧ b38 = false ∧ (b24 && b28 && b33 && b38 && b43 && b48) = false) ∨ (b24 = true ∧ b28 = true ∧ b33 = true ∧ b38 = true ∧ b43 = false ∧ (b24 && b28 && b33 && b38 && b43 && b48) = false) ∨ (b24 = true ∧ b28 = true ∧ b33 = true ∧ b38 = true ∧ b43 = true ∧ b48 = false ∧ (b24 && b28 && b33 && b38 && b43 && b48) = false) ∨ (b24 = true ∧ b28 = true ∧ b33 = true ∧ b38 = true ∧ b43 = true ∧ b48 = true ∧ (b24 && b28 && b33 && b38 && b43 && b48) = true) := by decide
set_option maxRecDepth 100000 in
set_option maxHeartbeats 64000000 in
theorem rputEntry (m n : Int) (g t l : ByteArray) (w : World) (hg : g.size ≤ 1000000) (ht : t.size ≤ 1000000) (hl : l.size ≤ 1000000) (hsm : SmJ (entryO g l t n)) (hlen : mayJ 64 (entryO g l t n) = true → (printB 64 (entryO g l t n)).length ≤ 1000000000) :
    Calls Tryd.prog 18 #[.agg #[.int .i64 m, .string g, .string t, .string l, .int .i64 n]] w fun e w' => e = .returned (putB (entryOk g l t n) (entryO g l t n)) ∧ Below w.heap.size w w' := by
  rcases rputEntry_ways ((!g.toList.isEmpty)) (short5R g) (short5R l) (short5R t) (decide (0 ≤ n)) (decide (n ≤ 1099511627776)) with ⟨h24, hk⟩ | ⟨h24, h28, hk⟩ | ⟨h24, h28, h33, hk⟩ | ⟨h24, h28, h33, h38, hk⟩ | ⟨h24, h28, h33, h38, h43, hk⟩ | ⟨h24, h28, h33, h38, h43, h48, hk⟩ | ⟨h24, h28, h33, h38, h43, h48, hk⟩
  all_goals
    first
      | (have hok : (entryOk g l t n) = false := hk; rw [hok]; obtain ⟨S, E, hput, hp⟩ := printedC (entryO g l t n) false hsm hlen; replace hput : putB false (entryO g l t n) = .tuple #[.string S, .int .i64 E] := hput; rw [hput]; have HP := Lib.hid hp; clear hp hput hok hk hlen hsm)
      | (have hok : (entryOk g l t n) = true := hk; rw [hok]; obtain ⟨S, E, hput, hp⟩ := printedC (entryO g l t n) true hsm hlen; replace hput : putB true (entryO g l t n) = .tuple #[.string S, .int .i64 E] := hput; rw [hput]; have HP := Lib.hid hp; clear hp hput hok hk hlen hsm)
    have n0 := cell_newB w #[.int .i64 m, .string g, .string t, .string l, .int .i64 n] 39 0 _ rfl
    have n1 := cell_newB w #[.int .i64 m, .string g, .string t, .string l, .int .i64 n] 39 1 _ rfl
    have n2 := cell_newB w #[.int .i64 m, .string g, .string t, .string l, .int .i64 n] 39 2 _ rfl
    have n3 := cell_newB w #[.int .i64 m, .string g, .string t, .string l, .int .i64 n] 39 3 _ rfl
    have n4 := cell_newB w #[.int .i64 m, .string g, .string t, .string l, .int .i64 n] 39 4 _ rfl
    have HB := Lib.hid (bel_alloc (Below.refl w.heap.size w) (.cells #[.int .i64 m, .string g, .string t, .string l, .int .i64 n] 39))
    go_enter Tryd.func18, Tryd.ntmps18
    go_wp2_with fail
    generalize w.alloc (.cells #[.int .i64 m, .string g, .string t, .string l, .int .i64 n] 39) = W at *
    refine wp_region_E (by kernel_rfl) ?_
    have RC : ∀ w2, Lat W.drew w2 → w2.cell? ⟨w.heap.size, 0, none⟩ = some (.int .i64 m) ∧ w2.cell? ⟨w.heap.size, 1, none⟩ = some (.string g) ∧ w2.cell? ⟨w.heap.size, 2, none⟩ = some (.string t) ∧ w2.cell? ⟨w.heap.size, 3, none⟩ = some (.string l) ∧ w2.cell? ⟨w.heap.size, 4, none⟩ = some (.int .i64 n) := fun w2 hE => ⟨cell_later' hE n0, cell_later' hE n1, cell_later' hE n2, cell_later' hE n3, cell_later' hE n4⟩
    clear n0 n1 n2 n3 n4
    have HRC := Lib.hid RC
    clear RC
    have HBV := Lib.hid (bel_drew HB.out)
    clear HB
    generalize W.drew = V at *
    refine wpAnyE_tk 0 (v := ?_) rfl (by kernel_rfl) (by kernel_rfl) (by kernel_rfl) (by kernel_rfl) ?_ ?_
    rotate_left
    · intro w2 hE
      obtain ⟨q0, q1, q2, q3, q4⟩ := HRC.out w2 hE
      go_simp
      try (with_reducible rfl)
    try simp only [List.getElem_toArray, List.getElem_cons_zero, Act.put, List.setIfInBounds_toArray, List.set_cons_zero, List.set_cons_succ]
    refine wpAnyE_tk 1 (v := ?_) rfl (by kernel_rfl) (by kernel_rfl) (by kernel_rfl) (by kernel_rfl) ?_ ?_
    rotate_left
    · intro w2 hE
      obtain ⟨q0, q1, q2, q3, q4⟩ := HRC.out w2 hE
      go_simp
      try (with_reducible rfl)
    try simp only [List.getElem_toArray, List.getElem_cons_zero, List.getElem_cons_succ, Act.put, List.setIfInBounds_toArray, List.set_cons_zero, List.set_cons_succ]
    refine wpAnyE_tk 2 (v := ?_) rfl (by kernel_rfl) (by kernel_rfl) (by kernel_rfl) (by kernel_rfl) ?_ ?_
    rotate_left
    · intro w2 hE
      obtain ⟨q0, q1, q2, q3, q4⟩ := HRC.out w2 hE
      go_simp
      exact rtext _ _
    try simp only [List.getElem_toArray, List.getElem_cons_zero, List.getElem_cons_succ, Act.put, List.setIfInBounds_toArray, List.set_cons_zero, List.set_cons_succ]
    refine wpAnyE_tk 3 (v := ?_) rfl (by kernel_rfl) (by kernel_rfl) (by kernel_rfl) (by kernel_rfl) ?_ ?_
    rotate_left
    · intro w2 hE
      obtain ⟨q0, q1, q2, q3, q4⟩ := HRC.out w2 hE
      go_simp
      try (with_reducible rfl)
    try simp only [List.getElem_toArray, List.getElem_cons_zero, List.getElem_cons_succ, Act.put, List.setIfInBounds_toArray, List.set_cons_zero, List.set_cons_succ]
    refine wpAnyE_tk 4 (v := ?_) rfl (by kernel_rfl) (by kernel_rfl) (by kernel_rfl) (by kernel_rfl) ?_ ?_
    rotate_left
    · intro w2 hE
      obtain ⟨q0, q1, q2, q3, q4⟩ := HRC.out w2 hE
      go_simp
      try (with_reducible rfl)
    try simp only [List.getElem_toArray, List.getElem_cons_zero, List.getElem_cons_succ, Act.put, List.setIfInBounds_toArray, List.set_cons_zero, List.set_cons_succ]
    refine wpAnyE_tk 5 (v := ?_) rfl (by kernel_rfl) (by kernel_rfl) (by kernel_rfl) (by kernel_rfl) ?_ ?_
    rotate_left
    · intro w2 hE
      obtain ⟨q0, q1, q2, q3, q4⟩ := HRC.out w2 hE
      go_simp
      try (with_reducible rfl)
    try simp only [List.getElem_toArray, List.getElem_cons_zero, List.getElem_cons_succ, Act.put, List.setIfInBounds_toArray, List.set_cons_zero, List.set_cons_succ]
    refine wpAnyE_tk 6 (v := ?_) rfl (by kernel_rfl) (by kernel_rfl) (by kernel_rfl) (by kernel_rfl) ?_ ?_
    rotate_left
    · intro w2 hE
      obtain ⟨q0, q1, q2, q3, q4⟩ := HRC.out w2 hE
      go_simp
      exact rtext _ _
    try simp only [List.getElem_toArray, List.getElem_cons_zero, List.getElem_cons_succ, Act.put, List.setIfInBounds_toArray, List.set_cons_zero, List.set_cons_succ]
    refine wpAnyE_tk 7 (v := ?_) rfl (by kernel_rfl) (by kernel_rfl) (by kernel_rfl) (by kernel_rfl) ?_ ?_
    rotate_left
    · intro w2 hE
      obtain ⟨q0, q1, q2, q3, q4⟩ := HRC.out w2 hE
      go_simp
      try (with_reducible rfl)
    try simp only [List.getElem_toArray, List.getElem_cons_zero, List.getElem_cons_succ, Act.put, List.setIfInBounds_toArray, List.set_cons_zero, List.set_cons_succ]
    refine wpAnyE_tk 8 (v := ?_) rfl (by kernel_rfl) (by kernel_rfl) (by kernel_rfl) (by kernel_rfl) ?_ ?_
    rotate_left
    · intro w2 hE
      obtain ⟨q0, q1, q2, q3, q4⟩ := HRC.out w2 hE
      go_simp
      try (with_reducible rfl)
    try simp only [List.getElem_toArray, List.getElem_cons_zero, List.getElem_cons_succ, Act.put, List.setIfInBounds_toArray, List.set_cons_zero, List.set_cons_succ]
    refine wpAnyE_tk 9 (v := ?_) rfl (by kernel_rfl) (by kernel_rfl) (by kernel_rfl) (by kernel_rfl) ?_ ?_
    rotate_left
    · intro w2 hE
      obtain ⟨q0, q1, q2, q3, q4⟩ := HRC.out w2 hE
      go_simp
      try (with_reducible rfl)
    try simp only [List.getElem_toArray, List.getElem_cons_zero, List.getElem_cons_succ, Act.put, List.setIfInBounds_toArray, List.set_cons_zero, List.set_cons_succ]
    refine wpAnyE_tk 10 (v := ?_) rfl (by kernel_rfl) (by kernel_rfl) (by kernel_rfl) (by kernel_rfl) ?_ ?_
    rotate_left
    · intro w2 hE
      obtain ⟨q0, q1, q2, q3, q4⟩ := HRC.out w2 hE
      go_simp
      exact rtext _ _
    try simp only [List.getElem_toArray, List.getElem_cons_zero, List.getElem_cons_succ, Act.put, List.setIfInBounds_toArray, List.set_cons_zero, List.set_cons_succ]
    refine wpAnyE_tk 11 (v := ?_) rfl (by kernel_rfl) (by kernel_rfl) (by kernel_rfl) (by kernel_rfl) ?_ ?_
    rotate_left
    · intro w2 hE
      obtain ⟨q0, q1, q2, q3, q4⟩ := HRC.out w2 hE
      go_simp
      try (with_reducible rfl)
    try simp only [List.getElem_toArray, List.getElem_cons_zero, List.getElem_cons_succ, Act.put, List.setIfInBounds_toArray, List.set_cons_zero, List.set_cons_succ]
    refine wpAnyE_tk 12 (v := ?_) rfl (by kernel_rfl) (by kernel_rfl) (by kernel_rfl) (by kernel_rfl) ?_ ?_
    rotate_left
    · intro w2 hE
      obtain ⟨q0, q1, q2, q3, q4⟩ := HRC.out w2 hE
      go_simp
      try (with_reducible rfl)
    try simp only [List.getElem_toArray, List.getElem_cons_zero, List.getElem_cons_succ, Act.put, List.setIfInBounds_toArray, List.set_cons_zero, List.set_cons_succ]
    refine wpAnyE_tk 13 (v := ?_) rfl (by kernel_rfl) (by kernel_rfl) (by kernel_rfl) (by kernel_rfl) ?_ ?_
    rotate_left
    · intro w2 hE
      obtain ⟨q0, q1, q2, q3, q4⟩ := HRC.out w2 hE
      go_simp
      try (with_reducible rfl)
    try simp only [List.getElem_toArray, List.getElem_cons_zero, List.getElem_cons_succ, Act.put, List.setIfInBounds_toArray, List.set_cons_zero, List.set_cons_succ]
    refine wpAnyE_tk 14 (v := ?_) rfl (by kernel_rfl) (by kernel_rfl) (by kernel_rfl) (by kernel_rfl) ?_ ?_
    rotate_left
    · intro w2 hE
      obtain ⟨q0, q1, q2, q3, q4⟩ := HRC.out w2 hE
      go_simp
      exact rnumber _ _
    try simp only [List.getElem_toArray, List.getElem_cons_zero, List.getElem_cons_succ, Act.put, List.setIfInBounds_toArray, List.set_cons_zero, List.set_cons_succ]
    refine wpAnyE_tk 15 (v := ?_) rfl (by kernel_rfl) (by kernel_rfl) (by kernel_rfl) (by kernel_rfl) ?_ ?_
    rotate_left
    · intro w2 hE
      obtain ⟨q0, q1, q2, q3, q4⟩ := HRC.out w2 hE
      go_simp
      try (with_reducible rfl)
    try simp only [List.getElem_toArray, List.getElem_cons_zero, List.getElem_cons_succ, Act.put, List.setIfInBounds_toArray, List.set_cons_zero, List.set_cons_succ]
    refine wpAnyE_tk 18 (v := ?_) rfl (by kernel_rfl) (by kernel_rfl) (by kernel_rfl) (by kernel_rfl) ?_ ?_
    rotate_left
    · intro w2 hE
      obtain ⟨q0, q1, q2, q3, q4⟩ := HRC.out w2 hE
      go_simp
      try (with_reducible rfl)
    try simp only [List.getElem_toArray, List.getElem_cons_zero, List.getElem_cons_succ, Act.put, List.setIfInBounds_toArray, List.set_cons_zero, List.set_cons_succ]
    refine wpAnyE_tk 19 (v := ?_) rfl (by kernel_rfl) (by kernel_rfl) (by kernel_rfl) (by kernel_rfl) ?_ ?_
    rotate_left
    · intro w2 hE
      obtain ⟨q0, q1, q2, q3, q4⟩ := HRC.out w2 hE
      go_simp
      try (with_reducible rfl)
    try simp only [List.getElem_toArray, List.getElem_cons_zero, List.getElem_cons_succ, Act.put, List.setIfInBounds_toArray, List.set_cons_zero, List.set_cons_succ]
    refine wpAnyE_tk 20 (v := ?_) rfl (by kernel_rfl) (by kernel_rfl) (by kernel_rfl) (by kernel_rfl) ?_ ?_
    rotate_left
    · intro w2 hE
      obtain ⟨q0, q1, q2, q3, q4⟩ := HRC.out w2 hE
      go_simp
      try (with_reducible rfl)
    try simp only [List.getElem_toArray, List.getElem_cons_zero, List.getElem_cons_succ, Act.put, List.setIfInBounds_toArray, List.set_cons_zero, List.set_cons_succ]
    refine wpAnyE_one (i := 16) (by kernel_rfl) rfl (fun w2 hE K hK => ?_)
    rw [if_pos (by kernel_rfl)]
    obtain ⟨q0, q1, q2, q3, q4⟩ := HRC.out w2 hE
    have HB2 := Lib.hid (bel_trans HBV.out hE)
    clear HBV hE HRC
    go_simp
    have hsl : Sl memTy (w2.alloc (Obj.cells #[.string ⟨#[103, 117, 105, 100]⟩, .int .i64 5, .int .i64 0, .string g, .slice none 0 0, .slice none 0 0, .string ⟨#[108, 105, 110, 107]⟩, .int .i64 5, .int .i64 0, .string l, .slice none 0 0, .slice none 0 0, .string ⟨#[116, 105, 116, 108, 101]⟩, .int .i64 5, .int .i64 0, .string t, .slice none 0 0, .slice none 0 0, .string ⟨#[119, 104, 101, 110]⟩, .int .i64 4, .int .i64 n, .string ⟨#[]⟩, .slice none 0 0, .slice none 0 0] 91)) (fun _ => True) (.slice (some ⟨w2.heap.size, 0, none⟩) 4 4) [(nmGuid, wordV g), (nmLink, wordV l), (nmTitle, wordV t), (nmWhen, numV n)] :=
      new_members (T := 91) w2 ([(nmGuid, wordV g)] ++ ([(nmLink, wordV l)] ++ ([(nmTitle, wordV t)] ++ [(nmWhen, numV n)]))) _ (by simp) (fun W => (Chunks.append (mem_chunk nmGuid (wordV g) _ (by decide) (word_jr W _ (nm := g) (by omega))) (Chunks.append (mem_chunk nmLink (wordV l) _ (by decide) (word_jr W _ (nm := l) (by omega))) (Chunks.append (mem_chunk nmTitle (wordV t) _ (by decide) (word_jr W _ (nm := t) (by omega))) (mem_chunk nmWhen (numV n) _ (by decide) (num_jr W _ n))))))
    refine hK.out _ _ (bel_alloc (Below.refl _ _) _) ?_
    clear hK K
    have hbA := bel_trans HB2.out (bel_alloc (Below.refl _ w2) (Obj.cells #[.string ⟨#[103, 117, 105, 100]⟩, .int .i64 5, .int .i64 0, .string g, .slice none 0 0, .slice none 0 0, .string ⟨#[108, 105, 110, 107]⟩, .int .i64 5, .int .i64 0, .string l, .slice none 0 0, .slice none 0 0, .string ⟨#[116, 105, 116, 108, 101]⟩, .int .i64 5, .int .i64 0, .string t, .slice none 0 0, .slice none 0 0, .string ⟨#[119, 104, 101, 110]⟩, .int .i64 4, .int .i64 n, .string ⟨#[]⟩, .slice none 0 0, .slice none 0 0] 91))
    have hSC : ∀ w3, Lat (w2.alloc (Obj.cells #[.string ⟨#[103, 117, 105, 100]⟩, .int .i64 5, .int .i64 0, .string g, .slice none 0 0, .slice none 0 0, .string ⟨#[108, 105, 110, 107]⟩, .int .i64 5, .int .i64 0, .string l, .slice none 0 0, .slice none 0 0, .string ⟨#[116, 105, 116, 108, 101]⟩, .int .i64 5, .int .i64 0, .string t, .slice none 0 0, .slice none 0 0, .string ⟨#[119, 104, 101, 110]⟩, .int .i64 4, .int .i64 n, .string ⟨#[]⟩, .slice none 0 0, .slice none 0 0] 91)) w3 → w3.cell? ⟨w.heap.size, 0, none⟩ = some (.int .i64 m) ∧ w3.cell? ⟨w.heap.size, 1, none⟩ = some (.string g) ∧ w3.cell? ⟨w.heap.size, 2, none⟩ = some (.string t) ∧ w3.cell? ⟨w.heap.size, 3, none⟩ = some (.string l) ∧ w3.cell? ⟨w.heap.size, 4, none⟩ = some (.int .i64 n) := fun w3 hE => ⟨cell_later' (bel_trans (bel_alloc (Below.refl _ w2) (Obj.cells #[.string ⟨#[103, 117, 105, 100]⟩, .int .i64 5, .int .i64 0, .string g, .slice none 0 0, .slice none 0 0, .string ⟨#[108, 105, 110, 107]⟩, .int .i64 5, .int .i64 0, .string l, .slice none 0 0, .slice none 0 0, .string ⟨#[116, 105, 116, 108, 101]⟩, .int .i64 5, .int .i64 0, .string t, .slice none 0 0, .slice none 0 0, .string ⟨#[119, 104, 101, 110]⟩, .int .i64 4, .int .i64 n, .string ⟨#[]⟩, .slice none 0 0, .slice none 0 0] 91)) hE) q0, cell_later' (bel_trans (bel_alloc (Below.refl _ w2) (Obj.cells #[.string ⟨#[103, 117, 105, 100]⟩, .int .i64 5, .int .i64 0, .string g, .slice none 0 0, .slice none 0 0, .string ⟨#[108, 105, 110, 107]⟩, .int .i64 5, .int .i64 0, .string l, .slice none 0 0, .slice none 0 0, .string ⟨#[116, 105, 116, 108, 101]⟩, .int .i64 5, .int .i64 0, .string t, .slice none 0 0, .slice none 0 0, .string ⟨#[119, 104, 101, 110]⟩, .int .i64 4, .int .i64 n, .string ⟨#[]⟩, .slice none 0 0, .slice none 0 0] 91)) hE) q1, cell_later' (bel_trans (bel_alloc (Below.refl _ w2) (Obj.cells #[.string ⟨#[103, 117, 105, 100]⟩, .int .i64 5, .int .i64 0, .string g, .slice none 0 0, .slice none 0 0, .string ⟨#[108, 105, 110, 107]⟩, .int .i64 5, .int .i64 0, .string l, .slice none 0 0, .slice none 0 0, .string ⟨#[116, 105, 116, 108, 101]⟩, .int .i64 5, .int .i64 0, .string t, .slice none 0 0, .slice none 0 0, .string ⟨#[119, 104, 101, 110]⟩, .int .i64 4, .int .i64 n, .string ⟨#[]⟩, .slice none 0 0, .slice none 0 0] 91)) hE) q2, cell_later' (bel_trans (bel_alloc (Below.refl _ w2) (Obj.cells #[.string ⟨#[103, 117, 105, 100]⟩, .int .i64 5, .int .i64 0, .string g, .slice none 0 0, .slice none 0 0, .string ⟨#[108, 105, 110, 107]⟩, .int .i64 5, .int .i64 0, .string l, .slice none 0 0, .slice none 0 0, .string ⟨#[116, 105, 116, 108, 101]⟩, .int .i64 5, .int .i64 0, .string t, .slice none 0 0, .slice none 0 0, .string ⟨#[119, 104, 101, 110]⟩, .int .i64 4, .int .i64 n, .string ⟨#[]⟩, .slice none 0 0, .slice none 0 0] 91)) hE) q3, cell_later' (bel_trans (bel_alloc (Below.refl _ w2) (Obj.cells #[.string ⟨#[103, 117, 105, 100]⟩, .int .i64 5, .int .i64 0, .string g, .slice none 0 0, .slice none 0 0, .string ⟨#[108, 105, 110, 107]⟩, .int .i64 5, .int .i64 0, .string l, .slice none 0 0, .slice none 0 0, .string ⟨#[116, 105, 116, 108, 101]⟩, .int .i64 5, .int .i64 0, .string t, .slice none 0 0, .slice none 0 0, .string ⟨#[119, 104, 101, 110]⟩, .int .i64 4, .int .i64 n, .string ⟨#[]⟩, .slice none 0 0, .slice none 0 0] 91)) hE) q4⟩
    have HSC := Lib.hid hSC
    clear hSC q0 q1 q2 q3 q4
    have hj := obj_jr hsl
    have HB3 := Lib.hid hbA
    clear hsl hbA HB2
    generalize w2.alloc (Obj.cells #[.string ⟨#[103, 117, 105, 100]⟩, .int .i64 5, .int .i64 0, .string g, .slice none 0 0, .slice none 0 0, .string ⟨#[108, 105, 110, 107]⟩, .int .i64 5, .int .i64 0, .string l, .slice none 0 0, .slice none 0 0, .string ⟨#[116, 105, 116, 108, 101]⟩, .int .i64 5, .int .i64 0, .string t, .slice none 0 0, .slice none 0 0, .string ⟨#[119, 104, 101, 110]⟩, .int .i64 4, .int .i64 n, .string ⟨#[]⟩, .slice none 0 0, .slice none 0 0] 91) = W3 at *
    generalize w2.heap.size = gz at *
    have HJ := Lib.hid hj
    clear w2 hj
    refine wpAnyE_tk 17 (v := ?_) rfl (by kernel_rfl) (by kernel_rfl) (by kernel_rfl) (by kernel_rfl) ?_ ?_
    rotate_left
    · intro w2 hE
      obtain ⟨q0, q1, q2, q3, q4⟩ := HSC.out w2 hE
      go_simp
      exact robject _ _ _ _
    try simp only [List.getElem_toArray, List.getElem_cons_zero, List.getElem_cons_succ, Act.put, List.setIfInBounds_toArray, List.set_cons_zero, List.set_cons_succ]
    refine wpAnyE_tk 21 (v := ?_) rfl (by kernel_rfl) (by kernel_rfl) (by kernel_rfl) (by kernel_rfl) ?_ ?_
    rotate_left
    · intro w2 hE
      obtain ⟨q0, q1, q2, q3, q4⟩ := HSC.out w2 hE
      go_simp
      try (with_reducible rfl)
    try simp only [List.getElem_toArray, List.getElem_cons_zero, List.getElem_cons_succ, Act.put, List.setIfInBounds_toArray, List.set_cons_zero, List.set_cons_succ]
    first
      | (have _hw := (show (!g.toList.isEmpty) = true by assumption)
         refine wpAnyE_tk 22 (v := ?_) rfl (by kernel_rfl) (by kernel_rfl) (by kernel_rfl) (by kernel_rfl) ?_ ?_
         rotate_left
         · intro w2 hE
           obtain ⟨q0, q1, q2, q3, q4⟩ := HSC.out w2 hE
           go_simp
           try (with_reducible rfl)
         try simp only [List.getElem_toArray, List.getElem_cons_zero, List.getElem_cons_succ, Act.put, List.setIfInBounds_toArray, List.set_cons_zero, List.set_cons_succ])
      | (refine wpAnyE_sk 22 rfl (by kernel_rfl) (by kernel_rfl) (by kernel_rfl) (by kernel_rfl) ?_; try simp only [List.getElem_toArray, List.getElem_cons_zero, List.getElem_cons_succ, Act.put, List.setIfInBounds_toArray, List.set_cons_zero, List.set_cons_succ])
    first
      | (have _hw := (show (!g.toList.isEmpty) = true by assumption)
         refine wpAnyE_tk 23 (v := ?_) rfl (by kernel_rfl) (by kernel_rfl) (by kernel_rfl) (by kernel_rfl) ?_ ?_
         rotate_left
         · intro w2 hE
           obtain ⟨q0, q1, q2, q3, q4⟩ := HSC.out w2 hE
           go_simp
           try (with_reducible rfl)
         try simp only [List.getElem_toArray, List.getElem_cons_zero, List.getElem_cons_succ, Act.put, List.setIfInBounds_toArray, List.set_cons_zero, List.set_cons_succ])
      | (refine wpAnyE_sk 23 rfl (by kernel_rfl) (by kernel_rfl) (by kernel_rfl) (by kernel_rfl) ?_; try simp only [List.getElem_toArray, List.getElem_cons_zero, List.getElem_cons_succ, Act.put, List.setIfInBounds_toArray, List.set_cons_zero, List.set_cons_succ])
    first
      | (have _hw := (show (!g.toList.isEmpty) = true by assumption)
         refine wpAnyE_tk 24 (v := ?_) rfl (by kernel_rfl) (by kernel_rfl) (by kernel_rfl) (by kernel_rfl) ?_ ?_
         rotate_left
         · intro w2 hE
           obtain ⟨q0, q1, q2, q3, q4⟩ := HSC.out w2 hE
           go_simp
           have hv := rshort g (by omega) w2
           first | rw [show short5R g = true by assumption] at hv | rw [show short5R g = false by assumption] at hv
           exact hv
         try simp only [List.getElem_toArray, List.getElem_cons_zero, List.getElem_cons_succ, Act.put, List.setIfInBounds_toArray, List.set_cons_zero, List.set_cons_succ])
      | (refine wpAnyE_sk 24 rfl (by kernel_rfl) (by kernel_rfl) (by kernel_rfl) (by kernel_rfl) ?_; try simp only [List.getElem_toArray, List.getElem_cons_zero, List.getElem_cons_succ, Act.put, List.setIfInBounds_toArray, List.set_cons_zero, List.set_cons_succ])
    refine wpAnyE_tk 25 (v := ?_) rfl (by kernel_rfl) (by kernel_rfl) (by kernel_rfl) (by kernel_rfl) ?_ ?_
    rotate_left
    · intro w2 hE
      obtain ⟨q0, q1, q2, q3, q4⟩ := HSC.out w2 hE
      go_simp
      try (with_reducible rfl)
    try simp only [List.getElem_toArray, List.getElem_cons_zero, List.getElem_cons_succ, Act.put, List.setIfInBounds_toArray, List.set_cons_zero, List.set_cons_succ]
    refine wpAnyE_tk 26 (v := ?_) rfl (by kernel_rfl) (by kernel_rfl) (by kernel_rfl) (by kernel_rfl) ?_ ?_
    rotate_left
    · intro w2 hE
      obtain ⟨q0, q1, q2, q3, q4⟩ := HSC.out w2 hE
      go_simp
      try (with_reducible rfl)
    try simp only [List.getElem_toArray, List.getElem_cons_zero, List.getElem_cons_succ, Act.put, List.setIfInBounds_toArray, List.set_cons_zero, List.set_cons_succ]
    first
      | (have _hw := (show short5R g = true by assumption)
         refine wpAnyE_tk 27 (v := ?_) rfl (by kernel_rfl) (by kernel_rfl) (by kernel_rfl) (by kernel_rfl) ?_ ?_
         rotate_left
         · intro w2 hE
           obtain ⟨q0, q1, q2, q3, q4⟩ := HSC.out w2 hE
           go_simp
           try (with_reducible rfl)
         try simp only [List.getElem_toArray, List.getElem_cons_zero, List.getElem_cons_succ, Act.put, List.setIfInBounds_toArray, List.set_cons_zero, List.set_cons_succ])
      | (refine wpAnyE_sk 27 rfl (by kernel_rfl) (by kernel_rfl) (by kernel_rfl) (by kernel_rfl) ?_; try simp only [List.getElem_toArray, List.getElem_cons_zero, List.getElem_cons_succ, Act.put, List.setIfInBounds_toArray, List.set_cons_zero, List.set_cons_succ])
    first
      | (have _hw := (show short5R g = true by assumption)
         refine wpAnyE_tk 28 (v := ?_) rfl (by kernel_rfl) (by kernel_rfl) (by kernel_rfl) (by kernel_rfl) ?_ ?_
         rotate_left
         · intro w2 hE
           obtain ⟨q0, q1, q2, q3, q4⟩ := HSC.out w2 hE
           go_simp
           try (with_reducible rfl)
         try simp only [List.getElem_toArray, List.getElem_cons_zero, List.getElem_cons_succ, Act.put, List.setIfInBounds_toArray, List.set_cons_zero, List.set_cons_succ])
      | (refine wpAnyE_sk 28 rfl (by kernel_rfl) (by kernel_rfl) (by kernel_rfl) (by kernel_rfl) ?_; try simp only [List.getElem_toArray, List.getElem_cons_zero, List.getElem_cons_succ, Act.put, List.setIfInBounds_toArray, List.set_cons_zero, List.set_cons_succ])
    first
      | (have _hw := (show short5R g = true by assumption)
         refine wpAnyE_tk 29 (v := ?_) rfl (by kernel_rfl) (by kernel_rfl) (by kernel_rfl) (by kernel_rfl) ?_ ?_
         rotate_left
         · intro w2 hE
           obtain ⟨q0, q1, q2, q3, q4⟩ := HSC.out w2 hE
           go_simp
           have hv := rshort l (by omega) w2
           first | rw [show short5R l = true by assumption] at hv | rw [show short5R l = false by assumption] at hv
           exact hv
         try simp only [List.getElem_toArray, List.getElem_cons_zero, List.getElem_cons_succ, Act.put, List.setIfInBounds_toArray, List.set_cons_zero, List.set_cons_succ])
      | (refine wpAnyE_sk 29 rfl (by kernel_rfl) (by kernel_rfl) (by kernel_rfl) (by kernel_rfl) ?_; try simp only [List.getElem_toArray, List.getElem_cons_zero, List.getElem_cons_succ, Act.put, List.setIfInBounds_toArray, List.set_cons_zero, List.set_cons_succ])
    refine wpAnyE_tk 30 (v := ?_) rfl (by kernel_rfl) (by kernel_rfl) (by kernel_rfl) (by kernel_rfl) ?_ ?_
    rotate_left
    · intro w2 hE
      obtain ⟨q0, q1, q2, q3, q4⟩ := HSC.out w2 hE
      go_simp
      try (with_reducible rfl)
    try simp only [List.getElem_toArray, List.getElem_cons_zero, List.getElem_cons_succ, Act.put, List.setIfInBounds_toArray, List.set_cons_zero, List.set_cons_succ]
    refine wpAnyE_tk 31 (v := ?_) rfl (by kernel_rfl) (by kernel_rfl) (by kernel_rfl) (by kernel_rfl) ?_ ?_
    rotate_left
    · intro w2 hE
      obtain ⟨q0, q1, q2, q3, q4⟩ := HSC.out w2 hE
      go_simp
      try (with_reducible rfl)
    try simp only [List.getElem_toArray, List.getElem_cons_zero, List.getElem_cons_succ, Act.put, List.setIfInBounds_toArray, List.set_cons_zero, List.set_cons_succ]
    first
      | (have _hw := (show short5R l = true by assumption)
         refine wpAnyE_tk 32 (v := ?_) rfl (by kernel_rfl) (by kernel_rfl) (by kernel_rfl) (by kernel_rfl) ?_ ?_
         rotate_left
         · intro w2 hE
           obtain ⟨q0, q1, q2, q3, q4⟩ := HSC.out w2 hE
           go_simp
           try (with_reducible rfl)
         try simp only [List.getElem_toArray, List.getElem_cons_zero, List.getElem_cons_succ, Act.put, List.setIfInBounds_toArray, List.set_cons_zero, List.set_cons_succ])
      | (refine wpAnyE_sk 32 rfl (by kernel_rfl) (by kernel_rfl) (by kernel_rfl) (by kernel_rfl) ?_; try simp only [List.getElem_toArray, List.getElem_cons_zero, List.getElem_cons_succ, Act.put, List.setIfInBounds_toArray, List.set_cons_zero, List.set_cons_succ])
    first
      | (have _hw := (show short5R l = true by assumption)
         refine wpAnyE_tk 33 (v := ?_) rfl (by kernel_rfl) (by kernel_rfl) (by kernel_rfl) (by kernel_rfl) ?_ ?_
         rotate_left
         · intro w2 hE
           obtain ⟨q0, q1, q2, q3, q4⟩ := HSC.out w2 hE
           go_simp
           try (with_reducible rfl)
         try simp only [List.getElem_toArray, List.getElem_cons_zero, List.getElem_cons_succ, Act.put, List.setIfInBounds_toArray, List.set_cons_zero, List.set_cons_succ])
      | (refine wpAnyE_sk 33 rfl (by kernel_rfl) (by kernel_rfl) (by kernel_rfl) (by kernel_rfl) ?_; try simp only [List.getElem_toArray, List.getElem_cons_zero, List.getElem_cons_succ, Act.put, List.setIfInBounds_toArray, List.set_cons_zero, List.set_cons_succ])
    first
      | (have _hw := (show short5R l = true by assumption)
         refine wpAnyE_tk 34 (v := ?_) rfl (by kernel_rfl) (by kernel_rfl) (by kernel_rfl) (by kernel_rfl) ?_ ?_
         rotate_left
         · intro w2 hE
           obtain ⟨q0, q1, q2, q3, q4⟩ := HSC.out w2 hE
           go_simp
           have hv := rshort t (by omega) w2
           first | rw [show short5R t = true by assumption] at hv | rw [show short5R t = false by assumption] at hv
           exact hv
         try simp only [List.getElem_toArray, List.getElem_cons_zero, List.getElem_cons_succ, Act.put, List.setIfInBounds_toArray, List.set_cons_zero, List.set_cons_succ])
      | (refine wpAnyE_sk 34 rfl (by kernel_rfl) (by kernel_rfl) (by kernel_rfl) (by kernel_rfl) ?_; try simp only [List.getElem_toArray, List.getElem_cons_zero, List.getElem_cons_succ, Act.put, List.setIfInBounds_toArray, List.set_cons_zero, List.set_cons_succ])
    refine wpAnyE_tk 35 (v := ?_) rfl (by kernel_rfl) (by kernel_rfl) (by kernel_rfl) (by kernel_rfl) ?_ ?_
    rotate_left
    · intro w2 hE
      obtain ⟨q0, q1, q2, q3, q4⟩ := HSC.out w2 hE
      go_simp
      try (with_reducible rfl)
    try simp only [List.getElem_toArray, List.getElem_cons_zero, List.getElem_cons_succ, Act.put, List.setIfInBounds_toArray, List.set_cons_zero, List.set_cons_succ]
    refine wpAnyE_tk 36 (v := ?_) rfl (by kernel_rfl) (by kernel_rfl) (by kernel_rfl) (by kernel_rfl) ?_ ?_
    rotate_left
    · intro w2 hE
      obtain ⟨q0, q1, q2, q3, q4⟩ := HSC.out w2 hE
      go_simp
      try (with_reducible rfl)
    try simp only [List.getElem_toArray, List.getElem_cons_zero, List.getElem_cons_succ, Act.put, List.setIfInBounds_toArray, List.set_cons_zero, List.set_cons_succ]
    first
      | (have _hw := (show short5R t = true by assumption)
         refine wpAnyE_tk 37 (v := ?_) rfl (by kernel_rfl) (by kernel_rfl) (by kernel_rfl) (by kernel_rfl) ?_ ?_
         rotate_left
         · intro w2 hE
           obtain ⟨q0, q1, q2, q3, q4⟩ := HSC.out w2 hE
           go_simp
           try (with_reducible rfl)
         try simp only [List.getElem_toArray, List.getElem_cons_zero, List.getElem_cons_succ, Act.put, List.setIfInBounds_toArray, List.set_cons_zero, List.set_cons_succ])
      | (refine wpAnyE_sk 37 rfl (by kernel_rfl) (by kernel_rfl) (by kernel_rfl) (by kernel_rfl) ?_; try simp only [List.getElem_toArray, List.getElem_cons_zero, List.getElem_cons_succ, Act.put, List.setIfInBounds_toArray, List.set_cons_zero, List.set_cons_succ])
    first
      | (have _hw := (show short5R t = true by assumption)
         refine wpAnyE_tk 38 (v := ?_) rfl (by kernel_rfl) (by kernel_rfl) (by kernel_rfl) (by kernel_rfl) ?_ ?_
         rotate_left
         · intro w2 hE
           obtain ⟨q0, q1, q2, q3, q4⟩ := HSC.out w2 hE
           go_simp
           try (with_reducible rfl)
         try simp only [List.getElem_toArray, List.getElem_cons_zero, List.getElem_cons_succ, Act.put, List.setIfInBounds_toArray, List.set_cons_zero, List.set_cons_succ])
      | (refine wpAnyE_sk 38 rfl (by kernel_rfl) (by kernel_rfl) (by kernel_rfl) (by kernel_rfl) ?_; try simp only [List.getElem_toArray, List.getElem_cons_zero, List.getElem_cons_succ, Act.put, List.setIfInBounds_toArray, List.set_cons_zero, List.set_cons_succ])
    first
      | (have _hw := (show short5R t = true by assumption)
         refine wpAnyE_tk 39 (v := ?_) rfl (by kernel_rfl) (by kernel_rfl) (by kernel_rfl) (by kernel_rfl) ?_ ?_
         rotate_left
         · intro w2 hE
           obtain ⟨q0, q1, q2, q3, q4⟩ := HSC.out w2 hE
           go_simp
           try (with_reducible rfl)
         try simp only [List.getElem_toArray, List.getElem_cons_zero, List.getElem_cons_succ, Act.put, List.setIfInBounds_toArray, List.set_cons_zero, List.set_cons_succ])
      | (refine wpAnyE_sk 39 rfl (by kernel_rfl) (by kernel_rfl) (by kernel_rfl) (by kernel_rfl) ?_; try simp only [List.getElem_toArray, List.getElem_cons_zero, List.getElem_cons_succ, Act.put, List.setIfInBounds_toArray, List.set_cons_zero, List.set_cons_succ])
    refine wpAnyE_tk 40 (v := ?_) rfl (by kernel_rfl) (by kernel_rfl) (by kernel_rfl) (by kernel_rfl) ?_ ?_
    rotate_left
    · intro w2 hE
      obtain ⟨q0, q1, q2, q3, q4⟩ := HSC.out w2 hE
      go_simp
      try (with_reducible rfl)
    try simp only [List.getElem_toArray, List.getElem_cons_zero, List.getElem_cons_succ, Act.put, List.setIfInBounds_toArray, List.set_cons_zero, List.set_cons_succ]
    refine wpAnyE_tk 41 (v := ?_) rfl (by kernel_rfl) (by kernel_rfl) (by kernel_rfl) (by kernel_rfl) ?_ ?_
    rotate_left
    · intro w2 hE
      obtain ⟨q0, q1, q2, q3, q4⟩ := HSC.out w2 hE
      go_simp
      try (with_reducible rfl)
    try simp only [List.getElem_toArray, List.getElem_cons_zero, List.getElem_cons_succ, Act.put, List.setIfInBounds_toArray, List.set_cons_zero, List.set_cons_succ]
    first
      | (have _hw := (show decide (0 ≤ n) = true by assumption)
         refine wpAnyE_tk 42 (v := ?_) rfl (by kernel_rfl) (by kernel_rfl) (by kernel_rfl) (by kernel_rfl) ?_ ?_
         rotate_left
         · intro w2 hE
           obtain ⟨q0, q1, q2, q3, q4⟩ := HSC.out w2 hE
           go_simp
           try (with_reducible rfl)
         try simp only [List.getElem_toArray, List.getElem_cons_zero, List.getElem_cons_succ, Act.put, List.setIfInBounds_toArray, List.set_cons_zero, List.set_cons_succ])
      | (refine wpAnyE_sk 42 rfl (by kernel_rfl) (by kernel_rfl) (by kernel_rfl) (by kernel_rfl) ?_; try simp only [List.getElem_toArray, List.getElem_cons_zero, List.getElem_cons_succ, Act.put, List.setIfInBounds_toArray, List.set_cons_zero, List.set_cons_succ])
    first
      | (have _hw := (show decide (0 ≤ n) = true by assumption)
         refine wpAnyE_tk 43 (v := ?_) rfl (by kernel_rfl) (by kernel_rfl) (by kernel_rfl) (by kernel_rfl) ?_ ?_
         rotate_left
         · intro w2 hE
           obtain ⟨q0, q1, q2, q3, q4⟩ := HSC.out w2 hE
           go_simp
           try (with_reducible rfl)
         try simp only [List.getElem_toArray, List.getElem_cons_zero, List.getElem_cons_succ, Act.put, List.setIfInBounds_toArray, List.set_cons_zero, List.set_cons_succ])
      | (refine wpAnyE_sk 43 rfl (by kernel_rfl) (by kernel_rfl) (by kernel_rfl) (by kernel_rfl) ?_; try simp only [List.getElem_toArray, List.getElem_cons_zero, List.getElem_cons_succ, Act.put, List.setIfInBounds_toArray, List.set_cons_zero, List.set_cons_succ])
    first
      | (have _hw := (show decide (0 ≤ n) = true by assumption)
         refine wpAnyE_tk 44 (v := ?_) rfl (by kernel_rfl) (by kernel_rfl) (by kernel_rfl) (by kernel_rfl) ?_ ?_
         rotate_left
         · intro w2 hE
           obtain ⟨q0, q1, q2, q3, q4⟩ := HSC.out w2 hE
           go_simp
           try (with_reducible rfl)
         try simp only [List.getElem_toArray, List.getElem_cons_zero, List.getElem_cons_succ, Act.put, List.setIfInBounds_toArray, List.set_cons_zero, List.set_cons_succ])
      | (refine wpAnyE_sk 44 rfl (by kernel_rfl) (by kernel_rfl) (by kernel_rfl) (by kernel_rfl) ?_; try simp only [List.getElem_toArray, List.getElem_cons_zero, List.getElem_cons_succ, Act.put, List.setIfInBounds_toArray, List.set_cons_zero, List.set_cons_succ])
    refine wpAnyE_tk 45 (v := ?_) rfl (by kernel_rfl) (by kernel_rfl) (by kernel_rfl) (by kernel_rfl) ?_ ?_
    rotate_left
    · intro w2 hE
      obtain ⟨q0, q1, q2, q3, q4⟩ := HSC.out w2 hE
      go_simp
      try (with_reducible rfl)
    try simp only [List.getElem_toArray, List.getElem_cons_zero, List.getElem_cons_succ, Act.put, List.setIfInBounds_toArray, List.set_cons_zero, List.set_cons_succ]
    refine wpAnyE_one (i := 46) (by kernel_rfl) rfl (fun w4 hE K hK => ?_)
    rw [if_pos (by kernel_rfl)]
    have HP4 := Lib.hid (HP.out _ _ w4 (JR_later HJ.out hE))
    have HB4 := Lib.hid (bel_trans HB3.out hE)
    clear hE HP HB3 HSC
    go_simp
    refine HP4.out.mono ?_
    rintro e w5 ⟨rfl, hb⟩
    refine hK.out _ _ hb ?_
    clear hK K
    have HB5 := Lib.hid (bel_trans HB4.out hb)
    clear hb HP4 HB4
    try simp only [List.getElem_toArray, List.getElem_cons_zero, List.getElem_cons_succ, Act.put, List.setIfInBounds_toArray, List.set_cons_zero, List.set_cons_succ]
    refine wpAnyE_tk 47 (v := ?_) rfl (by kernel_rfl) (by kernel_rfl) (by kernel_rfl) (by kernel_rfl) ?_ ?_
    rotate_left
    · intro w2 hE
      go_simp
      try (with_reducible rfl)
    try simp only [List.getElem_toArray, List.getElem_cons_zero, List.getElem_cons_succ, Act.put, List.setIfInBounds_toArray, List.set_cons_zero, List.set_cons_succ]
    refine wpAnyE_tk 48 (v := ?_) rfl (by kernel_rfl) (by kernel_rfl) (by kernel_rfl) (by kernel_rfl) ?_ ?_
    rotate_left
    · intro w2 hE
      go_simp
      try (with_reducible rfl)
    try simp only [List.getElem_toArray, List.getElem_cons_zero, List.getElem_cons_succ, Act.put, List.setIfInBounds_toArray, List.set_cons_zero, List.set_cons_succ]
    refine wpAnyE_tk 49 (v := ?_) rfl (by kernel_rfl) (by kernel_rfl) (by kernel_rfl) (by kernel_rfl) ?_ ?_
    rotate_left
    · intro w2 hE
      go_simp
      try (with_reducible rfl)
    try simp only [List.getElem_toArray, List.getElem_cons_zero, List.getElem_cons_succ, Act.put, List.setIfInBounds_toArray, List.set_cons_zero, List.set_cons_succ]
    refine wpAnyE_tk 50 (v := ?_) rfl (by kernel_rfl) (by kernel_rfl) (by kernel_rfl) (by kernel_rfl) ?_ ?_
    rotate_left
    · intro w2 hE
      go_simp
      try (with_reducible rfl)
    try simp only [List.getElem_toArray, List.getElem_cons_zero, List.getElem_cons_succ, Act.put, List.setIfInBounds_toArray, List.set_cons_zero, List.set_cons_succ]
    refine wpAnyE_done (by kernel_rfl) (fun w6 hE6 => ?_) _
    have HB6 := Lib.hid (bel_trans HB5.out hE6)
    clear hE6
    go_wp2_with fail
    go_ret2
    exact ⟨rfl, HB6.out⟩
end Go.Proofs.YtjjgbgojlhaapaaDoor
