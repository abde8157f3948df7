/- Parts of the proof: Hh. -/
import Derived.Test.YtlihjmfdnkfmfaaGreatDoorZRback24
namespace Go.Proofs.YtlihjmfdnkfmfaaGreatDoor
open Go.RowKit Go.Lib

theorem jputEntry_ways : ∀ b7 b11 b16 b21 b26 b31 : Bool, (b7 = false ∧ (b21 && b7 && b11 && b16 && b26 && b31) = false) ∨ (b7 = true ∧ b11 = false ∧ (b21 && b7 && b11 && b16 && b26 && b31) = false) ∨ (b7 = true ∧ b11 = true ∧ b16 = false ∧ (b21 && b7 && b11 && b16 && b26 && b31) = false) ∨ (b7 = true ∧ b11 = true ∧ b16 = true ∧ b21 = false ∧ (b21 && b7 && b11 && b16 && b26 && b31) = false) ∨ (b7 = true ∧ b11 = true ∧ b16 = true ∧ b21 = true ∧ b26 = false ∧ (b21 && b7 && b11 && b16 && b26 && b31) = false) ∨ (b7 = true ∧ b11 = true ∧ b16 = true ∧ b21 = true ∧ b26 = true ∧ b31 = false ∧ (b21 && b7 && b11 && b16 && b26 && b31) = false) ∨ (b7 = true ∧ b11 = true ∧ b16 = true ∧ b21 = true ∧ b26 = true ∧ b31 = true ∧ (b21 && b7 && b11 && b16 && b26 && b31) = true) := by decide
set_option maxRecDepth 100000 in
set_option maxHeartbeats 64000000 in
theorem jputEntry (m n : Int) (g t l : ByteArray) (w : World) (hg : g.size ≤ 1000000) (ht : t.size ≤ 1000000) (hl : l.size ≤ 1000000) (hT : Tabs w) (hlen : mayJ 64 (entryO g l t n) = true → (printB 64 (entryO g l t n)).length ≤ 1000000000) :
    Calls Tryz.prog 51 #[.agg #[.int .i64 m, .string g, .string t, .string l, .int .i64 n]] w fun e w' => e = .returned (putB (entryOk g l t n) (entryO g l t n)) ∧ Below w.heap.size w w' := by
  have HT0 := Lib.hid hT
  clear hT
  obtain ⟨okv, hokv⟩ : ∃ okv, okv = (entryOk g l t n) := ⟨_, rfl⟩
  rw [← hokv]
  obtain ⟨S, E, hput, hp⟩ := printedJ _ okv (show mayJ 64 (entryO g l t n) = true → _ from hlen)
  replace hput : putB okv (entryO g l t n) = .tuple #[.string S, .int .i64 E] := hput
  rw [hput]
  have HP := Lib.hid hp; have HOK := Lib.hid hokv
  clear hp hput hlen hokv
  have n0 := cell_newB w #[.int .i64 m, .string g, .string t, .string l, .int .i64 n] 59 0 _ rfl
  have n1 := cell_newB w #[.int .i64 m, .string g, .string t, .string l, .int .i64 n] 59 1 _ rfl
  have n2 := cell_newB w #[.int .i64 m, .string g, .string t, .string l, .int .i64 n] 59 2 _ rfl
  have n3 := cell_newB w #[.int .i64 m, .string g, .string t, .string l, .int .i64 n] 59 3 _ rfl
  have n4 := cell_newB w #[.int .i64 m, .string g, .string t, .string l, .int .i64 n] 59 4 _ rfl
  have HB := Lib.hid (bel_alloc (Below.refl w.heap.size w) (.cells #[.int .i64 m, .string g, .string t, .string l, .int .i64 n] 59))
  go_enter Tryz.func51, Tryz.ntmps51
  go_upto_region 1 with (fail)
  generalize w.alloc (.cells #[.int .i64 m, .string g, .string t, .string l, .int .i64 n] 59) = W at *
  go_cut [4] (fun s4 wx => s4 = .bool okv ∧ Below w.heap.size w wx ∧ wx.cell? ⟨w.heap.size, 0, none⟩ = some (.int .i64 m) ∧ wx.cell? ⟨w.heap.size, 1, none⟩ = some (.string g) ∧ wx.cell? ⟨w.heap.size, 2, none⟩ = some (.string t) ∧ wx.cell? ⟨w.heap.size, 3, none⟩ = some (.string l) ∧ wx.cell? ⟨w.heap.size, 4, none⟩ = some (.int .i64 n))
  case first =>
    clear HP
    rcases jputEntry_ways (short5R g) (short5R l) (short5R t) ((!g.toList.isEmpty)) (decide (0 ≤ n)) (decide (n ≤ 1099511627776)) with ⟨h7, hk⟩ | ⟨h7, h11, hk⟩ | ⟨h7, h11, h16, hk⟩ | ⟨h7, h11, h16, h21, hk⟩ | ⟨h7, h11, h16, h21, h26, hk⟩ | ⟨h7, h11, h16, h21, h26, h31, hk⟩ | ⟨h7, h11, h16, h21, h26, h31, hk⟩
    all_goals
      first
        | (have hok : (entryOk g l t n) = false := hk; obtain rfl := HOK.out.trans hok; clear hok hk HOK)
        | (have hok : (entryOk g l t n) = true := hk; obtain rfl := HOK.out.trans hok; clear hok hk HOK)
      go_wp2_with fail
      first
        | (have hv := jshort g (by omega) _ (HT0.out.below HB.out); first | rw [show short5R g = true by assumption] at hv | rw [show short5R g = false by assumption] at hv
           refine Calls.mono hv ?_; clear hv; rintro e w2 ⟨rfl, hb⟩; replace n0 := cell_later' hb n0; replace n1 := cell_later' hb n1; replace n2 := cell_later' hb n2; replace n3 := cell_later' hb n3; replace n4 := cell_later' hb n4; have HB1 := Lib.hid (bel_trans HB.out hb); clear HB hb; have HB := HB1; clear HB1; go_wp2_with fail)
        | skip
      first
        | (have hv := jshort l (by omega) _ (HT0.out.below HB.out); first | rw [show short5R l = true by assumption] at hv | rw [show short5R l = false by assumption] at hv
           refine Calls.mono hv ?_; clear hv; rintro e w2 ⟨rfl, hb⟩; replace n0 := cell_later' hb n0; replace n1 := cell_later' hb n1; replace n2 := cell_later' hb n2; replace n3 := cell_later' hb n3; replace n4 := cell_later' hb n4; have HB1 := Lib.hid (bel_trans HB.out hb); clear HB hb; have HB := HB1; clear HB1; go_wp2_with fail)
        | skip
      first
        | (have hv := jshort t (by omega) _ (HT0.out.below HB.out); first | rw [show short5R t = true by assumption] at hv | rw [show short5R t = false by assumption] at hv
           refine Calls.mono hv ?_; clear hv; rintro e w2 ⟨rfl, hb⟩; replace n0 := cell_later' hb n0; replace n1 := cell_later' hb n1; replace n2 := cell_later' hb n2; replace n3 := cell_later' hb n3; replace n4 := cell_later' hb n4; have HB1 := Lib.hid (bel_trans HB.out hb); clear HB hb; have HB := HB1; clear HB1; go_wp2_with fail)
        | skip
      go_meet
      exact ⟨rfl, HB.out, n0, n1, n2, n3, n4⟩
  case rest =>
    clear HB HOK n0 n1 n2 n3 n4
    obtain ⟨wx, rfl⟩ : ∃ W, W = wc := ⟨_, rfl⟩
    obtain ⟨rfl, hbx, n0, n1, n2, n3, n4⟩ := hcut
    have HB := Lib.hid hbx
    clear hbx
    go_wp2_with fail
    refine wp_region_E (by kernel_rfl) ?_
    have RC : ∀ w2, Lat wx.drew w2 → w2.cell? ⟨w.heap.size, 0, none⟩ = some (.int .i64 m) ∧ w2.cell? ⟨w.heap.size, 1, none⟩ = some (.string g) ∧ w2.cell? ⟨w.heap.size, 2, none⟩ = some (.string t) ∧ w2.cell? ⟨w.heap.size, 3, none⟩ = some (.string l) ∧ w2.cell? ⟨w.heap.size, 4, none⟩ = some (.int .i64 n) := fun w2 hE => ⟨cell_later' hE n0, cell_later' hE n1, cell_later' hE n2, cell_later' hE n3, cell_later' hE n4⟩
    clear n0 n1 n2 n3 n4
    have HRC := Lib.hid RC
    clear RC
    have HBV := Lib.hid (bel_drew HB.out)
    clear HB
    generalize wx.drew = V at *
    refine wpAnyE_t 0 (v := ?_) rfl ?_ ?_
    rotate_left
    · intro w2 hE
      obtain ⟨q0, q1, q2, q3, q4⟩ := HRC.out w2 hE
      go_simp
      try (with_reducible rfl)
    try simp only [lay]
    refine wpAnyE_t 1 (v := ?_) rfl ?_ ?_
    rotate_left
    · intro w2 hE
      obtain ⟨q0, q1, q2, q3, q4⟩ := HRC.out w2 hE
      go_simp
      try (with_reducible rfl)
    try simp only [lay]
    refine wpAnyE_t 2 (v := ?_) rfl ?_ ?_
    rotate_left
    · intro w2 hE
      obtain ⟨q0, q1, q2, q3, q4⟩ := HRC.out w2 hE
      go_simp
      try (with_reducible rfl)
    try simp only [lay]
    refine wpAnyE_t 3 (v := ?_) rfl ?_ ?_
    rotate_left
    · intro w2 hE
      obtain ⟨q0, q1, q2, q3, q4⟩ := HRC.out w2 hE
      go_simp
      exact jwords _ _
    try simp only [lay]
    refine wpAnyE_t 4 (v := ?_) rfl ?_ ?_
    rotate_left
    · intro w2 hE
      obtain ⟨q0, q1, q2, q3, q4⟩ := HRC.out w2 hE
      go_simp
      exact part_any _ _ _ _ _ _ _ _ _ _ _
    try simp only [lay]
    refine wpAnyE_t 5 (v := ?_) rfl ?_ ?_
    rotate_left
    · intro w2 hE
      obtain ⟨q0, q1, q2, q3, q4⟩ := HRC.out w2 hE
      go_simp
      try (with_reducible rfl)
    try simp only [lay]
    refine wpAnyE_t 6 (v := ?_) rfl ?_ ?_
    rotate_left
    · intro w2 hE
      obtain ⟨q0, q1, q2, q3, q4⟩ := HRC.out w2 hE
      go_simp
      try (with_reducible rfl)
    try simp only [lay]
    refine wpAnyE_t 7 (v := ?_) rfl ?_ ?_
    rotate_left
    · intro w2 hE
      obtain ⟨q0, q1, q2, q3, q4⟩ := HRC.out w2 hE
      go_simp
      exact jwords _ _
    try simp only [lay]
    refine wpAnyE_t 8 (v := ?_) rfl ?_ ?_
    rotate_left
    · intro w2 hE
      obtain ⟨q0, q1, q2, q3, q4⟩ := HRC.out w2 hE
      go_simp
      exact part_any _ _ _ _ _ _ _ _ _ _ _
    try simp only [lay]
    refine wpAnyE_t 9 (v := ?_) rfl ?_ ?_
    rotate_left
    · intro w2 hE
      obtain ⟨q0, q1, q2, q3, q4⟩ := HRC.out w2 hE
      go_simp
      try (with_reducible rfl)
    try simp only [lay]
    refine wpAnyE_t 10 (v := ?_) rfl ?_ ?_
    rotate_left
    · intro w2 hE
      obtain ⟨q0, q1, q2, q3, q4⟩ := HRC.out w2 hE
      go_simp
      try (with_reducible rfl)
    try simp only [lay]
    refine wpAnyE_t 11 (v := ?_) rfl ?_ ?_
    rotate_left
    · intro w2 hE
      obtain ⟨q0, q1, q2, q3, q4⟩ := HRC.out w2 hE
      go_simp
      exact jwords _ _
    try simp only [lay]
    refine wpAnyE_t 12 (v := ?_) rfl ?_ ?_
    rotate_left
    · intro w2 hE
      obtain ⟨q0, q1, q2, q3, q4⟩ := HRC.out w2 hE
      go_simp
      exact part_any _ _ _ _ _ _ _ _ _ _ _
    try simp only [lay]
    refine wpAnyE_t 13 (v := ?_) rfl ?_ ?_
    rotate_left
    · intro w2 hE
      obtain ⟨q0, q1, q2, q3, q4⟩ := HRC.out w2 hE
      go_simp
      try (with_reducible rfl)
    try simp only [lay]
    refine wpAnyE_t 14 (v := ?_) rfl ?_ ?_
    rotate_left
    · intro w2 hE
      obtain ⟨q0, q1, q2, q3, q4⟩ := HRC.out w2 hE
      go_simp
      try (with_reducible rfl)
    try simp only [lay]
    refine wpAnyE_t 15 (v := ?_) rfl ?_ ?_
    rotate_left
    · intro w2 hE
      obtain ⟨q0, q1, q2, q3, q4⟩ := HRC.out w2 hE
      go_simp
      exact jnumber _ _
    try simp only [lay]
    refine wpAnyE_t 16 (v := ?_) rfl ?_ ?_
    rotate_left
    · intro w2 hE
      obtain ⟨q0, q1, q2, q3, q4⟩ := HRC.out w2 hE
      go_simp
      exact part_any _ _ _ _ _ _ _ _ _ _ _
    try simp only [lay]
    refine wpAnyE_one (i := 17) (by kernel_rfl) rfl (fun w2 hE K hK => ?_)
    rw [if_pos (by kernel_rfl)]
    obtain ⟨q0, q1, q2, q3, q4⟩ := HRC.out w2 hE
    have HB2 := Lib.hid (bel_trans HBV.out hE)
    clear HBV hE HRC
    go_simp
    have hsl : Sl memTy (w2.alloc (Obj.cells #[.string ⟨#[103, 117, 105, 100]⟩, .int .i64 5, .int .i64 0, .string g, .slice none 0 0, .slice none 0 0, .string ⟨#[108, 105, 110, 107]⟩, .int .i64 5, .int .i64 0, .string l, .slice none 0 0, .slice none 0 0, .string ⟨#[116, 105, 116, 108, 101]⟩, .int .i64 5, .int .i64 0, .string t, .slice none 0 0, .slice none 0 0, .string ⟨#[119, 104, 101, 110]⟩, .int .i64 4, .int .i64 n, .string ⟨#[]⟩, .slice none 0 0, .slice none 0 0] 49)) (fun _ => True) (.slice (some ⟨w2.heap.size, 0, none⟩) 4 4) [(nmGuid, wordV g), (nmLink, wordV l), (nmTitle, wordV t), (nmWhen, numV n)] :=
      new_members (T := 49) w2 ([(nmGuid, wordV g)] ++ ([(nmLink, wordV l)] ++ ([(nmTitle, wordV t)] ++ [(nmWhen, numV n)]))) _ (by simp) (fun W => (Chunks.append (mem_chunk nmGuid (wordV g) _ (by decide) (word_jr W _ (nm := g) (by omega))) (Chunks.append (mem_chunk nmLink (wordV l) _ (by decide) (word_jr W _ (nm := l) (by omega))) (Chunks.append (mem_chunk nmTitle (wordV t) _ (by decide) (word_jr W _ (nm := t) (by omega))) (mem_chunk nmWhen (numV n) _ (by decide) (num_jr W _ n))))))
    refine hK.out _ _ (bel_alloc (Below.refl _ _) _) ?_
    clear hK K
    have hbA := bel_trans HB2.out (bel_alloc (Below.refl _ w2) (Obj.cells #[.string ⟨#[103, 117, 105, 100]⟩, .int .i64 5, .int .i64 0, .string g, .slice none 0 0, .slice none 0 0, .string ⟨#[108, 105, 110, 107]⟩, .int .i64 5, .int .i64 0, .string l, .slice none 0 0, .slice none 0 0, .string ⟨#[116, 105, 116, 108, 101]⟩, .int .i64 5, .int .i64 0, .string t, .slice none 0 0, .slice none 0 0, .string ⟨#[119, 104, 101, 110]⟩, .int .i64 4, .int .i64 n, .string ⟨#[]⟩, .slice none 0 0, .slice none 0 0] 49))
    have hSC : ∀ w3, Lat (w2.alloc (Obj.cells #[.string ⟨#[103, 117, 105, 100]⟩, .int .i64 5, .int .i64 0, .string g, .slice none 0 0, .slice none 0 0, .string ⟨#[108, 105, 110, 107]⟩, .int .i64 5, .int .i64 0, .string l, .slice none 0 0, .slice none 0 0, .string ⟨#[116, 105, 116, 108, 101]⟩, .int .i64 5, .int .i64 0, .string t, .slice none 0 0, .slice none 0 0, .string ⟨#[119, 104, 101, 110]⟩, .int .i64 4, .int .i64 n, .string ⟨#[]⟩, .slice none 0 0, .slice none 0 0] 49)) w3 → w3.cell? ⟨w.heap.size, 0, none⟩ = some (.int .i64 m) ∧ w3.cell? ⟨w.heap.size, 1, none⟩ = some (.string g) ∧ w3.cell? ⟨w.heap.size, 2, none⟩ = some (.string t) ∧ w3.cell? ⟨w.heap.size, 3, none⟩ = some (.string l) ∧ w3.cell? ⟨w.heap.size, 4, none⟩ = some (.int .i64 n) := fun w3 hE => ⟨cell_later' (bel_trans (bel_alloc (Below.refl _ w2) (Obj.cells #[.string ⟨#[103, 117, 105, 100]⟩, .int .i64 5, .int .i64 0, .string g, .slice none 0 0, .slice none 0 0, .string ⟨#[108, 105, 110, 107]⟩, .int .i64 5, .int .i64 0, .string l, .slice none 0 0, .slice none 0 0, .string ⟨#[116, 105, 116, 108, 101]⟩, .int .i64 5, .int .i64 0, .string t, .slice none 0 0, .slice none 0 0, .string ⟨#[119, 104, 101, 110]⟩, .int .i64 4, .int .i64 n, .string ⟨#[]⟩, .slice none 0 0, .slice none 0 0] 49)) hE) q0, cell_later' (bel_trans (bel_alloc (Below.refl _ w2) (Obj.cells #[.string ⟨#[103, 117, 105, 100]⟩, .int .i64 5, .int .i64 0, .string g, .slice none 0 0, .slice none 0 0, .string ⟨#[108, 105, 110, 107]⟩, .int .i64 5, .int .i64 0, .string l, .slice none 0 0, .slice none 0 0, .string ⟨#[116, 105, 116, 108, 101]⟩, .int .i64 5, .int .i64 0, .string t, .slice none 0 0, .slice none 0 0, .string ⟨#[119, 104, 101, 110]⟩, .int .i64 4, .int .i64 n, .string ⟨#[]⟩, .slice none 0 0, .slice none 0 0] 49)) hE) q1, cell_later' (bel_trans (bel_alloc (Below.refl _ w2) (Obj.cells #[.string ⟨#[103, 117, 105, 100]⟩, .int .i64 5, .int .i64 0, .string g, .slice none 0 0, .slice none 0 0, .string ⟨#[108, 105, 110, 107]⟩, .int .i64 5, .int .i64 0, .string l, .slice none 0 0, .slice none 0 0, .string ⟨#[116, 105, 116, 108, 101]⟩, .int .i64 5, .int .i64 0, .string t, .slice none 0 0, .slice none 0 0, .string ⟨#[119, 104, 101, 110]⟩, .int .i64 4, .int .i64 n, .string ⟨#[]⟩, .slice none 0 0, .slice none 0 0] 49)) hE) q2, cell_later' (bel_trans (bel_alloc (Below.refl _ w2) (Obj.cells #[.string ⟨#[103, 117, 105, 100]⟩, .int .i64 5, .int .i64 0, .string g, .slice none 0 0, .slice none 0 0, .string ⟨#[108, 105, 110, 107]⟩, .int .i64 5, .int .i64 0, .string l, .slice none 0 0, .slice none 0 0, .string ⟨#[116, 105, 116, 108, 101]⟩, .int .i64 5, .int .i64 0, .string t, .slice none 0 0, .slice none 0 0, .string ⟨#[119, 104, 101, 110]⟩, .int .i64 4, .int .i64 n, .string ⟨#[]⟩, .slice none 0 0, .slice none 0 0] 49)) hE) q3, cell_later' (bel_trans (bel_alloc (Below.refl _ w2) (Obj.cells #[.string ⟨#[103, 117, 105, 100]⟩, .int .i64 5, .int .i64 0, .string g, .slice none 0 0, .slice none 0 0, .string ⟨#[108, 105, 110, 107]⟩, .int .i64 5, .int .i64 0, .string l, .slice none 0 0, .slice none 0 0, .string ⟨#[116, 105, 116, 108, 101]⟩, .int .i64 5, .int .i64 0, .string t, .slice none 0 0, .slice none 0 0, .string ⟨#[119, 104, 101, 110]⟩, .int .i64 4, .int .i64 n, .string ⟨#[]⟩, .slice none 0 0, .slice none 0 0] 49)) hE) q4⟩
    have HSC := Lib.hid hSC
    clear hSC q0 q1 q2 q3 q4
    have hj := hsl
    have HB3 := Lib.hid hbA
    clear hsl hbA HB2
    generalize w2.alloc (Obj.cells #[.string ⟨#[103, 117, 105, 100]⟩, .int .i64 5, .int .i64 0, .string g, .slice none 0 0, .slice none 0 0, .string ⟨#[108, 105, 110, 107]⟩, .int .i64 5, .int .i64 0, .string l, .slice none 0 0, .slice none 0 0, .string ⟨#[116, 105, 116, 108, 101]⟩, .int .i64 5, .int .i64 0, .string t, .slice none 0 0, .slice none 0 0, .string ⟨#[119, 104, 101, 110]⟩, .int .i64 4, .int .i64 n, .string ⟨#[]⟩, .slice none 0 0, .slice none 0 0] 49) = W3 at *
    generalize w2.heap.size = gz at *
    have HJ := Lib.hid hj
    clear w2 hj
    refine wpAnyE_one (i := 18) (by kernel_rfl) rfl (fun w4 hE K hK => ?_)
    rw [if_pos (by kernel_rfl)]
    have HP4 := Lib.hid (HP.out _ _ w4 (Sl.below HJ.out hE) (HT0.out.below (bel_trans HB3.out hE)))
    have HB4 := Lib.hid (bel_trans HB3.out hE)
    clear hE HP HB3 HSC
    go_simp
    refine HP4.out.mono ?_
    rintro e w5 ⟨rfl, hb⟩
    refine hK.out _ _ hb ?_
    clear hK K
    have HB5 := Lib.hid (bel_trans HB4.out hb)
    clear hb HP4 HB4
    try simp only [lay]
    refine wpAnyE_t 19 (v := ?_) rfl ?_ ?_
    rotate_left
    · intro w2 hE
      go_simp
      try (with_reducible rfl)
    try simp only [lay]
    refine wpAnyE_t 20 (v := ?_) rfl ?_ ?_
    rotate_left
    · intro w2 hE
      go_simp
      try (with_reducible rfl)
    try simp only [lay]
    refine wpAnyE_t 21 (v := ?_) rfl ?_ ?_
    rotate_left
    · intro w2 hE
      go_simp
      try (with_reducible rfl)
    try simp only [lay]
    refine wpAnyE_t 22 (v := ?_) rfl ?_ ?_
    rotate_left
    · intro w2 hE
      go_simp
      try (with_reducible rfl)
    try simp only [lay]
    refine wpAnyE_done (by kernel_rfl) (fun w6 hE6 => ?_) _
    have HB6 := Lib.hid (bel_trans HB5.out hE6)
    clear hE6
    go_wp2_with fail
    go_ret2
    exact ⟨rfl, HB6.out⟩
end Go.Proofs.YtlihjmfdnkfmfaaGreatDoor
