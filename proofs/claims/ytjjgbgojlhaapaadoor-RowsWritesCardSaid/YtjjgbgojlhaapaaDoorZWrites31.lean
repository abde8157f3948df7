/- Parts of the proof: Hi, Hn, Hb, Hm, MkA, MkB. -/
import Derived.Test.YtjjgbgojlhaapaaDoorZWrites29
import Derived.Test.YtjjgbgojlhaapaaDoorZWrites26
import Derived.Test.YtjjgbgojlhaapaaDoorZWrites1
namespace Go.Proofs.YtjjgbgojlhaapaaDoor
open Go.RowKit Go.Lib

theorem jputState_ways : ∀ b7 b11 b16 b20 b29 : Bool, (b7 = false ∧ (b7 && b11 && (b16 || b20) && b29) = false) ∨ (b7 = true ∧ b11 = false ∧ (b7 && b11 && (b16 || b20) && b29) = false) ∨ (b7 = true ∧ b11 = true ∧ b16 = false ∧ b20 = false ∧ (b7 && b11 && (b16 || b20) && b29) = false) ∨ (b7 = true ∧ b11 = true ∧ b16 = false ∧ b20 = true ∧ b29 = false ∧ (b7 && b11 && (b16 || b20) && b29) = false) ∨ (b7 = true ∧ b11 = true ∧ b16 = false ∧ b20 = true ∧ b29 = true ∧ (b7 && b11 && (b16 || b20) && b29) = true) ∨ (b7 = true ∧ b11 = true ∧ b16 = true ∧ b29 = false ∧ (b7 && b11 && (b16 || b20) && b29) = false) ∨ (b7 = true ∧ b11 = true ∧ b16 = true ∧ b29 = true ∧ (b7 && b11 && (b16 || b20) && b29) = true) := by decide
set_option maxRecDepth 100000 in
set_option maxHeartbeats 64000000 in
theorem jputState (r s : Int) (w : World)  (hT : Tabs w) (hlen : mayJ 64 (stateO r s) = true → (printB 64 (stateO r s)).length ≤ 1000000000) :
    Calls Tryd.prog 21 #[.agg #[.int .i64 r, .int .i64 s]] w fun e w' => e = .returned (putB (stateOk r s) (stateO r s)) ∧ Below w.heap.size w w' := by
  have HT0 := Lib.hid hT
  clear hT
  obtain ⟨okv, hokv⟩ : ∃ okv, okv = (stateOk r s) := ⟨_, rfl⟩
  rw [← hokv]
  obtain ⟨S, E, hput, hp⟩ := printedJ _ okv (show mayJ 64 (stateO r s) = true → _ from hlen)
  replace hput : putB okv (stateO r s) = .tuple #[.string S, .int .i64 E] := hput
  rw [hput]
  have HP := Lib.hid hp; have HOK := Lib.hid hokv
  clear hp hput hlen hokv
  have n0 := cell_newB w #[.int .i64 r, .int .i64 s] 41 0 _ rfl
  have n1 := cell_newB w #[.int .i64 r, .int .i64 s] 41 1 _ rfl
  have HB := Lib.hid (bel_alloc (Below.refl w.heap.size w) (.cells #[.int .i64 r, .int .i64 s] 41))
  go_enter Tryd.func21, Tryd.ntmps21
  go_upto_region 1 with (fail)
  generalize w.alloc (.cells #[.int .i64 r, .int .i64 s] 41) = W at *
  go_cut [4] (fun s4 wx => s4 = .bool okv ∧ Below w.heap.size w wx ∧ wx.cell? ⟨w.heap.size, 0, none⟩ = some (.int .i64 r) ∧ wx.cell? ⟨w.heap.size, 1, none⟩ = some (.int .i64 s))
  case first =>
    clear HP
    rcases jputState_ways (decide (0 ≤ r)) (decide (r ≤ 2)) ((s == 0)) ((s == 1)) (decide (0 < r + s)) with ⟨h7, hk⟩ | ⟨h7, h11, hk⟩ | ⟨h7, h11, h16, h20, hk⟩ | ⟨h7, h11, h16, h20, h29, hk⟩ | ⟨h7, h11, h16, h20, h29, hk⟩ | ⟨h7, h11, h16, h29, hk⟩ | ⟨h7, h11, h16, h29, hk⟩
    all_goals
      first
        | (have hok : (stateOk r s) = false := hk; obtain rfl := HOK.out.trans hok; clear hok hk HOK)
        | (have hok : (stateOk r s) = true := hk; obtain rfl := HOK.out.trans hok; clear hok hk HOK)
      try (have HSW := stWrap r s (by assumption) (by assumption) (by first | exact Or.inl (by assumption) | exact Or.inr (by assumption)))
      go_wp2_with fail
      go_meet
      exact ⟨rfl, HB.out, n0, n1⟩
  case rest =>
    clear HB HOK n0 n1
    obtain ⟨wx, rfl⟩ : ∃ W, W = wc := ⟨_, rfl⟩
    obtain ⟨rfl, hbx, n0, n1⟩ := hcut
    have HB := Lib.hid hbx
    clear hbx
    go_wp2_with fail
    refine wp_region_E (by kernel_rfl) ?_
    have RC : ∀ w2, Lat wx.drew w2 → w2.cell? ⟨w.heap.size, 0, none⟩ = some (.int .i64 r) ∧ w2.cell? ⟨w.heap.size, 1, none⟩ = some (.int .i64 s) := fun w2 hE => ⟨cell_later' hE n0, cell_later' hE n1⟩
    clear n0 n1
    have HRC := Lib.hid RC
    clear RC
    have HBV := Lib.hid (bel_drew HB.out)
    clear HB
    generalize wx.drew = V at *
    refine wpAnyE_tk 0 (v := ?_) rfl (by kernel_rfl) (by kernel_rfl) (by kernel_rfl) (by kernel_rfl) ?_ ?_
    rotate_left
    · intro w2 hE
      obtain ⟨q0, q1⟩ := HRC.out w2 hE
      go_simp
      try (with_reducible rfl)
    try simp only [List.getElem_toArray, List.getElem_cons_zero, Act.put, List.setIfInBounds_toArray, List.set_cons_zero, List.set_cons_succ]
    refine wpAnyE_tk 1 (v := ?_) rfl (by kernel_rfl) (by kernel_rfl) (by kernel_rfl) (by kernel_rfl) ?_ ?_
    rotate_left
    · intro w2 hE
      obtain ⟨q0, q1⟩ := HRC.out w2 hE
      go_simp
      try (with_reducible rfl)
    try simp only [List.getElem_toArray, List.getElem_cons_zero, List.getElem_cons_succ, Act.put, List.setIfInBounds_toArray, List.set_cons_zero, List.set_cons_succ]
    refine wpAnyE_tk 2 (v := ?_) rfl (by kernel_rfl) (by kernel_rfl) (by kernel_rfl) (by kernel_rfl) ?_ ?_
    rotate_left
    · intro w2 hE
      obtain ⟨q0, q1⟩ := HRC.out w2 hE
      go_simp
      try (with_reducible rfl)
    try simp only [List.getElem_toArray, List.getElem_cons_zero, List.getElem_cons_succ, Act.put, List.setIfInBounds_toArray, List.set_cons_zero, List.set_cons_succ]
    refine wpAnyE_tk 3 (v := ?_) rfl (by kernel_rfl) (by kernel_rfl) (by kernel_rfl) (by kernel_rfl) ?_ ?_
    rotate_left
    · intro w2 hE
      obtain ⟨q0, q1⟩ := HRC.out w2 hE
      go_simp
      exact jnumber _ _
    try simp only [List.getElem_toArray, List.getElem_cons_zero, List.getElem_cons_succ, Act.put, List.setIfInBounds_toArray, List.set_cons_zero, List.set_cons_succ]
    refine wpAnyE_tk 4 (v := ?_) rfl (by kernel_rfl) (by kernel_rfl) (by kernel_rfl) (by kernel_rfl) ?_ ?_
    rotate_left
    · intro w2 hE
      obtain ⟨q0, q1⟩ := HRC.out w2 hE
      go_simp
      exact part_any _ _ _ _ _ _ _ _ _ _ _
    try simp only [List.getElem_toArray, List.getElem_cons_zero, List.getElem_cons_succ, Act.put, List.setIfInBounds_toArray, List.set_cons_zero, List.set_cons_succ]
    refine wpAnyE_tk 5 (v := ?_) rfl (by kernel_rfl) (by kernel_rfl) (by kernel_rfl) (by kernel_rfl) ?_ ?_
    rotate_left
    · intro w2 hE
      obtain ⟨q0, q1⟩ := HRC.out w2 hE
      go_simp
      try (with_reducible rfl)
    try simp only [List.getElem_toArray, List.getElem_cons_zero, List.getElem_cons_succ, Act.put, List.setIfInBounds_toArray, List.set_cons_zero, List.set_cons_succ]
    refine wpAnyE_tk 6 (v := ?_) rfl (by kernel_rfl) (by kernel_rfl) (by kernel_rfl) (by kernel_rfl) ?_ ?_
    rotate_left
    · intro w2 hE
      obtain ⟨q0, q1⟩ := HRC.out w2 hE
      go_simp
      try (with_reducible rfl)
    try simp only [List.getElem_toArray, List.getElem_cons_zero, List.getElem_cons_succ, Act.put, List.setIfInBounds_toArray, List.set_cons_zero, List.set_cons_succ]
    refine wpAnyE_tk 7 (v := ?_) rfl (by kernel_rfl) (by kernel_rfl) (by kernel_rfl) (by kernel_rfl) ?_ ?_
    rotate_left
    · intro w2 hE
      obtain ⟨q0, q1⟩ := HRC.out w2 hE
      go_simp
      exact jnumber _ _
    try simp only [List.getElem_toArray, List.getElem_cons_zero, List.getElem_cons_succ, Act.put, List.setIfInBounds_toArray, List.set_cons_zero, List.set_cons_succ]
    refine wpAnyE_tk 8 (v := ?_) rfl (by kernel_rfl) (by kernel_rfl) (by kernel_rfl) (by kernel_rfl) ?_ ?_
    rotate_left
    · intro w2 hE
      obtain ⟨q0, q1⟩ := HRC.out w2 hE
      go_simp
      exact part_any _ _ _ _ _ _ _ _ _ _ _
    try simp only [List.getElem_toArray, List.getElem_cons_zero, List.getElem_cons_succ, Act.put, List.setIfInBounds_toArray, List.set_cons_zero, List.set_cons_succ]
    refine wpAnyE_one (i := 9) (by kernel_rfl) rfl (fun w2 hE K hK => ?_)
    rw [if_pos (by kernel_rfl)]
    obtain ⟨q0, q1⟩ := HRC.out w2 hE
    have HB2 := Lib.hid (bel_trans HBV.out hE)
    clear HBV hE HRC
    go_simp
    have hsl : Sl memTy (w2.alloc (Obj.cells #[.string ⟨#[114, 101, 97, 100]⟩, .int .i64 4, .int .i64 r, .string ⟨#[]⟩, .slice none 0 0, .slice none 0 0, .string ⟨#[115, 116, 97, 114]⟩, .int .i64 4, .int .i64 s, .string ⟨#[]⟩, .slice none 0 0, .slice none 0 0] 78)) (fun _ => True) (.slice (some ⟨w2.heap.size, 0, none⟩) 2 2) [(nmRead, numV r), (nmStar, numV s)] :=
      new_members (T := 78) w2 ([(nmRead, numV r)] ++ [(nmStar, numV s)]) _ (by simp) (fun W => (Chunks.append (mem_chunk nmRead (numV r) _ (by decide) (num_jr W _ r)) (mem_chunk nmStar (numV s) _ (by decide) (num_jr W _ s))))
    refine hK.out _ _ (bel_alloc (Below.refl _ _) _) ?_
    clear hK K
    have hbA := bel_trans HB2.out (bel_alloc (Below.refl _ w2) (Obj.cells #[.string ⟨#[114, 101, 97, 100]⟩, .int .i64 4, .int .i64 r, .string ⟨#[]⟩, .slice none 0 0, .slice none 0 0, .string ⟨#[115, 116, 97, 114]⟩, .int .i64 4, .int .i64 s, .string ⟨#[]⟩, .slice none 0 0, .slice none 0 0] 78))
    have hSC : ∀ w3, Lat (w2.alloc (Obj.cells #[.string ⟨#[114, 101, 97, 100]⟩, .int .i64 4, .int .i64 r, .string ⟨#[]⟩, .slice none 0 0, .slice none 0 0, .string ⟨#[115, 116, 97, 114]⟩, .int .i64 4, .int .i64 s, .string ⟨#[]⟩, .slice none 0 0, .slice none 0 0] 78)) w3 → w3.cell? ⟨w.heap.size, 0, none⟩ = some (.int .i64 r) ∧ w3.cell? ⟨w.heap.size, 1, none⟩ = some (.int .i64 s) := fun w3 hE => ⟨cell_later' (bel_trans (bel_alloc (Below.refl _ w2) (Obj.cells #[.string ⟨#[114, 101, 97, 100]⟩, .int .i64 4, .int .i64 r, .string ⟨#[]⟩, .slice none 0 0, .slice none 0 0, .string ⟨#[115, 116, 97, 114]⟩, .int .i64 4, .int .i64 s, .string ⟨#[]⟩, .slice none 0 0, .slice none 0 0] 78)) hE) q0, cell_later' (bel_trans (bel_alloc (Below.refl _ w2) (Obj.cells #[.string ⟨#[114, 101, 97, 100]⟩, .int .i64 4, .int .i64 r, .string ⟨#[]⟩, .slice none 0 0, .slice none 0 0, .string ⟨#[115, 116, 97, 114]⟩, .int .i64 4, .int .i64 s, .string ⟨#[]⟩, .slice none 0 0, .slice none 0 0] 78)) hE) q1⟩
    have HSC := Lib.hid hSC
    clear hSC q0 q1
    have hj := hsl
    have HB3 := Lib.hid hbA
    clear hsl hbA HB2
    generalize w2.alloc (Obj.cells #[.string ⟨#[114, 101, 97, 100]⟩, .int .i64 4, .int .i64 r, .string ⟨#[]⟩, .slice none 0 0, .slice none 0 0, .string ⟨#[115, 116, 97, 114]⟩, .int .i64 4, .int .i64 s, .string ⟨#[]⟩, .slice none 0 0, .slice none 0 0] 78) = W3 at *
    generalize w2.heap.size = gz at *
    have HJ := Lib.hid hj
    clear w2 hj
    refine wpAnyE_one (i := 10) (by kernel_rfl) rfl (fun w4 hE K hK => ?_)
    rw [if_pos (by kernel_rfl)]
    have HP4 := Lib.hid (HP.out _ _ w4 (Sl.below HJ.out hE) (HT0.out.below (bel_trans HB3.out hE)))
    have HB4 := Lib.hid (bel_trans HB3.out hE)
    clear hE HP HB3 HSC
    go_simp
    refine HP4.out.mono ?_
    rintro e w5 ⟨rfl, hb⟩
    refine hK.out _ _ hb ?_
    clear hK K
    have HB5 := Lib.hid (bel_trans HB4.out hb)
    clear hb HP4 HB4
    try simp only [List.getElem_toArray, List.getElem_cons_zero, List.getElem_cons_succ, Act.put, List.setIfInBounds_toArray, List.set_cons_zero, List.set_cons_succ]
    refine wpAnyE_tk 11 (v := ?_) rfl (by kernel_rfl) (by kernel_rfl) (by kernel_rfl) (by kernel_rfl) ?_ ?_
    rotate_left
    · intro w2 hE
      go_simp
      try (with_reducible rfl)
    try simp only [List.getElem_toArray, List.getElem_cons_zero, List.getElem_cons_succ, Act.put, List.setIfInBounds_toArray, List.set_cons_zero, List.set_cons_succ]
    refine wpAnyE_tk 12 (v := ?_) rfl (by kernel_rfl) (by kernel_rfl) (by kernel_rfl) (by kernel_rfl) ?_ ?_
    rotate_left
    · intro w2 hE
      go_simp
      try (with_reducible rfl)
    try simp only [List.getElem_toArray, List.getElem_cons_zero, List.getElem_cons_succ, Act.put, List.setIfInBounds_toArray, List.set_cons_zero, List.set_cons_succ]
    refine wpAnyE_tk 13 (v := ?_) rfl (by kernel_rfl) (by kernel_rfl) (by kernel_rfl) (by kernel_rfl) ?_ ?_
    rotate_left
    · intro w2 hE
      go_simp
      try (with_reducible rfl)
    try simp only [List.getElem_toArray, List.getElem_cons_zero, List.getElem_cons_succ, Act.put, List.setIfInBounds_toArray, List.set_cons_zero, List.set_cons_succ]
    refine wpAnyE_tk 14 (v := ?_) rfl (by kernel_rfl) (by kernel_rfl) (by kernel_rfl) (by kernel_rfl) ?_ ?_
    rotate_left
    · intro w2 hE
      go_simp
      try (with_reducible rfl)
    try simp only [List.getElem_toArray, List.getElem_cons_zero, List.getElem_cons_succ, Act.put, List.setIfInBounds_toArray, List.set_cons_zero, List.set_cons_succ]
    refine wpAnyE_done (by kernel_rfl) (fun w6 hE6 => ?_) _
    have HB6 := Lib.hid (bel_trans HB5.out hE6)
    clear hE6
    go_wp2_with fail
    go_ret2
    exact ⟨rfl, HB6.out⟩
end Go.Proofs.YtjjgbgojlhaapaaDoor
namespace Go.Proofs.YtjjgbgojlhaapaaDoor
open Go.RowKit Go.Lib

theorem nm_len (s : ByteArray) : s.toList.length = s.size := by rw [ByteArray.toList_eq]; simp
theorem nm_some {s : ByteArray} (h : 1 ≤ s.size) : (!s.toList.isEmpty) = true := by
  have hl := nm_len s
  cases hs : s.toList with
  | nil => rw [hs] at hl; simp at hl; omega
  | cons a r => rfl
theorem nm_none {s : ByteArray} (h : ¬ 1 ≤ s.size) : (!s.toList.isEmpty) = false := by
  have hl := nm_len s
  cases hs : s.toList with
  | nil => rfl
  | cons a r => rw [hs] at hl; simp at hl; omega
def nmOk (c : Nat) : Bool := (decide (97 ≤ c) && decide (c ≤ 122)) || (decide (48 ≤ c) && decide (c ≤ 57)) || c == 45
def nameB (s : ByteArray) : Bool := s.data.toList.all (fun c => nmOk c.toNat) && (decide (1 ≤ s.size) && decide (s.size ≤ 20))
theorem nm_ways1 (c : Nat) : ∃ b1 b2 b3 b4 b5 : Bool, decide ((c : Int) < 97) = b1 ∧ decide (122 < (c : Int)) = b2 ∧ decide ((c : Int) < 48) = b3 ∧ decide (57 < (c : Int)) = b4 ∧ ((c : Int) != 45) = b5 ∧ nmOk c = !((b1 || b2) && (b3 || b4) && b5) :=
  ⟨_, _, _, _, _, rfl, rfl, rfl, rfl, rfl, by rw [Bool.eq_iff_iff]; simp [nmOk]; omega⟩
theorem nm_ways2 (c : Nat) : ∃ b1 b2 b3 b4 b5 : Bool, decide (97 ≤ (c : Int)) = b1 ∧ decide ((c : Int) ≤ 122) = b2 ∧ decide (48 ≤ (c : Int)) = b3 ∧ decide ((c : Int) ≤ 57) = b4 ∧ ((c : Int) == 45) = b5 ∧ nmOk c = ((b1 && b2) || (b3 && b4) || b5) :=
  ⟨_, _, _, _, _, rfl, rfl, rfl, rfl, rfl, by rw [Bool.eq_iff_iff]; simp [nmOk]; omega⟩
set_option maxRecDepth 100000 in
set_option maxHeartbeats 16000000 in
theorem rname (s : ByteArray) (hs : s.size ≤ 1000000000) (w : World) : Calls Tryd.prog 51 #[.string s] w fun e w' => e = .returned (.bool (nameB s)) ∧ w' = w := by
  have hR : nameB s = (s.data.toList.all (fun c => nmOk c.toNat) && (decide (1 ≤ s.size) && decide (s.size ≤ 20))) := rfl
  have HR := Lib.hid hR
  clear hR
  generalize nameB s = R at *
  go_enter Tryd.func51, Tryd.ntmps51
  go_wp2_with fail
  go_loopg [3] s.size (fun gg s3 wr => ∃ k : Nat, k ≤ s.size ∧ s.size - k ≤ gg ∧ s3 = .int .i64 (k : Int) ∧ wr = w ∧ Aside (s.data.toList.all (fun c => nmOk c.toNat) = (s.data.toList.drop k).all (fun c => nmOk c.toNat)))
  case atStart => exact ⟨0, by omega, by omega, rfl, rfl, rfl⟩
  case round =>
    obtain ⟨k, hk, hgg, rfl, rfl, HA⟩ := hrel
    by_cases hlt : k < s.size
    · have hltz : (k : Int) < (s.size : Int) := by omega
      have hq0 : (0 : Int) ≤ (k : Int) := by omega
      have hgb := get_byte hlt
      have hb := (byteAt s k).toNat_lt
      have hdr := drop_byte hlt
      have hbad : nmOk (byteAt s k).toNat = false → R = false := fun h => by rw [HR.out, HA.out, hdr]; simp [h]
      have hgood : nmOk (byteAt s k).toNat = true → s.data.toList.all (fun c => nmOk c.toNat) = (s.data.toList.drop (k + 1)).all (fun c => nmOk c.toNat) := fun h => by rw [HA.out, hdr]; simp [h]
      obtain ⟨b1, b2, b3, b4, b5, a1, a2, a3, a4, a5, hok⟩ := nm_ways1 (byteAt s k).toNat
      have HBAD := Lib.hid hbad; have HGOOD := Lib.hid hgood; have HOK := Lib.hid hok
      have hwk : wrap64 ((k : Int) + 1) = ((k + 1 : Nat) : Int) := by unfold wrap64; omega
      clear hbad hgood hok hdr HA
      cases b1 <;> cases b2 <;> cases b3 <;> cases b4 <;> cases b5
      all_goals
        go_wp2_with fail
        first
        | (go_roundg (s.size - (k + 1))
           case measure => omega
           case rel => exact ⟨k + 1, by omega, Nat.le_refl _, by first | rfl | go_num, rfl, HGOOD.out HOK.out⟩)
        | (go_ret
           exact ⟨ret_bool (HBAD.out HOK.out).symm, rfl⟩)
    · have hltz : ¬ (k : Int) < (s.size : Int) := by omega
      have hz : k = s.size := by omega
      have hend : R = (decide (1 ≤ s.size) && decide (s.size ≤ 20)) := by
        rw [HR.out, HA.out, List.drop_of_length_le (by simp; omega)]; simp
      have HE := Lib.hid hend
      clear hend HA hz
      by_cases h1 : 1 ≤ s.size
      · have c1 : decide (1 ≤ (s.size : Int)) = true := decide_eq_true (by omega)
        by_cases h2 : s.size ≤ 20
        · have c2 : decide ((s.size : Int) ≤ 20) = true := decide_eq_true (by omega)
          go_wp2_with fail
          go_ret
          exact ⟨ret_bool (by rw [HE.out]; simp; omega), rfl⟩
        · have c2 : decide ((s.size : Int) ≤ 20) = false := decide_eq_false (by omega)
          go_wp2_with fail
          go_ret
          exact ⟨ret_bool (by rw [HE.out]; simp; omega), rfl⟩
      · have c1 : decide (1 ≤ (s.size : Int)) = false := decide_eq_false (by omega)
        go_wp2_with fail
        go_ret
        exact ⟨ret_bool (by rw [HE.out]; simp; omega), rfl⟩
set_option maxRecDepth 100000 in
set_option maxHeartbeats 16000000 in
theorem jname (s : ByteArray) (hs : s.size ≤ 1000000000) (w : World) : Calls Tryd.prog 50 #[.string s] w fun e w' => e = .returned (.bool (nameB s)) ∧ w' = w := by
  have hR : nameB s = (s.data.toList.all (fun c => nmOk c.toNat) && (decide (1 ≤ s.size) && decide (s.size ≤ 20))) := rfl
  have HR := Lib.hid hR
  clear hR
  generalize nameB s = R at *
  go_enter Tryd.func50, Tryd.ntmps50
  go_wp2_with fail
  go_loopg [7] s.size (fun gg s7 wr => ∃ k : Nat, k ≤ s.size ∧ s.size - k ≤ gg ∧ s7 = .int .i64 (k : Int) ∧ wr = w ∧ Aside (s.data.toList.all (fun c => nmOk c.toNat) = (s.data.toList.drop k).all (fun c => nmOk c.toNat)))
  case atStart => exact ⟨0, by omega, by omega, rfl, rfl, rfl⟩
  case round =>
    obtain ⟨k, hk, hgg, rfl, rfl, HA⟩ := hrel
    by_cases hlt : k < s.size
    · have hltz : (k : Int) < (s.size : Int) := by omega
      have hq0 : (0 : Int) ≤ (k : Int) := by omega
      have hgb := get_byte hlt
      have hb := (byteAt s k).toNat_lt
      have hdr := drop_byte hlt
      have hbad : nmOk (byteAt s k).toNat = false → R = false := fun h => by rw [HR.out, HA.out, hdr]; simp [h]
      have hgood : nmOk (byteAt s k).toNat = true → s.data.toList.all (fun c => nmOk c.toNat) = (s.data.toList.drop (k + 1)).all (fun c => nmOk c.toNat) := fun h => by rw [HA.out, hdr]; simp [h]
      obtain ⟨b1, b2, b3, b4, b5, a1, a2, a3, a4, a5, hok⟩ := nm_ways2 (byteAt s k).toNat
      have HBAD := Lib.hid hbad; have HGOOD := Lib.hid hgood; have HOK := Lib.hid hok
      have hwk : wrap64 ((k : Int) + 1) = ((k + 1 : Nat) : Int) := by unfold wrap64; omega
      clear hbad hgood hok hdr HA
      cases b1 <;> cases b2 <;> cases b3 <;> cases b4 <;> cases b5
      all_goals
        go_wp2_with fail
        first
        | (go_roundg (s.size - (k + 1))
           case measure => omega
           case rel => exact ⟨k + 1, by omega, Nat.le_refl _, by first | rfl | go_num, rfl, HGOOD.out HOK.out⟩)
        | (go_ret
           exact ⟨ret_bool (HBAD.out HOK.out).symm, rfl⟩)
    · have hltz : ¬ (k : Int) < (s.size : Int) := by omega
      have hz : k = s.size := by omega
      have hend : R = (decide (1 ≤ s.size) && decide (s.size ≤ 20)) := by
        rw [HR.out, HA.out, List.drop_of_length_le (by simp; omega)]; simp
      have HE := Lib.hid hend
      clear hend HA hz
      by_cases h1 : 1 ≤ s.size
      · have c1 : (!s.toList.isEmpty) = true := nm_some h1
        by_cases h2 : s.size ≤ 20
        · have c2 : decide ((s.size : Int) ≤ 20) = true := decide_eq_true (by omega)
          go_wp2_with fail
          go_ret
          exact ⟨ret_bool (by rw [HE.out]; simp; omega), rfl⟩
        · have c2 : decide ((s.size : Int) ≤ 20) = false := decide_eq_false (by omega)
          go_wp2_with fail
          go_ret
          exact ⟨ret_bool (by rw [HE.out]; simp; omega), rfl⟩
      · have c1 : (!s.toList.isEmpty) = false := nm_none h1
        go_wp2_with fail
        go_ret
        exact ⟨ret_bool (by rw [HE.out]; simp; omega), rfl⟩
end Go.Proofs.YtjjgbgojlhaapaaDoor
namespace Go.Proofs.YtjjgbgojlhaapaaDoor
open Go.RowKit Go.Lib

def nmFolder : ByteArray := ⟨#[102, 111, 108, 100, 101, 114]⟩
def subO (f : ByteArray) : JV := .mk 7 0 ⟨#[]⟩ [] [(nmFolder, wordV f)]
def subOk (f : ByteArray) : Bool := f.toList.isEmpty || nameB f
theorem sub_new {T : TypeId} (w : World) (f : ByteArray) (hf : f.size ≤ 1000000) : Sl memTy (w.alloc (Obj.cells #[.string ⟨#[102, 111, 108, 100, 101, 114]⟩, .int .i64 5, .int .i64 0, .string f, .slice none 0 0, .slice none 0 0] T)) (fun _ => True) (.slice (some ⟨w.heap.size, 0, none⟩) 1 1) [(nmFolder, wordV f)] :=
  new_members (T := T) w [(nmFolder, wordV f)] _ (by simp) (fun W => mem_chunk nmFolder (wordV f) _ (by decide) (word_jr W _ (nm := f) (by omega)))
theorem rnameB (s : ByteArray) (hs : s.size ≤ 1000000000) (w : World) : Calls Tryd.prog 51 #[.string s] w fun e w' => e = .returned (.bool (nameB s)) ∧ Below w.heap.size w w' := (rname s hs w).mono fun _ _ ⟨a, b⟩ => ⟨a, b ▸ Below.refl _ _⟩
set_option maxRecDepth 100000 in
set_option maxHeartbeats 16000000 in
theorem rputSub (f : ByteArray) (w : World) (hf : f.size ≤ 1000000) (hsm : SmJ (subO f)) (hlen : mayJ 64 (subO f) = true → (printB 64 (subO f)).length ≤ 1000000000) :
    Calls Tryd.prog 20 #[.string f] w fun e w' => e = .returned (putB (subOk f) (subO f)) ∧ Below w.heap.size w w' := by
  cases h10 : f.toList.isEmpty with
  | true =>
    have hok : (subOk f) = true := by simp [subOk, h10]
    rw [hok]
    obtain ⟨S, E, hput, hp⟩ := printedC (subO f) true hsm hlen
    rw [hput]
    have HP := Lib.hid hp
    clear hp hput hlen hsm hok
    go_enter Tryd.func20, Tryd.ntmps20
    go_wp2_with fail
    refine Calls.mono (rtext f _) ?_
    rintro e w1 ⟨rfl, hb1⟩
    go_wp2_with fail
    have hsl := sub_new (T := 91) w1 f hf
    have hba := bel_trans hb1 (bel_alloc (Below.refl _ w1) (Obj.cells #[.string ⟨#[102, 111, 108, 100, 101, 114]⟩, .int .i64 5, .int .i64 0, .string f, .slice none 0 0, .slice none 0 0] 91))
    generalize w1.alloc (Obj.cells #[.string ⟨#[102, 111, 108, 100, 101, 114]⟩, .int .i64 5, .int .i64 0, .string f, .slice none 0 0, .slice none 0 0] 91) = W at *
    refine Calls.mono (robject _ _ _ _) ?_
    rintro e w2 ⟨rfl, hb2⟩
    have HJ := Lib.hid (JR_later (obj_jr hsl) hb2)
    have HB := Lib.hid (bel_trans hba hb2)
    clear hsl hba hb1 hb2
    generalize w1.heap.size = gz at *
    clear w1 W
    go_wp2_with fail
    refine Calls.mono (HP.out _ _ _ HJ.out) ?_
    rintro e w5 ⟨rfl, hb5⟩
    have HB5 := Lib.hid (bel_trans HB.out hb5)
    clear hb5
    go_wp2_with fail
    go_ret2
    exact ⟨rfl, HB5.out⟩
  | false =>
    cases h13 : nameB f with
    | true =>
      have hok : (subOk f) = true := by simp [subOk, h10, h13]
      rw [hok]
      obtain ⟨S, E, hput, hp⟩ := printedC (subO f) true hsm hlen
      rw [hput]
      have HP := Lib.hid hp
      clear hp hput hlen hsm hok
      go_enter Tryd.func20, Tryd.ntmps20
      go_wp2_with fail
      refine Calls.mono (rtext f _) ?_
      rintro e w1 ⟨rfl, hb1⟩
      go_wp2_with fail
      have hsl := sub_new (T := 91) w1 f hf
      have hba := bel_trans hb1 (bel_alloc (Below.refl _ w1) (Obj.cells #[.string ⟨#[102, 111, 108, 100, 101, 114]⟩, .int .i64 5, .int .i64 0, .string f, .slice none 0 0, .slice none 0 0] 91))
      generalize w1.alloc (Obj.cells #[.string ⟨#[102, 111, 108, 100, 101, 114]⟩, .int .i64 5, .int .i64 0, .string f, .slice none 0 0, .slice none 0 0] 91) = W at *
      refine Calls.mono (robject _ _ _ _) ?_
      rintro e w2 ⟨rfl, hb2⟩
      have HJ := Lib.hid (JR_later (obj_jr hsl) hb2)
      have HB := Lib.hid (bel_trans hba hb2)
      clear hsl hba hb1 hb2
      generalize w1.heap.size = gz at *
      clear w1 W
      go_wp2_with fail
      have hv := rnameB f (by omega) w2
      rw [h13] at hv
      refine Calls.mono hv ?_
      clear hv
      rintro e w3 ⟨rfl, hb3⟩
      have HJ3 := Lib.hid (JR_later HJ.out hb3)
      have HB3 := Lib.hid (bel_trans HB.out hb3)
      clear hb3 HJ HB
      have HJ := HJ3
      have HB := HB3
      clear HJ3 HB3
      go_wp2_with fail
      refine Calls.mono (HP.out _ _ _ HJ.out) ?_
      rintro e w5 ⟨rfl, hb5⟩
      have HB5 := Lib.hid (bel_trans HB.out hb5)
      clear hb5
      go_wp2_with fail
      go_ret2
      exact ⟨rfl, HB5.out⟩
    | false =>
      have hok : (subOk f) = false := by simp [subOk, h10, h13]
      rw [hok]
      obtain ⟨S, E, hput, hp⟩ := printedC (subO f) false hsm hlen
      rw [hput]
      have HP := Lib.hid hp
      clear hp hput hlen hsm hok
      go_enter Tryd.func20, Tryd.ntmps20
      go_wp2_with fail
      refine Calls.mono (rtext f _) ?_
      rintro e w1 ⟨rfl, hb1⟩
      go_wp2_with fail
      have hsl := sub_new (T := 91) w1 f hf
      have hba := bel_trans hb1 (bel_alloc (Below.refl _ w1) (Obj.cells #[.string ⟨#[102, 111, 108, 100, 101, 114]⟩, .int .i64 5, .int .i64 0, .string f, .slice none 0 0, .slice none 0 0] 91))
      generalize w1.alloc (Obj.cells #[.string ⟨#[102, 111, 108, 100, 101, 114]⟩, .int .i64 5, .int .i64 0, .string f, .slice none 0 0, .slice none 0 0] 91) = W at *
      refine Calls.mono (robject _ _ _ _) ?_
      rintro e w2 ⟨rfl, hb2⟩
      have HJ := Lib.hid (JR_later (obj_jr hsl) hb2)
      have HB := Lib.hid (bel_trans hba hb2)
      clear hsl hba hb1 hb2
      generalize w1.heap.size = gz at *
      clear w1 W
      go_wp2_with fail
      have hv := rnameB f (by omega) w2
      rw [h13] at hv
      refine Calls.mono hv ?_
      clear hv
      rintro e w3 ⟨rfl, hb3⟩
      have HJ3 := Lib.hid (JR_later HJ.out hb3)
      have HB3 := Lib.hid (bel_trans HB.out hb3)
      clear hb3 HJ HB
      have HJ := HJ3
      have HB := HB3
      clear HJ3 HB3
      go_wp2_with fail
      refine Calls.mono (HP.out _ _ _ HJ.out) ?_
      rintro e w5 ⟨rfl, hb5⟩
      have HB5 := Lib.hid (bel_trans HB.out hb5)
      clear hb5
      go_wp2_with fail
      go_ret2
      exact ⟨rfl, HB5.out⟩
set_option maxRecDepth 100000 in
set_option maxHeartbeats 16000000 in
theorem jputSub (f : ByteArray) (w : World) (hf : f.size ≤ 1000000) (hT : Tabs w) (hlen : mayJ 64 (subO f) = true → (printB 64 (subO f)).length ≤ 1000000000) :
    Calls Tryd.prog 19 #[.string f] w fun e w' => e = .returned (putB (subOk f) (subO f)) ∧ Below w.heap.size w w' := by
  cases h10 : f.toList.isEmpty with
  | true =>
    have hok : (subOk f) = true := by simp [subOk, h10]
    rw [hok]
    obtain ⟨S, E, hput, hp⟩ := printedJ _ true (show mayJ 64 (subO f) = true → _ from hlen)
    replace hput : putB true (subO f) = .tuple #[.string S, .int .i64 E] := hput
    rw [hput]
    have HP := Lib.hid hp
    have HT0 := Lib.hid hT
    clear hp hput hlen hT hok
    go_enter Tryd.func19, Tryd.ntmps19
    go_wp2_with fail
    refine Calls.mono (jwords f _) ?_
    rintro e w1 ⟨rfl, hb1⟩
    go_wp2_with fail
    refine Calls.mono (part_any _ _ _ _ _ _ _ _ _ _ _) ?_
    rintro e w2 ⟨rfl, hb2⟩
    have HB2 := Lib.hid (bel_trans hb1 hb2)
    clear hb1 hb2 w1
    go_wp2_with fail
    have hsl := sub_new (T := 78) w2 f hf
    have hba := bel_trans HB2.out (bel_alloc (Below.refl _ w2) (Obj.cells #[.string ⟨#[102, 111, 108, 100, 101, 114]⟩, .int .i64 5, .int .i64 0, .string f, .slice none 0 0, .slice none 0 0] 78))
    refine Calls.mono (HP.out _ _ _ hsl (HT0.out.below hba)) ?_
    rintro e w5 ⟨rfl, hb5⟩
    have HB5 := Lib.hid (bel_trans hba hb5)
    clear hb5 hba hsl
    go_wp2_with fail
    go_ret2
    exact ⟨rfl, HB5.out⟩
  | false =>
    cases h13 : nameB f with
    | true =>
      have hok : (subOk f) = true := by simp [subOk, h10, h13]
      rw [hok]
      obtain ⟨S, E, hput, hp⟩ := printedJ _ true (show mayJ 64 (subO f) = true → _ from hlen)
      replace hput : putB true (subO f) = .tuple #[.string S, .int .i64 E] := hput
      rw [hput]
      have HP := Lib.hid hp
      have HT0 := Lib.hid hT
      clear hp hput hlen hT hok
      go_enter Tryd.func19, Tryd.ntmps19
      go_wp2_with fail
      have hv := jname f (by omega) w
      rw [h13] at hv
      refine Calls.mono hv ?_
      clear hv
      rintro e w0 ⟨rfl, hw⟩
      replace hw := hw.symm
      subst hw
      go_wp2_with fail
      refine Calls.mono (jwords f _) ?_
      rintro e w1 ⟨rfl, hb1⟩
      go_wp2_with fail
      refine Calls.mono (part_any _ _ _ _ _ _ _ _ _ _ _) ?_
      rintro e w2 ⟨rfl, hb2⟩
      have HB2 := Lib.hid (bel_trans hb1 hb2)
      clear hb1 hb2 w1
      go_wp2_with fail
      have hsl := sub_new (T := 78) w2 f hf
      have hba := bel_trans HB2.out (bel_alloc (Below.refl _ w2) (Obj.cells #[.string ⟨#[102, 111, 108, 100, 101, 114]⟩, .int .i64 5, .int .i64 0, .string f, .slice none 0 0, .slice none 0 0] 78))
      refine Calls.mono (HP.out _ _ _ hsl (HT0.out.below hba)) ?_
      rintro e w5 ⟨rfl, hb5⟩
      have HB5 := Lib.hid (bel_trans hba hb5)
      clear hb5 hba hsl
      go_wp2_with fail
      go_ret2
      exact ⟨rfl, HB5.out⟩
    | false =>
      have hok : (subOk f) = false := by simp [subOk, h10, h13]
      rw [hok]
      obtain ⟨S, E, hput, hp⟩ := printedJ _ false (show mayJ 64 (subO f) = true → _ from hlen)
      replace hput : putB false (subO f) = .tuple #[.string S, .int .i64 E] := hput
      rw [hput]
      have HP := Lib.hid hp
      have HT0 := Lib.hid hT
      clear hp hput hlen hT hok
      go_enter Tryd.func19, Tryd.ntmps19
      go_wp2_with fail
      have hv := jname f (by omega) w
      rw [h13] at hv
      refine Calls.mono hv ?_
      clear hv
      rintro e w0 ⟨rfl, hw⟩
      replace hw := hw.symm
      subst hw
      go_wp2_with fail
      refine Calls.mono (jwords f _) ?_
      rintro e w1 ⟨rfl, hb1⟩
      go_wp2_with fail
      refine Calls.mono (part_any _ _ _ _ _ _ _ _ _ _ _) ?_
      rintro e w2 ⟨rfl, hb2⟩
      have HB2 := Lib.hid (bel_trans hb1 hb2)
      clear hb1 hb2 w1
      go_wp2_with fail
      have hsl := sub_new (T := 78) w2 f hf
      have hba := bel_trans HB2.out (bel_alloc (Below.refl _ w2) (Obj.cells #[.string ⟨#[102, 111, 108, 100, 101, 114]⟩, .int .i64 5, .int .i64 0, .string f, .slice none 0 0, .slice none 0 0] 78))
      refine Calls.mono (HP.out _ _ _ hsl (HT0.out.below hba)) ?_
      rintro e w5 ⟨rfl, hb5⟩
      have HB5 := Lib.hid (bel_trans hba hb5)
      clear hb5 hba hsl
      go_wp2_with fail
      go_ret2
      exact ⟨rfl, HB5.out⟩
end Go.Proofs.YtjjgbgojlhaapaaDoor
namespace Go.Proofs.YtjjgbgojlhaapaaDoor
open Go.RowKit Go.Lib

set_option maxRecDepth 100000 in
theorem putMarks_bad (sv : Value) (F : Nat → Prop) (xs : List Mk) (w : World) (hs : Sl mkTy w F sv xs) (hm : mayB xs = false) :
    Calls Tryd.prog 11 #[sv] w fun e w' => e = .returned (.tuple #[.string ⟨#[]⟩, .int .i64 4]) ∧ Below w.heap.size w w' := by
  have hmay := may_any sv F xs w hs
  rw [hm] at hmay
  obtain ⟨A, c, rfl⟩ := hs.form
  clear hs hm
  go_enter Tryd.func11, Tryd.ntmps11
  go_wp2_with fail
  refine Calls.mono hmay ?_
  rintro e w1 ⟨rfl, hb1⟩
  go_wp2_with fail
  go_ret2
  exact ⟨rfl, hb1⟩
end Go.Proofs.YtjjgbgojlhaapaaDoor
namespace Go.Proofs.YtjjgbgojlhaapaaDoor
open Go.RowKit

theorem any_of_idx (p : Mk → Bool) (xs : List Mk) : decide (0 ≤ idxOf p xs) = xs.any p := by
  unfold idxOf
  cases h : xs.findIdx? p with
  | none =>
    rw [List.findIdx?_eq_none_iff] at h
    have : xs.any p = false := by simp only [List.any_eq_false]; intro x hx; simp [h x hx]
    simp [this]
  | some i =>
    rw [List.findIdx?_eq_some_iff_getElem] at h
    obtain ⟨hi, h1, _⟩ := h
    have : xs.any p = true := List.any_eq_true.2 ⟨_, List.getElem_mem hi, h1⟩
    simp [this]

set_option maxHeartbeats 400000 in
theorem containsFunc_any (fv sv : Value) (p : Mk → Bool) (F : Nat → Prop) (xs : List Mk) (w : World) (hs : Sl mkTy w F sv xs) (hf : Pred1 fv p w) :
    Calls Tryd.prog 33 #[sv, fv] w fun e w' => e = .returned (.bool (xs.any p)) ∧ Below w.heap.size w w' := by
  have h1 := indexFunc_any fv sv p F xs w hs hf
  have h2 := any_of_idx p xs
  generalize idxOf p xs = r at h1 h2
  have H2 := Lib.hid h2; clear h2 hs hf
  go_enter Tryd.func33, Tryd.ntmps33
  go_wp2_with fail
  refine Calls.mono h1 ?_
  rintro e w' ⟨rfl, hb'⟩
  go_wp2_with fail
  go_ret
  exact ⟨ret_bool H2.out, hb'⟩

def domB (m x : Mk) : Bool := decide (x.t ≤ m.t) && decide (x.u ≤ m.u)

set_option maxHeartbeats 400000 in
theorem dominates_any (m x : Mk) (w : World) :
    Calls Tryd.prog 35 #[.agg #[.int .i64 m.t, .int .i64 m.u], .agg #[.int .i64 x.t, .int .i64 x.u]] w fun e w' => e = .returned (.bool (domB m x)) ∧ Below w.heap.size w w' := by
  have hb : Below w.heap.size w ((w.alloc (.cells #[.int .i64 m.t, .int .i64 m.u] 24)).alloc (.cells #[.int .i64 x.t, .int .i64 x.u] 24)) := bel_alloc (bel_alloc (Below.refl _ _) _) _
  unfold domB
  cases h1 : decide (x.t ≤ m.t)
  all_goals
    go_enter Tryd.func35, Tryd.ntmps35
    go_wp2
    go_ret
    exact ⟨rfl, hb⟩

/-- the closure of Covers -/
def covB (num when : Int) (x : Mk) : Bool := decide (when ≤ x.t) && decide (num < x.u)
set_option maxHeartbeats 400000 in
theorem covers1_any (x : Mk) (num when : Int) (A B : Nat) (w : World) (hn : w.cell? ⟨B, 0, none⟩ = some (.int .i64 num)) (hw : w.cell? ⟨A, 0, none⟩ = some (.int .i64 when)) :
    Calls Tryd.prog 42 #[.agg #[.int .i64 x.t, .int .i64 x.u], .pointer (some ⟨A, 0, none⟩), .pointer (some ⟨B, 0, none⟩)] w fun e w' => e = .returned (.bool (covB num when x)) ∧ Below w.heap.size w w' := by
  have l0 : B < w.heap.size := World.block_lt_of_cell? w _ hn
  have l1 : A < w.heap.size := World.block_lt_of_cell? w _ hw
  have hb : Below w.heap.size w (w.alloc (.cells #[.int .i64 x.t, .int .i64 x.u] 24)) := bel_alloc (Below.refl _ _) _
  unfold covB
  cases h1 : decide (when ≤ x.t)
  all_goals
    go_enter Tryd.func42, Tryd.ntmps42
    go_wp2
    go_ret
    exact ⟨rfl, hb⟩

set_option maxHeartbeats 400000 in
theorem covers_any (sv : Value) (num when : Int) (F : Nat → Prop) (xs : List Mk) (w : World) (hs : Sl mkTy w F sv xs) :
    Calls Tryd.prog 12 #[sv, .int .i64 num, .int .i64 when] w fun e w' => e = .returned (.bool (xs.any (covB num when))) ∧ Below w.heap.size w w' := by
  obtain ⟨W, hW⟩ : ∃ W, W = (w.alloc (.cells #[.int .i64 num] 3)).alloc (.cells #[.int .i64 when] 3) := ⟨_, rfl⟩
  have hb : Below w.heap.size w W := by rw [hW]; exact bel_alloc (bel_alloc (Below.refl _ _) _) _
  have c0 : W.cell? ⟨w.heap.size, 0, none⟩ = some (.int .i64 num) := by rw [hW]; simp
  have c1 : W.cell? ⟨w.heap.size + 1, 0, none⟩ = some (.int .i64 when) := by rw [hW]; simp
  have hp : Pred1 (.func (.func 42) #[] #[.pointer (some ⟨w.heap.size + 1, 0, none⟩), .pointer (some ⟨w.heap.size, 0, none⟩)]) (covB num when) W :=
    ⟨_, _, _, rfl, enters_of Tryd.func42 (by kernel_rfl) rfl, fun V x hV => covers1_any x num when _ _ V (cell_later' hV c0) (cell_later' hV c1)⟩
  have hc := containsFunc_any _ _ _ F xs W (hs.below hb) hp
  have HW := Lib.hid hW; clear hp hs
  go_enter Tryd.func12, Tryd.ntmps12
  go_wp2_with fail
  rw [← HW.out]
  refine Calls.mono hc ?_
  rintro e w' ⟨rfl, hb'⟩
  go_wp2_with fail
  go_ret
  exact ⟨rfl, bel_trans hb hb'⟩
end Go.Proofs.YtjjgbgojlhaapaaDoor
namespace Go.Proofs.YtjjgbgojlhaapaaDoor
open Go.RowKit

theorem mkInfo : (Tryd.prog.info? 24).map (fun i => (i.zero, i.size, i.bytes)) = some (some (.agg #[.int .i64 0, .int .i64 0]), 2, 16) := by kernel_rfl

set_option maxHeartbeats 400000 in
theorem cloneMk_any (sv : Value) (F : Nat → Prop) (xs : List Mk) (w : World) (hs : Sl mkTy w F sv xs) (hn : xs.length * 16 ≤ 140737488355328) :
    Calls Tryd.prog 36 #[sv] w fun e w' => ∃ v cs, e = .returned v ∧ Below w.heap.size w w' ∧ w'.ownsRow w.heap.size 24 2 v xs.length cs ∧ Chunks mkTy w' F xs cs := by
  have e1 := fun (w : World) (a : Option Addr) (n c : Nat) => Lib.run_eql_slice_nil (P := Tryd.prog) w 22 _ a n c 0 0 Tryd.underlying22
  obtain ⟨i0, hi, hz0, hz1, hz2⟩ := info_parts mkInfo
  rcases hs.open with ⟨rfl, c, rfl⟩ | ⟨ad, c, cs, rfl, hch, hel⟩
  · go_enter Tryd.func36, Tryd.ntmps36
    go_wp2
    go_ret
    exact ⟨_, [], rfl, Below.refl _ _, World.ownsRow_nil _ _ _ _, rfl⟩
  · generalize hnn : xs.length = n at *
    have Hn := Lib.hid hnn; clear hnn
    have hown : (w.alloc (.cells #[] 24)).ownsRow w.heap.size 24 2 (.slice (some ⟨w.heap.size, 0, none⟩) 0 0) 0 [] := World.ownsRow_made w #[] 0 (Nat.le_refl _) (by decide) (by simp)
    have hb0 : Below w.heap.size w (w.alloc (.cells #[] 24)) := bel_alloc (Below.refl _ _) _
    have hel' : ∀ j u, cs[j]? = some u → (w.alloc (.cells #[] 24)).cell? (ad.add j) = some u := fun j u hj => cell_later' hb0 (hel j u hj)
    have hlen : cs.length = n * 2 := by rw [hch.len, Hn.out]; rfl
    have h1 := hch.one
    have Hh := Lib.hid hch.bound
    clear hel hch hs
    have Hl := Lib.hid hlen; clear hlen
    go_enter Tryd.func36, Tryd.ntmps36
    go_wp2_with (at_builtin; refine wpList_append_own _ rfl _ _ 22 rfl w.heap.size 24 i0 (.agg #[.int .i64 0, .int .i64 0]) 2 16 Tryd.underlying22 hi hz0 hz1 hz2 rfl (by decide) _ _ _ rfl hown ad n c cs rfl Hl.out hel' h1 ?c1 ?c2 ?c3 ?_)
    case c1 => simp only [maxLen]; omega
    case c2 => omega
    case c3 => exact hb0.size
    intro v' w1 hown1 hgrow _
    have hb1 : Below w.heap.size w w1 := bel_grown hb0 hgrow (fun k hk => by simp [Value.ownBlock] at hk; omega)
    have Hc := Lib.hid ((Hh.out.frame (fun k hk => hb1.block k hk.2)).mono (fun _ hk => hk.1))
    go_wp2
    go_ret
    exact ⟨_, _, rfl, hb1, hown1, Hc.out⟩
end Go.Proofs.YtjjgbgojlhaapaaDoor
