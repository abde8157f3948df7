/- Parts of the proof: Dn. -/
import Derived.Test.YtjjgbgojlhaapaaGreatDoorZReads27
namespace Go.Proofs.YtjjgbgojlhaapaaGreatDoor
open Go.RowKit Go.Lib

theorem rdfail_lit (R : Nat) (s : ByteArray) (x : St) (e' : Int) (w : World) (h : RdAt 74 R s x.p x.e w) :
    Calls Tryz.prog 31 #[.pointer (some ⟨R, 0, none⟩), .int .i64 e'] w fun z w' => z = .returned (.agg #[.int .i64 0, .int .i64 0, .string ⟨#[]⟩, .slice none 0 0, .slice none 0 0]) ∧ RdPost 74 R s (x.fail e').p (x.fail e').e w w' := rdfail_any R s x e' w h
theorem wrapI_add {a b : Nat} (h : a + b ≤ 1000000000000) : IntKind.i64.wrap ((a : Int) + (b : Int)) = (a : Int) + (b : Int) := IntWalk.i64_in _ (by omega)
theorem wrap_add {a b : Nat} (h : a + b ≤ 1000000000000) : wrap64 ((a : Int) + (b : Int)) = (a : Int) + (b : Int) := by unfold wrap64; omega
def vC (v : JV) : List Value := [.int .i64 v.k, .int .i64 v.n, .string v.s, .slice none 0 0, .slice none 0 0]
/-- a value of no parts is handed back -/
def VPostV (R : Nat) (s : ByteArray) (r : JV × St) (w : World) (z : Ending) (w' : World) : Prop := z = .returned (.agg (vC r.1).toArray) ∧ RdPost 74 R s r.2.p r.2.e w w'
set_option maxRecDepth 100000 in
set_option maxHeartbeats 8000000 in
theorem rdword_any (R : Nat) (s l : ByteArray) (k : Int) (x : St) (w : World) (hs : s.size ≤ 1000000) (hl : l.size ≤ 1000) (hx : x.p ≤ s.size) (h : RdAt 74 R s x.p x.e w) :
    Calls Tryz.prog 52 #[.pointer (some ⟨R, 0, none⟩), .string l, .int .i64 k] w (VPostV R s (wordR s l.data.toList k x) w) := by
  obtain ⟨p, e⟩ := x
  have hR := h.cells.2.2.2.2.2.2
  have hA : Below w.heap.size w (w.alloc (.cells #[.int .i64 0, .int .i64 0, .string ⟨#[]⟩, .slice none 0 0, .slice none 0 0] 35)) := bel_alloc (Below.refl _ _) _
  have hb0 := heap_alloc_new w (.cells #[.int .i64 0, .int .i64 0, .string ⟨#[]⟩, .slice none 0 0, .slice none 0 0] 35)
  have hp0 := RdPost.below h.post hA
  have hres : wordR s l.data.toList k ⟨p, e⟩ = if (wordIn s l.data.toList ⟨p, e⟩).1 then (.mk k 0 ⟨#[]⟩ [] [], ⟨p + l.data.toList.length, e⟩) else (zeroV, ⟨p, (wordIn s l.data.toList ⟨p, e⟩).2.e⟩) := rfl
  have hll : l.data.toList.length = l.size := Array.length_toList
  rw [hll] at hres
  unfold VPostV
  generalize wordR s l.data.toList k ⟨p, e⟩ = res at *
  generalize hfin : wordIn s l.data.toList ⟨p, e⟩ = fin at *
  simp only at hx hp0
  have HB0 := Lib.hid hb0; have HP0 := Lib.hid hp0; have HFIN := Lib.hid hfin; have HRES := Lib.hid hres
  clear hA hb0 hp0 h hfin hres hll
  go_enter Tryz.func52, Tryz.ntmps52
  go_wp2_with fail
  generalize hB : w.heap.size = B at *
  have HBQ := Lib.hid hB
  clear hB
  generalize hn : l.size = n at *
  have HN := Lib.hid hn
  clear hn
  go_loopg [7] n (fun gg s7 wr => ∃ j : Nat, j ≤ n ∧ n - j ≤ gg ∧ s7 = .int .i64 j ∧ Aside (wordIn s (l.data.toList.drop j) ⟨p + j, e⟩ = fin) ∧ Aside (wr.heap[B]? = some (.cells #[.int .i64 0, .int .i64 0, .string ⟨#[]⟩, .slice none 0 0, .slice none 0 0] 35 (0, 0))) ∧ Aside (RdPost 74 R s p e w wr))
  case atStart => exact ⟨0, Nat.zero_le _, by omega, rfl, HFIN.out, HB0.out, HP0.out⟩
  case round =>
    obtain ⟨j, hj, hgg, rfl, HF, HBB, HR⟩ := hrel
    obtain ⟨l0, l1, l2, _, f1, _, hRw⟩ := HR.out.1.cells
    have hRB : R < B := hR
    by_cases hlt : j < n
    · have dl : decide ((j : Int) < (n : Int)) = true := decide_eq_true (by omega)
      have hjl : j < l.size := by have := HN.out; omega
      have hdr := drop_byte hjl
      have hgl := get_byte hjl
      have hj0 : (0 : Int) ≤ (j : Int) := by omega
      have hjn2 : (j : Int) < (l.size : Int) := by omega
      have HDR := Lib.hid hdr
      clear hdr
      have hpj : p + j ≤ 1000000000000 := by omega
      have hwa := wrap_add hpj; have hwb := wrapI_add hpj
      clear hpj
      obtain ⟨dd, hdd⟩ : ∃ dd, decide ((s.size : Int) ≤ (p : Int) + (j : Int)) = dd := ⟨_, rfl⟩
      go_wp2_with fail
      refine wp_region_E (by kernel_rfl) ?_
      have RC : ∀ w2, Lat wr.drew w2 → w2.cell? ⟨R, 0, none⟩ = some (.string s) ∧ w2.cell? ⟨R, 1, none⟩ = some (.int .i64 p) ∧ w2.cell? ⟨R, 2, none⟩ = some (.int .i64 e) := fun w2 hE => ⟨cell_later' hE l0, cell_later' hE l1, cell_later' hE l2⟩
      have HRC := Lib.hid RC
      clear RC l0 l1 l2 f1
      have HPD := Lib.hid (show RdPost 74 R s p e w wr.drew from RdPost.drew HR.out)
      have HBD := Lib.hid (show wr.drew.heap[B]? = _ from HBB.out)
      generalize wr.drew = V at *
      refine wpAnyE_tk 0 (v := ?_) rfl (by kernel_rfl) (by kernel_rfl) (by kernel_rfl) (by kernel_rfl) ?_ ?_
      rotate_left
      · intro w2 hE
        obtain ⟨q0, q1, q2⟩ := HRC.out w2 hE
        go_simp
        try (with_reducible rfl)
      try simp only [List.getElem_toArray, List.getElem_cons_zero, Act.put, List.setIfInBounds_toArray, List.set_cons_zero, List.set_cons_succ]
      refine wpAnyE_tk 1 (v := ?_) rfl (by kernel_rfl) (by kernel_rfl) (by kernel_rfl) (by kernel_rfl) ?_ ?_
      rotate_left
      · intro w2 hE
        obtain ⟨q0, q1, q2⟩ := HRC.out w2 hE
        go_simp
        try (with_reducible rfl)
      try simp only [List.getElem_toArray, List.getElem_cons_zero, List.getElem_cons_succ, Act.put, List.setIfInBounds_toArray, List.set_cons_zero, List.set_cons_succ]
      refine wpAnyE_tk 2 (v := ?_) rfl (by kernel_rfl) (by kernel_rfl) (by kernel_rfl) (by kernel_rfl) ?_ ?_
      rotate_left
      · intro w2 hE
        obtain ⟨q0, q1, q2⟩ := HRC.out w2 hE
        go_simp
        try (with_reducible rfl)
      try simp only [List.getElem_toArray, List.getElem_cons_zero, List.getElem_cons_succ, Act.put, List.setIfInBounds_toArray, List.set_cons_zero, List.set_cons_succ]
      refine wpAnyE_tk 3 (v := ?_) rfl (by kernel_rfl) (by kernel_rfl) (by kernel_rfl) (by kernel_rfl) ?_ ?_
      rotate_left
      · intro w2 hE
        obtain ⟨q0, q1, q2⟩ := HRC.out w2 hE
        go_simp
        try (with_reducible rfl)
      try simp only [List.getElem_toArray, List.getElem_cons_zero, List.getElem_cons_succ, Act.put, List.setIfInBounds_toArray, List.set_cons_zero, List.set_cons_succ]
      refine wpAnyE_tk 4 (v := ?_) rfl (by kernel_rfl) (by kernel_rfl) (by kernel_rfl) (by kernel_rfl) ?_ ?_
      rotate_left
      · intro w2 hE
        obtain ⟨q0, q1, q2⟩ := HRC.out w2 hE
        go_simp
        try (with_reducible rfl)
      try simp only [List.getElem_toArray, List.getElem_cons_zero, List.getElem_cons_succ, Act.put, List.setIfInBounds_toArray, List.set_cons_zero, List.set_cons_succ]
      refine wpAnyE_tk 5 (v := ?_) rfl (by kernel_rfl) (by kernel_rfl) (by kernel_rfl) (by kernel_rfl) ?_ ?_
      rotate_left
      · intro w2 hE
        obtain ⟨q0, q1, q2⟩ := HRC.out w2 hE
        go_simp
        try (with_reducible rfl)
      try simp only [List.getElem_toArray, List.getElem_cons_zero, List.getElem_cons_succ, Act.put, List.setIfInBounds_toArray, List.set_cons_zero, List.set_cons_succ]
      refine wpAnyE_tk 6 (v := ?_) rfl (by kernel_rfl) (by kernel_rfl) (by kernel_rfl) (by kernel_rfl) ?_ ?_
      rotate_left
      · intro w2 hE
        obtain ⟨q0, q1, q2⟩ := HRC.out w2 hE
        go_simp
        try (with_reducible rfl)
      try simp only [List.getElem_toArray, List.getElem_cons_zero, List.getElem_cons_succ, Act.put, List.setIfInBounds_toArray, List.set_cons_zero, List.set_cons_succ]
      refine wpAnyE_tk 7 (v := ?_) rfl (by kernel_rfl) (by kernel_rfl) (by kernel_rfl) (by kernel_rfl) ?_ ?_
      rotate_left
      · intro w2 hE
        obtain ⟨q0, q1, q2⟩ := HRC.out w2 hE
        go_simp
        try (with_reducible rfl)
      try simp only [List.getElem_toArray, List.getElem_cons_zero, List.getElem_cons_succ, Act.put, List.setIfInBounds_toArray, List.set_cons_zero, List.set_cons_succ]
      refine wpAnyE_tk 8 (v := ?_) rfl (by kernel_rfl) (by kernel_rfl) (by kernel_rfl) (by kernel_rfl) ?_ ?_
      rotate_left
      · intro w2 hE
        obtain ⟨q0, q1, q2⟩ := HRC.out w2 hE
        go_simp
        try (with_reducible rfl)
      try simp only [List.getElem_toArray, List.getElem_cons_zero, List.getElem_cons_succ, Act.put, List.setIfInBounds_toArray, List.set_cons_zero, List.set_cons_succ]
      refine wpAnyE_tk 9 (v := ?_) rfl (by kernel_rfl) (by kernel_rfl) (by kernel_rfl) (by kernel_rfl) ?_ ?_
      rotate_left
      · intro w2 hE
        obtain ⟨q0, q1, q2⟩ := HRC.out w2 hE
        go_simp
        try (with_reducible rfl)
      try simp only [List.getElem_toArray, List.getElem_cons_zero, List.getElem_cons_succ, Act.put, List.setIfInBounds_toArray, List.set_cons_zero, List.set_cons_succ]
      refine wpAnyE_tk 10 (v := ?_) rfl (by kernel_rfl) (by kernel_rfl) (by kernel_rfl) (by kernel_rfl) ?_ ?_
      rotate_left
      · intro w2 hE
        obtain ⟨q0, q1, q2⟩ := HRC.out w2 hE
        go_simp
        try (with_reducible rfl)
      try simp only [List.getElem_toArray, List.getElem_cons_zero, List.getElem_cons_succ, Act.put, List.setIfInBounds_toArray, List.set_cons_zero, List.set_cons_succ]
      refine wpAnyE_tk 11 (v := ?_) rfl (by kernel_rfl) (by kernel_rfl) (by kernel_rfl) (by kernel_rfl) ?_ ?_
      rotate_left
      · intro w2 hE
        obtain ⟨q0, q1, q2⟩ := HRC.out w2 hE
        go_simp
        try (with_reducible rfl)
      try simp only [List.getElem_toArray, List.getElem_cons_zero, List.getElem_cons_succ, Act.put, List.setIfInBounds_toArray, List.set_cons_zero, List.set_cons_succ]
      refine wpAnyE_done (by kernel_rfl) (fun w6 hE6 => ?_) _
      have HR6 := Lib.hid (RdPost.below HPD.out hE6)
      have HB6 := Lib.hid ((hE6.block B (Array.getElem?_eq_some_iff.1 HBD.out).1).trans HBD.out)
      clear hE6 HRC HPD HBD
      obtain ⟨l0, l1, l2, _, f1, _, hRw⟩ := HR6.out.1.cells
      clear hwa hwb
      by_cases hp : p + j < s.size
      · obtain rfl : dd = false := hdd.symm.trans (decide_eq_false (by omega))
        clear hdd
        have hq0 : (0 : Int) ≤ (p : Int) + (j : Int) := by omega
        have hqs : (p : Int) + (j : Int) < (s.size : Int) := by omega
        have hgb := get_byte hp
        obtain ⟨c1, hc1⟩ : ∃ c1, c1 = byteAt s (p + j) := ⟨_, rfl⟩
        obtain ⟨c2, hc2⟩ : ∃ c2, c2 = byteAt l j := ⟨_, rfl⟩
        rw [← hc1] at hgb
        rw [← hc2] at hgl
        have hgb2 : ∀ h : ((p : Int) + (j : Int)).toNat < s.size, s[((p : Int) + (j : Int)).toNat]'h = c1 := fun h => by
          have e0 : ((p : Int) + (j : Int)).toNat = p + j := by omega
          simp only [e0]
          exact hgb
        have HC1 := Lib.hid hc1; have HC2 := Lib.hid hc2
        clear hc1 hc2
        obtain ⟨bb, hbb⟩ : ∃ bb, ((c1.toNat : Int) != (c2.toNat : Int)) = bb := ⟨_, rfl⟩
        have hpj : p + j ≤ 1000000000000 := by omega
        have hwa := wrap_add hpj; have hwb := wrapI_add hpj
        clear hpj
        have HOLD := Lib.hid HR6.out; have HOLB := Lib.hid HB6.out
        clear HR6 HB6
        go_wp2_with fail
        refine wp_region_E (by kernel_rfl) ?_
        have RC : ∀ w2, Lat w6.drew w2 → w2.cell? ⟨R, 0, none⟩ = some (.string s) ∧ w2.cell? ⟨R, 1, none⟩ = some (.int .i64 p) ∧ w2.cell? ⟨R, 2, none⟩ = some (.int .i64 e) := fun w2 hE => ⟨cell_later' hE l0, cell_later' hE l1, cell_later' hE l2⟩
        have HRC := Lib.hid RC
        clear RC l0 l1 l2 f1
        have HPD := Lib.hid (show RdPost 74 R s p e w w6.drew from RdPost.drew HOLD.out)
        have HBD := Lib.hid (show w6.drew.heap[B]? = _ from HOLB.out)
        generalize w6.drew = V at *
        refine wpAnyE_tk 0 (v := ?_) rfl (by kernel_rfl) (by kernel_rfl) (by kernel_rfl) (by kernel_rfl) ?_ ?_
        rotate_left
        · intro w2 hE
          obtain ⟨q0, q1, q2⟩ := HRC.out w2 hE
          go_simp
          try (with_reducible rfl)
        try simp only [List.getElem_toArray, List.getElem_cons_zero, Act.put, List.setIfInBounds_toArray, List.set_cons_zero, List.set_cons_succ]
        refine wpAnyE_tk 1 (v := ?_) rfl (by kernel_rfl) (by kernel_rfl) (by kernel_rfl) (by kernel_rfl) ?_ ?_
        rotate_left
        · intro w2 hE
          obtain ⟨q0, q1, q2⟩ := HRC.out w2 hE
          go_simp
          try (with_reducible rfl)
        try simp only [List.getElem_toArray, List.getElem_cons_zero, List.getElem_cons_succ, Act.put, List.setIfInBounds_toArray, List.set_cons_zero, List.set_cons_succ]
        refine wpAnyE_tk 2 (v := ?_) rfl (by kernel_rfl) (by kernel_rfl) (by kernel_rfl) (by kernel_rfl) ?_ ?_
        rotate_left
        · intro w2 hE
          obtain ⟨q0, q1, q2⟩ := HRC.out w2 hE
          go_simp
          try (with_reducible rfl)
        try simp only [List.getElem_toArray, List.getElem_cons_zero, List.getElem_cons_succ, Act.put, List.setIfInBounds_toArray, List.set_cons_zero, List.set_cons_succ]
        refine wpAnyE_tk 3 (v := ?_) rfl (by kernel_rfl) (by kernel_rfl) (by kernel_rfl) (by kernel_rfl) ?_ ?_
        rotate_left
        · intro w2 hE
          obtain ⟨q0, q1, q2⟩ := HRC.out w2 hE
          go_simp
          try (with_reducible rfl)
        try simp only [List.getElem_toArray, List.getElem_cons_zero, List.getElem_cons_succ, Act.put, List.setIfInBounds_toArray, List.set_cons_zero, List.set_cons_succ]
        refine wpAnyE_tk 4 (v := ?_) rfl (by kernel_rfl) (by kernel_rfl) (by kernel_rfl) (by kernel_rfl) ?_ ?_
        rotate_left
        · intro w2 hE
          obtain ⟨q0, q1, q2⟩ := HRC.out w2 hE
          go_simp
          try (with_reducible rfl)
        try simp only [List.getElem_toArray, List.getElem_cons_zero, List.getElem_cons_succ, Act.put, List.setIfInBounds_toArray, List.set_cons_zero, List.set_cons_succ]
        refine wpAnyE_tk 5 (v := ?_) rfl (by kernel_rfl) (by kernel_rfl) (by kernel_rfl) (by kernel_rfl) ?_ ?_
        rotate_left
        · intro w2 hE
          obtain ⟨q0, q1, q2⟩ := HRC.out w2 hE
          go_simp
          try (with_reducible rfl)
        try simp only [List.getElem_toArray, List.getElem_cons_zero, List.getElem_cons_succ, Act.put, List.setIfInBounds_toArray, List.set_cons_zero, List.set_cons_succ]
        refine wpAnyE_tk 6 (v := ?_) rfl (by kernel_rfl) (by kernel_rfl) (by kernel_rfl) (by kernel_rfl) ?_ ?_
        rotate_left
        · intro w2 hE
          obtain ⟨q0, q1, q2⟩ := HRC.out w2 hE
          go_simp
          try (with_reducible rfl)
        try simp only [List.getElem_toArray, List.getElem_cons_zero, List.getElem_cons_succ, Act.put, List.setIfInBounds_toArray, List.set_cons_zero, List.set_cons_succ]
        refine wpAnyE_tk 7 (v := ?_) rfl (by kernel_rfl) (by kernel_rfl) (by kernel_rfl) (by kernel_rfl) ?_ ?_
        rotate_left
        · intro w2 hE
          obtain ⟨q0, q1, q2⟩ := HRC.out w2 hE
          go_simp
          try (with_reducible rfl)
        try simp only [List.getElem_toArray, List.getElem_cons_zero, List.getElem_cons_succ, Act.put, List.setIfInBounds_toArray, List.set_cons_zero, List.set_cons_succ]
        refine wpAnyE_tk 8 (v := ?_) rfl (by kernel_rfl) (by kernel_rfl) (by kernel_rfl) (by kernel_rfl) ?_ ?_
        rotate_left
        · intro w2 hE
          obtain ⟨q0, q1, q2⟩ := HRC.out w2 hE
          go_simp
          try (with_reducible rfl)
        try simp only [List.getElem_toArray, List.getElem_cons_zero, List.getElem_cons_succ, Act.put, List.setIfInBounds_toArray, List.set_cons_zero, List.set_cons_succ]
        refine wpAnyE_tk 9 (v := ?_) rfl (by kernel_rfl) (by kernel_rfl) (by kernel_rfl) (by kernel_rfl) ?_ ?_
        rotate_left
        · intro w2 hE
          obtain ⟨q0, q1, q2⟩ := HRC.out w2 hE
          go_simp
          try (with_reducible rfl)
        try simp only [List.getElem_toArray, List.getElem_cons_zero, List.getElem_cons_succ, Act.put, List.setIfInBounds_toArray, List.set_cons_zero, List.set_cons_succ]
        refine wpAnyE_tk 10 (v := ?_) rfl (by kernel_rfl) (by kernel_rfl) (by kernel_rfl) (by kernel_rfl) ?_ ?_
        rotate_left
        · intro w2 hE
          obtain ⟨q0, q1, q2⟩ := HRC.out w2 hE
          go_simp
          try (with_reducible rfl)
        try simp only [List.getElem_toArray, List.getElem_cons_zero, List.getElem_cons_succ, Act.put, List.setIfInBounds_toArray, List.set_cons_zero, List.set_cons_succ]
        refine wpAnyE_tk 11 (v := ?_) rfl (by kernel_rfl) (by kernel_rfl) (by kernel_rfl) (by kernel_rfl) ?_ ?_
        rotate_left
        · intro w2 hE
          obtain ⟨q0, q1, q2⟩ := HRC.out w2 hE
          go_simp
          try (with_reducible rfl)
        try simp only [List.getElem_toArray, List.getElem_cons_zero, List.getElem_cons_succ, Act.put, List.setIfInBounds_toArray, List.set_cons_zero, List.set_cons_succ]
        refine wpAnyE_tk 12 (v := ?_) rfl (by kernel_rfl) (by kernel_rfl) (by kernel_rfl) (by kernel_rfl) ?_ ?_
        rotate_left
        · intro w2 hE
          obtain ⟨q0, q1, q2⟩ := HRC.out w2 hE
          go_simp
          try (with_reducible rfl)
        try simp only [List.getElem_toArray, List.getElem_cons_zero, List.getElem_cons_succ, Act.put, List.setIfInBounds_toArray, List.set_cons_zero, List.set_cons_succ]
        refine wpAnyE_tk 13 (v := ?_) rfl (by kernel_rfl) (by kernel_rfl) (by kernel_rfl) (by kernel_rfl) ?_ ?_
        rotate_left
        · intro w2 hE
          obtain ⟨q0, q1, q2⟩ := HRC.out w2 hE
          go_simp
          try (with_reducible rfl)
        try simp only [List.getElem_toArray, List.getElem_cons_zero, List.getElem_cons_succ, Act.put, List.setIfInBounds_toArray, List.set_cons_zero, List.set_cons_succ]
        refine wpAnyE_tk 14 (v := ?_) rfl (by kernel_rfl) (by kernel_rfl) (by kernel_rfl) (by kernel_rfl) ?_ ?_
        rotate_left
        · intro w2 hE
          obtain ⟨q0, q1, q2⟩ := HRC.out w2 hE
          go_simp
          try (with_reducible rfl)
        try simp only [List.getElem_toArray, List.getElem_cons_zero, List.getElem_cons_succ, Act.put, List.setIfInBounds_toArray, List.set_cons_zero, List.set_cons_succ]
        refine wpAnyE_done (by kernel_rfl) (fun w7 hE6 => ?_) _
        have HR6 := Lib.hid (RdPost.below HPD.out hE6)
        have HB6 := Lib.hid ((hE6.block B (Array.getElem?_eq_some_iff.1 HBD.out).1).trans HBD.out)
        clear hE6 HRC HPD HBD
        obtain ⟨l0, l1, l2, _, f1, _, hRw⟩ := HR6.out.1.cells
        clear hwa hwb HOLD HOLB
        by_cases hc : byteAt s (p + j) = byteAt l j
        · have hstep := wordIn_step (s := s) (r := l.data.toList.drop (j + 1)) (y := ⟨p + j, e⟩) (by simp only; omega) hc
          rw [← HDR.out] at hstep
          obtain rfl : bb = false := hbb.symm.trans (by rw [HC1.out, HC2.out, hc]; simp)
          clear hbb
          have HS := Lib.hid hstep
          clear hstep hc
          go_wp2_with fail
          go_roundg (n - (j + 1))
          case measure => omega
          case rel => exact ⟨j + 1, by omega, by omega, by go_num, HS.out.symm.trans HF.out, HB6.out, HR6.out⟩
        · have hbad := wordIn_bad (s := s) (r := l.data.toList.drop (j + 1)) (y := ⟨p + j, e⟩) (by simp only; omega) hc
          rw [← HDR.out] at hbad
          have hff : fin = (false, St.fail ⟨p + j, e⟩ 4) := by rw [← HF.out]; exact hbad
          have hrr : res = (zeroV, St.fail ⟨p, e⟩ 4) := by
            rw [HRES.out, hff]
            unfold St.fail
            by_cases h0 : e = 0
            · simp [h0]
            · simp [h0]
          subst hff
          subst hrr
          obtain rfl : bb = true := hbb.symm.trans (by
            have : c1.toNat ≠ c2.toNat := fun h => hc (by rw [← HC1.out, ← HC2.out]; exact UInt8.toNat_inj.1 h)
            simp; omega)
          clear hbb
          have HFL := Lib.hid (rdfail_lit R s ⟨p, e⟩ 4 w7 HR6.out.1)
          clear hc hbad
          go_wp2_with fail
          refine Calls.mono (HFL.out) ?_
          rintro e w2 ⟨rfl, hp2⟩
          have hbb := hp2.keep (B := B) HB6.out (by omega)
          have hr2 := RdPost.trans HR6.out hp2
          clear hp2
          obtain ⟨⟨b0, b1, b2, b3, b4⟩, ⟨g0, g1, g2, g3, g4⟩, hBw2⟩ := cells5 hbb
          have hf := set5 (.int .i64 0) (.int .i64 0) (.string ⟨#[]⟩) (.slice none 0 0) (.slice none 0 0) hbb
          have hr5 := RdPost.set5 hr2 (B := B) (by rw [HBQ.out]; exact Nat.le_refl _) (by rw [HBQ.out]; exact hRB) (.int .i64 0) (.int .i64 0) (.string ⟨#[]⟩) (.slice none 0 0) (.slice none 0 0)
          have HF5 := Lib.hid hf; have HR5 := Lib.hid hr5
          clear hf hr5
          clear hbb hr2
          go_wp2_with fail
          exact bodyPost_ret (results_cell_row rfl _ _ B 35 #[.int .i64 0, .int .i64 0, .string ⟨#[]⟩, .slice none 0 0, .slice none 0 0] (0, 0) _ rfl HF5.out Tryz.underlying35 rfl (by kernel_rfl)) rfl ⟨rfl, HR5.out⟩
      · obtain rfl : dd = true := hdd.symm.trans (decide_eq_true (by omega))
        clear hdd
        have hbad := wordIn_fail (c := byteAt l j) (r := l.data.toList.drop (j + 1)) (s := s) (y := ⟨p + j, e⟩) (by simp only; omega)
        rw [← HDR.out] at hbad
        have hff : fin = (false, St.fail ⟨p + j, e⟩ 2) := by rw [← HF.out]; exact hbad
        have hrr : res = (zeroV, St.fail ⟨p, e⟩ 2) := by
          rw [HRES.out, hff]
          unfold St.fail
          by_cases h0 : e = 0
          · simp [h0]
          · simp [h0]
        subst hff
        subst hrr
        have HFL := Lib.hid (rdfail_lit R s ⟨p, e⟩ 2 w6 HR6.out.1)
        clear hbad
        go_wp2_with fail
        refine Calls.mono (HFL.out) ?_
        rintro e w2 ⟨rfl, hp2⟩
        have hbb := hp2.keep (B := B) HB6.out (by omega)
        have hr2 := RdPost.trans HR6.out hp2
        clear hp2
        obtain ⟨⟨b0, b1, b2, b3, b4⟩, ⟨g0, g1, g2, g3, g4⟩, hBw2⟩ := cells5 hbb
        have hf := set5 (.int .i64 0) (.int .i64 0) (.string ⟨#[]⟩) (.slice none 0 0) (.slice none 0 0) hbb
        have hr5 := RdPost.set5 hr2 (B := B) (by rw [HBQ.out]; exact Nat.le_refl _) (by rw [HBQ.out]; exact hRB) (.int .i64 0) (.int .i64 0) (.string ⟨#[]⟩) (.slice none 0 0) (.slice none 0 0)
        have HF5 := Lib.hid hf; have HR5 := Lib.hid hr5
        clear hf hr5
        clear hbb hr2
        go_wp2_with fail
        exact bodyPost_ret (results_cell_row rfl _ _ B 35 #[.int .i64 0, .int .i64 0, .string ⟨#[]⟩, .slice none 0 0, .slice none 0 0] (0, 0) _ rfl HF5.out Tryz.underlying35 rfl (by kernel_rfl)) rfl ⟨rfl, HR5.out⟩
    · have dl : decide ((j : Int) < (l.size : Int)) = false := decide_eq_false (by have := HN.out; omega)
      have dl3 : decide (j < l.size) = false := decide_eq_false (by have := HN.out; omega)
      have hjl : ¬ j < l.size := by have := HN.out; omega
      have hjn : j = n := by omega
      have hff : fin = (true, ⟨p + l.size, e⟩) := by
        rw [← HF.out, List.drop_of_length_le (by rw [Array.length_toList]; show l.size ≤ j; have := HN.out; omega), hjn, ← HN.out]
        rfl
      have hrr : res = (.mk k 0 ⟨#[]⟩ [] [], ⟨p + l.size, e⟩) := by rw [HRES.out, hff, HN.out]; rfl
      subst hff
      subst hrr
      clear hjn
      have hr1 := RdPost.set1 HR.out (p + l.size)
      have e1 : ((p + l.size : Nat) : Int) = (p : Int) + (l.size : Int) := by simp
      rw [e1] at hr1
      have hbb : (wr.setCell ⟨R, 1, none⟩ (.int .i64 ((p : Int) + (l.size : Int)))).heap[B]? = _ := (Below.heap_setCell _ _ _ _ (by show B ≠ R; omega)).trans HBB.out
      generalize hX : wr.setCell ⟨R, 1, none⟩ (.int .i64 ((p : Int) + (l.size : Int))) = X at *
      have HX := Lib.hid hX
      clear hX e1
      obtain ⟨⟨b0, b1, b2, b3, b4⟩, ⟨g0, g1, g2, g3, g4⟩, hBw2⟩ := cells5 hbb
      have hf := set5 (.int .i64 k) (.int .i64 0) (.string ⟨#[]⟩) (.slice none 0 0) (.slice none 0 0) hbb
      have hr5 := RdPost.set5 hr1 (B := B) (by rw [HBQ.out]; exact Nat.le_refl _) (by rw [HBQ.out]; exact hRB) (.int .i64 k) (.int .i64 0) (.string ⟨#[]⟩) (.slice none 0 0) (.slice none 0 0)
      have HF5 := Lib.hid hf; have HR5 := Lib.hid hr5
      clear hf hr5
      clear hbb hr1
      go_upto_region 9 with (fail)
      rw [HX.out]
      go_wp2_with fail
      exact bodyPost_ret (results_cell_row rfl _ _ B 35 #[.int .i64 k, .int .i64 0, .string ⟨#[]⟩, .slice none 0 0, .slice none 0 0] (0, 0) _ rfl HF5.out Tryz.underlying35 rfl (by kernel_rfl)) rfl ⟨rfl, HR5.out⟩
set_option maxRecDepth 100000 in
set_option maxHeartbeats 32000000 in
theorem rdnumAt_end (P : Prop) (h : P) : P := h
end Go.Proofs.YtjjgbgojlhaapaaGreatDoor
