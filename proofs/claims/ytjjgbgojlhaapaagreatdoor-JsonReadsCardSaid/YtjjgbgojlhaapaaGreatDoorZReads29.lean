/- Parts of the proof: Dm. -/
import Derived.Test.YtjjgbgojlhaapaaGreatDoorZReads28
namespace Go.Proofs.YtjjgbgojlhaapaaGreatDoor
open Go.RowKit Go.Lib

theorem dot_ways : ∀ n : Fin 256, ((n.val : Int) == 46) = true ∧ [46, 101, 69].contains (UInt8.ofNat n.val) = true ∨ ((n.val : Int) == 46) = false ∧ ((n.val : Int) == 101) = true ∧ [46, 101, 69].contains (UInt8.ofNat n.val) = true ∨
    ((n.val : Int) == 46) = false ∧ ((n.val : Int) == 101) = false ∧ ((n.val : Int) == 69) = true ∧ [46, 101, 69].contains (UInt8.ofNat n.val) = true ∨
    ((n.val : Int) == 46) = false ∧ ((n.val : Int) == 101) = false ∧ ((n.val : Int) == 69) = false ∧ [46, 101, 69].contains (UInt8.ofNat n.val) = false := by decide +kernel
theorem dot_way (c : UInt8) : ((c.toNat : Int) == 46) = true ∧ [46, 101, 69].contains c = true ∨ ((c.toNat : Int) == 46) = false ∧ ((c.toNat : Int) == 101) = true ∧ [46, 101, 69].contains c = true ∨
    ((c.toNat : Int) == 46) = false ∧ ((c.toNat : Int) == 101) = false ∧ ((c.toNat : Int) == 69) = true ∧ [46, 101, 69].contains c = true ∨
    ((c.toNat : Int) == 46) = false ∧ ((c.toNat : Int) == 101) = false ∧ ((c.toNat : Int) == 69) = false ∧ [46, 101, 69].contains c = false := by
  have h := dot_ways ⟨c.toNat, c.toNat_lt⟩
  simpa only [UInt8.ofNat_toNat] using h
theorem any_at {s : ByteArray} {l : List UInt8} {p : Nat} (h : p < s.size) : anyB s l p = l.contains (byteAt s p) := by
  unfold anyB
  rw [decide_eq_true h, Bool.true_and]
theorem any_out {s : ByteArray} {l : List UInt8} {p : Nat} (h : ¬ p < s.size) : anyB s l p = false := by
  unfold anyB
  rw [decide_eq_false h, Bool.false_and]
theorem digit_bd {s : ByteArray} {p : Nat} (h : digitB s p = true) : p < s.size ∧ 48 ≤ (byteAt s p).toNat ∧ (byteAt s p).toNat ≤ 57 := by
  unfold digitB isDigit at h
  simp at h
  omega
set_option maxRecDepth 100000 in
set_option maxHeartbeats 32000000 in
theorem rdnum_neg (R : Nat) (s : ByteArray) (p : Nat) (e : Int) (w : World) (hs : s.size ≤ 1000000) (hx : p < s.size) (h : RdAt 74 R s p e w) (hm : byteAt s p = 45) :
    Calls Tryz.prog 56 #[.pointer (some ⟨R, 0, none⟩)] w (VPostV R s (numAtR s true ⟨(p + 1), e⟩) w) := by
  have hR := h.cells.2.2.2.2.2.2
  have hA : Below w.heap.size w (w.alloc (.cells #[.int .i64 0, .int .i64 0, .string ⟨#[]⟩, .slice none 0 0, .slice none 0 0] 35)) := bel_alloc (Below.refl _ _) _
  have hb0 := heap_alloc_new w (.cells #[.int .i64 0, .int .i64 0, .string ⟨#[]⟩, .slice none 0 0, .slice none 0 0] 35)
  have hp0 := RdPost.below h.post hA
  have hgb := get_byte hx
  have hq0 : (0 : Int) ≤ (p : Int) := by omega
  have hqs : (p : Int) < (s.size : Int) := by omega
  have d45 : (((byteAt s p).toNat : Int) == 45) = true := by rw [hm]; rfl
  have hst := i64_step (p := p) (by omega)
  unfold VPostV
  generalize hres : numAtR s true ⟨(p + 1), e⟩ = res at *
  have HRES := Lib.hid hres
  generalize hW : w.alloc (.cells #[.int .i64 0, .int .i64 0, .string ⟨#[]⟩, .slice none 0 0, .slice none 0 0] 35) = W at *
  obtain ⟨l0, l1, l2, f0, f1, f2, _⟩ := hp0.1.cells
  have HB0 := Lib.hid hb0; have HP0 := Lib.hid hp0; have HW := Lib.hid hW
  clear hA hb0 hp0 h hm hres hW
  generalize byteAt s p = b0 at *
  go_enter Tryz.func56, Tryz.ntmps56
  go_upto_region 1 with (fail)
  rw [HW.out]
  clear HW
  generalize hB : w.heap.size = B at *
  have HBQ := Lib.hid hB
  clear hB
  have hRB : R < B := hR
  go_wp2_with fail
  go_quiet (fail)
  have hr1 := fun n => RdPost.set1 (RdPost.drewN HP0.out n) (p + 1)
  have ee1 : ((p + 1 : Nat) : Int) = (p : Int) + 1 := by simp
  simp only [ee1] at hr1
  have hb1 : ∀ n, ((W.drewN n).setCell ⟨R, 1, none⟩ (.int .i64 ((p : Int) + 1))).heap[B]? = _ := fun n => (Below.heap_setCell _ _ _ _ (by show B ≠ R; omega)).trans HB0.out
  have HR1 := Lib.hid hr1; have HB1 := Lib.hid hb1
  clear hr1 hb1
  have HD := Lib.hid (show numAtR s true ⟨(p + 1), e⟩ = (if s.size ≤ (p + 1) then (zeroV, St.fail ⟨(p + 1), e⟩ 2) else if digitB s (p + 1) = false then (zeroV, St.fail ⟨(p + 1), e⟩ 4) else numEndR s true e (numLoopR s (byteAt s (p + 1) == 48) (s.size - (p + 1)) 0 0 (p + 1))) from rfl)
  by_cases h1 : s.size ≤ (p + 1)
  · have d1 : (((p : Int) + 1) == (s.size : Int)) = true := by simp; omega
    have hrr : res = (zeroV, St.fail ⟨(p + 1), e⟩ 2) := by rw [← HRES.out, HD.out, if_pos h1]
    subst hrr
    clear HD h1
    have HFL := Lib.hid (fun n m => rdfail_lit R s ⟨(p + 1), e⟩ 2 _ ((HR1.out n).1.drewN m))
    go_wp2_with fail
    go_quiet (fail)
    go_wp2_with fail
    refine Calls.mono (HFL.out _ _) ?_
    rintro z w2 ⟨rfl, hp2⟩
    have hbb := hp2.keep (B := B) (HB1.out _) (by omega)
    have hr2 := RdPost.trans (RdPost.drewN (HR1.out _) _) hp2
    clear hp2
    obtain ⟨⟨b0, b1, b2, b3, b4⟩, ⟨g0, g1, g2, g3, g4⟩, hBw2⟩ := cells5 hbb
    have hf := set5 (.int .i64 0) (.int .i64 0) (.string ⟨#[]⟩) (.slice none 0 0) (.slice none 0 0) hbb
    have hr5 := RdPost.set5 hr2 (B := B) (by rw [HBQ.out]; exact Nat.le_refl _) (by rw [HBQ.out]; exact hRB) (.int .i64 0) (.int .i64 0) (.string ⟨#[]⟩) (.slice none 0 0) (.slice none 0 0)
    have HF5 := Lib.hid hf; have HR5 := Lib.hid hr5
    clear hf hr5
    clear hbb hr2
    go_wp2_with fail
    exact bodyPost_ret (results_cell_row rfl _ _ B 35 #[.int .i64 0, .int .i64 0, .string ⟨#[]⟩, .slice none 0 0, .slice none 0 0] (0, 0) _ rfl HF5.out Tryz.underlying35 rfl (by kernel_rfl)) rfl ⟨rfl, HR5.out⟩
  · have d1 : (((p : Int) + 1) == (s.size : Int)) = false := by simp; omega
    have HDG := Lib.hid (fun n m => rddigit_any R s (p + 1) e _ ((HR1.out n).1.drewN m))
    go_wp2_with fail
    go_quiet (fail)
    go_wp2_with fail
    refine Calls.mono (HDG.out _ _) ?_
    rintro z w2 ⟨rfl, hp2⟩
    have HB2 := Lib.hid (hp2.keep (B := B) (HB1.out _) (by omega))
    have HR2 := Lib.hid (RdPost.trans (RdPost.drewN (HR1.out _) _) hp2)
    clear hp2 HB1 HR1 HP0 HB0 l0 l1 l2 f0 f1 f2
    obtain ⟨l0, l1, l2, f0, f1, f2, hRw⟩ := HR2.out.1.cells
    have HDD := Lib.hid (rfl : digitB s (p + 1) = digitB s (p + 1))
    cases hd : digitB s (p + 1) with
    | false =>
      have hrr : res = (zeroV, St.fail ⟨(p + 1), e⟩ 4) := by rw [← HRES.out, HD.out, if_neg h1, if_pos hd]
      subst hrr
      clear HD h1
      have HFL := Lib.hid (rdfail_lit R s ⟨(p + 1), e⟩ 4 _ HR2.out.1)
      go_wp2_with fail
      refine Calls.mono HFL.out ?_
      rintro e w2 ⟨rfl, hp2⟩
      have hbb := hp2.keep (B := B) HB2.out (by omega)
      have hr2 := RdPost.trans HR2.out hp2
      clear hp2
      obtain ⟨⟨b0, b1, b2, b3, b4⟩, ⟨g0, g1, g2, g3, g4⟩, hBw2⟩ := cells5 hbb
      have hf := set5 (.int .i64 0) (.int .i64 0) (.string ⟨#[]⟩) (.slice none 0 0) (.slice none 0 0) hbb
      have hr5 := RdPost.set5 hr2 (B := B) (by rw [HBQ.out]; exact Nat.le_refl _) (by rw [HBQ.out]; exact hRB) (.int .i64 0) (.int .i64 0) (.string ⟨#[]⟩) (.slice none 0 0) (.slice none 0 0)
      have HF5 := Lib.hid hf; have HR5 := Lib.hid hr5
      clear hf hr5
      clear hbb hr2
      go_wp2_with fail
      exact bodyPost_ret (results_cell_row rfl _ _ B 35 #[.int .i64 0, .int .i64 0, .string ⟨#[]⟩, .slice none 0 0, .slice none 0 0] (0, 0) _ rfl HF5.out Tryz.underlying35 rfl (by kernel_rfl)) rfl ⟨rfl, HR5.out⟩
    | true =>
      obtain ⟨hdb, _, _⟩ := digit_bd hd
      have hfe : res = numEndR s true e (numLoopR s (byteAt s (p + 1) == 48) (s.size - (p + 1)) 0 0 (p + 1)) := by rw [← HRES.out, HD.out, if_neg h1, if_neg (by rw [hd]; decide)]
      clear HD h1 hd HDD d1
      clear hgb
      have hgb8 := get_byte hdb
      have hq8 : (0 : Int) ≤ ((p : Int) + 1) := by omega
      have hqs8 : ((p : Int) + 1) < (s.size : Int) := by omega
      obtain ⟨z0, hz0⟩ : ∃ z0, (((byteAt s (p + 1)).toNat : Int) == 48) = z0 := ⟨_, rfl⟩
      have hz1 : (byteAt s (p + 1) == 48) = z0 := by
        rw [← hz0, Bool.eq_iff_iff]
        simp only [beq_iff_eq]
        exact ⟨fun h => by rw [h]; rfl, fun h => UInt8.toNat.inj (by show (byteAt s (p + 1)).toNat = 48; omega)⟩
      rw [hz1] at hfe
      generalize hfin : numLoopR s z0 (s.size - (p + 1)) 0 0 (p + 1) = fin at *
      have HFE := Lib.hid hfe; have HFIN := Lib.hid hfin
      clear hfe hfin hz1
      generalize byteAt s (p + 1) = b8 at *
      have hp1s : (p + 1) ≤ s.size := by omega
      go_wp2_with fail
      go_quiet (fail)
      go_wp2_with fail
      clear l0 l1 l2 f0 f1 f2 hRw hgb8 hq8 hqs8 hz0 hq0 hqs
      go_loopg [5, 6] (s.size - (p + 1)) (fun gg s5 s6 wr => ∃ (f k q : Nat) (n : Int), f ≤ gg ∧ s5 = .int .i64 n ∧ s6 = .int .i64 k ∧ q ≤ s.size ∧ s.size - q ≤ f ∧ k ≤ q ∧ 0 ≤ n ∧ n ≤ 288230376151711744 ∧ Aside (numLoopR s z0 f k n q = fin) ∧ Aside (wr.heap[B]? = some (.cells #[.int .i64 0, .int .i64 0, .string ⟨#[]⟩, .slice none 0 0, .slice none 0 0] 35 (0, 0))) ∧ Aside (RdPost 74 R s q e w wr))
      case atStart => exact ⟨s.size - (p + 1), 0, (p + 1), 0, Nat.le_refl _, rfl, rfl, hp1s, Nat.le_refl _, Nat.zero_le _, by decide, by decide, HFIN.out, HB2.out, RdPost.drewN HR2.out _⟩
      case round =>
        obtain ⟨f, k, q, n, hfg, rfl, rfl, hqs, hqf, hkq, hn0, hn1, HF, HBB, HR⟩ := hrel
        clear HB2 HR2 hp1s
        have HDG := Lib.hid (rddigit_any R s q e wr HR.out.1)
        go_wp2_with fail
        refine Calls.mono HDG.out ?_
        rintro z w3 ⟨rfl, hp3⟩
        have HB3 := Lib.hid (hp3.keep (B := B) HBB.out (by omega))
        have HR3 := Lib.hid (RdPost.trans HR.out hp3)
        clear hp3 HDG
        obtain ⟨l0, l1, l2, f0, f1, f2, hRw⟩ := HR3.out.1.cells
        cases hd : digitB s q with
        | false =>
          have hff : fin = (true, n, q) := by
            rw [← HF.out]
            cases f with
            | zero => rfl
            | succ f => simp only [numLoopR]; rw [hd, if_neg Bool.false_ne_true]
          have hrr : res = (if anyB s [46, 101, 69] q = true then (zeroV, St.fail ⟨q, e⟩ 4) else if 9007199254740991 < n then (zeroV, St.fail ⟨q, e⟩ 1) else (numV (if true = true then -n else n), ⟨q, e⟩)) := by rw [HFE.out, hff, numEndR_ok]
          have HRR := Lib.hid hrr
          clear hrr hff hd HF HFIN HFE
          have hways : (¬ q < s.size ∧ decide ((q : Int) < (s.size : Int)) = false ∧ anyB s [46, 101, 69] q = false) ∨ (q < s.size ∧ decide ((q : Int) < (s.size : Int)) = true ∧ (((((byteAt s q).toNat : Int) == 46) = true ∧ anyB s [46, 101, 69] q = true) ∨ ((((byteAt s q).toNat : Int) == 46) = false ∧ (((byteAt s q).toNat : Int) == 101) = true ∧ anyB s [46, 101, 69] q = true) ∨
              ((((byteAt s q).toNat : Int) == 46) = false ∧ (((byteAt s q).toNat : Int) == 101) = false ∧ (((byteAt s q).toNat : Int) == 69) = true ∧ anyB s [46, 101, 69] q = true) ∨
              ((((byteAt s q).toNat : Int) == 46) = false ∧ (((byteAt s q).toNat : Int) == 101) = false ∧ (((byteAt s q).toNat : Int) == 69) = false ∧ anyB s [46, 101, 69] q = false))) := by
            by_cases hlt : q < s.size
            · rw [any_at hlt]
              exact .inr ⟨hlt, decide_eq_true (by omega), dot_way _⟩
            · exact .inl ⟨hlt, decide_eq_false (by omega), any_out hlt⟩
          obtain ⟨b9, hb9⟩ : ∃ b9, b9 = byteAt s q := ⟨_, rfl⟩
          have hgb9 : ∀ h : q < s.size, s[q]'h = b9 := fun h => by rw [hb9]; exact get_byte h
          rw [← hb9] at hways
          have hq9 : (0 : Int) ≤ (q : Int) := by omega
          clear hb9
          have HFL := Lib.hid (fun n e' => rdfail_lit R s ⟨q, e⟩ e' _ (HR3.out.1.drewN n))
          rcases hways with ⟨hlt, c1, hany⟩ | ⟨hlt, c1, ⟨c2, hany⟩ | ⟨c2, c3, hany⟩ | ⟨c2, c3, c4, hany⟩ | ⟨c2, c3, c4, hany⟩⟩
          case inl =>
            have hrr : res = (if 9007199254740991 < n then (zeroV, St.fail ⟨q, e⟩ 1) else (numV (if true = true then -n else n), ⟨q, e⟩)) := by rw [HRR.out, if_neg (by rw [hany]; decide)]
            clear hany HRR
            go_wp2_with fail
            go_quiet (fail)
            by_cases hbig : 9007199254740991 < n
            · have dbig : decide (9007199254740991 < n) = true := decide_eq_true hbig
              rw [if_pos hbig] at hrr
              subst hrr
              clear hbig
              go_wp2_with fail
              refine Calls.mono (HFL.out _ _) ?_
              rintro e w2 ⟨rfl, hp2⟩
              have hbb := hp2.keep (B := B) HB3.out (by omega)
              have hr2 := RdPost.trans (RdPost.drewN HR3.out _) hp2
              clear hp2
              obtain ⟨⟨b0, b1, b2, b3, b4⟩, ⟨g0, g1, g2, g3, g4⟩, hBw2⟩ := cells5 hbb
              have hf := set5 (.int .i64 0) (.int .i64 0) (.string ⟨#[]⟩) (.slice none 0 0) (.slice none 0 0) hbb
              have hr5 := RdPost.set5 hr2 (B := B) (by rw [HBQ.out]; exact Nat.le_refl _) (by rw [HBQ.out]; exact hRB) (.int .i64 0) (.int .i64 0) (.string ⟨#[]⟩) (.slice none 0 0) (.slice none 0 0)
              have HF5 := Lib.hid hf; have HR5 := Lib.hid hr5
              clear hf hr5
              clear hbb hr2
              go_wp2_with fail
              exact bodyPost_ret (results_cell_row rfl _ _ B 35 #[.int .i64 0, .int .i64 0, .string ⟨#[]⟩, .slice none 0 0, .slice none 0 0] (0, 0) _ rfl HF5.out Tryz.underlying35 rfl (by kernel_rfl)) rfl ⟨rfl, HR5.out⟩
            · have dbig : decide (9007199254740991 < n) = false := decide_eq_false hbig
              rw [if_neg hbig] at hrr
              subst hrr
              clear hbig
              have hng : IntKind.i64.wrap (-n) = -n := IntWalk.i64_in _ (by omega)
              obtain ⟨⟨b0', b1', b2', b3', b4'⟩, ⟨g0, g1, g2, g3, g4⟩, hBw2⟩ := cells5 HB3.out
              have hf := fun m => set5 (w := w3.drewN m) (.int .i64 4) (.int .i64 (-n)) (.string ⟨#[]⟩) (.slice none 0 0) (.slice none 0 0) (show (w3.drewN m).heap[B]? = _ from HB3.out)
              have hr5 := fun m => RdPost.set5 (RdPost.drewN HR3.out m) (B := B) (by rw [HBQ.out]; exact Nat.le_refl _) (by rw [HBQ.out]; exact hRB) (.int .i64 4) (.int .i64 (-n)) (.string ⟨#[]⟩) (.slice none 0 0) (.slice none 0 0)
              have HF5 := Lib.hid hf; have HR5 := Lib.hid hr5
              clear hf hr5
              go_wp2_with fail
              exact bodyPost_ret (results_cell_row rfl _ _ B 35 #[.int .i64 4, .int .i64 (-n), .string ⟨#[]⟩, .slice none 0 0, .slice none 0 0] (0, 0) _ rfl (HF5.out _) Tryz.underlying35 rfl (by kernel_rfl)) rfl ⟨rfl, HR5.out _⟩
          case inr.inr.inr.inr =>
            have hqs9 : (q : Int) < (s.size : Int) := by omega
            have hrr : res = (if 9007199254740991 < n then (zeroV, St.fail ⟨q, e⟩ 1) else (numV (if true = true then -n else n), ⟨q, e⟩)) := by rw [HRR.out, if_neg (by rw [hany]; decide)]
            have hg9 := hgb9 hlt
            clear hany HRR hgb9
            go_wp2_with fail
            go_quiet (fail)
            by_cases hbig : 9007199254740991 < n
            · have dbig : decide (9007199254740991 < n) = true := decide_eq_true hbig
              rw [if_pos hbig] at hrr
              subst hrr
              clear hbig
              go_wp2_with fail
              refine Calls.mono (HFL.out _ _) ?_
              rintro e w2 ⟨rfl, hp2⟩
              have hbb := hp2.keep (B := B) HB3.out (by omega)
              have hr2 := RdPost.trans (RdPost.drewN HR3.out _) hp2
              clear hp2
              obtain ⟨⟨b0, b1, b2, b3, b4⟩, ⟨g0, g1, g2, g3, g4⟩, hBw2⟩ := cells5 hbb
              have hf := set5 (.int .i64 0) (.int .i64 0) (.string ⟨#[]⟩) (.slice none 0 0) (.slice none 0 0) hbb
              have hr5 := RdPost.set5 hr2 (B := B) (by rw [HBQ.out]; exact Nat.le_refl _) (by rw [HBQ.out]; exact hRB) (.int .i64 0) (.int .i64 0) (.string ⟨#[]⟩) (.slice none 0 0) (.slice none 0 0)
              have HF5 := Lib.hid hf; have HR5 := Lib.hid hr5
              clear hf hr5
              clear hbb hr2
              go_wp2_with fail
              exact bodyPost_ret (results_cell_row rfl _ _ B 35 #[.int .i64 0, .int .i64 0, .string ⟨#[]⟩, .slice none 0 0, .slice none 0 0] (0, 0) _ rfl HF5.out Tryz.underlying35 rfl (by kernel_rfl)) rfl ⟨rfl, HR5.out⟩
            · have dbig : decide (9007199254740991 < n) = false := decide_eq_false hbig
              rw [if_neg hbig] at hrr
              subst hrr
              clear hbig
              have hng : IntKind.i64.wrap (-n) = -n := IntWalk.i64_in _ (by omega)
              obtain ⟨⟨b0', b1', b2', b3', b4'⟩, ⟨g0, g1, g2, g3, g4⟩, hBw2⟩ := cells5 HB3.out
              have hf := fun m => set5 (w := w3.drewN m) (.int .i64 4) (.int .i64 (-n)) (.string ⟨#[]⟩) (.slice none 0 0) (.slice none 0 0) (show (w3.drewN m).heap[B]? = _ from HB3.out)
              have hr5 := fun m => RdPost.set5 (RdPost.drewN HR3.out m) (B := B) (by rw [HBQ.out]; exact Nat.le_refl _) (by rw [HBQ.out]; exact hRB) (.int .i64 4) (.int .i64 (-n)) (.string ⟨#[]⟩) (.slice none 0 0) (.slice none 0 0)
              have HF5 := Lib.hid hf; have HR5 := Lib.hid hr5
              clear hf hr5
              go_wp2_with fail
              exact bodyPost_ret (results_cell_row rfl _ _ B 35 #[.int .i64 4, .int .i64 (-n), .string ⟨#[]⟩, .slice none 0 0, .slice none 0 0] (0, 0) _ rfl (HF5.out _) Tryz.underlying35 rfl (by kernel_rfl)) rfl ⟨rfl, HR5.out _⟩
          all_goals
            have hqs9 : (q : Int) < (s.size : Int) := by omega
            have hrr : res = (zeroV, St.fail ⟨q, e⟩ 4) := by rw [HRR.out, if_pos hany]
            have hg9 := hgb9 hlt
            clear hany HRR hgb9
            subst hrr
            go_wp2_with fail
            go_quiet (fail)
            go_wp2_with fail
            refine Calls.mono (HFL.out _ _) ?_
            rintro e w2 ⟨rfl, hp2⟩
            have hbb := hp2.keep (B := B) HB3.out (by omega)
            have hr2 := RdPost.trans (RdPost.drewN HR3.out _) hp2
            clear hp2
            obtain ⟨⟨b0, b1, b2, b3, b4⟩, ⟨g0, g1, g2, g3, g4⟩, hBw2⟩ := cells5 hbb
            have hf := set5 (.int .i64 0) (.int .i64 0) (.string ⟨#[]⟩) (.slice none 0 0) (.slice none 0 0) hbb
            have hr5 := RdPost.set5 hr2 (B := B) (by rw [HBQ.out]; exact Nat.le_refl _) (by rw [HBQ.out]; exact hRB) (.int .i64 0) (.int .i64 0) (.string ⟨#[]⟩) (.slice none 0 0) (.slice none 0 0)
            have HF5 := Lib.hid hf; have HR5 := Lib.hid hr5
            clear hf hr5
            clear hbb hr2
            go_wp2_with fail
            exact bodyPost_ret (results_cell_row rfl _ _ B 35 #[.int .i64 0, .int .i64 0, .string ⟨#[]⟩, .slice none 0 0, .slice none 0 0] (0, 0) _ rfl HF5.out Tryz.underlying35 rfl (by kernel_rfl)) rfl ⟨rfl, HR5.out⟩
        | true =>
          obtain ⟨hdb, h48, h57⟩ := digit_bd hd
          obtain ⟨f, rfl⟩ : ∃ g, f = g + 1 := ⟨f - 1, by omega⟩
          have hfe := HF.out
          simp only [numLoopR] at hfe
          rw [if_pos hd] at hfe
          have HFL := Lib.hid (rdfail_lit R s ⟨q, e⟩ 4 w3 HR3.out.1)
          clear hd
          by_cases hzk : z0 = true ∧ 0 < k
          · obtain ⟨rfl, hk0⟩ := hzk
            have dk : decide ((0 : Int) < (k : Int)) = true := decide_eq_true (by omega)
            have hff : fin = (false, n, q) := by
              rw [← hfe]
              have : (true && decide (0 < k)) = true := by simpa using hk0
              rw [if_pos this]
            have hrr : res = (zeroV, St.fail ⟨q, e⟩ 4) := by rw [HFE.out, hff, numEndR_no]
            subst hrr
            clear hfe hff HF HFIN HFE
            go_wp2_with fail
            refine Calls.mono HFL.out ?_
            rintro e w2 ⟨rfl, hp2⟩
            have hbb := hp2.keep (B := B) HB3.out (by omega)
            have hr2 := RdPost.trans HR3.out hp2
            clear hp2
            obtain ⟨⟨b0, b1, b2, b3, b4⟩, ⟨g0, g1, g2, g3, g4⟩, hBw2⟩ := cells5 hbb
            have hf := set5 (.int .i64 0) (.int .i64 0) (.string ⟨#[]⟩) (.slice none 0 0) (.slice none 0 0) hbb
            have hr5 := RdPost.set5 hr2 (B := B) (by rw [HBQ.out]; exact Nat.le_refl _) (by rw [HBQ.out]; exact hRB) (.int .i64 0) (.int .i64 0) (.string ⟨#[]⟩) (.slice none 0 0) (.slice none 0 0)
            have HF5 := Lib.hid hf; have HR5 := Lib.hid hr5
            clear hf hr5
            clear hbb hr2
            go_wp2_with fail
            exact bodyPost_ret (results_cell_row rfl _ _ B 35 #[.int .i64 0, .int .i64 0, .string ⟨#[]⟩, .slice none 0 0, .slice none 0 0] (0, 0) _ rfl HF5.out Tryz.underlying35 rfl (by kernel_rfl)) rfl ⟨rfl, HR5.out⟩
          · have hzz : (z0 && decide (0 < k)) = false := by
              rcases hz : z0 with _ | _
              · rfl
              · have : ¬ 0 < k := fun h => hzk ⟨hz, h⟩
                simpa using this
            have dk : z0 = false ∨ (z0 = true ∧ decide ((0 : Int) < (k : Int)) = false ∧ k = 0) := by
              rcases hz : z0 with _ | _
              · exact .inl rfl
              · have : ¬ 0 < k := fun h => hzk ⟨hz, h⟩
                exact .inr ⟨rfl, decide_eq_false (by omega), by omega⟩
            rw [hzz, if_neg Bool.false_ne_true] at hfe
            have HNE := Lib.hid hfe
            clear hfe hzz hzk HFL
            have hgb := get_byte hdb
            have hqz : (q : Int) < (s.size : Int) := by omega
            have hq0 : (0 : Int) ≤ (q : Int) := by omega
            have hstq := i64_step (p := q) (by omega)
            have hmul : IntKind.i64.wrap (10 * n) = 10 * n := IntWalk.i64_in _ (by omega)
            have hadd : IntKind.i64.wrap (10 * n + (((byteAt s q).toNat : Int) - 48)) = 10 * n + (((byteAt s q).toNat : Int) - 48) := IntWalk.i64_in _ (by omega)
            generalize byteAt s q = b9 at *
            have HX := Lib.hid (fun m => RdPost.set1 (RdPost.drewN HR3.out m) (q + 1))
            rcases dk with rfl | ⟨rfl, dk, hk0⟩
            · go_wp2_with fail
              go_quiet (fail)
              go_wp2_with fail
              go_roundg f
              case measure => omega
              case rel => exact ⟨f, k + 1, q + 1, _, Nat.le_refl _, rfl, by go_num, by omega, by omega, by omega, by omega, by omega, HNE.out, (Below.heap_setCell _ _ _ _ (by show B ≠ R; omega)).trans HB3.out, HX.out _⟩
            · subst hk0
              go_wp2_with fail
              go_quiet (fail)
              go_wp2_with fail
              go_roundg f
              case measure => omega
              case rel => exact ⟨f, 0 + 1, q + 1, _, Nat.le_refl _, rfl, by go_num, by omega, by omega, by omega, by omega, by omega, HNE.out, (Below.heap_setCell _ _ _ _ (by show B ≠ R; omega)).trans HB3.out, HX.out _⟩
set_option maxRecDepth 100000 in
set_option maxHeartbeats 32000000 in
theorem rdnum_pos (R : Nat) (s : ByteArray) (p : Nat) (e : Int) (w : World) (hs : s.size ≤ 1000000) (hx : p < s.size) (h : RdAt 74 R s p e w) (hm : ¬ byteAt s p = 45) :
    Calls Tryz.prog 56 #[.pointer (some ⟨R, 0, none⟩)] w (VPostV R s (numAtR s false ⟨p, e⟩) w) := by
  have hR := h.cells.2.2.2.2.2.2
  have hA : Below w.heap.size w (w.alloc (.cells #[.int .i64 0, .int .i64 0, .string ⟨#[]⟩, .slice none 0 0, .slice none 0 0] 35)) := bel_alloc (Below.refl _ _) _
  have hb0 := heap_alloc_new w (.cells #[.int .i64 0, .int .i64 0, .string ⟨#[]⟩, .slice none 0 0, .slice none 0 0] 35)
  have hp0 := RdPost.below h.post hA
  have hgb := get_byte hx
  have hq0 : (0 : Int) ≤ (p : Int) := by omega
  have hqs : (p : Int) < (s.size : Int) := by omega
  have d45 : (((byteAt s p).toNat : Int) == 45) = false := by
    have : (byteAt s p).toNat ≠ 45 := fun e => hm (UInt8.toNat.inj e)
    simp; omega
  unfold VPostV
  generalize hres : numAtR s false ⟨p, e⟩ = res at *
  have HRES := Lib.hid hres
  generalize hW : w.alloc (.cells #[.int .i64 0, .int .i64 0, .string ⟨#[]⟩, .slice none 0 0, .slice none 0 0] 35) = W at *
  obtain ⟨l0, l1, l2, f0, f1, f2, _⟩ := hp0.1.cells
  have HB0 := Lib.hid hb0; have HP0 := Lib.hid hp0; have HW := Lib.hid hW
  clear hA hb0 hp0 h hm hres hW
  generalize byteAt s p = b0 at *
  go_enter Tryz.func56, Tryz.ntmps56
  go_upto_region 1 with (fail)
  rw [HW.out]
  clear HW
  generalize hB : w.heap.size = B at *
  have HBQ := Lib.hid hB
  clear hB
  have hRB : R < B := hR
  go_wp2_with fail
  go_quiet (fail)
  have hr1 := fun n => RdPost.drewN HP0.out n
  have hb1 : ∀ n, (W.drewN n).heap[B]? = _ := fun n => HB0.out
  have HR1 := Lib.hid hr1; have HB1 := Lib.hid hb1
  clear hr1 hb1
  have HD := Lib.hid (show numAtR s false ⟨p, e⟩ = (if s.size ≤ p then (zeroV, St.fail ⟨p, e⟩ 2) else if digitB s p = false then (zeroV, St.fail ⟨p, e⟩ 4) else numEndR s false e (numLoopR s (byteAt s p == 48) (s.size - p) 0 0 p)) from rfl)
  by_cases h1 : s.size ≤ p
  · have d1 : ((p : Int) == (s.size : Int)) = true := by simp; omega
    have hrr : res = (zeroV, St.fail ⟨p, e⟩ 2) := by rw [← HRES.out, HD.out, if_pos h1]
    subst hrr
    clear HD h1
    have HFL := Lib.hid (fun n (_ : Unit) => rdfail_lit R s ⟨p, e⟩ 2 _ ((HR1.out n).1))
    go_wp2_with fail
    go_quiet (fail)
    go_wp2_with fail
    refine Calls.mono (HFL.out _ ()) ?_
    rintro z w2 ⟨rfl, hp2⟩
    have hbb := hp2.keep (B := B) (HB1.out _) (by omega)
    have hr2 := RdPost.trans (HR1.out _) hp2
    clear hp2
    obtain ⟨⟨b0, b1, b2, b3, b4⟩, ⟨g0, g1, g2, g3, g4⟩, hBw2⟩ := cells5 hbb
    have hf := set5 (.int .i64 0) (.int .i64 0) (.string ⟨#[]⟩) (.slice none 0 0) (.slice none 0 0) hbb
    have hr5 := RdPost.set5 hr2 (B := B) (by rw [HBQ.out]; exact Nat.le_refl _) (by rw [HBQ.out]; exact hRB) (.int .i64 0) (.int .i64 0) (.string ⟨#[]⟩) (.slice none 0 0) (.slice none 0 0)
    have HF5 := Lib.hid hf; have HR5 := Lib.hid hr5
    clear hf hr5
    clear hbb hr2
    go_wp2_with fail
    exact bodyPost_ret (results_cell_row rfl _ _ B 35 #[.int .i64 0, .int .i64 0, .string ⟨#[]⟩, .slice none 0 0, .slice none 0 0] (0, 0) _ rfl HF5.out Tryz.underlying35 rfl (by kernel_rfl)) rfl ⟨rfl, HR5.out⟩
  · have d1 : ((p : Int) == (s.size : Int)) = false := by simp; omega
    have HDG := Lib.hid (fun n (_ : Unit) => rddigit_any R s p e _ ((HR1.out n).1))
    go_wp2_with fail
    go_quiet (fail)
    go_wp2_with fail
    refine Calls.mono (HDG.out _ ()) ?_
    rintro z w2 ⟨rfl, hp2⟩
    have HB2 := Lib.hid (hp2.keep (B := B) (HB1.out _) (by omega))
    have HR2 := Lib.hid (RdPost.trans (HR1.out _) hp2)
    clear hp2 HB1 HR1 HP0 HB0 l0 l1 l2 f0 f1 f2
    obtain ⟨l0, l1, l2, f0, f1, f2, hRw⟩ := HR2.out.1.cells
    have HDD := Lib.hid (rfl : digitB s p = digitB s p)
    cases hd : digitB s p with
    | false =>
      have hrr : res = (zeroV, St.fail ⟨p, e⟩ 4) := by rw [← HRES.out, HD.out, if_neg h1, if_pos hd]
      subst hrr
      clear HD h1
      have HFL := Lib.hid (rdfail_lit R s ⟨p, e⟩ 4 _ HR2.out.1)
      go_wp2_with fail
      refine Calls.mono HFL.out ?_
      rintro e w2 ⟨rfl, hp2⟩
      have hbb := hp2.keep (B := B) HB2.out (by omega)
      have hr2 := RdPost.trans HR2.out hp2
      clear hp2
      obtain ⟨⟨b0, b1, b2, b3, b4⟩, ⟨g0, g1, g2, g3, g4⟩, hBw2⟩ := cells5 hbb
      have hf := set5 (.int .i64 0) (.int .i64 0) (.string ⟨#[]⟩) (.slice none 0 0) (.slice none 0 0) hbb
      have hr5 := RdPost.set5 hr2 (B := B) (by rw [HBQ.out]; exact Nat.le_refl _) (by rw [HBQ.out]; exact hRB) (.int .i64 0) (.int .i64 0) (.string ⟨#[]⟩) (.slice none 0 0) (.slice none 0 0)
      have HF5 := Lib.hid hf; have HR5 := Lib.hid hr5
      clear hf hr5
      clear hbb hr2
      go_wp2_with fail
      exact bodyPost_ret (results_cell_row rfl _ _ B 35 #[.int .i64 0, .int .i64 0, .string ⟨#[]⟩, .slice none 0 0, .slice none 0 0] (0, 0) _ rfl HF5.out Tryz.underlying35 rfl (by kernel_rfl)) rfl ⟨rfl, HR5.out⟩
    | true =>
      obtain ⟨hdb, _, _⟩ := digit_bd hd
      have hfe : res = numEndR s false e (numLoopR s (byteAt s p == 48) (s.size - p) 0 0 p) := by rw [← HRES.out, HD.out, if_neg h1, if_neg (by rw [hd]; decide)]
      clear HD h1 hd HDD d1
      clear hgb
      have hgb8 := get_byte hdb
      have hq8 : (0 : Int) ≤ (p : Int) := by omega
      have hqs8 : (p : Int) < (s.size : Int) := by omega
      obtain ⟨z0, hz0⟩ : ∃ z0, (((byteAt s p).toNat : Int) == 48) = z0 := ⟨_, rfl⟩
      have hz1 : (byteAt s p == 48) = z0 := by
        rw [← hz0, Bool.eq_iff_iff]
        simp only [beq_iff_eq]
        exact ⟨fun h => by rw [h]; rfl, fun h => UInt8.toNat.inj (by show (byteAt s p).toNat = 48; omega)⟩
      rw [hz1] at hfe
      generalize hfin : numLoopR s z0 (s.size - p) 0 0 p = fin at *
      have HFE := Lib.hid hfe; have HFIN := Lib.hid hfin
      clear hfe hfin hz1
      generalize byteAt s p = b8 at *
      have hp1s : p ≤ s.size := by omega
      go_wp2_with fail
      go_quiet (fail)
      go_wp2_with fail
      clear l0 l1 l2 f0 f1 f2 hRw hgb8 hq8 hqs8 hz0 hq0 hqs
      go_loopg [5, 6] (s.size - p) (fun gg s5 s6 wr => ∃ (f k q : Nat) (n : Int), f ≤ gg ∧ s5 = .int .i64 n ∧ s6 = .int .i64 k ∧ q ≤ s.size ∧ s.size - q ≤ f ∧ k ≤ q ∧ 0 ≤ n ∧ n ≤ 288230376151711744 ∧ Aside (numLoopR s z0 f k n q = fin) ∧ Aside (wr.heap[B]? = some (.cells #[.int .i64 0, .int .i64 0, .string ⟨#[]⟩, .slice none 0 0, .slice none 0 0] 35 (0, 0))) ∧ Aside (RdPost 74 R s q e w wr))
      case atStart => exact ⟨s.size - p, 0, p, 0, Nat.le_refl _, rfl, rfl, hp1s, Nat.le_refl _, Nat.zero_le _, by decide, by decide, HFIN.out, HB2.out, RdPost.drewN HR2.out _⟩
      case round =>
        obtain ⟨f, k, q, n, hfg, rfl, rfl, hqs, hqf, hkq, hn0, hn1, HF, HBB, HR⟩ := hrel
        clear HB2 HR2 hp1s
        have HDG := Lib.hid (rddigit_any R s q e wr HR.out.1)
        go_wp2_with fail
        refine Calls.mono HDG.out ?_
        rintro z w3 ⟨rfl, hp3⟩
        have HB3 := Lib.hid (hp3.keep (B := B) HBB.out (by omega))
        have HR3 := Lib.hid (RdPost.trans HR.out hp3)
        clear hp3 HDG
        obtain ⟨l0, l1, l2, f0, f1, f2, hRw⟩ := HR3.out.1.cells
        cases hd : digitB s q with
        | false =>
          have hff : fin = (true, n, q) := by
            rw [← HF.out]
            cases f with
            | zero => rfl
            | succ f => simp only [numLoopR]; rw [hd, if_neg Bool.false_ne_true]
          have hrr : res = (if anyB s [46, 101, 69] q = true then (zeroV, St.fail ⟨q, e⟩ 4) else if 9007199254740991 < n then (zeroV, St.fail ⟨q, e⟩ 1) else (numV (if false = true then -n else n), ⟨q, e⟩)) := by rw [HFE.out, hff, numEndR_ok]
          have HRR := Lib.hid hrr
          clear hrr hff hd HF HFIN HFE
          have hways : (¬ q < s.size ∧ decide ((q : Int) < (s.size : Int)) = false ∧ anyB s [46, 101, 69] q = false) ∨ (q < s.size ∧ decide ((q : Int) < (s.size : Int)) = true ∧ (((((byteAt s q).toNat : Int) == 46) = true ∧ anyB s [46, 101, 69] q = true) ∨ ((((byteAt s q).toNat : Int) == 46) = false ∧ (((byteAt s q).toNat : Int) == 101) = true ∧ anyB s [46, 101, 69] q = true) ∨
              ((((byteAt s q).toNat : Int) == 46) = false ∧ (((byteAt s q).toNat : Int) == 101) = false ∧ (((byteAt s q).toNat : Int) == 69) = true ∧ anyB s [46, 101, 69] q = true) ∨
              ((((byteAt s q).toNat : Int) == 46) = false ∧ (((byteAt s q).toNat : Int) == 101) = false ∧ (((byteAt s q).toNat : Int) == 69) = false ∧ anyB s [46, 101, 69] q = false))) := by
            by_cases hlt : q < s.size
            · rw [any_at hlt]
              exact .inr ⟨hlt, decide_eq_true (by omega), dot_way _⟩
            · exact .inl ⟨hlt, decide_eq_false (by omega), any_out hlt⟩
          obtain ⟨b9, hb9⟩ : ∃ b9, b9 = byteAt s q := ⟨_, rfl⟩
          have hgb9 : ∀ h : q < s.size, s[q]'h = b9 := fun h => by rw [hb9]; exact get_byte h
          rw [← hb9] at hways
          have hq9 : (0 : Int) ≤ (q : Int) := by omega
          clear hb9
          have HFL := Lib.hid (fun n e' => rdfail_lit R s ⟨q, e⟩ e' _ (HR3.out.1.drewN n))
          rcases hways with ⟨hlt, c1, hany⟩ | ⟨hlt, c1, ⟨c2, hany⟩ | ⟨c2, c3, hany⟩ | ⟨c2, c3, c4, hany⟩ | ⟨c2, c3, c4, hany⟩⟩
          case inl =>
            have hrr : res = (if 9007199254740991 < n then (zeroV, St.fail ⟨q, e⟩ 1) else (numV (if false = true then -n else n), ⟨q, e⟩)) := by rw [HRR.out, if_neg (by rw [hany]; decide)]
            clear hany HRR
            go_wp2_with fail
            go_quiet (fail)
            by_cases hbig : 9007199254740991 < n
            · have dbig : decide (9007199254740991 < n) = true := decide_eq_true hbig
              rw [if_pos hbig] at hrr
              subst hrr
              clear hbig
              go_wp2_with fail
              refine Calls.mono (HFL.out _ _) ?_
              rintro e w2 ⟨rfl, hp2⟩
              have hbb := hp2.keep (B := B) HB3.out (by omega)
              have hr2 := RdPost.trans (RdPost.drewN HR3.out _) hp2
              clear hp2
              obtain ⟨⟨b0, b1, b2, b3, b4⟩, ⟨g0, g1, g2, g3, g4⟩, hBw2⟩ := cells5 hbb
              have hf := set5 (.int .i64 0) (.int .i64 0) (.string ⟨#[]⟩) (.slice none 0 0) (.slice none 0 0) hbb
              have hr5 := RdPost.set5 hr2 (B := B) (by rw [HBQ.out]; exact Nat.le_refl _) (by rw [HBQ.out]; exact hRB) (.int .i64 0) (.int .i64 0) (.string ⟨#[]⟩) (.slice none 0 0) (.slice none 0 0)
              have HF5 := Lib.hid hf; have HR5 := Lib.hid hr5
              clear hf hr5
              clear hbb hr2
              go_wp2_with fail
              exact bodyPost_ret (results_cell_row rfl _ _ B 35 #[.int .i64 0, .int .i64 0, .string ⟨#[]⟩, .slice none 0 0, .slice none 0 0] (0, 0) _ rfl HF5.out Tryz.underlying35 rfl (by kernel_rfl)) rfl ⟨rfl, HR5.out⟩
            · have dbig : decide (9007199254740991 < n) = false := decide_eq_false hbig
              rw [if_neg hbig] at hrr
              subst hrr
              clear hbig
              have hng : IntKind.i64.wrap (-n) = -n := IntWalk.i64_in _ (by omega)
              obtain ⟨⟨b0', b1', b2', b3', b4'⟩, ⟨g0, g1, g2, g3, g4⟩, hBw2⟩ := cells5 HB3.out
              have hf := fun m => set5 (w := w3.drewN m) (.int .i64 4) (.int .i64 (n)) (.string ⟨#[]⟩) (.slice none 0 0) (.slice none 0 0) (show (w3.drewN m).heap[B]? = _ from HB3.out)
              have hr5 := fun m => RdPost.set5 (RdPost.drewN HR3.out m) (B := B) (by rw [HBQ.out]; exact Nat.le_refl _) (by rw [HBQ.out]; exact hRB) (.int .i64 4) (.int .i64 (n)) (.string ⟨#[]⟩) (.slice none 0 0) (.slice none 0 0)
              have HF5 := Lib.hid hf; have HR5 := Lib.hid hr5
              clear hf hr5
              go_wp2_with fail
              exact bodyPost_ret (results_cell_row rfl _ _ B 35 #[.int .i64 4, .int .i64 (n), .string ⟨#[]⟩, .slice none 0 0, .slice none 0 0] (0, 0) _ rfl (HF5.out _) Tryz.underlying35 rfl (by kernel_rfl)) rfl ⟨rfl, HR5.out _⟩
          case inr.inr.inr.inr =>
            have hqs9 : (q : Int) < (s.size : Int) := by omega
            have hrr : res = (if 9007199254740991 < n then (zeroV, St.fail ⟨q, e⟩ 1) else (numV (if false = true then -n else n), ⟨q, e⟩)) := by rw [HRR.out, if_neg (by rw [hany]; decide)]
            have hg9 := hgb9 hlt
            clear hany HRR hgb9
            go_wp2_with fail
            go_quiet (fail)
            by_cases hbig : 9007199254740991 < n
            · have dbig : decide (9007199254740991 < n) = true := decide_eq_true hbig
              rw [if_pos hbig] at hrr
              subst hrr
              clear hbig
              go_wp2_with fail
              refine Calls.mono (HFL.out _ _) ?_
              rintro e w2 ⟨rfl, hp2⟩
              have hbb := hp2.keep (B := B) HB3.out (by omega)
              have hr2 := RdPost.trans (RdPost.drewN HR3.out _) hp2
              clear hp2
              obtain ⟨⟨b0, b1, b2, b3, b4⟩, ⟨g0, g1, g2, g3, g4⟩, hBw2⟩ := cells5 hbb
              have hf := set5 (.int .i64 0) (.int .i64 0) (.string ⟨#[]⟩) (.slice none 0 0) (.slice none 0 0) hbb
              have hr5 := RdPost.set5 hr2 (B := B) (by rw [HBQ.out]; exact Nat.le_refl _) (by rw [HBQ.out]; exact hRB) (.int .i64 0) (.int .i64 0) (.string ⟨#[]⟩) (.slice none 0 0) (.slice none 0 0)
              have HF5 := Lib.hid hf; have HR5 := Lib.hid hr5
              clear hf hr5
              clear hbb hr2
              go_wp2_with fail
              exact bodyPost_ret (results_cell_row rfl _ _ B 35 #[.int .i64 0, .int .i64 0, .string ⟨#[]⟩, .slice none 0 0, .slice none 0 0] (0, 0) _ rfl HF5.out Tryz.underlying35 rfl (by kernel_rfl)) rfl ⟨rfl, HR5.out⟩
            · have dbig : decide (9007199254740991 < n) = false := decide_eq_false hbig
              rw [if_neg hbig] at hrr
              subst hrr
              clear hbig
              have hng : IntKind.i64.wrap (-n) = -n := IntWalk.i64_in _ (by omega)
              obtain ⟨⟨b0', b1', b2', b3', b4'⟩, ⟨g0, g1, g2, g3, g4⟩, hBw2⟩ := cells5 HB3.out
              have hf := fun m => set5 (w := w3.drewN m) (.int .i64 4) (.int .i64 (n)) (.string ⟨#[]⟩) (.slice none 0 0) (.slice none 0 0) (show (w3.drewN m).heap[B]? = _ from HB3.out)
              have hr5 := fun m => RdPost.set5 (RdPost.drewN HR3.out m) (B := B) (by rw [HBQ.out]; exact Nat.le_refl _) (by rw [HBQ.out]; exact hRB) (.int .i64 4) (.int .i64 (n)) (.string ⟨#[]⟩) (.slice none 0 0) (.slice none 0 0)
              have HF5 := Lib.hid hf; have HR5 := Lib.hid hr5
              clear hf hr5
              go_wp2_with fail
              exact bodyPost_ret (results_cell_row rfl _ _ B 35 #[.int .i64 4, .int .i64 (n), .string ⟨#[]⟩, .slice none 0 0, .slice none 0 0] (0, 0) _ rfl (HF5.out _) Tryz.underlying35 rfl (by kernel_rfl)) rfl ⟨rfl, HR5.out _⟩
          all_goals
            have hqs9 : (q : Int) < (s.size : Int) := by omega
            have hrr : res = (zeroV, St.fail ⟨q, e⟩ 4) := by rw [HRR.out, if_pos hany]
            have hg9 := hgb9 hlt
            clear hany HRR hgb9
            subst hrr
            go_wp2_with fail
            go_quiet (fail)
            go_wp2_with fail
            refine Calls.mono (HFL.out _ _) ?_
            rintro e w2 ⟨rfl, hp2⟩
            have hbb := hp2.keep (B := B) HB3.out (by omega)
            have hr2 := RdPost.trans (RdPost.drewN HR3.out _) hp2
            clear hp2
            obtain ⟨⟨b0, b1, b2, b3, b4⟩, ⟨g0, g1, g2, g3, g4⟩, hBw2⟩ := cells5 hbb
            have hf := set5 (.int .i64 0) (.int .i64 0) (.string ⟨#[]⟩) (.slice none 0 0) (.slice none 0 0) hbb
            have hr5 := RdPost.set5 hr2 (B := B) (by rw [HBQ.out]; exact Nat.le_refl _) (by rw [HBQ.out]; exact hRB) (.int .i64 0) (.int .i64 0) (.string ⟨#[]⟩) (.slice none 0 0) (.slice none 0 0)
            have HF5 := Lib.hid hf; have HR5 := Lib.hid hr5
            clear hf hr5
            clear hbb hr2
            go_wp2_with fail
            exact bodyPost_ret (results_cell_row rfl _ _ B 35 #[.int .i64 0, .int .i64 0, .string ⟨#[]⟩, .slice none 0 0, .slice none 0 0] (0, 0) _ rfl HF5.out Tryz.underlying35 rfl (by kernel_rfl)) rfl ⟨rfl, HR5.out⟩
        | true =>
          obtain ⟨hdb, h48, h57⟩ := digit_bd hd
          obtain ⟨f, rfl⟩ : ∃ g, f = g + 1 := ⟨f - 1, by omega⟩
          have hfe := HF.out
          simp only [numLoopR] at hfe
          rw [if_pos hd] at hfe
          have HFL := Lib.hid (rdfail_lit R s ⟨q, e⟩ 4 w3 HR3.out.1)
          clear hd
          by_cases hzk : z0 = true ∧ 0 < k
          · obtain ⟨rfl, hk0⟩ := hzk
            have dk : decide ((0 : Int) < (k : Int)) = true := decide_eq_true (by omega)
            have hff : fin = (false, n, q) := by
              rw [← hfe]
              have : (true && decide (0 < k)) = true := by simpa using hk0
              rw [if_pos this]
            have hrr : res = (zeroV, St.fail ⟨q, e⟩ 4) := by rw [HFE.out, hff, numEndR_no]
            subst hrr
            clear hfe hff HF HFIN HFE
            go_wp2_with fail
            refine Calls.mono HFL.out ?_
            rintro e w2 ⟨rfl, hp2⟩
            have hbb := hp2.keep (B := B) HB3.out (by omega)
            have hr2 := RdPost.trans HR3.out hp2
            clear hp2
            obtain ⟨⟨b0, b1, b2, b3, b4⟩, ⟨g0, g1, g2, g3, g4⟩, hBw2⟩ := cells5 hbb
            have hf := set5 (.int .i64 0) (.int .i64 0) (.string ⟨#[]⟩) (.slice none 0 0) (.slice none 0 0) hbb
            have hr5 := RdPost.set5 hr2 (B := B) (by rw [HBQ.out]; exact Nat.le_refl _) (by rw [HBQ.out]; exact hRB) (.int .i64 0) (.int .i64 0) (.string ⟨#[]⟩) (.slice none 0 0) (.slice none 0 0)
            have HF5 := Lib.hid hf; have HR5 := Lib.hid hr5
            clear hf hr5
            clear hbb hr2
            go_wp2_with fail
            exact bodyPost_ret (results_cell_row rfl _ _ B 35 #[.int .i64 0, .int .i64 0, .string ⟨#[]⟩, .slice none 0 0, .slice none 0 0] (0, 0) _ rfl HF5.out Tryz.underlying35 rfl (by kernel_rfl)) rfl ⟨rfl, HR5.out⟩
          · have hzz : (z0 && decide (0 < k)) = false := by
              rcases hz : z0 with _ | _
              · rfl
              · have : ¬ 0 < k := fun h => hzk ⟨hz, h⟩
                simpa using this
            have dk : z0 = false ∨ (z0 = true ∧ decide ((0 : Int) < (k : Int)) = false ∧ k = 0) := by
              rcases hz : z0 with _ | _
              · exact .inl rfl
              · have : ¬ 0 < k := fun h => hzk ⟨hz, h⟩
                exact .inr ⟨rfl, decide_eq_false (by omega), by omega⟩
            rw [hzz, if_neg Bool.false_ne_true] at hfe
            have HNE := Lib.hid hfe
            clear hfe hzz hzk HFL
            have hgb := get_byte hdb
            have hqz : (q : Int) < (s.size : Int) := by omega
            have hq0 : (0 : Int) ≤ (q : Int) := by omega
            have hstq := i64_step (p := q) (by omega)
            have hmul : IntKind.i64.wrap (10 * n) = 10 * n := IntWalk.i64_in _ (by omega)
            have hadd : IntKind.i64.wrap (10 * n + (((byteAt s q).toNat : Int) - 48)) = 10 * n + (((byteAt s q).toNat : Int) - 48) := IntWalk.i64_in _ (by omega)
            generalize byteAt s q = b9 at *
            have HX := Lib.hid (fun m => RdPost.set1 (RdPost.drewN HR3.out m) (q + 1))
            rcases dk with rfl | ⟨rfl, dk, hk0⟩
            · go_wp2_with fail
              go_quiet (fail)
              go_wp2_with fail
              go_roundg f
              case measure => omega
              case rel => exact ⟨f, k + 1, q + 1, _, Nat.le_refl _, rfl, by go_num, by omega, by omega, by omega, by omega, by omega, HNE.out, (Below.heap_setCell _ _ _ _ (by show B ≠ R; omega)).trans HB3.out, HX.out _⟩
            · subst hk0
              go_wp2_with fail
              go_quiet (fail)
              go_wp2_with fail
              go_roundg f
              case measure => omega
              case rel => exact ⟨f, 0 + 1, q + 1, _, Nat.le_refl _, rfl, by go_num, by omega, by omega, by omega, by omega, by omega, HNE.out, (Below.heap_setCell _ _ _ _ (by show B ≠ R; omega)).trans HB3.out, HX.out _⟩
theorem rdnumber_any (R : Nat) (s : ByteArray) (x : St) (w : World) (hs : s.size ≤ 1000000) (hx : x.p < s.size) (h : RdAt 74 R s x.p x.e w) :
    Calls Tryz.prog 56 #[.pointer (some ⟨R, 0, none⟩)] w (VPostV R s (numR s x) w) := by
  obtain ⟨p, e⟩ := x
  unfold numR
  by_cases hm : byteAt s p = 45
  · rw [if_pos hm]
    exact rdnum_neg R s p e w hs hx h hm
  · rw [if_neg hm]
    exact rdnum_pos R s p e w hs hx h hm
end Go.Proofs.YtjjgbgojlhaapaaGreatDoor
