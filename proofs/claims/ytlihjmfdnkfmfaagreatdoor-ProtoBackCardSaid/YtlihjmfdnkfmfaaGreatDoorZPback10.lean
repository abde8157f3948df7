/- Parts of the proof: Rn. -/
import Derived.Test.YtlihjmfdnkfmfaaGreatDoorZPback8
import Derived.Deep.DeepCutAuto
namespace Go.Proofs.YtlihjmfdnkfmfaaGreatDoor
open Go.RowKit Go.Lib

def numLoop (s : ByteArray) (zero : Bool) (from' : Nat) : Nat → Int → Nat → Int × Nat
  | 0, n, p => (n, p)
  | f + 1, n, p => if digitB s p && !(zero && decide (from' < p)) then numLoop s zero from' f (min (n * 10 + ((byteAt s p).toNat - 48 : Int)) 9007199254740992) (p + 1) else (n, p)
def numStart (s : ByteArray) (x : St) : St := if s.size ≤ x.p then x.fail 2 else x
def numEnd (s : ByteArray) (neg : Bool) (x : St) : JV × St :=
  let zero := anyB s [48] x.p
  let r := numLoop s zero x.p (s.size - x.p) 0 x.p
  let y : St := ⟨r.2, x.e⟩
  (numV ((if neg then -1 else 1) * r.1),
    if r.2 = x.p ∨ anyB s [46, 101, 69] r.2 = true ∨ (zero = true ∧ digitB s r.2 = true) then y.fail 4 else if 9007199254740991 < r.1 then y.fail 1 else y)
def numberB (s : ByteArray) (x : St) : JV × St := numEnd s (anyB s [45] x.p) (numStart s (if anyB s [45] x.p then x.step else x))

theorem numLoop_step {s : ByteArray} {z : Bool} {fr p : Nat} {n : Int} (hd : digitB s p = true) (hz : (z && decide (fr < p)) = false) :
    numLoop s z fr (s.size - p) n p = numLoop s z fr (s.size - (p + 1)) (min (n * 10 + ((byteAt s p).toNat - 48 : Int)) 9007199254740992) (p + 1) := by
  have hp : p < s.size := by simp [digitB] at hd; exact hd.1
  rw [show s.size - p = (s.size - (p + 1)) + 1 by omega]
  simp only [numLoop]
  rw [hd, hz]; rfl
theorem numLoop_stop {s : ByteArray} {z : Bool} {fr p : Nat} {n : Int} (h : digitB s p = false ∨ (z && decide (fr < p)) = true) (f : Nat) : numLoop s z fr f n p = (n, p) := by
  cases f with
  | zero => rfl
  | succ f =>
    simp only [numLoop]
    rcases h with h | h <;> rw [h] <;> simp
theorem numLoop_range (s : ByteArray) (z : Bool) (fr : Nat) : ∀ (f : Nat) (n : Int) (p : Nat), 0 ≤ n → n ≤ 9007199254740992 → 0 ≤ (numLoop s z fr f n p).1 ∧ (numLoop s z fr f n p).1 ≤ 9007199254740992 ∧ p ≤ (numLoop s z fr f n p).2 ∧ (p ≤ s.size → (numLoop s z fr f n p).2 ≤ s.size)
  | 0, n, p, h0, h1 => ⟨h0, h1, Nat.le_refl _, id⟩
  | f + 1, n, p, h0, h1 => by
    simp only [numLoop]
    split
    · rename_i h
      have hd : digitB s p = true := by cases hd : digitB s p <;> simp [hd] at h ⊢
      have hp : p < s.size ∧ 48 ≤ (byteAt s p).toNat := by simp [digitB, isDigit] at hd; exact ⟨hd.1, hd.2.1⟩
      have := numLoop_range s z fr f (min (n * 10 + ((byteAt s p).toNat - 48 : Int)) 9007199254740992) (p + 1) (by omega) (by omega)
      omega
    · exact ⟨h0, h1, Nat.le_refl _, id⟩

set_option maxRecDepth 100000 in
set_option maxHeartbeats 8000000 in
theorem number_json (R : Nat) (s : ByteArray) (x : St) (w : World) (hs : s.size ≤ 1000000) (hx : x.p ≤ 1000001) (h : RdAt 148 R s x.p x.e w) :
    Calls Tryz.prog 119 #[.pointer (some ⟨R, 0, none⟩)] w (fun z w' => ∃ m, Aside (numberB s x = (numV m, (numberB s x).2)) ∧ VPost R s (numberB s x) (numC m) w z w') := by
  have hR := h.cells.2.2.2.2.2.2
  have hA : Below w.heap.size w (w.alloc (.cells #[.int .i64 0, .int .i64 0, .string ⟨#[]⟩, .slice none 0 0, .slice none 0 0] 43)) := bel_alloc (Below.refl _ _) _
  have hb0 := heap_alloc_new w (.cells #[.int .i64 0, .int .i64 0, .string ⟨#[]⟩, .slice none 0 0, .slice none 0 0] 43)
  have hp0 := RdPost.below h.post hA
  have hany := any_any R s ⟨#[45]⟩ x.p x.e _ hp0.1
  have HB0 := Lib.hid hb0; have HP0 := Lib.hid hp0
  have hfin : numberB s x = numEnd s (anyB s [45] x.p) (numStart s (if anyB s [45] x.p then x.step else x)) := rfl
  unfold VPost
  generalize numberB s x = fin at *
  have hanyl : (⟨#[45]⟩ : ByteArray).data.toList = [45] := rfl
  rw [hanyl] at hany
  clear hA hb0 hp0 h hanyl
  generalize anyB s [45] x.p = ng at *
  have HFIN := Lib.hid hfin; have HAN := Lib.hid hany
  clear hfin hany
  have hst := i64_step (p := x.p) (by omega)
  go_enter Tryz.func119, Tryz.ntmps119
  go_wp2_with fail
  refine Calls.mono HAN.out ?_
  rintro e w1 ⟨rfl, hp1⟩
  obtain ⟨l0, l1, l2, _, f1, _, hRw⟩ := hp1.1.cells
  have hp1' := HP0.out.trans hp1
  have hbk := hp1.keep (B := w.heap.size) HB0.out (by omega)
  have HP1 := Lib.hid hp1'; have HBK := Lib.hid hbk
  clear hp1 hp1' hbk
  go_upto_if 8 with (fail)
  go_cut [3] (fun s3 wx => s3 = .int .i64 (if ng then -1 else 1) ∧ Aside (RdPost 148 R s (if ng then x.step else x).p (if ng then x.step else x).e w wx) ∧ Aside (wx.heap[w.heap.size]? = some (.cells #[.int .i64 0, .int .i64 0, .string ⟨#[]⟩, .slice none 0 0, .slice none 0 0] 43 (0, 0))))
  case first =>
    cases ng
    · go_wp2_with fail
      go_meet
      exact ⟨rfl, HP1.out, HBK.out⟩
    · have hp2 := RdPost.set1 HP1.out (x.p + 1)
      have hbk2 := (Below.heap_setCell w1 ⟨R, 1, none⟩ (.int .i64 ((x.p + 1 : Nat) : Int)) w.heap.size (by show w.heap.size ≠ R; omega)).trans HBK.out
      have HP2 := Lib.hid hp2; have HBK2 := Lib.hid hbk2
      clear hp2 hbk2
      go_wp2_with fail
      go_meet
      exact ⟨rfl, HP2.out, HBK2.out⟩
  case rest =>
    obtain ⟨rfl, HP2, HBK2⟩ := hcut
    obtain ⟨sg, hsg⟩ : ∃ sg : Int, sg = (if ng = true then -1 else 1) := ⟨_, rfl⟩
    rw [← hsg]
    have hyp : (if ng then x.step else x).p ≤ 1000002 := by cases ng <;> simp [St.step] <;> omega
    have hfin := HFIN.out
    have hsg2 : sg = 1 ∨ sg = -1 := by rw [hsg]; cases ng <;> simp
    unfold numEnd at hfin
    rw [← hsg] at hfin
    generalize (if ng = true then x.step else x) = y at *
    have HFIN := Lib.hid hfin; have HSG := Lib.hid hsg2
    clear hsg hfin hsg2 HP1 HBK l0 l1 l2 f1 hRw hst HAN
    obtain ⟨wa, rfl⟩ : ∃ W : World, W = wc := ⟨_, rfl⟩
    obtain ⟨l0, l1, l2, _, f1, _, hRw⟩ := HP2.out.1.cells
    have hdd : decide ((s.size : Int) ≤ (y.p : Int)) = decide (s.size ≤ y.p) := by rw [Bool.eq_iff_iff]; simp
    go_wp2_with fail
    go_quiet (fail)
    go_upto_if 25 with (fail)
    go_cut [] (fun wx => Aside (RdPost 148 R s (numStart s y).p (numStart s y).e w wx) ∧ Aside (wx.heap[w.heap.size]? = some (.cells #[.int .i64 0, .int .i64 0, .string ⟨#[]⟩, .slice none 0 0, .slice none 0 0] 43 (0, 0))))
    case first =>
      by_cases hlt : s.size ≤ y.p
      · have hd : decide (s.size ≤ y.p) = true := by simpa using hlt
        have hq : numStart s y = y.fail 2 := by unfold numStart; rw [if_pos hlt]
        have hfl := fun n => fail_any R s y 2 (wa.drewN n) (HP2.out.1.drewN n)
        have HFL := Lib.hid hfl; have HQ := Lib.hid hq
        clear hfl hq
        go_wp2_with fail
        refine Calls.mono (HFL.out _) ?_
        rintro e w3 ⟨rfl, hp3⟩
        have h1 := hp3.keep (B := w.heap.size) HBK2.out (by omega)
        have h2 := RdPost.trans (RdPost.drewN HP2.out _) hp3
        have H1 := Lib.hid h1; have H2 := Lib.hid h2
        clear h1 h2 hp3
        go_wp2_with fail
        go_meet
        rw [HQ.out]
        exact ⟨H2.out, H1.out⟩
      · have hd : decide (s.size ≤ y.p) = false := by simpa using hlt
        have hq : numStart s y = y := by unfold numStart; rw [if_neg hlt]
        have HQ := Lib.hid hq
        clear hq
        go_wp2_with fail
        go_meet
        rw [HQ.out]
        exact ⟨RdPost.drewN HP2.out _, HBK2.out⟩
    case rest =>
      obtain ⟨HP3, HBK3⟩ := hcut
      have hypz : (numStart s y).p ≤ 1000002 := by unfold numStart; split <;> (try rw [fail_p]) <;> exact hyp
      generalize numStart s y = z at *
      clear HP2 HBK2 l0 l1 l2 f1 hRw hdd
      obtain ⟨wb, rfl⟩ : ∃ W : World, W = wc := ⟨_, rfl⟩
      have hany := any_any R s ⟨#[48]⟩ z.p z.e wb HP3.out.1
      rw [show (⟨#[48]⟩ : ByteArray).data.toList = [48] from rfl] at hany
      have HAN := Lib.hid hany
      clear hany
      go_wp2_with fail
      refine Calls.mono HAN.out ?_
      rintro e w4 ⟨rfl, hp4⟩
      have hbk4 := hp4.keep (B := w.heap.size) HBK3.out (by omega)
      have hp4' := HP3.out.trans hp4
      obtain ⟨l0, l1, l2, _, f1, _, hRw⟩ := hp4'.1.cells
      have HP4 := Lib.hid hp4'; have HBK4 := Lib.hid hbk4
      clear hp4 hp4' hbk4
      generalize hzb : anyB s [48] z.p = zb at *
      clear hzb
      have HLP : Hid (∃ lp, numLoop s zb z.p (s.size - z.p) 0 z.p = lp) := ⟨_, rfl⟩
      obtain ⟨lp, hlp⟩ := HLP.out
      have hfin := HFIN.out
      simp only [hlp] at hfin
      have HFIN2 := Lib.hid hfin; have HLP2 := Lib.hid hlp
      clear hfin hlp HLP HFIN
      cases zb
      case false =>
        go_wp2_with fail
        go_quiet (fail)
        go_wp2_with fail
        go_loopg [5] (s.size - z.p) (fun gg s5 wr => ∃ (n : Int) (q : Nat), s.size - q ≤ gg ∧ z.p ≤ q ∧ q ≤ 1000002 ∧ s5 = .int .i64 n ∧ 0 ≤ n ∧ n ≤ 9007199254740992 ∧ Aside (numLoop s false z.p (s.size - q) n q = lp) ∧ Aside (wr.heap[w.heap.size]? = some (.cells #[.int .i64 0, .int .i64 0, .string ⟨#[]⟩, .slice none 0 0, .slice none 0 0] 43 (0, 0))) ∧ Aside (RdPost 148 R s q z.e w wr))
        case atStart => exact ⟨0, z.p, Nat.le_refl _, Nat.le_refl _, hypz, rfl, by omega, by omega, HLP2.out, HBK4.out, RdPost.drewN HP4.out _⟩
        case round =>
          obtain ⟨n, q, hgg, hyq, hqs, rfl, hn0, hn1, HF, HBB, HR⟩ := hrel
          clear l0 l1 l2 f1 hRw
          obtain ⟨l0, l1, l2, _, f1, _, hRw⟩ := HR.out.1.cells
          cases hdb : digitB s q
          · have hdg := digit_any R s q z.e wr HR.out.1
            rw [hdb] at hdg
            have HDG := Lib.hid hdg; have HDB := Lib.hid hdb
            clear hdg
            go_wp2_with fail
            refine Calls.mono HDG.out ?_
            rintro e w6 ⟨rfl, hp6⟩
            have hbk6 := hp6.keep (B := w.heap.size) HBB.out (by omega)
            have hp6' := RdPost.trans HR.out hp6
            obtain ⟨l0, l1, l2, _, f1, _, hRw⟩ := hp6'.1.cells
            have HP6 := Lib.hid hp6'; have HBK6 := Lib.hid hbk6
            clear hp6 hp6' hbk6
            have hlpe : lp = (n, q) := by rw [← HF.out]; exact numLoop_stop (.inl HDB.out) _
            subst hlpe
            have hfin := HFIN2.out
            simp only at hfin
            have HFIN3 := Lib.hid hfin
            clear hfin
            by_cases hqe : q = z.p
            · have hqz : ((q : Int) == (z.p : Int)) = true := by simp; omega
              have HQE := Lib.hid hqe
              clear hqe
              have hfe : fin = (numV (sg * n), St.fail ⟨q, z.e⟩ 4) := by rw [HFIN3.out]; rw [if_pos (.inl HQE.out)]
              have HFE := Lib.hid hfe
              have hfl := fail_any R s ⟨q, z.e⟩ 4 _ HP6.out.1
              have HFL := Lib.hid hfl
              clear hfe hfl
              go_wp2_with fail
              refine Calls.mono HFL.out ?_
              rintro e w9 ⟨rfl, hp9⟩
              have hbk9 := hp9.keep (B := w.heap.size) HBK6.out (by omega)
              have hp9' := RdPost.trans HP6.out hp9
              have HP9 := Lib.hid hp9'; have HBK9 := Lib.hid hbk9
              clear hp9 hp9' hbk9
              obtain ⟨⟨b0, b1, b2, b3, b4⟩, ⟨g0, g1, g2, g3, g4⟩, hBw⟩ := cells5 HBK9.out
              have hmul : IntKind.i64.wrap (sg * n) = sg * n := by rcases HSG.out with h | h <;> rw [h] <;> exact IntWalk.i64_in _ (by omega)
              have hf := set5 (.int .i64 4) (.int .i64 (sg * n)) (.string ⟨#[]⟩) (.slice none 0 0) (.slice none 0 0) HBK9.out
              have hr5 := RdPost.set5 HP9.out (B := w.heap.size) (Nat.le_refl _) hR (.int .i64 4) (.int .i64 (sg * n)) (.string ⟨#[]⟩) (.slice none 0 0) (.slice none 0 0)
              have HF5 := Lib.hid hf; have HR5 := Lib.hid hr5
              clear hf hr5
              go_wp2_with fail
              exact bodyPost_ret (results_cell_row rfl _ _ w.heap.size 43 (numC (sg * n)).toArray (0, 0) _ rfl HF5.out Tryz.underlying43 rfl (by kernel_rfl)) rfl ⟨sg * n, by rw [HFE.out]; exact (rfl : _ = _), rfl, by rw [HFE.out]; exact HR5.out⟩
            · have hqz : ((q : Int) == (z.p : Int)) = false := by simp; omega
              have hany2 := any_any R s ⟨#[46, 101, 69]⟩ q z.e _ HP6.out.1
              rw [show (⟨#[46, 101, 69]⟩ : ByteArray).data.toList = [46, 101, 69] from rfl] at hany2
              cases hb2 : anyB s [46, 101, 69] q
              · rw [hb2] at hany2
                have HAN2 := Lib.hid hany2; have HB2 := Lib.hid hb2
                clear hany2 hb2
                go_wp2_with fail
                refine Calls.mono HAN2.out ?_
                rintro e w7 ⟨rfl, hp7⟩
                have hbk7 := hp7.keep (B := w.heap.size) HBK6.out (by omega)
                have hp7' := RdPost.trans HP6.out hp7
                obtain ⟨l0, l1, l2, _, f1, _, hRw⟩ := hp7'.1.cells
                have HP7 := Lib.hid hp7'; have HBK7 := Lib.hid hbk7
                clear hp7 hp7' hbk7
                by_cases hbig : 9007199254740991 < n
                · have hbg : decide ((9007199254740991 : Int) < n) = true := by simpa using hbig
                  have hfe : fin = (numV (sg * n), St.fail ⟨q, z.e⟩ 1) := by rw [HFIN3.out]; rw [if_neg (by rw [HB2.out]; simp; exact hqe), if_pos hbig]
                  have HFE := Lib.hid hfe
                  have hfl := fail_any R s ⟨q, z.e⟩ 1 _ HP7.out.1
                  have HFL := Lib.hid hfl
                  clear hfe hfl
                  go_wp2_with fail
                  refine Calls.mono HFL.out ?_
                  rintro e w9 ⟨rfl, hp9⟩
                  have hbk9 := hp9.keep (B := w.heap.size) HBK7.out (by omega)
                  have hp9' := RdPost.trans HP7.out hp9
                  have HP9 := Lib.hid hp9'; have HBK9 := Lib.hid hbk9
                  clear hp9 hp9' hbk9
                  obtain ⟨⟨b0, b1, b2, b3, b4⟩, ⟨g0, g1, g2, g3, g4⟩, hBw⟩ := cells5 HBK9.out
                  have hmul : IntKind.i64.wrap (sg * n) = sg * n := by rcases HSG.out with h | h <;> rw [h] <;> exact IntWalk.i64_in _ (by omega)
                  have hf := set5 (.int .i64 4) (.int .i64 (sg * n)) (.string ⟨#[]⟩) (.slice none 0 0) (.slice none 0 0) HBK9.out
                  have hr5 := RdPost.set5 HP9.out (B := w.heap.size) (Nat.le_refl _) hR (.int .i64 4) (.int .i64 (sg * n)) (.string ⟨#[]⟩) (.slice none 0 0) (.slice none 0 0)
                  have HF5 := Lib.hid hf; have HR5 := Lib.hid hr5
                  clear hf hr5
                  go_wp2_with fail
                  exact bodyPost_ret (results_cell_row rfl _ _ w.heap.size 43 (numC (sg * n)).toArray (0, 0) _ rfl HF5.out Tryz.underlying43 rfl (by kernel_rfl)) rfl ⟨sg * n, by rw [HFE.out]; exact (rfl : _ = _), rfl, by rw [HFE.out]; exact HR5.out⟩
                · have hbg : decide ((9007199254740991 : Int) < n) = false := by simpa using hbig
                  have hfe : fin = (numV (sg * n), ⟨q, z.e⟩) := by rw [HFIN3.out, if_neg (by rw [HB2.out]; simp; exact hqe), if_neg hbig]
                  have HFE := Lib.hid hfe
                  clear hfe
                  obtain ⟨⟨b0, b1, b2, b3, b4⟩, ⟨g0, g1, g2, g3, g4⟩, hBw⟩ := cells5 HBK7.out
                  have hmul : IntKind.i64.wrap (sg * n) = sg * n := by rcases HSG.out with h | h <;> rw [h] <;> exact IntWalk.i64_in _ (by omega)
                  have hf := set5 (.int .i64 4) (.int .i64 (sg * n)) (.string ⟨#[]⟩) (.slice none 0 0) (.slice none 0 0) HBK7.out
                  have hr5 := RdPost.set5 HP7.out (B := w.heap.size) (Nat.le_refl _) hR (.int .i64 4) (.int .i64 (sg * n)) (.string ⟨#[]⟩) (.slice none 0 0) (.slice none 0 0)
                  have HF5 := Lib.hid hf; have HR5 := Lib.hid hr5
                  clear hf hr5
                  go_wp2_with fail
                  exact bodyPost_ret (results_cell_row rfl _ _ w.heap.size 43 (numC (sg * n)).toArray (0, 0) _ rfl HF5.out Tryz.underlying43 rfl (by kernel_rfl)) rfl ⟨sg * n, by rw [HFE.out]; exact (rfl : _ = _), rfl, by rw [HFE.out]; exact HR5.out⟩
              · rw [hb2] at hany2
                have HAN2 := Lib.hid hany2; have HB2 := Lib.hid hb2
                clear hany2 hb2
                go_wp2_with fail
                refine Calls.mono HAN2.out ?_
                rintro e w7 ⟨rfl, hp7⟩
                have hbk7 := hp7.keep (B := w.heap.size) HBK6.out (by omega)
                have hp7' := RdPost.trans HP6.out hp7
                obtain ⟨l0, l1, l2, _, f1, _, hRw⟩ := hp7'.1.cells
                have HP7 := Lib.hid hp7'; have HBK7 := Lib.hid hbk7
                clear hp7 hp7' hbk7
                have hfe : fin = (numV (sg * n), St.fail ⟨q, z.e⟩ 4) := by rw [HFIN3.out]; rw [if_pos (.inr (.inl HB2.out))]
                have HFE := Lib.hid hfe
                have hfl := fail_any R s ⟨q, z.e⟩ 4 _ HP7.out.1
                have HFL := Lib.hid hfl
                clear hfe hfl
                go_wp2_with fail
                refine Calls.mono HFL.out ?_
                rintro e w9 ⟨rfl, hp9⟩
                have hbk9 := hp9.keep (B := w.heap.size) HBK7.out (by omega)
                have hp9' := RdPost.trans HP7.out hp9
                have HP9 := Lib.hid hp9'; have HBK9 := Lib.hid hbk9
                clear hp9 hp9' hbk9
                obtain ⟨⟨b0, b1, b2, b3, b4⟩, ⟨g0, g1, g2, g3, g4⟩, hBw⟩ := cells5 HBK9.out
                have hmul : IntKind.i64.wrap (sg * n) = sg * n := by rcases HSG.out with h | h <;> rw [h] <;> exact IntWalk.i64_in _ (by omega)
                have hf := set5 (.int .i64 4) (.int .i64 (sg * n)) (.string ⟨#[]⟩) (.slice none 0 0) (.slice none 0 0) HBK9.out
                have hr5 := RdPost.set5 HP9.out (B := w.heap.size) (Nat.le_refl _) hR (.int .i64 4) (.int .i64 (sg * n)) (.string ⟨#[]⟩) (.slice none 0 0) (.slice none 0 0)
                have HF5 := Lib.hid hf; have HR5 := Lib.hid hr5
                clear hf hr5
                go_wp2_with fail
                exact bodyPost_ret (results_cell_row rfl _ _ w.heap.size 43 (numC (sg * n)).toArray (0, 0) _ rfl HF5.out Tryz.underlying43 rfl (by kernel_rfl)) rfl ⟨sg * n, by rw [HFE.out]; exact (rfl : _ = _), rfl, by rw [HFE.out]; exact HR5.out⟩
          · have hdg := digit_any R s q z.e wr HR.out.1
            rw [hdb] at hdg
            have HDG := Lib.hid hdg; have HDB := Lib.hid hdb
            clear hdg
            go_wp2_with fail
            refine Calls.mono HDG.out ?_
            rintro e w6 ⟨rfl, hp6⟩
            have hbk6 := hp6.keep (B := w.heap.size) HBB.out (by omega)
            have hp6' := RdPost.trans HR.out hp6
            obtain ⟨l0, l1, l2, _, f1, _, hRw⟩ := hp6'.1.cells
            have HP6 := Lib.hid hp6'; have HBK6 := Lib.hid hbk6
            clear hp6 hp6' hbk6
            have hqb : q < s.size ∧ 48 ≤ (byteAt s q).toNat ∧ (byteAt s q).toNat ≤ 57 := by have h := HDB.out; simp [digitB, isDigit] at h; exact h
            obtain ⟨hq1, hq2, hq3⟩ := hqb
            have hgb := get_byte hq1
            have hqz : (q : Int) < (s.size : Int) := by omega
            have hq0 : (0 : Int) ≤ (q : Int) := by omega
            have hst := numLoop_step (n := n) (z := false) (fr := z.p) HDB.out rfl
            have HST := Lib.hid hst
            clear hst
            have hstq := i64_step (p := q) (by omega)
            have hmul : IntKind.i64.wrap (n * 10) = n * 10 := IntWalk.i64_in _ (by omega)
            have hadd : IntKind.i64.wrap (n * 10 + (((byteAt s q).toNat : Int) - 48)) = n * 10 + (((byteAt s q).toNat : Int) - 48) := IntWalk.i64_in _ (by omega)
            go_wp2_with fail
            go_quiet (fail)
            go_wp2_with fail
            go_roundg (s.size - (q + 1))
            case measure => omega
            case rel => exact ⟨_, q + 1, Nat.le_refl _, by omega, by omega, rfl, by omega, by omega, by rw [← HST.out]; exact HF.out, (Below.heap_setCell _ _ _ _ (by show w.heap.size ≠ R; omega)).trans HBK6.out, RdPost.set1 (RdPost.drewN HP6.out _) _⟩

      case true =>
        go_wp2_with fail
        go_quiet (fail)
        go_wp2_with fail
        go_loopg [5] (s.size - z.p) (fun gg s5 wr => ∃ (n : Int) (q : Nat), s.size - q ≤ gg ∧ z.p ≤ q ∧ q ≤ 1000002 ∧ s5 = .int .i64 n ∧ 0 ≤ n ∧ n ≤ 9007199254740992 ∧ Aside (numLoop s true z.p (s.size - q) n q = lp) ∧ Aside (wr.heap[w.heap.size]? = some (.cells #[.int .i64 0, .int .i64 0, .string ⟨#[]⟩, .slice none 0 0, .slice none 0 0] 43 (0, 0))) ∧ Aside (RdPost 148 R s q z.e w wr))
        case atStart => exact ⟨0, z.p, Nat.le_refl _, Nat.le_refl _, hypz, rfl, by omega, by omega, HLP2.out, HBK4.out, RdPost.drewN HP4.out _⟩
        case round =>
          obtain ⟨n, q, hgg, hyq, hqs, rfl, hn0, hn1, HF, HBB, HR⟩ := hrel
          clear l0 l1 l2 f1 hRw
          obtain ⟨l0, l1, l2, _, f1, _, hRw⟩ := HR.out.1.cells
          cases hdb : digitB s q
          · have hdg := digit_any R s q z.e wr HR.out.1
            rw [hdb] at hdg
            have HDG := Lib.hid hdg; have HDB := Lib.hid hdb
            clear hdg
            go_wp2_with fail
            refine Calls.mono HDG.out ?_
            rintro e w6 ⟨rfl, hp6⟩
            have hbk6 := hp6.keep (B := w.heap.size) HBB.out (by omega)
            have hp6' := RdPost.trans HR.out hp6
            obtain ⟨l0, l1, l2, _, f1, _, hRw⟩ := hp6'.1.cells
            have HP6 := Lib.hid hp6'; have HBK6 := Lib.hid hbk6
            clear hp6 hp6' hbk6
            have hlpe : lp = (n, q) := by rw [← HF.out]; exact numLoop_stop (.inl HDB.out) _
            subst hlpe
            have hfin := HFIN2.out
            simp only at hfin
            have HFIN3 := Lib.hid hfin
            clear hfin
            by_cases hqe : q = z.p
            · have hqz : ((q : Int) == (z.p : Int)) = true := by simp; omega
              have HQE := Lib.hid hqe
              clear hqe
              have hfe : fin = (numV (sg * n), St.fail ⟨q, z.e⟩ 4) := by rw [HFIN3.out]; rw [if_pos (.inl HQE.out)]
              have HFE := Lib.hid hfe
              have hfl := fail_any R s ⟨q, z.e⟩ 4 _ HP6.out.1
              have HFL := Lib.hid hfl
              clear hfe hfl
              go_wp2_with fail
              refine Calls.mono HFL.out ?_
              rintro e w9 ⟨rfl, hp9⟩
              have hbk9 := hp9.keep (B := w.heap.size) HBK6.out (by omega)
              have hp9' := RdPost.trans HP6.out hp9
              have HP9 := Lib.hid hp9'; have HBK9 := Lib.hid hbk9
              clear hp9 hp9' hbk9
              obtain ⟨⟨b0, b1, b2, b3, b4⟩, ⟨g0, g1, g2, g3, g4⟩, hBw⟩ := cells5 HBK9.out
              have hmul : IntKind.i64.wrap (sg * n) = sg * n := by rcases HSG.out with h | h <;> rw [h] <;> exact IntWalk.i64_in _ (by omega)
              have hf := set5 (.int .i64 4) (.int .i64 (sg * n)) (.string ⟨#[]⟩) (.slice none 0 0) (.slice none 0 0) HBK9.out
              have hr5 := RdPost.set5 HP9.out (B := w.heap.size) (Nat.le_refl _) hR (.int .i64 4) (.int .i64 (sg * n)) (.string ⟨#[]⟩) (.slice none 0 0) (.slice none 0 0)
              have HF5 := Lib.hid hf; have HR5 := Lib.hid hr5
              clear hf hr5
              go_wp2_with fail
              exact bodyPost_ret (results_cell_row rfl _ _ w.heap.size 43 (numC (sg * n)).toArray (0, 0) _ rfl HF5.out Tryz.underlying43 rfl (by kernel_rfl)) rfl ⟨sg * n, by rw [HFE.out]; exact (rfl : _ = _), rfl, by rw [HFE.out]; exact HR5.out⟩
            · have hqz : ((q : Int) == (z.p : Int)) = false := by simp; omega
              have hany2 := any_any R s ⟨#[46, 101, 69]⟩ q z.e _ HP6.out.1
              rw [show (⟨#[46, 101, 69]⟩ : ByteArray).data.toList = [46, 101, 69] from rfl] at hany2
              cases hb2 : anyB s [46, 101, 69] q
              · rw [hb2] at hany2
                have HAN2 := Lib.hid hany2; have HB2 := Lib.hid hb2
                clear hany2 hb2
                go_wp2_with fail
                refine Calls.mono HAN2.out ?_
                rintro e w7 ⟨rfl, hp7⟩
                have hbk7 := hp7.keep (B := w.heap.size) HBK6.out (by omega)
                have hp7' := RdPost.trans HP6.out hp7
                obtain ⟨l0, l1, l2, _, f1, _, hRw⟩ := hp7'.1.cells
                have HP7 := Lib.hid hp7'; have HBK7 := Lib.hid hbk7
                clear hp7 hp7' hbk7
                have hdg2 := digit_any R s q z.e _ HP7.out.1
                rw [HDB.out] at hdg2
                have HDG2 := Lib.hid hdg2
                clear hdg2
                go_wp2_with fail
                refine Calls.mono HDG2.out ?_
                rintro e w8 ⟨rfl, hp8⟩
                have hbk8 := hp8.keep (B := w.heap.size) HBK7.out (by omega)
                have hp8' := RdPost.trans HP7.out hp8
                obtain ⟨l0, l1, l2, _, f1, _, hRw⟩ := hp8'.1.cells
                have HP8 := Lib.hid hp8'; have HBK8 := Lib.hid hbk8
                clear hp8 hp8' hbk8
                by_cases hbig : 9007199254740991 < n
                · have hbg : decide ((9007199254740991 : Int) < n) = true := by simpa using hbig
                  have hfe : fin = (numV (sg * n), St.fail ⟨q, z.e⟩ 1) := by rw [HFIN3.out]; rw [if_neg (by rw [HB2.out, HDB.out]; simp; exact hqe), if_pos hbig]
                  have HFE := Lib.hid hfe
                  have hfl := fail_any R s ⟨q, z.e⟩ 1 _ HP8.out.1
                  have HFL := Lib.hid hfl
                  clear hfe hfl
                  go_wp2_with fail
                  refine Calls.mono HFL.out ?_
                  rintro e w9 ⟨rfl, hp9⟩
                  have hbk9 := hp9.keep (B := w.heap.size) HBK8.out (by omega)
                  have hp9' := RdPost.trans HP8.out hp9
                  have HP9 := Lib.hid hp9'; have HBK9 := Lib.hid hbk9
                  clear hp9 hp9' hbk9
                  obtain ⟨⟨b0, b1, b2, b3, b4⟩, ⟨g0, g1, g2, g3, g4⟩, hBw⟩ := cells5 HBK9.out
                  have hmul : IntKind.i64.wrap (sg * n) = sg * n := by rcases HSG.out with h | h <;> rw [h] <;> exact IntWalk.i64_in _ (by omega)
                  have hf := set5 (.int .i64 4) (.int .i64 (sg * n)) (.string ⟨#[]⟩) (.slice none 0 0) (.slice none 0 0) HBK9.out
                  have hr5 := RdPost.set5 HP9.out (B := w.heap.size) (Nat.le_refl _) hR (.int .i64 4) (.int .i64 (sg * n)) (.string ⟨#[]⟩) (.slice none 0 0) (.slice none 0 0)
                  have HF5 := Lib.hid hf; have HR5 := Lib.hid hr5
                  clear hf hr5
                  go_wp2_with fail
                  exact bodyPost_ret (results_cell_row rfl _ _ w.heap.size 43 (numC (sg * n)).toArray (0, 0) _ rfl HF5.out Tryz.underlying43 rfl (by kernel_rfl)) rfl ⟨sg * n, by rw [HFE.out]; exact (rfl : _ = _), rfl, by rw [HFE.out]; exact HR5.out⟩
                · have hbg : decide ((9007199254740991 : Int) < n) = false := by simpa using hbig
                  have hfe : fin = (numV (sg * n), ⟨q, z.e⟩) := by rw [HFIN3.out, if_neg (by rw [HB2.out, HDB.out]; simp; exact hqe), if_neg hbig]
                  have HFE := Lib.hid hfe
                  clear hfe
                  obtain ⟨⟨b0, b1, b2, b3, b4⟩, ⟨g0, g1, g2, g3, g4⟩, hBw⟩ := cells5 HBK8.out
                  have hmul : IntKind.i64.wrap (sg * n) = sg * n := by rcases HSG.out with h | h <;> rw [h] <;> exact IntWalk.i64_in _ (by omega)
                  have hf := set5 (.int .i64 4) (.int .i64 (sg * n)) (.string ⟨#[]⟩) (.slice none 0 0) (.slice none 0 0) HBK8.out
                  have hr5 := RdPost.set5 HP8.out (B := w.heap.size) (Nat.le_refl _) hR (.int .i64 4) (.int .i64 (sg * n)) (.string ⟨#[]⟩) (.slice none 0 0) (.slice none 0 0)
                  have HF5 := Lib.hid hf; have HR5 := Lib.hid hr5
                  clear hf hr5
                  go_wp2_with fail
                  exact bodyPost_ret (results_cell_row rfl _ _ w.heap.size 43 (numC (sg * n)).toArray (0, 0) _ rfl HF5.out Tryz.underlying43 rfl (by kernel_rfl)) rfl ⟨sg * n, by rw [HFE.out]; exact (rfl : _ = _), rfl, by rw [HFE.out]; exact HR5.out⟩
              · rw [hb2] at hany2
                have HAN2 := Lib.hid hany2; have HB2 := Lib.hid hb2
                clear hany2 hb2
                go_wp2_with fail
                refine Calls.mono HAN2.out ?_
                rintro e w7 ⟨rfl, hp7⟩
                have hbk7 := hp7.keep (B := w.heap.size) HBK6.out (by omega)
                have hp7' := RdPost.trans HP6.out hp7
                obtain ⟨l0, l1, l2, _, f1, _, hRw⟩ := hp7'.1.cells
                have HP7 := Lib.hid hp7'; have HBK7 := Lib.hid hbk7
                clear hp7 hp7' hbk7
                have hfe : fin = (numV (sg * n), St.fail ⟨q, z.e⟩ 4) := by rw [HFIN3.out]; rw [if_pos (.inr (.inl HB2.out))]
                have HFE := Lib.hid hfe
                have hfl := fail_any R s ⟨q, z.e⟩ 4 _ HP7.out.1
                have HFL := Lib.hid hfl
                clear hfe hfl
                go_wp2_with fail
                refine Calls.mono HFL.out ?_
                rintro e w9 ⟨rfl, hp9⟩
                have hbk9 := hp9.keep (B := w.heap.size) HBK7.out (by omega)
                have hp9' := RdPost.trans HP7.out hp9
                have HP9 := Lib.hid hp9'; have HBK9 := Lib.hid hbk9
                clear hp9 hp9' hbk9
                obtain ⟨⟨b0, b1, b2, b3, b4⟩, ⟨g0, g1, g2, g3, g4⟩, hBw⟩ := cells5 HBK9.out
                have hmul : IntKind.i64.wrap (sg * n) = sg * n := by rcases HSG.out with h | h <;> rw [h] <;> exact IntWalk.i64_in _ (by omega)
                have hf := set5 (.int .i64 4) (.int .i64 (sg * n)) (.string ⟨#[]⟩) (.slice none 0 0) (.slice none 0 0) HBK9.out
                have hr5 := RdPost.set5 HP9.out (B := w.heap.size) (Nat.le_refl _) hR (.int .i64 4) (.int .i64 (sg * n)) (.string ⟨#[]⟩) (.slice none 0 0) (.slice none 0 0)
                have HF5 := Lib.hid hf; have HR5 := Lib.hid hr5
                clear hf hr5
                go_wp2_with fail
                exact bodyPost_ret (results_cell_row rfl _ _ w.heap.size 43 (numC (sg * n)).toArray (0, 0) _ rfl HF5.out Tryz.underlying43 rfl (by kernel_rfl)) rfl ⟨sg * n, by rw [HFE.out]; exact (rfl : _ = _), rfl, by rw [HFE.out]; exact HR5.out⟩
          · have hdg := digit_any R s q z.e wr HR.out.1
            rw [hdb] at hdg
            have HDG := Lib.hid hdg; have HDB := Lib.hid hdb
            clear hdg
            go_wp2_with fail
            refine Calls.mono HDG.out ?_
            rintro e w6 ⟨rfl, hp6⟩
            have hbk6 := hp6.keep (B := w.heap.size) HBB.out (by omega)
            have hp6' := RdPost.trans HR.out hp6
            obtain ⟨l0, l1, l2, _, f1, _, hRw⟩ := hp6'.1.cells
            have HP6 := Lib.hid hp6'; have HBK6 := Lib.hid hbk6
            clear hp6 hp6' hbk6
            by_cases hzq : z.p < q
            · have hzz : decide (z.p < q) = true := by simpa using hzq
              have HZQ := Lib.hid hzq
              have hlpe : lp = (n, q) := by rw [← HF.out]; exact numLoop_stop (.inr (by simpa using HZQ.out)) _
              subst hlpe
              have hfin := HFIN2.out
              simp only at hfin
              have HFIN3 := Lib.hid hfin
              clear hfin
              by_cases hqe : q = z.p
              · exfalso; omega
              · have hqz : ((q : Int) == (z.p : Int)) = false := by simp; omega
                have hany2 := any_any R s ⟨#[46, 101, 69]⟩ q z.e _ HP6.out.1
                rw [show (⟨#[46, 101, 69]⟩ : ByteArray).data.toList = [46, 101, 69] from rfl] at hany2
                cases hb2 : anyB s [46, 101, 69] q
                · rw [hb2] at hany2
                  have HAN2 := Lib.hid hany2; have HB2 := Lib.hid hb2
                  clear hany2 hb2
                  go_wp2_with fail
                  refine Calls.mono HAN2.out ?_
                  rintro e w7 ⟨rfl, hp7⟩
                  have hbk7 := hp7.keep (B := w.heap.size) HBK6.out (by omega)
                  have hp7' := RdPost.trans HP6.out hp7
                  obtain ⟨l0, l1, l2, _, f1, _, hRw⟩ := hp7'.1.cells
                  have HP7 := Lib.hid hp7'; have HBK7 := Lib.hid hbk7
                  clear hp7 hp7' hbk7
                  have hdg2 := digit_any R s q z.e _ HP7.out.1
                  rw [HDB.out] at hdg2
                  have HDG2 := Lib.hid hdg2
                  clear hdg2
                  go_wp2_with fail
                  refine Calls.mono HDG2.out ?_
                  rintro e w8 ⟨rfl, hp8⟩
                  have hbk8 := hp8.keep (B := w.heap.size) HBK7.out (by omega)
                  have hp8' := RdPost.trans HP7.out hp8
                  obtain ⟨l0, l1, l2, _, f1, _, hRw⟩ := hp8'.1.cells
                  have HP8 := Lib.hid hp8'; have HBK8 := Lib.hid hbk8
                  clear hp8 hp8' hbk8
                  have hfe : fin = (numV (sg * n), St.fail ⟨q, z.e⟩ 4) := by rw [HFIN3.out]; rw [if_pos (by right; right; simp [HDB.out])]
                  have HFE := Lib.hid hfe
                  have hfl := fail_any R s ⟨q, z.e⟩ 4 _ HP8.out.1
                  have HFL := Lib.hid hfl
                  clear hfe hfl
                  go_wp2_with fail
                  refine Calls.mono HFL.out ?_
                  rintro e w9 ⟨rfl, hp9⟩
                  have hbk9 := hp9.keep (B := w.heap.size) HBK8.out (by omega)
                  have hp9' := RdPost.trans HP8.out hp9
                  have HP9 := Lib.hid hp9'; have HBK9 := Lib.hid hbk9
                  clear hp9 hp9' hbk9
                  obtain ⟨⟨b0, b1, b2, b3, b4⟩, ⟨g0, g1, g2, g3, g4⟩, hBw⟩ := cells5 HBK9.out
                  have hmul : IntKind.i64.wrap (sg * n) = sg * n := by rcases HSG.out with h | h <;> rw [h] <;> exact IntWalk.i64_in _ (by omega)
                  have hf := set5 (.int .i64 4) (.int .i64 (sg * n)) (.string ⟨#[]⟩) (.slice none 0 0) (.slice none 0 0) HBK9.out
                  have hr5 := RdPost.set5 HP9.out (B := w.heap.size) (Nat.le_refl _) hR (.int .i64 4) (.int .i64 (sg * n)) (.string ⟨#[]⟩) (.slice none 0 0) (.slice none 0 0)
                  have HF5 := Lib.hid hf; have HR5 := Lib.hid hr5
                  clear hf hr5
                  go_wp2_with fail
                  exact bodyPost_ret (results_cell_row rfl _ _ w.heap.size 43 (numC (sg * n)).toArray (0, 0) _ rfl HF5.out Tryz.underlying43 rfl (by kernel_rfl)) rfl ⟨sg * n, by rw [HFE.out]; exact (rfl : _ = _), rfl, by rw [HFE.out]; exact HR5.out⟩
                · rw [hb2] at hany2
                  have HAN2 := Lib.hid hany2; have HB2 := Lib.hid hb2
                  clear hany2 hb2
                  go_wp2_with fail
                  refine Calls.mono HAN2.out ?_
                  rintro e w7 ⟨rfl, hp7⟩
                  have hbk7 := hp7.keep (B := w.heap.size) HBK6.out (by omega)
                  have hp7' := RdPost.trans HP6.out hp7
                  obtain ⟨l0, l1, l2, _, f1, _, hRw⟩ := hp7'.1.cells
                  have HP7 := Lib.hid hp7'; have HBK7 := Lib.hid hbk7
                  clear hp7 hp7' hbk7
                  have hfe : fin = (numV (sg * n), St.fail ⟨q, z.e⟩ 4) := by rw [HFIN3.out]; rw [if_pos (.inr (.inl HB2.out))]
                  have HFE := Lib.hid hfe
                  have hfl := fail_any R s ⟨q, z.e⟩ 4 _ HP7.out.1
                  have HFL := Lib.hid hfl
                  clear hfe hfl
                  go_wp2_with fail
                  refine Calls.mono HFL.out ?_
                  rintro e w9 ⟨rfl, hp9⟩
                  have hbk9 := hp9.keep (B := w.heap.size) HBK7.out (by omega)
                  have hp9' := RdPost.trans HP7.out hp9
                  have HP9 := Lib.hid hp9'; have HBK9 := Lib.hid hbk9
                  clear hp9 hp9' hbk9
                  obtain ⟨⟨b0, b1, b2, b3, b4⟩, ⟨g0, g1, g2, g3, g4⟩, hBw⟩ := cells5 HBK9.out
                  have hmul : IntKind.i64.wrap (sg * n) = sg * n := by rcases HSG.out with h | h <;> rw [h] <;> exact IntWalk.i64_in _ (by omega)
                  have hf := set5 (.int .i64 4) (.int .i64 (sg * n)) (.string ⟨#[]⟩) (.slice none 0 0) (.slice none 0 0) HBK9.out
                  have hr5 := RdPost.set5 HP9.out (B := w.heap.size) (Nat.le_refl _) hR (.int .i64 4) (.int .i64 (sg * n)) (.string ⟨#[]⟩) (.slice none 0 0) (.slice none 0 0)
                  have HF5 := Lib.hid hf; have HR5 := Lib.hid hr5
                  clear hf hr5
                  go_wp2_with fail
                  exact bodyPost_ret (results_cell_row rfl _ _ w.heap.size 43 (numC (sg * n)).toArray (0, 0) _ rfl HF5.out Tryz.underlying43 rfl (by kernel_rfl)) rfl ⟨sg * n, by rw [HFE.out]; exact (rfl : _ = _), rfl, by rw [HFE.out]; exact HR5.out⟩
            · have hzz : decide ((z.p : Int) < (q : Int)) = false := by simp; omega
              have hqb : q < s.size ∧ 48 ≤ (byteAt s q).toNat ∧ (byteAt s q).toNat ≤ 57 := by have h := HDB.out; simp [digitB, isDigit] at h; exact h
              obtain ⟨hq1, hq2, hq3⟩ := hqb
              have hgb := get_byte hq1
              have hqz : (q : Int) < (s.size : Int) := by omega
              have hq0 : (0 : Int) ≤ (q : Int) := by omega
              have hst := numLoop_step (n := n) (z := true) (fr := z.p) HDB.out (by simpa using hzq)
              have HST := Lib.hid hst
              clear hst
              have hstq := i64_step (p := q) (by omega)
              have hmul : IntKind.i64.wrap (n * 10) = n * 10 := IntWalk.i64_in _ (by omega)
              have hadd : IntKind.i64.wrap (n * 10 + (((byteAt s q).toNat : Int) - 48)) = n * 10 + (((byteAt s q).toNat : Int) - 48) := IntWalk.i64_in _ (by omega)
              go_wp2_with fail
              go_quiet (fail)
              go_wp2_with fail
              go_roundg (s.size - (q + 1))
              case measure => omega
              case rel => exact ⟨_, q + 1, Nat.le_refl _, by omega, by omega, rfl, by omega, by omega, by rw [← HST.out]; exact HF.out, (Below.heap_setCell _ _ _ _ (by show w.heap.size ≠ R; omega)).trans HBK6.out, RdPost.set1 (RdPost.drewN HP6.out _) _⟩

end Go.Proofs.YtlihjmfdnkfmfaaGreatDoor
