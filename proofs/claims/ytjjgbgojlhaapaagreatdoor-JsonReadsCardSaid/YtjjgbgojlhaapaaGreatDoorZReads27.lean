/- Parts of the proof: Dr, Ex, Dw. -/
import Derived.Test.YtjjgbgojlhaapaaGreatDoorZReads25
import Derived.Test.YtjjgbgojlhaapaaGreatDoorZReads26
import Derived.Test.YtjjgbgojlhaapaaGreatDoorZReads9
import Derived.Test.YtjjgbgojlhaapaaGreatDoorZReads1
import Derived.OrdersHeld
import Derived.Deep.Quiet
import Derived.Deep.RegionHeld3
import Derived.Test.YtjjgbgojlhaapaaGreatDoorZReads11
namespace Go.Proofs.YtjjgbgojlhaapaaGreatDoor
open Go.RowKit Go.Lib

def VPostR (R : Nat) (s : ByteArray) (r : JV × St) (cs : List Value) (w : World) (z : Ending) (w' : World) : Prop := z = .returned (.agg cs.toArray) ∧ RdPost 74 R s r.2.p r.2.e w w'
set_option maxHeartbeats 2000000 in
theorem rdfail_any (R : Nat) (s : ByteArray) (x : St) (e' : Int) (w : World) (h : RdAt 74 R s x.p x.e w) :
    Calls Tryz.prog 31 #[.pointer (some ⟨R, 0, none⟩), .int .i64 e'] w (VPostR R s (zeroV, x.fail e') (kC 0) w) := by
  have hR := h.cells.2.2.2.2.2.2
  have hA : Below w.heap.size w (w.alloc (.cells #[.int .i64 0, .int .i64 0, .string ⟨#[]⟩, .slice none 0 0, .slice none 0 0] 35)) := bel_alloc (Below.refl _ _) _
  have hb0 := heap_alloc_new w (.cells #[.int .i64 0, .int .i64 0, .string ⟨#[]⟩, .slice none 0 0, .slice none 0 0] 35)
  have hp0 := RdPost.below h.post hA
  obtain ⟨p, e⟩ := x
  unfold VPostR St.fail
  simp only at *
  generalize hW : w.alloc (.cells #[.int .i64 0, .int .i64 0, .string ⟨#[]⟩, .slice none 0 0, .slice none 0 0] 35) = W at *
  obtain ⟨l0, l1, l2, f0, f1, f2, _⟩ := hp0.1.cells
  by_cases h0 : e = 0
  · subst h0
    rw [if_pos rfl]
    have hp := hp0.set2 e'
    have hbb : (W.setCell ⟨R, 2, none⟩ (.int .i64 e')).heap[w.heap.size]? = _ := (Below.heap_setCell _ _ _ _ (by show w.heap.size ≠ R; omega)).trans hb0
    have HW := Lib.hid hW
    clear hb0 hp0 hA h hW
    generalize hX : W.setCell ⟨R, 2, none⟩ (.int .i64 e') = X at *
    obtain ⟨⟨b0, b1, b2, b3, b4⟩, ⟨g0, g1, g2, g3, g4⟩, hBw2⟩ := cells5 hbb
    have hf := set5 (.int .i64 0) (.int .i64 0) (.string ⟨#[]⟩) (.slice none 0 0) (.slice none 0 0) hbb
    have hr5 := RdPost.set5 hp (B := w.heap.size) (Nat.le_refl _) hR (.int .i64 0) (.int .i64 0) (.string ⟨#[]⟩) (.slice none 0 0) (.slice none 0 0)
    have HF5 := Lib.hid hf; have HR5 := Lib.hid hr5; have HX := Lib.hid hX
    clear hf hr5 hp hbb hX
    go_enter Tryz.func31, Tryz.ntmps31
    go_upto_region 1 with (fail)
    rw [HW.out]
    go_upto_region 3 with (fail)
    rw [HX.out]
    go_wp2_with fail
    exact bodyPost_ret (results_cell_row rfl _ _ w.heap.size 35 (kC 0).toArray (0, 0) _ rfl HF5.out Tryz.underlying35 rfl (by kernel_rfl)) rfl ⟨rfl, HR5.out⟩
  · rw [if_neg h0]
    have hne : (e == 0) = false := by simpa using h0
    obtain ⟨⟨b0, b1, b2, b3, b4⟩, ⟨g0, g1, g2, g3, g4⟩, hBw2⟩ := cells5 hb0
    have hf := set5 (.int .i64 0) (.int .i64 0) (.string ⟨#[]⟩) (.slice none 0 0) (.slice none 0 0) hb0
    have hr5 := RdPost.set5 hp0 (B := w.heap.size) (Nat.le_refl _) hR (.int .i64 0) (.int .i64 0) (.string ⟨#[]⟩) (.slice none 0 0) (.slice none 0 0)
    have HF5 := Lib.hid hf; have HR5 := Lib.hid hr5; have HW := Lib.hid hW
    clear hf hr5 hp0 hb0 hA h hW h0
    go_enter Tryz.func31, Tryz.ntmps31
    go_upto_region 1 with (fail)
    rw [HW.out]
    go_wp2_with fail
    exact bodyPost_ret (results_cell_row rfl _ _ w.heap.size 35 (kC 0).toArray (0, 0) _ rfl HF5.out Tryz.underlying35 rfl (by kernel_rfl)) rfl ⟨rfl, HR5.out⟩
set_option maxHeartbeats 4000000 in
theorem rddigit_any (R : Nat) (s : ByteArray) (p : Nat) (e : Int) (w : World) (h : RdAt 74 R s p e w) :
    Calls Tryz.prog 76 #[.pointer (some ⟨R, 0, none⟩)] w fun z w' => z = .returned (.bool (digitB s p)) ∧ RdPost 74 R s p e w w' := by
  obtain ⟨l0, l1, l2, _, _, _, hRw⟩ := h.cells
  have HP := Lib.hid h.post
  clear h
  unfold digitB isDigit
  by_cases hlt : p < s.size
  · have hltz : (p : Int) < (s.size : Int) := by omega
    have hd : decide ((p : Int) < (s.size : Int)) = true := by simpa using hltz
    have hq0 : (0 : Int) ≤ (p : Int) := by omega
    have hgb := get_byte hlt
    rw [show decide (p < s.size) = true from by simpa using hlt, Bool.true_and]
    generalize byteAt s p = c at *
    by_cases h48 : 48 ≤ c.toNat
    · have d48 : decide ((48 : Int) ≤ (c.toNat : Int)) = true := by simp; omega
      rw [show decide (48 ≤ c.toNat) = true from by simpa using h48, Bool.true_and]
      have d57 : decide ((c.toNat : Int) ≤ (57 : Int)) = decide (c.toNat ≤ 57) := by rw [Bool.eq_iff_iff]; simp; omega
      generalize decide (c.toNat ≤ 57) = k at *
      go_enter Tryz.func76, Tryz.ntmps76
      go_wp2_with fail
      go_quiet (fail)
      go_wp2_with fail
      go_ret
      exact ⟨rfl, RdPost.drewN HP.out _⟩
    · have d48 : decide ((48 : Int) ≤ (c.toNat : Int)) = false := by simp; omega
      rw [show decide (48 ≤ c.toNat) = false from by simpa using h48, Bool.false_and]
      go_enter Tryz.func76, Tryz.ntmps76
      go_wp2_with fail
      go_quiet (fail)
      go_wp2_with fail
      go_ret
      exact ⟨rfl, RdPost.drewN HP.out _⟩
  · have hltz : ¬ (p : Int) < (s.size : Int) := by omega
    have hd : decide ((p : Int) < (s.size : Int)) = false := by simpa using hltz
    rw [show decide (p < s.size) = false from by simpa using hlt, Bool.false_and]
    go_enter Tryz.func76, Tryz.ntmps76
    go_wp2_with fail
    go_quiet (fail)
    go_wp2_with fail
    go_ret
    exact ⟨rfl, RdPost.drewN HP.out _⟩
theorem blank_ways : ∀ n : Fin 256, ((n.val : Int) == 32) = true ∧ isBlank (UInt8.ofNat n.val) = true ∨ ((n.val : Int) == 32) = false ∧ ((n.val : Int) == 9) = true ∧ isBlank (UInt8.ofNat n.val) = true ∨
    ((n.val : Int) == 32) = false ∧ ((n.val : Int) == 9) = false ∧ ((n.val : Int) == 10) = true ∧ isBlank (UInt8.ofNat n.val) = true ∨
    ((n.val : Int) == 32) = false ∧ ((n.val : Int) == 9) = false ∧ ((n.val : Int) == 10) = false ∧ ((n.val : Int) == 13) = true ∧ isBlank (UInt8.ofNat n.val) = true ∨
    ((n.val : Int) == 32) = false ∧ ((n.val : Int) == 9) = false ∧ ((n.val : Int) == 10) = false ∧ ((n.val : Int) == 13) = false ∧ isBlank (UInt8.ofNat n.val) = false := by decide +kernel
theorem blank_way (c : UInt8) : ((c.toNat : Int) == 32) = true ∧ isBlank c = true ∨ ((c.toNat : Int) == 32) = false ∧ ((c.toNat : Int) == 9) = true ∧ isBlank c = true ∨
    ((c.toNat : Int) == 32) = false ∧ ((c.toNat : Int) == 9) = false ∧ ((c.toNat : Int) == 10) = true ∧ isBlank c = true ∨
    ((c.toNat : Int) == 32) = false ∧ ((c.toNat : Int) == 9) = false ∧ ((c.toNat : Int) == 10) = false ∧ ((c.toNat : Int) == 13) = true ∧ isBlank c = true ∨
    ((c.toNat : Int) == 32) = false ∧ ((c.toNat : Int) == 9) = false ∧ ((c.toNat : Int) == 10) = false ∧ ((c.toNat : Int) == 13) = false ∧ isBlank c = false := by
  have h := blank_ways ⟨c.toNat, c.toNat_lt⟩
  simpa only [UInt8.ofNat_toNat] using h
set_option maxRecDepth 100000 in
set_option maxHeartbeats 16000000 in
theorem rdskip_any (R : Nat) (s : ByteArray) (x : St) (w : World) (hs : s.size ≤ 1000000) (h : RdAt 74 R s x.p x.e w) :
    Calls Tryz.prog 30 #[.pointer (some ⟨R, 0, none⟩)] w fun z w' => z = .returned (.tuple #[]) ∧ RdPost 74 R s (x.blanks s).p (x.blanks s).e w w' := by
  obtain ⟨p, e⟩ := x
  unfold St.blanks
  simp only at *
  have HP := Lib.hid h.post
  clear h
  generalize hfin : skipB s (s.size - p) p = fin at *
  have HFIN := Lib.hid hfin
  clear hfin
  go_enter Tryz.func30, Tryz.ntmps30
  go_wp2_with fail
  go_loopg [] (s.size - p) (fun gg wr => ∃ q : Nat, s.size - q ≤ gg ∧ Aside (skipB s (s.size - q) q = fin) ∧ Aside (RdPost 74 R s q e w wr))
  case atStart => exact ⟨p, Nat.le_refl _, HFIN.out, HP.out⟩
  case round =>
    obtain ⟨q, hgg, HF, HR⟩ := hrel
    obtain ⟨l0, l1, l2, f0, f1, f2, hRw⟩ := HR.out.1.cells
    by_cases hlt : q < s.size
    · have hd : decide ((q : Int) < (s.size : Int)) = true := decide_eq_true (by omega)
      have hq0 : (0 : Int) ≤ (q : Int) := by omega
      have hltz : (q : Int) < (s.size : Int) := by omega
      have hgb := get_byte hlt
      have hst := i64_step (p := q) (by omega)
      rcases blank_way (byteAt s q) with ⟨h1, hb⟩ | ⟨h1, h2, hb⟩ | ⟨h1, h2, h3, hb⟩ | ⟨h1, h2, h3, h4, hb⟩ | ⟨h1, h2, h3, h4, hb⟩
      case inr.inr.inr.inr =>
        have HE := Lib.hid (HF.out.symm.trans (skip_stop (.inr hb)))
        clear hb HF
        generalize byteAt s q = c at *
        go_wp2_with fail
        go_quiet (fail)
        go_wp2_with fail
        go_end0
        exact ⟨rfl, by rw [HE.out]; exact RdPost.drewN HR.out _⟩
      all_goals
        have HS := Lib.hid (skip_step hlt hb)
        clear hb
        generalize byteAt s q = c at *
        go_wp2_with fail
        go_quiet (fail)
        go_wp2_with fail
        go_roundg (s.size - (q + 1))
        case measure => omega
        case rel => exact ⟨q + 1, Nat.le_refl _, by rw [← HS.out]; exact HF.out, RdPost.set1 (RdPost.drewN HR.out _) (q + 1)⟩
    · have hd : decide ((q : Int) < (s.size : Int)) = false := decide_eq_false (by omega)
      have HE := Lib.hid (HF.out.symm.trans (skip_stop (.inl hlt)))
      clear HF
      go_wp2_with fail
      go_quiet (fail)
      go_wp2_with fail
      go_end0
      exact ⟨rfl, by rw [HE.out]; exact RdPost.drewN HR.out _⟩
end Go.Proofs.YtjjgbgojlhaapaaGreatDoor
namespace Go.Proofs.YtjjgbgojlhaapaaGreatDoor
open Go.RowKit Go.Lib
section
variable {P : Program} {ops : Array Oper} {Q : Exit → Act → World → Prop} {md : Region.Mode} {E : World → World → Prop}

/-- in every world later than w the operation yields v and leaves a later world -/
def QuietE (P : Program) (ops : Array Oper) (E : World → World → Prop) (o : Oper) (v : Value) (a : Act) (w : World) : Prop :=
  (Region.wanted o (yielded ops a.tmps) = true ∧ ∀ w2, E w w2 → o.quietAt P a (E w2) w2 v) ∨
  (Region.wanted o (yielded ops a.tmps) = false ∧ v = undef)
/-- a frame that reads alike for the operation -/
def SameFor (ops : Array Oper) (o : Oper) (a a' : Act) : Prop :=
  execOp a'.eval o = execOp a.eval o ∧ Region.wanted o (yielded ops a'.tmps) = Region.wanted o (yielded ops a.tmps)
theorem QuietE.same {o : Oper} {v : Value} {a a' : Act} {w : World} (hy : QuietE P ops E o v a w) (h : SameFor ops o a a') : QuietE P ops E o v a' w := by
  unfold QuietE Oper.quietAt at *
  rw [h.1, h.2]
  exact hy
theorem QuietE.later {o : Oper} {v : Value} {a : Act} {w w2 : World} (ht : ∀ a b c, E a b → E b c → E a c) (hy : QuietE P ops E o v a w) (h : E w w2) : QuietE P ops E o v a w2 :=
  hy.imp (fun ⟨h1, h2⟩ => ⟨h1, fun w3 h3 => h2 w3 (ht _ _ _ h h3)⟩) id
theorem QuietE.wpOp {i : Nat} {o : Oper} {v : Value} {a : Act} {w w2 : World} (hr : ∀ w, E w w) (hi : ops[i]? = some o) (hy : QuietE P ops E o v a w) (hE : E w w2)
    {K : Act → World → Prop} (h : ∀ w3, E w2 w3 → K (a.put o.dst v) w3) : wpOp P ops Q i K a w2 := by
  unfold Go.wpOp
  simp only [hi]
  rcases hy with ⟨hw, hv⟩ | ⟨hw, rfl⟩
  · simp only [hw, if_true]
    refine .inl ?_
    have h3 := hv w2 hE
    unfold Oper.quietAt at h3
    unfold Oper.wp
    generalize (execOp a.eval o).run P w2 = r at *
    cases r with
    | ok n w' =>
      cases n <;> simp only [Oper.quietUpon] at h3 <;> simp only [Oper.upon]
      case value u => obtain ⟨rfl, rfl⟩ := h3; exact h _ (hr _)
      case skip => obtain ⟨rfl, rfl⟩ := h3; exact h _ (hr _)
      case enter f args =>
        obtain ⟨rfl, hc⟩ := h3
        exact hc.mono fun e w'' ⟨he, hw''⟩ => by subst he; exact h _ hw''
    | halt x w' => simp only [Oper.quietUpon] at h3
  · simp only [hw, Bool.false_eq_true, if_false]; exact h _ (hr _)
/-- what another operation leaves reads alike for this one -/
theorem wpOp_same {j : Nat} {oi oj : Oper} (hj : ops[j]? = some oj) (hap : oi.apart ops oj = true) (hsi : ∀ cs b, oi.op ≠ .select cs b)
    {K : Act → World → Prop} {a : Act} {w : World} (h : wpOp P ops Q j K a w) : wpOp P ops Q j (fun a' w' => SameFor ops oi a a' ∧ K a' w') a w := by
  obtain ⟨_, _, h3⟩ := Oper.apart_spec hap
  have keep : ∀ u, SameFor ops oi a (a.put oj.dst u) := fun u => ⟨execOp_put oi hsi a oj.dst u h3, wanted_put oi a oj.dst u h3⟩
  unfold Go.wpOp at *
  simp only [hj] at *
  split
  · rename_i hw
    simp only [hw, if_true] at h
    rcases h with h | h
    case inr => exact .inr h
    refine .inl ?_
    unfold Oper.wp at *
    generalize (execOp a.eval oj).run P w = r at *
    cases r with
    | ok n w' =>
      cases n <;> simp only [Oper.upon] at h ⊢
      case value u => exact ⟨keep u, h⟩
      case skip => exact ⟨keep _, h⟩
      case defer d => exact ⟨⟨execOp_put oi hsi { a with defers := d :: a.defers } oj.dst undef h3, wanted_put oi { a with defers := d :: a.defers } oj.dst undef h3⟩, h⟩
      case enter f args =>
        refine Calls.mono h fun e w'' he => ?_
        cases e with
        | returned u => exact ⟨keep u, he⟩
        | panicked c => exact he
        | outgrown => exact he
      case row row args => exact Rows.mono h fun u w'' he => ⟨keep u, he⟩
    | halt x w' => cases x <;> simp only [Oper.upon] at h ⊢ <;> exact h
  · rename_i hw
    simp only [hw] at h
    exact ⟨keep _, h⟩

/-- whatever order is picked from here on, from every later world -/
def wpAnyE (P : Program) (md : Region.Mode) (ops : Array Oper) (Q : Exit → Act → World → Prop) (E : World → World → Prop) : Nat → Array Bool → Act → World → Prop
  | 0, listed, a, w => ∀ w2, E w w2 → Region.ready md ops listed = [] ∧ Q .normal a w2
  | fuel + 1, listed, a, w => ∀ w2, E w w2 →
    (Region.ready md ops listed = [] → Q .normal a w2) ∧
    ∀ i ∈ Region.ready md ops listed, wpOp P ops Q i (fun a' w' => E w2 w' ∧ wpAnyE P md ops Q E fuel (listed.setIfInBounds i true) a' w') a w2
theorem wpAnyE.later (ht : ∀ a b c, E a b → E b c → E a c) : ∀ {fuel : Nat} {listed : Array Bool} {a : Act} {w w2 : World}, wpAnyE P md ops Q E fuel listed a w → E w w2 → wpAnyE P md ops Q E fuel listed a w2
  | 0, _, _, _, _, h, h2 => fun w3 h3 => h w3 (ht _ _ _ h2 h3)
  | _ + 1, _, _, _, _, h, h2 => fun w3 h3 => h w3 (ht _ _ _ h2 h3)
theorem wpAny_of_E (hr : ∀ w, E w w) : ∀ (fuel : Nat) (listed : Array Bool) (a : Act) (w : World), wpAnyE P md ops Q E fuel listed a w → wpAny P md ops Q fuel listed a w
  | 0, _, _, w, h => h w (hr w)
  | fuel + 1, _, _, w, h => ⟨(h w (hr w)).1, fun i hi => wpOp_mono (fun a' w' h' => wpAny_of_E hr fuel _ a' w' h'.2) ((h w (hr w)).2 i hi)⟩
theorem wpAnyE_first (hr : ∀ w, E w w) (ht : ∀ a b c, E a b → E b c → E a c) {i : Nat} {oi : Oper} {v : Value} (hi : ops[i]? = some oi) (hsel : ∀ (j : Nat) (o : Oper) cs b, ops[j]? = some o → o.op ≠ .select cs b)
    (hQ : ∀ c a w, Q (.panic c) (a.put oi.dst v) w → Q (.panic c) a w) :
    ∀ (fuel : Nat) (listed : Array Bool) (a : Act) (w : World),
      (∀ j oj, ops[j]? = some oj → j ≠ i → listed.getD j true = false → (∀ e ∈ oj.after, Region.binds md e = true → e.on ≠ i) → oi.apart ops oj = true) →
      i ∈ Region.ready md ops listed → QuietE P ops E oi v a w →
      wpAnyE P md ops Q E fuel (listed.setIfInBounds i true) (a.put oi.dst v) w → wpAnyE P md ops Q E (fuel + 1) listed a w := by
  intro fuel
  induction fuel with
  | zero =>
    intro listed a w _ hrd hy H w2 hE
    refine ⟨fun h => (by rw [h] at hrd; cases hrd), fun j hj => ?_⟩
    by_cases hji : j = i
    · subst hji; exact hy.wpOp hr hi hE fun w3 h3 => ⟨h3, H.later ht (ht _ _ _ hE h3)⟩
    · have := ready_mono hj hji
      rw [(H w2 hE).1] at this
      cases this
  | succ fuel ih =>
    intro listed a w hfree hrd hy H w2 hE
    refine ⟨fun h => (by rw [h] at hrd; cases hrd), fun j hj => ?_⟩
    by_cases hji : j = i
    · subst hji; exact hy.wpOp hr hi hE fun w3 h3 => ⟨h3, H.later ht (ht _ _ _ hE h3)⟩
    · have h1 := (H w2 hE).2 j (ready_mono hj hji)
      obtain ⟨hjun, oj, hoj, hall⟩ := mem_ready.1 hj
      have hnot : ∀ e ∈ oj.after, Region.binds md e = true → e.on ≠ i := fun e he hb heq => by
        have h1 := hall e he hb
        have h0 := (mem_ready.1 hrd).1
        rw [heq] at h1
        rcases Nat.lt_or_ge i listed.size with h' | h'
        · simp [h'] at h0 h1; rw [h0] at h1; cases h1
        · simp [Array.getElem?_eq_none h'] at h1
      have hap := hfree j oj hoj hji hjun hnot
      have hyF : YieldsIf P ops (fun _ => False) oi v a := hy.imp (fun ⟨hw, _⟩ => ⟨hw, fun _ h => h.elim⟩) id
      have h2 := wpOp_same hoj hap (fun cs b => hsel i oi cs b hi) (wpOp_putIf hoj hap (fun cs b => hsel i oi cs b hi) (fun cs b => hsel j oj cs b hoj) hQ hyF h1)
      have hfree' : ∀ k ok, ops[k]? = some ok → k ≠ i → (listed.setIfInBounds j true).getD k true = false →
          (∀ e ∈ ok.after, Region.binds md e = true → e.on ≠ i) → oi.apart ops ok = true := fun k ok hk hki hun hno => by
        refine hfree k ok hk hki ?_ hno
        by_cases hjk : j = k
        · subst hjk; exact hjun
        · rw [getD_set_ne true hjk] at hun; exact hun
      refine wpOp_mono (fun a' w' h3 => ⟨h3.2.2.1, ih (listed.setIfInBounds j true) a' w' hfree' (ready_mono hrd (Ne.symm hji)) ((hy.later ht (ht _ _ _ hE h3.2.2.1)).same h3.1) ?_⟩) h2
      rw [Array.setIfInBounds_comm _ _ hji]
      exact h3.2.2.2
end
/-- later: what stood stands -/
def Lat (w w2 : World) : Prop := Below w.heap.size w w2
theorem Lat.refl (w : World) : Lat w w := Below.refl _ _
theorem Lat.trans (a b c : World) (h : Lat a b) (k : Lat b c) : Lat a c := Below.trans h (Below.mono k (Below.size h))
section
variable {P : Program} {ops : Array Oper} {Q : Exit → Act → World → Prop} {md : Region.Mode}
theorem wpAnyE_take {i : Nat} {oi : Oper} {v : Value} {fuel : Nat} {listed : Array Bool} {a : Act} {w : World} (hi : ops[i]? = some oi)
    (hs : Region.noSelect ops = true) (hf : Region.free md ops listed i = true) (hr : (Region.ready md ops listed).contains i = true)
    (hQ : ∀ c a w, Q (.panic c) (a.put oi.dst v) w → Q (.panic c) a w) (hy : QuietE P ops Lat oi v a w)
    (h : wpAnyE P md ops Q Lat fuel (listed.setIfInBounds i true) (a.put oi.dst v) w) : wpAnyE P md ops Q Lat (fuel + 1) listed a w :=
  wpAnyE_first Lat.refl Lat.trans hi (Region.noSelect_spec hs) hQ fuel listed a w (Region.free_spec hi hf) (by simpa using hr) hy h
/-- wanted, one value -/
theorem wpAnyE_tk (i : Nat) {oi : Oper} {v : Value} {fuel : Nat} {listed : Array Bool} {a : Act} {w : World} (hi : ops[i]? = some oi)
    (hs : Region.noSelect ops = true) (hf : Region.free md ops listed i = true) (hr : (Region.ready md ops listed).contains i = true)
    (hw : Region.wanted oi (yielded ops a.tmps) = true) (hy : ∀ w2, Lat w w2 → oi.quietAt P a (Lat w2) w2 v)
    (h : wpAnyE P md ops Q Lat fuel (listed.setIfInBounds i true) (a.put oi.dst v) w) (hQ : ∀ c a w, Q (.panic c) (a.put oi.dst v) w → Q (.panic c) a w := by exact fun _ _ _ h => h) : wpAnyE P md ops Q Lat (fuel + 1) listed a w :=
  wpAnyE_take hi hs hf hr hQ (.inl ⟨hw, hy⟩) h
/-- not wanted -/
theorem wpAnyE_sk (i : Nat) {oi : Oper} {fuel : Nat} {listed : Array Bool} {a : Act} {w : World} (hi : ops[i]? = some oi)
    (hs : Region.noSelect ops = true) (hf : Region.free md ops listed i = true) (hr : (Region.ready md ops listed).contains i = true)
    (hw : Region.wanted oi (yielded ops a.tmps) = false)
    (h : wpAnyE P md ops Q Lat fuel (listed.setIfInBounds i true) (a.put oi.dst undef) w) (hQ : ∀ c a w, Q (.panic c) (a.put oi.dst undef) w → Q (.panic c) a w := by exact fun _ _ _ h => h) : wpAnyE P md ops Q Lat (fuel + 1) listed a w :=
  wpAnyE_take hi hs hf hr hQ (.inr ⟨hw, rfl⟩) h
/-- the next operation is forced: from a later world -/
theorem wpAnyE_one {i : Nat} {o : Oper} {fuel : Nat} {listed : Array Bool} {a : Act} {w : World} (hr : Region.ready md ops listed = [i]) (ho : ops[i]? = some o)
    (h : ∀ w2, Lat w w2 → ∀ K' : Act → World → Prop, Hid (∀ a' w', Lat w2 w' → wpAnyE P md ops Q Lat fuel (listed.setIfInBounds i true) a' w' → K' a' w') → if Region.wanted o (yielded ops a.tmps) = true then Oper.wp P o a w2 K' Q else K' (a.put o.dst undef) w2) :
    wpAnyE P md ops Q Lat (fuel + 1) listed a w :=
  fun w2 h2 => ⟨fun h0 => (by rw [hr] at h0; cases h0), fun j hj => by
    rw [hr] at hj
    obtain rfl : j = i := by simpa using hj
    exact wpOp_step ho (fun K' hK => h w2 h2 K' (Lib.hid (fun a' w' h3 h4 => hK a' w' ⟨h3, h4⟩)))⟩
theorem wpAnyE_done {listed : Array Bool} {a : Act} {w : World} (hr : Region.ready md ops listed = []) (h : ∀ w2, Lat w w2 → Q .normal a w2) :
    ∀ fuel, wpAnyE P md ops Q Lat fuel listed a w
  | 0 => fun w2 h2 => ⟨hr, h w2 h2⟩
  | _ + 1 => fun w2 h2 => ⟨fun _ => h w2 h2, by rw [hr]; simp⟩
theorem wp_region_E {id : Nat} {a : Act} {w : World} (hm : P.follows .mixedOrders = true)
    (h : wpAnyE P .any ops Q Lat ops.size (Array.replicate ops.size false) a w.drew) : (Code.region id ops true).wp P Q a w :=
  wp_region_any hm (wpAny_of_E Lat.refl _ _ _ _ h)
end
end Go.Proofs.YtjjgbgojlhaapaaGreatDoor
namespace Go.Proofs.YtjjgbgojlhaapaaGreatDoor
open Go.RowKit Go.Lib

theorem open_ways : ∀ n : Fin 256, opens.contains (UInt8.ofNat n.val) = ((n.val : Int) == 34 || (n.val : Int) == 91 || (n.val : Int) == 123 || (n.val : Int) == 45 || (decide (48 ≤ (n.val : Int)) && decide ((n.val : Int) ≤ 57)) || (n.val : Int) == 116 || (n.val : Int) == 102 || (n.val : Int) == 110) := by decide +kernel
theorem open_way (c : UInt8) : opens.contains c = ((c.toNat : Int) == 34 || (c.toNat : Int) == 91 || (c.toNat : Int) == 123 || (c.toNat : Int) == 45 || (decide (48 ≤ (c.toNat : Int)) && decide ((c.toNat : Int) ≤ 57)) || (c.toNat : Int) == 116 || (c.toNat : Int) == 102 || (c.toNat : Int) == 110) := by
  have h := open_ways ⟨c.toNat, c.toNat_lt⟩
  simpa only [UInt8.ofNat_toNat] using h
theorem begins_bits : ∀ a b c d e f g h i : Bool, (a = true ∧ (a || b || c || d || (e && f) || g || h || i) = true) ∨ (a = false ∧ b = true ∧ (a || b || c || d || (e && f) || g || h || i) = true) ∨ (a = false ∧ b = false ∧ c = true ∧ (a || b || c || d || (e && f) || g || h || i) = true) ∨ (a = false ∧ b = false ∧ c = false ∧ d = true ∧ (a || b || c || d || (e && f) || g || h || i) = true) ∨
    (a = false ∧ b = false ∧ c = false ∧ d = false ∧ e = true ∧ f = true ∧ (a || b || c || d || (e && f) || g || h || i) = true) ∨ (a = false ∧ b = false ∧ c = false ∧ d = false ∧ e = true ∧ f = false ∧ g = true ∧ (a || b || c || d || (e && f) || g || h || i) = true) ∨
    (a = false ∧ b = false ∧ c = false ∧ d = false ∧ e = true ∧ f = false ∧ g = false ∧ h = true ∧ (a || b || c || d || (e && f) || g || h || i) = true) ∨ (a = false ∧ b = false ∧ c = false ∧ d = false ∧ e = true ∧ f = false ∧ g = false ∧ h = false ∧ (a || b || c || d || (e && f) || g || h || i) = i) ∨
    (a = false ∧ b = false ∧ c = false ∧ d = false ∧ e = false ∧ g = true ∧ (a || b || c || d || (e && f) || g || h || i) = true) ∨ (a = false ∧ b = false ∧ c = false ∧ d = false ∧ e = false ∧ g = false ∧ h = true ∧ (a || b || c || d || (e && f) || g || h || i) = true) ∨
    (a = false ∧ b = false ∧ c = false ∧ d = false ∧ e = false ∧ g = false ∧ h = false ∧ (a || b || c || d || (e && f) || g || h || i) = i) := by
  intro a b c d e f g h i
  cases a <;> cases b <;> cases c <;> cases d <;> cases e <;> cases f <;> cases g <;> cases h <;> simp
set_option maxRecDepth 100000 in
set_option maxHeartbeats 8000000 in
theorem begins_any (c : UInt8) (w : World) : Calls Tryz.prog 51 #[.int .u8 (c.toNat : Int)] w fun e w' => e = .returned (.bool (opens.contains c)) ∧ w' = w := by
  rw [open_way]
  generalize (c.toNat : Int) = n at *
  rcases begins_bits (n == 34) (n == 91) (n == 123) (n == 45) (decide (48 ≤ n)) (decide (n ≤ 57)) (n == 116) (n == 102) (n == 110) with ⟨a1, hr⟩ | ⟨a1, a2, hr⟩ | ⟨a1, a2, a3, hr⟩ | ⟨a1, a2, a3, a4, hr⟩ | ⟨a1, a2, a3, a4, a5, a6, hr⟩ | ⟨a1, a2, a3, a4, a5, a6, a7, hr⟩ | ⟨a1, a2, a3, a4, a5, a6, a7, a8, hr⟩ | ⟨a1, a2, a3, a4, a5, a6, a7, a8, hr⟩ | ⟨a1, a2, a3, a4, a5, a7, hr⟩ | ⟨a1, a2, a3, a4, a5, a7, a8, hr⟩ | ⟨a1, a2, a3, a4, a5, a7, a8, hr⟩
  all_goals
    rw [hr]
    clear hr
    go_enter Tryz.func51, Tryz.ntmps51
    go_wp2
    go_ret
    exact ⟨rfl, rfl⟩
set_option maxRecDepth 100000 in
set_option maxHeartbeats 8000000 in
theorem rdtext_any (R : Nat) (s : ByteArray) (x : St) (w : World) (hs : s.size ≤ 1000000) (hx : x.p ≤ s.size) (h : RdAt 74 R s x.p x.e w) :
    Calls Tryz.prog 53 #[.pointer (some ⟨R, 0, none⟩)] w fun z w' => z = .returned (.string ⟨(textD s x).1.toArray⟩) ∧ RdPost 74 R s (textD s x).2.p (textD s x).2.e w w' := by
  obtain ⟨p, e⟩ := x
  obtain ⟨l0, l1, l2, _, f1, _, hRw⟩ := h.cells
  have HP := Lib.hid h.post
  have hres : textD s ⟨p, e⟩ = if (unquoteB s p).2.2 ≠ 0 then ([], St.fail ⟨p, e⟩ (unquoteB s p).2.2) else ((unquoteB s p).1, if 8000 < (unquoteB s p).1.length then St.fail ⟨(unquoteB s p).2.1, e⟩ 3 else ⟨(unquoteB s p).2.1, e⟩) := rfl
  generalize textD s ⟨p, e⟩ = res at *
  simp only at *
  have hu := fun W => runquote_any s p W hs hx
  have hul := unquote_len s p hx
  unfold escV3 at hu
  have HU := Lib.hid hu
  clear hu h
  generalize unquoteB s p = r at *
  obtain ⟨l, q, e'⟩ := r
  simp only at *
  have HE := Lib.hid hres
  clear hres
  go_enter Tryz.func53, Tryz.ntmps53
  go_wp2_with fail
  refine wp_region_E (by kernel_rfl) ?_
  have RC : ∀ w2, Lat w.drew w2 → w2.cell? ⟨R, 0, none⟩ = some (.string s) ∧ w2.cell? ⟨R, 1, none⟩ = some (.int .i64 p) ∧ w2.cell? ⟨R, 2, none⟩ = some (.int .i64 e) := fun w2 hE => ⟨cell_later' hE l0, cell_later' hE l1, cell_later' hE l2⟩
  have HRC := Lib.hid RC
  clear RC
  have HPD := Lib.hid (show RdPost 74 R s p e w w.drew from RdPost.drew HP.out)
  clear HP l0 l1 l2 f1
  generalize hV : w.drew = V at *
  clear hV
  refine wpAnyE_tk 0 (v := ?_) rfl (by kernel_rfl) (by kernel_rfl) (by kernel_rfl) (by kernel_rfl) ?_ ?_
  rotate_left
  · intro w2 hE
    obtain ⟨q0, q1, q2⟩ := HRC.out w2 hE
    go_simp
    try (with_reducible rfl)
  try simp only [List.getElem_toArray, List.getElem_cons_zero, Act.put, List.setIfInBounds_toArray, List.set_cons_zero, List.set_cons_succ]
  refine wpAnyE_tk 1 (v := ?_) rfl (by kernel_rfl) (by kernel_rfl) (by kernel_rfl) (by kernel_rfl) ?_ ?_
  rotate_left
  · intro w2 hE
    obtain ⟨q0, q1, q2⟩ := HRC.out w2 hE
    go_simp
    try (with_reducible rfl)
  try simp only [List.getElem_toArray, List.getElem_cons_zero, List.getElem_cons_succ, Act.put, List.setIfInBounds_toArray, List.set_cons_zero, List.set_cons_succ]
  refine wpAnyE_tk 2 (v := ?_) rfl (by kernel_rfl) (by kernel_rfl) (by kernel_rfl) (by kernel_rfl) ?_ ?_
  rotate_left
  · intro w2 hE
    obtain ⟨q0, q1, q2⟩ := HRC.out w2 hE
    go_simp
    try (with_reducible rfl)
  try simp only [List.getElem_toArray, List.getElem_cons_zero, List.getElem_cons_succ, Act.put, List.setIfInBounds_toArray, List.set_cons_zero, List.set_cons_succ]
  refine wpAnyE_tk 3 (v := ?_) rfl (by kernel_rfl) (by kernel_rfl) (by kernel_rfl) (by kernel_rfl) ?_ ?_
  rotate_left
  · intro w2 hE
    obtain ⟨q0, q1, q2⟩ := HRC.out w2 hE
    go_simp
    try (with_reducible rfl)
  try simp only [List.getElem_toArray, List.getElem_cons_zero, List.getElem_cons_succ, Act.put, List.setIfInBounds_toArray, List.set_cons_zero, List.set_cons_succ]
  refine wpAnyE_tk 4 (v := ?_) rfl (by kernel_rfl) (by kernel_rfl) (by kernel_rfl) (by kernel_rfl) ?_ ?_
  rotate_left
  · intro w2 hE
    obtain ⟨q0, q1, q2⟩ := HRC.out w2 hE
    go_simp
    try (with_reducible rfl)
  try simp only [List.getElem_toArray, List.getElem_cons_zero, List.getElem_cons_succ, Act.put, List.setIfInBounds_toArray, List.set_cons_zero, List.set_cons_succ]
  refine wpAnyE_tk 5 (v := ?_) rfl (by kernel_rfl) (by kernel_rfl) (by kernel_rfl) (by kernel_rfl) ?_ ?_
  rotate_left
  · intro w2 hE
    obtain ⟨q0, q1, q2⟩ := HRC.out w2 hE
    go_simp
    try (with_reducible rfl)
  try simp only [List.getElem_toArray, List.getElem_cons_zero, List.getElem_cons_succ, Act.put, List.setIfInBounds_toArray, List.set_cons_zero, List.set_cons_succ]
  refine wpAnyE_tk 6 (v := ?_) rfl (by kernel_rfl) (by kernel_rfl) (by kernel_rfl) (by kernel_rfl) ?_ ?_
  rotate_left
  · intro w2 hE
    obtain ⟨q0, q1, q2⟩ := HRC.out w2 hE
    go_simp
    try (with_reducible rfl)
  try simp only [List.getElem_toArray, List.getElem_cons_zero, List.getElem_cons_succ, Act.put, List.setIfInBounds_toArray, List.set_cons_zero, List.set_cons_succ]
  refine wpAnyE_tk 7 (v := ?_) rfl (by kernel_rfl) (by kernel_rfl) (by kernel_rfl) (by kernel_rfl) ?_ ?_
  rotate_left
  · intro w2 hE
    obtain ⟨q0, q1, q2⟩ := HRC.out w2 hE
    go_simp
    try (with_reducible rfl)
  try simp only [List.getElem_toArray, List.getElem_cons_zero, List.getElem_cons_succ, Act.put, List.setIfInBounds_toArray, List.set_cons_zero, List.set_cons_succ]
  refine wpAnyE_tk 8 (v := ?_) rfl (by kernel_rfl) (by kernel_rfl) (by kernel_rfl) (by kernel_rfl) ?_ ?_
  rotate_left
  · intro w2 hE
    obtain ⟨q0, q1, q2⟩ := HRC.out w2 hE
    go_simp
    exact HU.out w2
  try simp only [List.getElem_toArray, List.getElem_cons_zero, List.getElem_cons_succ, Act.put, List.setIfInBounds_toArray, List.set_cons_zero, List.set_cons_succ]
  refine wpAnyE_tk 9 (v := ?_) rfl (by kernel_rfl) (by kernel_rfl) (by kernel_rfl) (by kernel_rfl) ?_ ?_
  rotate_left
  · intro w2 hE
    obtain ⟨q0, q1, q2⟩ := HRC.out w2 hE
    go_simp
    try (with_reducible rfl)
  try simp only [List.getElem_toArray, List.getElem_cons_zero, List.getElem_cons_succ, Act.put, List.setIfInBounds_toArray, List.set_cons_zero, List.set_cons_succ]
  refine wpAnyE_tk 10 (v := ?_) rfl (by kernel_rfl) (by kernel_rfl) (by kernel_rfl) (by kernel_rfl) ?_ ?_
  rotate_left
  · intro w2 hE
    obtain ⟨q0, q1, q2⟩ := HRC.out w2 hE
    go_simp
    try (with_reducible rfl)
  try simp only [List.getElem_toArray, List.getElem_cons_zero, List.getElem_cons_succ, Act.put, List.setIfInBounds_toArray, List.set_cons_zero, List.set_cons_succ]
  refine wpAnyE_tk 11 (v := ?_) rfl (by kernel_rfl) (by kernel_rfl) (by kernel_rfl) (by kernel_rfl) ?_ ?_
  rotate_left
  · intro w2 hE
    obtain ⟨q0, q1, q2⟩ := HRC.out w2 hE
    go_simp
    try (with_reducible rfl)
  try simp only [List.getElem_toArray, List.getElem_cons_zero, List.getElem_cons_succ, Act.put, List.setIfInBounds_toArray, List.set_cons_zero, List.set_cons_succ]
  refine wpAnyE_tk 12 (v := ?_) rfl (by kernel_rfl) (by kernel_rfl) (by kernel_rfl) (by kernel_rfl) ?_ ?_
  rotate_left
  · intro w2 hE
    obtain ⟨q0, q1, q2⟩ := HRC.out w2 hE
    go_simp
    try (with_reducible rfl)
  try simp only [List.getElem_toArray, List.getElem_cons_zero, List.getElem_cons_succ, Act.put, List.setIfInBounds_toArray, List.set_cons_zero, List.set_cons_succ]
  refine wpAnyE_tk 13 (v := ?_) rfl (by kernel_rfl) (by kernel_rfl) (by kernel_rfl) (by kernel_rfl) ?_ ?_
  rotate_left
  · intro w2 hE
    obtain ⟨q0, q1, q2⟩ := HRC.out w2 hE
    go_simp
    try (with_reducible rfl)
  try simp only [List.getElem_toArray, List.getElem_cons_zero, List.getElem_cons_succ, Act.put, List.setIfInBounds_toArray, List.set_cons_zero, List.set_cons_succ]
  refine wpAnyE_tk 14 (v := ?_) rfl (by kernel_rfl) (by kernel_rfl) (by kernel_rfl) (by kernel_rfl) ?_ ?_
  rotate_left
  · intro w2 hE
    obtain ⟨q0, q1, q2⟩ := HRC.out w2 hE
    go_simp
    try (with_reducible rfl)
  try simp only [List.getElem_toArray, List.getElem_cons_zero, List.getElem_cons_succ, Act.put, List.setIfInBounds_toArray, List.set_cons_zero, List.set_cons_succ]
  refine wpAnyE_tk 15 (v := ?_) rfl (by kernel_rfl) (by kernel_rfl) (by kernel_rfl) (by kernel_rfl) ?_ ?_
  rotate_left
  · intro w2 hE
    obtain ⟨q0, q1, q2⟩ := HRC.out w2 hE
    go_simp
    try (with_reducible rfl)
  try simp only [List.getElem_toArray, List.getElem_cons_zero, List.getElem_cons_succ, Act.put, List.setIfInBounds_toArray, List.set_cons_zero, List.set_cons_succ]
  refine wpAnyE_done (by kernel_rfl) (fun w6 hE6 => ?_) _
  have HP6 := Lib.hid (RdPost.below HPD.out hE6)
  clear hE6 HRC HPD HU
  by_cases he : e' = 0
  · have de : (e' != 0) = false := by simpa using he
    have hr1 : res = (l, if 8000 < l.length then St.fail ⟨q, e⟩ 3 else ⟨q, e⟩) := by rw [HE.out, if_neg (show ¬ e' ≠ 0 from fun h => h he)]
    clear he HE
    obtain ⟨l0, l1, l2, f0, f1, f2, _⟩ := HP6.out.1.cells
    have hp7 := HP6.out.set1 q
    by_cases h8 : 8000 < l.length
    · have d8 : decide (8000 < (l.length : Int)) = true := decide_eq_true (by omega)
      rw [if_pos h8] at hr1
      subst hr1
      have hf := rdfail_any R s ⟨q, e⟩ 3 _ hp7.1
      have HF := Lib.hid hf; have HP7 := Lib.hid hp7
      clear hf hp7 h8
      go_wp2_with fail
      refine Calls.mono HF.out ?_
      rintro z w8 ⟨rfl, hp8⟩
      have HP8 := Lib.hid (RdPost.trans HP7.out hp8)
      clear hp8
      go_wp2_with fail
      go_ret
      exact ⟨rfl, HP8.out⟩
    · have d8 : decide (8000 < (l.length : Int)) = false := decide_eq_false (by omega)
      rw [if_neg h8] at hr1
      subst hr1
      have HP7 := Lib.hid hp7
      clear hp7 h8
      go_wp2_with fail
      go_ret
      exact ⟨rfl, HP7.out⟩
  · have de : (e' != 0) = true := by simpa using he
    have hr1 : res = ([], St.fail ⟨p, e⟩ e') := by rw [HE.out, if_pos he]
    subst hr1
    clear HE
    have hf := rdfail_any R s ⟨p, e⟩ e' _ HP6.out.1
    have HF := Lib.hid hf
    clear hf he
    go_wp2_with fail
    refine Calls.mono HF.out ?_
    rintro z w8 ⟨rfl, hp8⟩
    have HP8 := Lib.hid (RdPost.trans HP6.out hp8)
    clear hp8
    go_wp2_with fail
    go_ret
    exact ⟨rfl, HP8.out⟩
set_option maxRecDepth 100000 in
set_option maxHeartbeats 16000000 in
theorem rdnext_any (R : Nat) (s : ByteArray) (c : UInt8) (x : St) (w : World) (hs : s.size ≤ 1000000) (hx : x.p ≤ s.size) (h : RdAt 74 R s x.p x.e w) :
    Calls Tryz.prog 75 #[.pointer (some ⟨R, 0, none⟩), .int .u8 (c.toNat : Int)] w fun z w' => z = .returned (.bool (nextD s c x).1) ∧ RdPost 74 R s (nextD s c x).2.p (nextD s c x).2.e w w' := by
  have hsk := rdskip_any R s x w hs h
  have hbl := (blanks_le hx).2
  have hres : nextD s c x = if (x.blanks s).e ≠ 0 then (false, x.blanks s) else if s.size ≤ (x.blanks s).p then (false, (x.blanks s).fail 2) else if byteAt s (x.blanks s).p ≠ 44 ∧ byteAt s (x.blanks s).p ≠ c then (false, (x.blanks s).fail 4) else (byteAt s (x.blanks s).p == 44, (x.blanks s).step) := rfl
  generalize nextD s c x = res at *
  generalize x.blanks s = y at *
  obtain ⟨q, e⟩ := y
  simp only at *
  have HSK := Lib.hid hsk
  clear hsk h
  go_enter Tryz.func75, Tryz.ntmps75
  go_wp2_with fail
  refine Calls.mono HSK.out ?_
  rintro z w1 ⟨rfl, hp1⟩
  have HP := Lib.hid hp1
  obtain ⟨l0, l1, l2, f0, f1, f2, hRw⟩ := hp1.1.cells
  clear hp1 HSK
  by_cases he : e = 0
  · subst he
    have de : ((0 : Int) != 0) = false := rfl
    rw [if_neg (show ¬ (0 : Int) ≠ 0 from fun h => h rfl)] at hres
    by_cases h1 : s.size ≤ q
    · have d1 : ((q : Int) == (s.size : Int)) = true := by simp; omega
      rw [if_pos h1] at hres
      subst hres
      have hf := fun n => rdfail_any R s ⟨q, 0⟩ 2 _ (HP.out.1.drewN n)
      have HF := Lib.hid hf
      clear hf
      go_wp2_with fail
      go_quiet (fail)
      go_wp2_with fail
      refine Calls.mono (HF.out _) ?_
      rintro z w8 ⟨rfl, hp8⟩
      have HP8 := Lib.hid (RdPost.trans (RdPost.drewN HP.out _) hp8)
      clear hp8
      go_wp2_with fail
      go_ret
      exact ⟨rfl, HP8.out⟩
    · have d1 : ((q : Int) == (s.size : Int)) = false := by simp; omega
      rw [if_neg h1] at hres
      have hq0 : (0 : Int) ≤ (q : Int) := by omega
      have hqs : (q : Int) < (s.size : Int) := by omega
      have hgb := get_byte (s := s) (q := q) (by omega)
      have hst := i64_step (p := q) (by omega)
      have hsub : (q : Int) + 1 - 1 = (q : Int) := by omega
      have hset := fun n => RdPost.set1 (RdPost.drewN HP.out n) (q + 1)
      have ee1 : ((q + 1 : Nat) : Int) = (q : Int) + 1 := by simp
      simp only [ee1] at hset
      have HSET := Lib.hid hset
      clear hset ee1
      by_cases h44 : byteAt s q = 44
      · have d44 : (((byteAt s q).toNat : Int) != 44) = false := by rw [h44]; rfl
        have e44 : (((byteAt s q).toNat : Int) == 44) = true := by rw [h44]; rfl
        have hb44 : (byteAt s q == 44) = true := by rw [h44]; rfl
        rw [if_neg (show ¬ (byteAt s q ≠ 44 ∧ byteAt s q ≠ c) from fun h => h.1 h44), hb44] at hres
        subst hres
        clear h44 hb44
        generalize byteAt s q = b at *
        go_wp2_with fail
        go_quiet (fail)
        go_wp2_with fail
        go_quiet (fail)
        go_wp2_with fail
        go_quiet (fail)
        go_wp2_with fail
        go_ret
        exact ⟨rfl, RdPost.drewN (HSET.out _) _⟩
      · have d44 : (((byteAt s q).toNat : Int) != 44) = true := by
          have : (byteAt s q).toNat ≠ 44 := fun e => h44 (UInt8.toNat.inj e)
          simp; omega
        have e44 : (((byteAt s q).toNat : Int) == 44) = false := by
          have : (byteAt s q).toNat ≠ 44 := fun e => h44 (UInt8.toNat.inj e)
          simp; omega
        have hb44 : (byteAt s q == 44) = false := by simpa using h44
        by_cases hc : byteAt s q = c
        · have dc : (((byteAt s q).toNat : Int) != (c.toNat : Int)) = false := by rw [hc]; simp
          rw [if_neg (show ¬ (byteAt s q ≠ 44 ∧ byteAt s q ≠ c) from fun h => h.2 hc), hb44] at hres
          subst hres
          clear h44 hb44 hc
          generalize byteAt s q = b at *
          go_wp2_with fail
          go_quiet (fail)
          go_wp2_with fail
          go_quiet (fail)
          go_wp2_with fail
          go_quiet (fail)
          go_wp2_with fail
          go_ret
          exact ⟨rfl, RdPost.drewN (HSET.out _) _⟩
        · have dc : (((byteAt s q).toNat : Int) != (c.toNat : Int)) = true := by
            have : (byteAt s q).toNat ≠ c.toNat := fun e => hc (UInt8.toNat.inj e)
            simp; omega
          rw [if_pos (show (byteAt s q ≠ 44 ∧ byteAt s q ≠ c) from ⟨h44, hc⟩)] at hres
          subst hres
          have hf := fun n => rdfail_any R s ⟨q, 0⟩ 4 _ (HP.out.1.drewN n)
          have HF := Lib.hid hf
          clear hf h44 hb44 hc
          generalize byteAt s q = b at *
          go_wp2_with fail
          go_quiet (fail)
          go_wp2_with fail
          go_quiet (fail)
          go_wp2_with fail
          refine Calls.mono (HF.out _) ?_
          rintro z w8 ⟨rfl, hp8⟩
          have HP8 := Lib.hid (RdPost.trans (RdPost.drewN HP.out _) hp8)
          clear hp8
          go_wp2_with fail
          go_ret
          exact ⟨rfl, HP8.out⟩
  · have de : (e != 0) = true := by simpa using he
    rw [if_pos he] at hres
    subst hres
    clear he
    go_wp2_with fail
    go_ret
    exact ⟨rfl, HP.out⟩
set_option maxRecDepth 100000 in
set_option maxHeartbeats 16000000 in
theorem rdempty_any (R : Nat) (s : ByteArray) (c : UInt8) (x : St) (w : World) (hs : s.size ≤ 1000000) (hx : x.p < s.size) (h : RdAt 74 R s x.p x.e w) :
    Calls Tryz.prog 74 #[.pointer (some ⟨R, 0, none⟩), .int .u8 (c.toNat : Int)] w fun z w' => z = .returned (.bool (emptyD s c x).1) ∧ RdPost 74 R s (emptyD s c x).2.p (emptyD s c x).2.e w w' := by
  obtain ⟨l0, l1, l2, f0, f1, f2, hRw⟩ := h.cells
  have hst := i64_step (p := x.p) (by omega)
  have hp0 := h.post.set1 (x.p + 1)
  have e1 : ((x.p + 1 : Nat) : Int) = (x.p : Int) + 1 := by simp
  rw [e1] at hp0
  have hsk := rdskip_any R s x.step _ hs hp0.1
  have hres : emptyD s c x = if (x.step.blanks s).p < s.size ∧ byteAt s (x.step.blanks s).p = c then (true, (x.step.blanks s).step) else (false, x.step.blanks s) := rfl
  generalize emptyD s c x = res at *
  generalize x.step.blanks s = y at *
  obtain ⟨q, e⟩ := y
  simp only at *
  have HSK := Lib.hid hsk; have HP0 := Lib.hid hp0
  clear hsk h hp0 e1
  go_enter Tryz.func74, Tryz.ntmps74
  go_wp2_with fail
  refine Calls.mono HSK.out ?_
  rintro z w1 ⟨rfl, hp1⟩
  have HP := Lib.hid (RdPost.trans HP0.out hp1)
  obtain ⟨l0, l1, l2, f0, f1, f2, hRw⟩ := hp1.1.cells
  clear hp1 HSK HP0 hst
  by_cases h1 : q < s.size
  · have d1 : decide ((q : Int) < (s.size : Int)) = true := decide_eq_true (by omega)
    have hq0 : (0 : Int) ≤ (q : Int) := by omega
    have hqs : (q : Int) < (s.size : Int) := by omega
    have hgb := get_byte (s := s) (q := q) h1
    have hst := i64_step (p := q) (by omega)
    by_cases hc : byteAt s q = c
    · have dc : (((byteAt s q).toNat : Int) == (c.toNat : Int)) = true := by rw [hc]; simp
      rw [if_pos (show (q < s.size ∧ byteAt s q = c) from ⟨h1, hc⟩)] at hres
      subst hres
      clear hc
      generalize byteAt s q = b at *
      go_wp2_with fail
      go_quiet (fail)
      go_wp2_with fail
      go_ret
      exact ⟨rfl, RdPost.set1 (RdPost.drewN HP.out _) (q + 1)⟩
    · have dc : (((byteAt s q).toNat : Int) == (c.toNat : Int)) = false := by
        have : (byteAt s q).toNat ≠ c.toNat := fun e => hc (UInt8.toNat.inj e)
        simp; omega
      rw [if_neg (show ¬ (q < s.size ∧ byteAt s q = c) from fun h => hc h.2)] at hres
      subst hres
      clear hc
      generalize byteAt s q = b at *
      go_wp2_with fail
      go_quiet (fail)
      go_wp2_with fail
      go_ret
      exact ⟨rfl, RdPost.drewN HP.out _⟩
  · have d1 : decide ((q : Int) < (s.size : Int)) = false := decide_eq_false (by omega)
    rw [if_neg (show ¬ (q < s.size ∧ byteAt s q = c) from fun h => h1 h.1)] at hres
    subst hres
    go_wp2_with fail
    go_quiet (fail)
    go_wp2_with fail
    go_ret
    exact ⟨rfl, RdPost.drewN HP.out _⟩
end Go.Proofs.YtjjgbgojlhaapaaGreatDoor
