/- Parts of the proof: Gn, Ex, R, Gf. -/
import Derived.Test.YtjjgbgojlhaapaaDoorZWrites25
import Derived.Test.YtjjgbgojlhaapaaDoorZWrites20
import Derived.Test.YtjjgbgojlhaapaaDoorZWrites1
import Derived.OrdersHeld
import Derived.Deep.Quiet
import Derived.Deep.RegionHeld3
import Derived.Test.YtjjgbgojlhaapaaDoorZWrites9
import Derived.Lib.BufferRead
import Derived.Laws.Rows
import Derived.Test.YtjjgbgojlhaapaaDoorZWrites24
namespace Go.Proofs.YtjjgbgojlhaapaaDoor
open Go.RowKit Go.Lib

theorem rmay_all : ∀ d : Nat, d ≤ 1000000 → RmAt d
  | 0, _ => fun x cs F w _ h => rmay_zero x cs F w h
  | d + 1, hd => fun x cs F w hsm h => by
    have e : ((d + 1 : Nat) : Int) = (d : Int) + 1 := by omega
    rw [e]
    exact rmay_succ d (by omega) (rmay_all d (by omega)) x cs F w hsm h
set_option maxRecDepth 100000 in
theorem rMay_any (x : JV) (cs : List Value) (F : Nat → Prop) (w : World) (hsm : SmJ x) (h : JR w F x cs) :
    Calls Tryd.prog 84 #[.agg cs.toArray] w fun e w' => e = .returned (.bool (mayJ 64 x)) ∧ Below w.heap.size w w' := by
  have hbA : Below w.heap.size w (w.alloc (.cells cs.toArray 87)) := bel_alloc (Below.refl _ _) _
  have hc := rmay_all 64 (by omega) x cs F _ hsm (JR_later h hbA)
  obtain ⟨A1, n1, c1, A2, n2, c2, rfl⟩ := JR_form h
  have HC := Lib.hid hc; have HB := Lib.hid hbA
  clear hc h hbA
  go_enter Tryd.func84, Tryd.ntmps84
  go_wp2_with fail
  refine Calls.mono HC.out ?_
  rintro e w2 ⟨rfl, hb⟩
  go_wp2_with fail
  go_ret
  exact ⟨rfl, bel_trans HB.out hb⟩
set_option maxRecDepth 100000 in
set_option maxHeartbeats 4000000 in
theorem rPrint_bad (x : JV) (cs : List Value) (F : Nat → Prop) (w : World) (hsm : SmJ x) (h : JR w F x cs) (hm : mayJ 64 x = false) :
    Calls Tryd.prog 67 #[.agg cs.toArray] w fun e w' => e = .returned (.tuple #[.slice none 0 0, .int .i64 4]) ∧ Below w.heap.size w w' := by
  have hbA : Below w.heap.size w (w.alloc (.cells cs.toArray 87)) := bel_alloc (Below.refl _ _) _
  have hc := rMay_any x cs F _ hsm (JR_later h hbA)
  rw [hm] at hc
  obtain ⟨A1, n1, c1, A2, n2, c2, rfl⟩ := JR_form h
  have HC := Lib.hid hc; have HB := Lib.hid hbA
  clear hc h hbA
  go_enter Tryd.func67, Tryd.ntmps67
  go_wp2_with fail
  refine Calls.mono HC.out ?_
  rintro e w2 ⟨rfl, hb⟩
  go_wp2_with fail
  go_ret2
  exact ⟨rfl, bel_trans HB.out hb⟩
set_option maxRecDepth 100000 in
set_option maxHeartbeats 4000000 in
theorem rPrint_good (x : JV) (cs : List Value) (F : Nat → Prop) (w : World) (hsm : SmJ x) (h : JR w F x cs) (hm : mayJ 64 x = true) (hlen : (printB 64 x).length ≤ 1000000000) :
    Calls Tryd.prog 67 #[.agg cs.toArray] w fun e w' => (∃ g c, e = .returned (.tuple #[.slice (some ⟨g, 0, none⟩) (printB 64 x).length c, .int .i64 0]) ∧ ((printB 64 x).length ≤ c ∧ c ≤ 9223372036854775807) ∧ ∀ j (hj : j < (printB 64 x).length), w'.cell? ((⟨g, 0, none⟩ : Addr).add j) = some (.int .u8 ((printB 64 x)[j].toNat : Int))) ∧ Below w.heap.size w w' := by
  have hbA : Below w.heap.size w (w.alloc (.cells cs.toArray 87)) := bel_alloc (Below.refl _ _) _
  have hc := rMay_any x cs F _ hsm (JR_later h hbA)
  rw [hm] at hc
  have hp := fun w0 (h0 : Below w.heap.size w w0) => print1_at 64 x cs F w0 hm (JR_later h h0) hlen
  obtain ⟨A1, n1, c1, A2, n2, c2, rfl⟩ := JR_form h
  have n0 := cell_newB w #[.int .i64 x.k, .int .i64 x.n, .string x.s, .slice A1 n1 c1, .slice A2 n2 c2] 87 0 _ rfl
  have m1 := cell_newB w #[.int .i64 x.k, .int .i64 x.n, .string x.s, .slice A1 n1 c1, .slice A2 n2 c2] 87 1 _ rfl
  have m2 := cell_newB w #[.int .i64 x.k, .int .i64 x.n, .string x.s, .slice A1 n1 c1, .slice A2 n2 c2] 87 2 _ rfl
  have m3 := cell_newB w #[.int .i64 x.k, .int .i64 x.n, .string x.s, .slice A1 n1 c1, .slice A2 n2 c2] 87 3 _ rfl
  have m4 := cell_newB w #[.int .i64 x.k, .int .i64 x.n, .string x.s, .slice A1 n1 c1, .slice A2 n2 c2] 87 4 _ rfl
  have HC := Lib.hid hc; have HB := Lib.hid hbA; have HP := Lib.hid hp; have HL := Lib.hid hlen
  clear hc h hbA hp hlen hm
  generalize printB 64 x = P at *
  go_enter Tryd.func67, Tryd.ntmps67
  go_wp2_with fail
  refine Calls.mono HC.out ?_
  rintro e w2 ⟨rfl, hb⟩
  have l0 := cell_later' hb n0
  have l1 := cell_later' hb m1
  have l2 := cell_later' hb m2
  have l3 := cell_later' hb m3
  have l4 := cell_later' hb m4
  have hz : w.heap.size < w2.heap.size := World.block_lt_of_cell? _ _ l0
  have HB2 := Lib.hid (bel_trans HB.out hb)
  clear n0 m1 m2 m3 m4 hb
  go_wp2_with fail
  refine Calls.mono (HP.out w2 HB2.out) ?_
  rintro e w4 ⟨rfl, hb4⟩
  have HB4 := Lib.hid (bel_trans HB2.out hb4)
  clear hb4
  go_wp2_with fail
  rw [run_bytes_of_string w4 _ _ 5 _ Tryd.underlying9 Tryd.underlying58 Tryd.underlying5]
  simp only [Result.andThen]
  rw [Oper.upon_value]
  have hcc := bytesRow_cell w4 P
  have hb5 := fun o => (bel_drew HB4.out).alloc (B := w.heap.size) (by have := HB4.out.size; exact this) o
  have HC5 := Lib.hid hcc; have HB5 := Lib.hid hb5
  clear hcc hb5
  go_wp2_with fail
  go_ret2
  exact ⟨⟨w4.heap.size, grownCap w4 P.length 0 5, rfl, ⟨grownCap_ge _ _ _ _, by have := grownCap_le_maxLen w4 P.length 0 5 (by have := HL.out; simp only [maxLen]; omega); simpa [maxLen] using this⟩, fun j hj => HC5.out _ _ _ j hj⟩, HB5.out _⟩
set_option maxRecDepth 100000 in
set_option maxHeartbeats 4000000 in
theorem printed_any (x : JV) (cs : List Value) (ok : Bool) (F : Nat → Prop) (w : World) (hsm : SmJ x) (h : JR w F x cs) (hlen : mayJ 64 x = true → (printB 64 x).length ≤ 1000000000) :
    Calls Tryd.prog 45 #[.agg cs.toArray, .bool ok] w fun e w' => e = .returned (.tuple #[.string (if ok && mayJ 64 x then ⟨(printB 64 x).toArray⟩ else ⟨#[]⟩), .int .i64 (if ok && mayJ 64 x then 0 else 4)]) ∧ Below w.heap.size w w' := by
  have hbA : Below w.heap.size w (w.alloc (.cells cs.toArray 87)) := bel_alloc (Below.refl _ _) _
  have hbad := rPrint_bad x cs F _ hsm (JR_later h hbA)
  have hgood := fun hm => rPrint_good x cs F _ hsm (JR_later h hbA) hm (hlen hm)
  obtain ⟨A1, n1, c1, A2, n2, c2, rfl⟩ := JR_form h
  have HB := Lib.hid hbA
  generalize mayJ 64 x = b at *
  generalize printB 64 x = P at *
  clear h hbA hsm hlen
  cases b with
  | false =>
    have hb := hbad rfl
    have HC := Lib.hid hb
    clear hbad hgood hb
    rw [Bool.and_false]
    cases ok with
    | false =>
      go_enter Tryd.func45, Tryd.ntmps45
      go_wp2_with fail
      refine Calls.mono HC.out ?_
      rintro e w2 ⟨rfl, hb⟩
      go_wp2_with fail
      go_ret2
      exact ⟨rfl, bel_trans HB.out hb⟩
    | true =>
      go_enter Tryd.func45, Tryd.ntmps45
      go_wp2_with fail
      refine Calls.mono HC.out ?_
      rintro e w2 ⟨rfl, hb⟩
      go_wp2_with fail
      go_ret2
      exact ⟨rfl, bel_trans HB.out hb⟩
  | true =>
    have hb := hgood rfl
    have HC := Lib.hid hb
    clear hbad hgood hb
    rw [Bool.and_true]
    cases ok with
    | false =>
      go_enter Tryd.func45, Tryd.ntmps45
      go_wp2_with fail
      refine Calls.mono HC.out ?_
      rintro e w2 ⟨⟨g, c', rfl, _, _⟩, hb⟩
      go_wp2_with fail
      go_ret2
      exact ⟨rfl, bel_trans HB.out hb⟩
    | true =>
      go_enter Tryd.func45, Tryd.ntmps45
      go_wp2_with fail
      refine Calls.mono HC.out ?_
      rintro e w2 ⟨⟨g, c', rfl, _, hc⟩, hb⟩
      have hcv := run_convert_bytes_back w2 58 9 5 ⟨g, 0, none⟩ c' P Tryd.underlying58 Tryd.underlying5 Tryd.underlying9 hc
      have HV := Lib.hid hcv
      clear hc hcv
      go_wp2_with fail
      rw [HV.out]
      simp only [Result.andThen]
      rw [Oper.upon_value]
      go_wp2_with fail
      go_ret2
      exact ⟨rfl, bel_trans HB.out hb⟩
end Go.Proofs.YtjjgbgojlhaapaaDoor
namespace Go.Proofs.YtjjgbgojlhaapaaDoor
open Go.RowKit Go.Lib
section
variable {P : Program} {ops : Array Oper} {Q : Exit → Act → World → Prop} {md : Region.Mode} {E : World → World → Prop}

/-- in every world later than w the operation yields v and leaves a later world -/
def QuietE (P : Program) (ops : Array Oper) (E : World → World → Prop) (o : Oper) (v : Value) (a : Act) (w : World) : Prop :=
  (Region.wanted o (yielded ops a.tmps) = true ∧ ∀ w2, E w w2 → o.quietAt P a (E w2) w2 v) ∨
  (Region.wanted o (yielded ops a.tmps) = false ∧ v = undef)
/-- a frame that reads alike for the operation -/
def SameFor (ops : Array Oper) (o : Oper) (a a' : Act) : Prop :=
  execOp a'.eval o = execOp a.eval o ∧ Region.wanted o (yielded ops a'.tmps) = Region.wanted o (yielded ops a.tmps)
theorem QuietE.same {o : Oper} {v : Value} {a a' : Act} {w : World} (hy : QuietE P ops E o v a w) (h : SameFor ops o a a') : QuietE P ops E o v a' w := by
  unfold QuietE Oper.quietAt at *
  rw [h.1, h.2]
  exact hy
theorem QuietE.later {o : Oper} {v : Value} {a : Act} {w w2 : World} (ht : ∀ a b c, E a b → E b c → E a c) (hy : QuietE P ops E o v a w) (h : E w w2) : QuietE P ops E o v a w2 :=
  hy.imp (fun ⟨h1, h2⟩ => ⟨h1, fun w3 h3 => h2 w3 (ht _ _ _ h h3)⟩) id
theorem QuietE.wpOp {i : Nat} {o : Oper} {v : Value} {a : Act} {w w2 : World} (hr : ∀ w, E w w) (hi : ops[i]? = some o) (hy : QuietE P ops E o v a w) (hE : E w w2)
    {K : Act → World → Prop} (h : ∀ w3, E w2 w3 → K (a.put o.dst v) w3) : wpOp P ops Q i K a w2 := by
  unfold Go.wpOp
  simp only [hi]
  rcases hy with ⟨hw, hv⟩ | ⟨hw, rfl⟩
  · simp only [hw, if_true]
    refine .inl ?_
    have h3 := hv w2 hE
    unfold Oper.quietAt at h3
    unfold Oper.wp
    generalize (execOp a.eval o).run P w2 = r at *
    cases r with
    | ok n w' =>
      cases n <;> simp only [Oper.quietUpon] at h3 <;> simp only [Oper.upon]
      case value u => obtain ⟨rfl, rfl⟩ := h3; exact h _ (hr _)
      case skip => obtain ⟨rfl, rfl⟩ := h3; exact h _ (hr _)
      case enter f args =>
        obtain ⟨rfl, hc⟩ := h3
        exact hc.mono fun e w'' ⟨he, hw''⟩ => by subst he; exact h _ hw''
    | halt x w' => simp only [Oper.quietUpon] at h3
  · simp only [hw, Bool.false_eq_true, if_false]; exact h _ (hr _)
/-- what another operation leaves reads alike for this one -/
theorem wpOp_same {j : Nat} {oi oj : Oper} (hj : ops[j]? = some oj) (hap : oi.apart ops oj = true) (hsi : ∀ cs b, oi.op ≠ .select cs b)
    {K : Act → World → Prop} {a : Act} {w : World} (h : wpOp P ops Q j K a w) : wpOp P ops Q j (fun a' w' => SameFor ops oi a a' ∧ K a' w') a w := by
  obtain ⟨_, _, h3⟩ := Oper.apart_spec hap
  have keep : ∀ u, SameFor ops oi a (a.put oj.dst u) := fun u => ⟨execOp_put oi hsi a oj.dst u h3, wanted_put oi a oj.dst u h3⟩
  unfold Go.wpOp at *
  simp only [hj] at *
  split
  · rename_i hw
    simp only [hw, if_true] at h
    rcases h with h | h
    case inr => exact .inr h
    refine .inl ?_
    unfold Oper.wp at *
    generalize (execOp a.eval oj).run P w = r at *
    cases r with
    | ok n w' =>
      cases n <;> simp only [Oper.upon] at h ⊢
      case value u => exact ⟨keep u, h⟩
      case skip => exact ⟨keep _, h⟩
      case defer d => exact ⟨⟨execOp_put oi hsi { a with defers := d :: a.defers } oj.dst undef h3, wanted_put oi { a with defers := d :: a.defers } oj.dst undef h3⟩, h⟩
      case enter f args =>
        refine Calls.mono h fun e w'' he => ?_
        cases e with
        | returned u => exact ⟨keep u, he⟩
        | panicked c => exact he
        | outgrown => exact he
      case row row args => exact Rows.mono h fun u w'' he => ⟨keep u, he⟩
    | halt x w' => cases x <;> simp only [Oper.upon] at h ⊢ <;> exact h
  · rename_i hw
    simp only [hw] at h
    exact ⟨keep _, h⟩

/-- whatever order is picked from here on, from every later world -/
def wpAnyE (P : Program) (md : Region.Mode) (ops : Array Oper) (Q : Exit → Act → World → Prop) (E : World → World → Prop) : Nat → Array Bool → Act → World → Prop
  | 0, listed, a, w => ∀ w2, E w w2 → Region.ready md ops listed = [] ∧ Q .normal a w2
  | fuel + 1, listed, a, w => ∀ w2, E w w2 →
    (Region.ready md ops listed = [] → Q .normal a w2) ∧
    ∀ i ∈ Region.ready md ops listed, wpOp P ops Q i (fun a' w' => E w2 w' ∧ wpAnyE P md ops Q E fuel (listed.setIfInBounds i true) a' w') a w2
theorem wpAnyE.later (ht : ∀ a b c, E a b → E b c → E a c) : ∀ {fuel : Nat} {listed : Array Bool} {a : Act} {w w2 : World}, wpAnyE P md ops Q E fuel listed a w → E w w2 → wpAnyE P md ops Q E fuel listed a w2
  | 0, _, _, _, _, h, h2 => fun w3 h3 => h w3 (ht _ _ _ h2 h3)
  | _ + 1, _, _, _, _, h, h2 => fun w3 h3 => h w3 (ht _ _ _ h2 h3)
theorem wpAny_of_E (hr : ∀ w, E w w) : ∀ (fuel : Nat) (listed : Array Bool) (a : Act) (w : World), wpAnyE P md ops Q E fuel listed a w → wpAny P md ops Q fuel listed a w
  | 0, _, _, w, h => h w (hr w)
  | fuel + 1, _, _, w, h => ⟨(h w (hr w)).1, fun i hi => wpOp_mono (fun a' w' h' => wpAny_of_E hr fuel _ a' w' h'.2) ((h w (hr w)).2 i hi)⟩
theorem wpAnyE_first (hr : ∀ w, E w w) (ht : ∀ a b c, E a b → E b c → E a c) {i : Nat} {oi : Oper} {v : Value} (hi : ops[i]? = some oi) (hsel : ∀ (j : Nat) (o : Oper) cs b, ops[j]? = some o → o.op ≠ .select cs b)
    (hQ : ∀ c a w, Q (.panic c) (a.put oi.dst v) w → Q (.panic c) a w) :
    ∀ (fuel : Nat) (listed : Array Bool) (a : Act) (w : World),
      (∀ j oj, ops[j]? = some oj → j ≠ i → listed.getD j true = false → (∀ e ∈ oj.after, Region.binds md e = true → e.on ≠ i) → oi.apart ops oj = true) →
      i ∈ Region.ready md ops listed → QuietE P ops E oi v a w →
      wpAnyE P md ops Q E fuel (listed.setIfInBounds i true) (a.put oi.dst v) w → wpAnyE P md ops Q E (fuel + 1) listed a w := by
  intro fuel
  induction fuel with
  | zero =>
    intro listed a w _ hrd hy H w2 hE
    refine ⟨fun h => (by rw [h] at hrd; cases hrd), fun j hj => ?_⟩
    by_cases hji : j = i
    · subst hji; exact hy.wpOp hr hi hE fun w3 h3 => ⟨h3, H.later ht (ht _ _ _ hE h3)⟩
    · have := ready_mono hj hji
      rw [(H w2 hE).1] at this
      cases this
  | succ fuel ih =>
    intro listed a w hfree hrd hy H w2 hE
    refine ⟨fun h => (by rw [h] at hrd; cases hrd), fun j hj => ?_⟩
    by_cases hji : j = i
    · subst hji; exact hy.wpOp hr hi hE fun w3 h3 => ⟨h3, H.later ht (ht _ _ _ hE h3)⟩
    · have h1 := (H w2 hE).2 j (ready_mono hj hji)
      obtain ⟨hjun, oj, hoj, hall⟩ := mem_ready.1 hj
      have hnot : ∀ e ∈ oj.after, Region.binds md e = true → e.on ≠ i := fun e he hb heq => by
        have h1 := hall e he hb
        have h0 := (mem_ready.1 hrd).1
        rw [heq] at h1
        rcases Nat.lt_or_ge i listed.size with h' | h'
        · simp [h'] at h0 h1; rw [h0] at h1; cases h1
        · simp [Array.getElem?_eq_none h'] at h1
      have hap := hfree j oj hoj hji hjun hnot
      have hyF : YieldsIf P ops (fun _ => False) oi v a := hy.imp (fun ⟨hw, _⟩ => ⟨hw, fun _ h => h.elim⟩) id
      have h2 := wpOp_same hoj hap (fun cs b => hsel i oi cs b hi) (wpOp_putIf hoj hap (fun cs b => hsel i oi cs b hi) (fun cs b => hsel j oj cs b hoj) hQ hyF h1)
      have hfree' : ∀ k ok, ops[k]? = some ok → k ≠ i → (listed.setIfInBounds j true).getD k true = false →
          (∀ e ∈ ok.after, Region.binds md e = true → e.on ≠ i) → oi.apart ops ok = true := fun k ok hk hki hun hno => by
        refine hfree k ok hk hki ?_ hno
        by_cases hjk : j = k
        · subst hjk; exact hjun
        · rw [getD_set_ne true hjk] at hun; exact hun
      refine wpOp_mono (fun a' w' h3 => ⟨h3.2.2.1, ih (listed.setIfInBounds j true) a' w' hfree' (ready_mono hrd (Ne.symm hji)) ((hy.later ht (ht _ _ _ hE h3.2.2.1)).same h3.1) ?_⟩) h2
      rw [Array.setIfInBounds_comm _ _ hji]
      exact h3.2.2.2
end
/-- later: what stood stands -/
def Lat (w w2 : World) : Prop := Below w.heap.size w w2
theorem Lat.refl (w : World) : Lat w w := Below.refl _ _
theorem Lat.trans (a b c : World) (h : Lat a b) (k : Lat b c) : Lat a c := Below.trans h (Below.mono k (Below.size h))
section
variable {P : Program} {ops : Array Oper} {Q : Exit → Act → World → Prop} {md : Region.Mode}
theorem wpAnyE_take {i : Nat} {oi : Oper} {v : Value} {fuel : Nat} {listed : Array Bool} {a : Act} {w : World} (hi : ops[i]? = some oi)
    (hs : Region.noSelect ops = true) (hf : Region.free md ops listed i = true) (hr : (Region.ready md ops listed).contains i = true)
    (hQ : ∀ c a w, Q (.panic c) (a.put oi.dst v) w → Q (.panic c) a w) (hy : QuietE P ops Lat oi v a w)
    (h : wpAnyE P md ops Q Lat fuel (listed.setIfInBounds i true) (a.put oi.dst v) w) : wpAnyE P md ops Q Lat (fuel + 1) listed a w :=
  wpAnyE_first Lat.refl Lat.trans hi (Region.noSelect_spec hs) hQ fuel listed a w (Region.free_spec hi hf) (by simpa using hr) hy h
/-- wanted, one value -/
theorem wpAnyE_tk (i : Nat) {oi : Oper} {v : Value} {fuel : Nat} {listed : Array Bool} {a : Act} {w : World} (hi : ops[i]? = some oi)
    (hs : Region.noSelect ops = true) (hf : Region.free md ops listed i = true) (hr : (Region.ready md ops listed).contains i = true)
    (hw : Region.wanted oi (yielded ops a.tmps) = true) (hy : ∀ w2, Lat w w2 → oi.quietAt P a (Lat w2) w2 v)
    (h : wpAnyE P md ops Q Lat fuel (listed.setIfInBounds i true) (a.put oi.dst v) w) (hQ : ∀ c a w, Q (.panic c) (a.put oi.dst v) w → Q (.panic c) a w := by exact fun _ _ _ h => h) : wpAnyE P md ops Q Lat (fuel + 1) listed a w :=
  wpAnyE_take hi hs hf hr hQ (.inl ⟨hw, hy⟩) h
/-- not wanted -/
theorem wpAnyE_sk (i : Nat) {oi : Oper} {fuel : Nat} {listed : Array Bool} {a : Act} {w : World} (hi : ops[i]? = some oi)
    (hs : Region.noSelect ops = true) (hf : Region.free md ops listed i = true) (hr : (Region.ready md ops listed).contains i = true)
    (hw : Region.wanted oi (yielded ops a.tmps) = false)
    (h : wpAnyE P md ops Q Lat fuel (listed.setIfInBounds i true) (a.put oi.dst undef) w) (hQ : ∀ c a w, Q (.panic c) (a.put oi.dst undef) w → Q (.panic c) a w := by exact fun _ _ _ h => h) : wpAnyE P md ops Q Lat (fuel + 1) listed a w :=
  wpAnyE_take hi hs hf hr hQ (.inr ⟨hw, rfl⟩) h
/-- the next operation is forced: from a later world -/
theorem wpAnyE_one {i : Nat} {o : Oper} {fuel : Nat} {listed : Array Bool} {a : Act} {w : World} (hr : Region.ready md ops listed = [i]) (ho : ops[i]? = some o)
    (h : ∀ w2, Lat w w2 → ∀ K' : Act → World → Prop, Hid (∀ a' w', Lat w2 w' → wpAnyE P md ops Q Lat fuel (listed.setIfInBounds i true) a' w' → K' a' w') → if Region.wanted o (yielded ops a.tmps) = true then Oper.wp P o a w2 K' Q else K' (a.put o.dst undef) w2) :
    wpAnyE P md ops Q Lat (fuel + 1) listed a w :=
  fun w2 h2 => ⟨fun h0 => (by rw [hr] at h0; cases h0), fun j hj => by
    rw [hr] at hj
    obtain rfl : j = i := by simpa using hj
    exact wpOp_step ho (fun K' hK => h w2 h2 K' (Lib.hid (fun a' w' h3 h4 => hK a' w' ⟨h3, h4⟩)))⟩
theorem wpAnyE_done {listed : Array Bool} {a : Act} {w : World} (hr : Region.ready md ops listed = []) (h : ∀ w2, Lat w w2 → Q .normal a w2) :
    ∀ fuel, wpAnyE P md ops Q Lat fuel listed a w
  | 0 => fun w2 h2 => ⟨hr, h w2 h2⟩
  | _ + 1 => fun w2 h2 => ⟨fun _ => h w2 h2, by rw [hr]; simp⟩
theorem wp_region_E {id : Nat} {a : Act} {w : World} (hm : P.follows .mixedOrders = true)
    (h : wpAnyE P .any ops Q Lat ops.size (Array.replicate ops.size false) a w.drew) : (Code.region id ops true).wp P Q a w :=
  wp_region_any hm (wpAny_of_E Lat.refl _ _ _ _ h)
end
end Go.Proofs.YtjjgbgojlhaapaaDoor
namespace Go.Proofs.YtjjgbgojlhaapaaDoor
open Go.RowKit Go.Lib

theorem number_any (n : Int) (w : World) : Calls Tryd.prog 39 #[.int .i64 n] w fun e w' => e = .returned (.agg (numC n).toArray) ∧ Below w.heap.size w w' := by
  go_enter Tryd.func39, Tryd.ntmps39
  go_wp2_with fail
  exact bodyPost_ret (results_cell_row rfl _ _ w.heap.size 55 (numC n).toArray (0, 0) _ rfl (heap_alloc_new w _) Tryd.underlying55 rfl (by kernel_rfl)) rfl ⟨rfl, bel_alloc (Below.refl _ _) _⟩

theorem words_any (s : ByteArray) (w : World) : Calls Tryd.prog 44 #[.string s] w fun e w' => e = .returned (.agg (wordC s).toArray) ∧ Below w.heap.size w w' := by
  go_enter Tryd.func44, Tryd.ntmps44
  go_wp2_with fail
  exact bodyPost_ret (results_cell_row rfl _ _ w.heap.size 55 (wordC s).toArray (0, 0) _ rfl (heap_alloc_new w _) Tryd.underlying55 rfl (by kernel_rfl)) rfl ⟨rfl, bel_alloc (Below.refl _ _) _⟩

theorem part_any (s t : ByteArray) (k n : Int) (A1 A2 : Option Addr) (n1 c1 n2 c2 : Nat) (w : World) : Calls Tryd.prog 41 #[.string s, .agg #[.int .i64 k, .int .i64 n, .string t, .slice A1 n1 c1, .slice A2 n2 c2]] w fun z w' => z = .returned (.agg #[.string s, .int .i64 k, .int .i64 n, .string t, .slice A1 n1 c1, .slice A2 n2 c2]) ∧ Below w.heap.size w w' := by
  go_enter Tryd.func41, Tryd.ntmps41
  go_wp2_with fail
  exact bodyPost_ret (results_cell_row rfl _ _ (w.heap.size + 1) 78 #[.string s, .int .i64 k, .int .i64 n, .string t, .slice A1 n1 c1, .slice A2 n2 c2] (0, 0) _ rfl (heap_alloc2_new w _ _) Tryd.underlying78 rfl (by kernel_rfl)) rfl ⟨rfl, bel_alloc (bel_alloc (Below.refl _ _) _) _⟩

set_option maxRecDepth 100000 in
set_option maxHeartbeats 1000000 in
theorem rprint_any (v : Value) (ms : List (ByteArray × JV)) (F : Nat → Prop) (w : World) (h : Sl memTy w F v ms) (hT : Tabs w) (hlen : mayJ 64 (.mk 7 0 ⟨#[]⟩ [] ms) = true → (printB 64 (.mk 7 0 ⟨#[]⟩ [] ms)).length ≤ 140737488355328) :
    Calls Tryd.prog 40 #[.bool true, v] w fun e w' => e = .returned (.tuple #[.string (if mayJ 64 (.mk 7 0 ⟨#[]⟩ [] ms) then ⟨(printB 64 (.mk 7 0 ⟨#[]⟩ [] ms)).toArray⟩ else ⟨#[]⟩), .int .i64 (if mayJ 64 (.mk 7 0 ⟨#[]⟩ [] ms) then 0 else 4)]) ∧ Below w.heap.size w w' := by
  have hj : JR w F (.mk 7 0 ⟨#[]⟩ [] ms) [.int .i64 7, .int .i64 0, .string ⟨#[]⟩, .slice none 0 0, v] := JR_iff.2 ⟨.slice none 0 0, v, ⟨rfl, by simp [JV.s, ByteArray.size]⟩, .inl ⟨rfl, none, 0, rfl⟩, h⟩
  have hbad := Print_bad _ _ F w hj hT
  have hgood := fun hm => Print_good _ _ F w hj hT hm (hlen hm)
  obtain ⟨A, c, rfl⟩ := h.form
  generalize mayJ 64 (.mk 7 0 ⟨#[]⟩ [] ms) = b at *
  generalize printB 64 (.mk 7 0 ⟨#[]⟩ [] ms) = P at *
  clear hj h hT
  cases b with
  | false =>
    have hb := hbad rfl
    have HB := Lib.hid hb
    clear hbad hgood hb
    go_enter Tryd.func40, Tryd.ntmps40
    go_wp2_with fail
    refine Calls.mono HB.out ?_
    rintro e w2 ⟨rfl, hb⟩
    go_wp2_with fail
    rw [Lib.run_convert_nil_bytes w2 58 9 5 0 Tryd.underlying58 Tryd.underlying5 Tryd.underlying9]
    simp only [Result.andThen]
    rw [Oper.upon_value]
    go_wp2_with fail
    go_ret2
    exact ⟨rfl, hb⟩
  | true =>
    have hb := hgood rfl
    have HB := Lib.hid hb
    clear hbad hgood hb
    go_enter Tryd.func40, Tryd.ntmps40
    go_wp2_with fail
    refine Calls.mono HB.out ?_
    rintro e w2 ⟨⟨g, c', rfl, hc⟩, hb⟩
    have hcv := run_convert_bytes_back w2 58 9 5 ⟨g, 0, none⟩ c' P Tryd.underlying58 Tryd.underlying5 Tryd.underlying9 hc
    have HC := Lib.hid hcv
    clear hc hcv
    go_wp2_with fail
    rw [HC.out]
    simp only [Result.andThen]
    rw [Oper.upon_value]
    go_wp2_with fail
    go_ret2
    exact ⟨rfl, hb⟩
end Go.Proofs.YtjjgbgojlhaapaaDoor
namespace Go.Proofs.YtjjgbgojlhaapaaDoor
open Go.RowKit Go.Lib

theorem rnumber (n : Int) (w : World) : Calls Tryd.prog 47 #[.int .i64 n] w fun e w' => e = .returned (.agg #[.int .i64 4, .int .i64 n, .string ⟨#[]⟩, .slice none 0 0, .slice none 0 0]) ∧ Below w.heap.size w w' := by
  go_enter Tryd.func47, Tryd.ntmps47
  go_wp2_with fail
  exact bodyPost_ret (results_cell_row rfl _ _ w.heap.size 87 #[.int .i64 4, .int .i64 n, .string ⟨#[]⟩, .slice none 0 0, .slice none 0 0] (0, 0) _ rfl (heap_alloc_new w _) Tryd.underlying87 rfl (by kernel_rfl)) rfl ⟨rfl, bel_alloc (Below.refl _ _) _⟩
theorem rtext (s : ByteArray) (w : World) : Calls Tryd.prog 48 #[.string s] w fun e w' => e = .returned (.agg #[.int .i64 5, .int .i64 0, .string s, .slice none 0 0, .slice none 0 0]) ∧ Below w.heap.size w w' := by
  go_enter Tryd.func48, Tryd.ntmps48
  go_wp2_with fail
  exact bodyPost_ret (results_cell_row rfl _ _ w.heap.size 87 #[.int .i64 5, .int .i64 0, .string s, .slice none 0 0, .slice none 0 0] (0, 0) _ rfl (heap_alloc_new w _) Tryd.underlying87 rfl (by kernel_rfl)) rfl ⟨rfl, bel_alloc (Below.refl _ _) _⟩
theorem robject (A : Option Addr) (n c : Nat) (w : World) : Calls Tryd.prog 46 #[.slice A n c] w fun e w' => e = .returned (.agg #[.int .i64 7, .int .i64 0, .string ⟨#[]⟩, .slice none 0 0, .slice A n c]) ∧ Below w.heap.size w w' := by
  go_enter Tryd.func46, Tryd.ntmps46
  go_wp2_with fail
  exact bodyPost_ret (results_cell_row rfl _ _ w.heap.size 87 #[.int .i64 7, .int .i64 0, .string ⟨#[]⟩, .slice none 0 0, .slice A n c] (0, 0) _ rfl (heap_alloc_new w _) Tryd.underlying87 rfl (by kernel_rfl)) rfl ⟨rfl, bel_alloc (Below.refl _ _) _⟩
def short5R (s : ByteArray) : Bool := decide (s.size ≤ 500) && validB s
theorem rshort (s : ByteArray) (hs : s.size ≤ 1000000000) (w : World) : Calls Tryd.prog 49 #[.string s] w fun e w' => e = .returned (.bool (short5R s)) ∧ Below w.heap.size w w' := by
  have hv := valid_ref s hs
  unfold short5R
  have HV := Lib.hid hv
  clear hv
  generalize validB s = b at *
  by_cases h : s.size ≤ 500
  · have h1 : decide ((s.size : Int) ≤ 500) = true := decide_eq_true (by omega)
    have h2 : decide (s.size ≤ 500) = true := decide_eq_true h
    rw [h2, Bool.true_and]
    go_enter Tryd.func49, Tryd.ntmps49
    go_wp2_with fail
    refine Calls.mono (HV.out _) ?_
    rintro e w2 ⟨rfl, hw⟩
    replace hw := hw.symm
    subst hw
    go_wp2_with fail
    go_ret
    exact ⟨rfl, Below.refl _ _⟩
  · have h1 : decide ((s.size : Int) ≤ 500) = false := decide_eq_false (by omega)
    have h2 : decide (s.size ≤ 500) = false := decide_eq_false h
    rw [h2, Bool.false_and]
    go_enter Tryd.func49, Tryd.ntmps49
    go_wp2_with fail
    go_ret
    exact ⟨rfl, Below.refl _ _⟩
def nmN : ByteArray := ⟨#[110]⟩
def nmTitle : ByteArray := ⟨#[116, 105, 116, 108, 101]⟩
def feedO (n : Int) (t : ByteArray) : JV := .mk 7 0 ⟨#[]⟩ [] [(nmN, numV n), (nmTitle, wordV t)]
def putB (ok : Bool) (x : JV) : Value := .tuple #[.string (if ok && mayJ 64 x then ⟨(printB 64 x).toArray⟩ else ⟨#[]⟩), .int .i64 (if ok && mayJ 64 x then 0 else 4)]
def feedOk (n : Int) (t : ByteArray) : Bool := decide (0 ≤ n) && decide (n ≤ 1000000) && short5R t
/-- a row of members, new -/
theorem new_members {T : TypeId} (w : World) (ms : List (ByteArray × JV)) (cs : List Value) (hn : ms.length ≤ 1000) (h : ∀ W, Chunks memTy W (fun _ => True) ms cs) :
    Sl memTy (w.alloc (.cells cs.toArray T)) (fun _ => True) (.slice (some ⟨w.heap.size, 0, none⟩) ms.length ms.length) ms :=
  .inr ⟨_, 0, _, rfl, trivial, Nat.le_refl _, by omega, _, h _, fun j u hj => by
    rw [Nat.zero_add]; exact cell_newB _ _ _ _ _ (by simpa using hj)⟩
theorem mem_chunk {W : World} (a : ByteArray) (x : JV) (c : List Value) (ha : a.size ≤ 9223372036854775807) (h : JR W (fun _ => True) x c) : Chunks memTy W (fun _ => True) [(a, x)] (.string a :: c) :=
  Chunks.single (T := memTy) ⟨c, ⟨rfl, ha⟩, h⟩
/-- an object of such members -/
theorem obj_jr {w : World} {F : Nat → Prop} {v : Value} {ms : List (ByteArray × JV)} (h : Sl memTy w F v ms) : JR w F (.mk 7 0 ⟨#[]⟩ [] ms) [.int .i64 7, .int .i64 0, .string ⟨#[]⟩, .slice none 0 0, v] :=
  JR_iff.2 ⟨.slice none 0 0, v, ⟨rfl, by simp [JV.s, ByteArray.size]⟩, .inl ⟨rfl, none, 0, rfl⟩, h⟩
/-- what printed hands back, as two letters -/
theorem printedC (x : JV) (ok : Bool) (hsm : SmJ x) (hlen : mayJ 64 x = true → (printB 64 x).length ≤ 1000000000) :
    ∃ S E, putB ok x = .tuple #[.string S, .int .i64 E] ∧ ∀ (cs : List Value) (F : Nat → Prop) (w : World), JR w F x cs → Calls Tryd.prog 45 #[.agg cs.toArray, .bool ok] w fun e w' => e = .returned (.tuple #[.string S, .int .i64 E]) ∧ Below w.heap.size w w' :=
  ⟨_, _, rfl, fun cs F w h => printed_any x cs ok F w hsm h hlen⟩
def nmGuid : ByteArray := ⟨#[103, 117, 105, 100]⟩
def nmLink : ByteArray := ⟨#[108, 105, 110, 107]⟩
def nmWhen : ByteArray := ⟨#[119, 104, 101, 110]⟩
def nmRead : ByteArray := ⟨#[114, 101, 97, 100]⟩
def nmStar : ByteArray := ⟨#[115, 116, 97, 114]⟩
def entryO (g l t : ByteArray) (n : Int) : JV := .mk 7 0 ⟨#[]⟩ [] [(nmGuid, wordV g), (nmLink, wordV l), (nmTitle, wordV t), (nmWhen, numV n)]
def entryOk (g l t : ByteArray) (n : Int) : Bool := (!g.toList.isEmpty) && short5R g && short5R l && short5R t && decide (0 ≤ n) && decide (n ≤ 1099511627776)
def stateO (r s : Int) : JV := .mk 7 0 ⟨#[]⟩ [] [(nmRead, numV r), (nmStar, numV s)]
def stateOk (r s : Int) : Bool := decide (0 ≤ r) && decide (r ≤ 2) && (s == 0 || s == 1) && decide (0 < r + s)
theorem stWrap (r s : Int) (h0 : decide (0 ≤ r) = true) (h1 : decide (r ≤ 2) = true) (h2 : (s == 0) = true ∨ (s == 1) = true) : IntKind.i64.wrap (r + s) = r + s := by
  have a0 := of_decide_eq_true h0
  have a1 := of_decide_eq_true h1
  have a2 : s = 0 ∨ s = 1 := h2.imp (fun h => by simpa using h) (fun h => by simpa using h)
  rw [IntWalk.i64_in _ (by omega)]
end Go.Proofs.YtjjgbgojlhaapaaDoor
