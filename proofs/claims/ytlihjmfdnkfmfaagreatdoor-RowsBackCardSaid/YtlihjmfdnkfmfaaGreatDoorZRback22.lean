/- Parts of the proof: Ex, R, Gd, Hn, MkA, MkB, MkD. -/
import Derived.Test.YtlihjmfdnkfmfaaGreatDoorZRback1
import Derived.OrdersHeld
import Derived.Deep.Quiet
import Derived.Deep.RegionHeld3
import Derived.Test.YtlihjmfdnkfmfaaGreatDoorZRback21
import Derived.Test.YtlihjmfdnkfmfaaGreatDoorZRback9
import Derived.Lib.BufferRead
import Derived.Laws.Rows
import Derived.Test.YtlihjmfdnkfmfaaGreatDoorZRback18
namespace Go.Proofs.YtlihjmfdnkfmfaaGreatDoor
open Go.RowKit Go.Lib
section
variable {P : Program} {ops : Array Oper} {Q : Exit → Act → World → Prop} {md : Region.Mode} {E : World → World → Prop}

/-- in every world later than w the operation yields v and leaves a later world -/
def QuietE (P : Program) (ops : Array Oper) (E : World → World → Prop) (o : Oper) (v : Value) (a : Act) (w : World) : Prop :=
  (Region.wanted o (yielded ops a.tmps) = true ∧ ∀ w2, E w w2 → o.quietAt P a (E w2) w2 v) ∨
  (Region.wanted o (yielded ops a.tmps) = false ∧ v = undef)
/-- a frame that reads alike for the operation -/
def SameFor (ops : Array Oper) (o : Oper) (a a' : Act) : Prop :=
  execOp a'.eval o = execOp a.eval o ∧ Region.wanted o (yielded ops a'.tmps) = Region.wanted o (yielded ops a.tmps)
theorem QuietE.same {o : Oper} {v : Value} {a a' : Act} {w : World} (hy : QuietE P ops E o v a w) (h : SameFor ops o a a') : QuietE P ops E o v a' w := by
  unfold QuietE Oper.quietAt at *
  rw [h.1, h.2]
  exact hy
theorem QuietE.later {o : Oper} {v : Value} {a : Act} {w w2 : World} (ht : ∀ a b c, E a b → E b c → E a c) (hy : QuietE P ops E o v a w) (h : E w w2) : QuietE P ops E o v a w2 :=
  hy.imp (fun ⟨h1, h2⟩ => ⟨h1, fun w3 h3 => h2 w3 (ht _ _ _ h h3)⟩) id
theorem QuietE.wpOp {i : Nat} {o : Oper} {v : Value} {a : Act} {w w2 : World} (hr : ∀ w, E w w) (hi : ops[i]? = some o) (hy : QuietE P ops E o v a w) (hE : E w w2)
    {K : Act → World → Prop} (h : ∀ w3, E w2 w3 → K (a.put o.dst v) w3) : wpOp P ops Q i K a w2 := by
  unfold Go.wpOp
  simp only [hi]
  rcases hy with ⟨hw, hv⟩ | ⟨hw, rfl⟩
  · simp only [hw, if_true]
    refine .inl ?_
    have h3 := hv w2 hE
    unfold Oper.quietAt at h3
    unfold Oper.wp
    generalize (execOp a.eval o).run P w2 = r at *
    cases r with
    | ok n w' =>
      cases n <;> simp only [Oper.quietUpon] at h3 <;> simp only [Oper.upon]
      case value u => obtain ⟨rfl, rfl⟩ := h3; exact h _ (hr _)
      case skip => obtain ⟨rfl, rfl⟩ := h3; exact h _ (hr _)
      case enter f args =>
        obtain ⟨rfl, hc⟩ := h3
        exact hc.mono fun e w'' ⟨he, hw''⟩ => by subst he; exact h _ hw''
    | halt x w' => simp only [Oper.quietUpon] at h3
  · simp only [hw, Bool.false_eq_true, if_false]; exact h _ (hr _)
/-- what another operation leaves reads alike for this one -/
theorem wpOp_same {j : Nat} {oi oj : Oper} (hj : ops[j]? = some oj) (hap : oi.apart ops oj = true) (hsi : ∀ cs b, oi.op ≠ .select cs b)
    {K : Act → World → Prop} {a : Act} {w : World} (h : wpOp P ops Q j K a w) : wpOp P ops Q j (fun a' w' => SameFor ops oi a a' ∧ K a' w') a w := by
  obtain ⟨_, _, h3⟩ := Oper.apart_spec hap
  have keep : ∀ u, SameFor ops oi a (a.put oj.dst u) := fun u => ⟨execOp_put oi hsi a oj.dst u h3, wanted_put oi a oj.dst u h3⟩
  unfold Go.wpOp at *
  simp only [hj] at *
  split
  · rename_i hw
    simp only [hw, if_true] at h
    rcases h with h | h
    case inr => exact .inr h
    refine .inl ?_
    unfold Oper.wp at *
    generalize (execOp a.eval oj).run P w = r at *
    cases r with
    | ok n w' =>
      cases n <;> simp only [Oper.upon] at h ⊢
      case value u => exact ⟨keep u, h⟩
      case skip => exact ⟨keep _, h⟩
      case defer d => exact ⟨⟨execOp_put oi hsi { a with defers := d :: a.defers } oj.dst undef h3, wanted_put oi { a with defers := d :: a.defers } oj.dst undef h3⟩, h⟩
      case enter f args =>
        refine Calls.mono h fun e w'' he => ?_
        cases e with
        | returned u => exact ⟨keep u, he⟩
        | panicked c => exact he
        | outgrown => exact he
      case row row args => exact Rows.mono h fun u w'' he => ⟨keep u, he⟩
    | halt x w' => cases x <;> simp only [Oper.upon] at h ⊢ <;> exact h
  · rename_i hw
    simp only [hw] at h
    exact ⟨keep _, h⟩

/-- whatever order is picked from here on, from every later world -/
def wpAnyE (P : Program) (md : Region.Mode) (ops : Array Oper) (Q : Exit → Act → World → Prop) (E : World → World → Prop) : Nat → Array Bool → Act → World → Prop
  | 0, listed, a, w => ∀ w2, E w w2 → Region.ready md ops listed = [] ∧ Q .normal a w2
  | fuel + 1, listed, a, w => ∀ w2, E w w2 →
    (Region.ready md ops listed = [] → Q .normal a w2) ∧
    ∀ i ∈ Region.ready md ops listed, wpOp P ops Q i (fun a' w' => E w2 w' ∧ wpAnyE P md ops Q E fuel (listed.setIfInBounds i true) a' w') a w2
theorem wpAnyE.later (ht : ∀ a b c, E a b → E b c → E a c) : ∀ {fuel : Nat} {listed : Array Bool} {a : Act} {w w2 : World}, wpAnyE P md ops Q E fuel listed a w → E w w2 → wpAnyE P md ops Q E fuel listed a w2
  | 0, _, _, _, _, h, h2 => fun w3 h3 => h w3 (ht _ _ _ h2 h3)
  | _ + 1, _, _, _, _, h, h2 => fun w3 h3 => h w3 (ht _ _ _ h2 h3)
theorem wpAny_of_E (hr : ∀ w, E w w) : ∀ (fuel : Nat) (listed : Array Bool) (a : Act) (w : World), wpAnyE P md ops Q E fuel listed a w → wpAny P md ops Q fuel listed a w
  | 0, _, _, w, h => h w (hr w)
  | fuel + 1, _, _, w, h => ⟨(h w (hr w)).1, fun i hi => wpOp_mono (fun a' w' h' => wpAny_of_E hr fuel _ a' w' h'.2) ((h w (hr w)).2 i hi)⟩
theorem wpAnyE_first (hr : ∀ w, E w w) (ht : ∀ a b c, E a b → E b c → E a c) {i : Nat} {oi : Oper} {v : Value} (hi : ops[i]? = some oi) (hsel : ∀ (j : Nat) (o : Oper) cs b, ops[j]? = some o → o.op ≠ .select cs b)
    (hQ : ∀ c a w, Q (.panic c) (a.put oi.dst v) w → Q (.panic c) a w) :
    ∀ (fuel : Nat) (listed : Array Bool) (a : Act) (w : World),
      (∀ j oj, ops[j]? = some oj → j ≠ i → listed.getD j true = false → (∀ e ∈ oj.after, Region.binds md e = true → e.on ≠ i) → oi.apart ops oj = true) →
      i ∈ Region.ready md ops listed → QuietE P ops E oi v a w →
      wpAnyE P md ops Q E fuel (listed.setIfInBounds i true) (a.put oi.dst v) w → wpAnyE P md ops Q E (fuel + 1) listed a w := by
  intro fuel
  induction fuel with
  | zero =>
    intro listed a w _ hrd hy H w2 hE
    refine ⟨fun h => (by rw [h] at hrd; cases hrd), fun j hj => ?_⟩
    by_cases hji : j = i
    · subst hji; exact hy.wpOp hr hi hE fun w3 h3 => ⟨h3, H.later ht (ht _ _ _ hE h3)⟩
    · have := ready_mono hj hji
      rw [(H w2 hE).1] at this
      cases this
  | succ fuel ih =>
    intro listed a w hfree hrd hy H w2 hE
    refine ⟨fun h => (by rw [h] at hrd; cases hrd), fun j hj => ?_⟩
    by_cases hji : j = i
    · subst hji; exact hy.wpOp hr hi hE fun w3 h3 => ⟨h3, H.later ht (ht _ _ _ hE h3)⟩
    · have h1 := (H w2 hE).2 j (ready_mono hj hji)
      obtain ⟨hjun, oj, hoj, hall⟩ := mem_ready.1 hj
      have hnot : ∀ e ∈ oj.after, Region.binds md e = true → e.on ≠ i := fun e he hb heq => by
        have h1 := hall e he hb
        have h0 := (mem_ready.1 hrd).1
        rw [heq] at h1
        rcases Nat.lt_or_ge i listed.size with h' | h'
        · simp [h'] at h0 h1; rw [h0] at h1; cases h1
        · simp [Array.getElem?_eq_none h'] at h1
      have hap := hfree j oj hoj hji hjun hnot
      have hyF : YieldsIf P ops (fun _ => False) oi v a := hy.imp (fun ⟨hw, _⟩ => ⟨hw, fun _ h => h.elim⟩) id
      have h2 := wpOp_same hoj hap (fun cs b => hsel i oi cs b hi) (wpOp_putIf hoj hap (fun cs b => hsel i oi cs b hi) (fun cs b => hsel j oj cs b hoj) hQ hyF h1)
      have hfree' : ∀ k ok, ops[k]? = some ok → k ≠ i → (listed.setIfInBounds j true).getD k true = false →
          (∀ e ∈ ok.after, Region.binds md e = true → e.on ≠ i) → oi.apart ops ok = true := fun k ok hk hki hun hno => by
        refine hfree k ok hk hki ?_ hno
        by_cases hjk : j = k
        · subst hjk; exact hjun
        · rw [getD_set_ne true hjk] at hun; exact hun
      refine wpOp_mono (fun a' w' h3 => ⟨h3.2.2.1, ih (listed.setIfInBounds j true) a' w' hfree' (ready_mono hrd (Ne.symm hji)) ((hy.later ht (ht _ _ _ hE h3.2.2.1)).same h3.1) ?_⟩) h2
      rw [Array.setIfInBounds_comm _ _ hji]
      exact h3.2.2.2
end
/-- later: what stood stands -/
def Lat (w w2 : World) : Prop := Below w.heap.size w w2
theorem Lat.refl (w : World) : Lat w w := Below.refl _ _
theorem Lat.trans (a b c : World) (h : Lat a b) (k : Lat b c) : Lat a c := Below.trans h (Below.mono k (Below.size h))
section
variable {P : Program} {ops : Array Oper} {Q : Exit → Act → World → Prop} {md : Region.Mode}
theorem wpAnyE_take {i : Nat} {oi : Oper} {v : Value} {fuel : Nat} {listed : Array Bool} {a : Act} {w : World} (hi : ops[i]? = some oi)
    (hs : Region.noSelect ops = true) (hf : Region.free md ops listed i = true) (hr : (Region.ready md ops listed).contains i = true)
    (hQ : ∀ c a w, Q (.panic c) (a.put oi.dst v) w → Q (.panic c) a w) (hy : QuietE P ops Lat oi v a w)
    (h : wpAnyE P md ops Q Lat fuel (listed.setIfInBounds i true) (a.put oi.dst v) w) : wpAnyE P md ops Q Lat (fuel + 1) listed a w :=
  wpAnyE_first Lat.refl Lat.trans hi (Region.noSelect_spec hs) hQ fuel listed a w (Region.free_spec hi hf) (by simpa using hr) hy h
/-- wanted, one value -/
theorem wpAnyE_tk (i : Nat) {oi : Oper} {v : Value} {fuel : Nat} {listed : Array Bool} {a : Act} {w : World} (hi : ops[i]? = some oi)
    (hs : Region.noSelect ops = true) (hf : Region.free md ops listed i = true) (hr : (Region.ready md ops listed).contains i = true)
    (hw : Region.wanted oi (yielded ops a.tmps) = true) (hy : ∀ w2, Lat w w2 → oi.quietAt P a (Lat w2) w2 v)
    (h : wpAnyE P md ops Q Lat fuel (listed.setIfInBounds i true) (a.put oi.dst v) w) (hQ : ∀ c a w, Q (.panic c) (a.put oi.dst v) w → Q (.panic c) a w := by exact fun _ _ _ h => h) : wpAnyE P md ops Q Lat (fuel + 1) listed a w :=
  wpAnyE_take hi hs hf hr hQ (.inl ⟨hw, hy⟩) h
/-- not wanted -/
theorem wpAnyE_sk (i : Nat) {oi : Oper} {fuel : Nat} {listed : Array Bool} {a : Act} {w : World} (hi : ops[i]? = some oi)
    (hs : Region.noSelect ops = true) (hf : Region.free md ops listed i = true) (hr : (Region.ready md ops listed).contains i = true)
    (hw : Region.wanted oi (yielded ops a.tmps) = false)
    (h : wpAnyE P md ops Q Lat fuel (listed.setIfInBounds i true) (a.put oi.dst undef) w) (hQ : ∀ c a w, Q (.panic c) (a.put oi.dst undef) w → Q (.panic c) a w := by exact fun _ _ _ h => h) : wpAnyE P md ops Q Lat (fuel + 1) listed a w :=
  wpAnyE_take hi hs hf hr hQ (.inr ⟨hw, rfl⟩) h
theorem wpAnyE_t (i : Nat) {oi : Oper} {v : Value} {fuel : Nat} {listed : Array Bool} {a : Act} {w : World} (hi : ops[i]? = some oi) (hy : ∀ w2, Lat w w2 → oi.quietAt P a (Lat w2) w2 v)
    (h : wpAnyE P md ops Q Lat fuel (listed.setIfInBounds i true) (a.put oi.dst v) w)
    (hs : Region.noSelect ops = true := by kernel_rfl) (hf : Region.free md ops listed i = true := by kernel_rfl) (hr : (Region.ready md ops listed).contains i = true := by kernel_rfl)
    (hw : Region.wanted oi (yielded ops a.tmps) = true := by kernel_rfl) (hQ : ∀ c a w, Q (.panic c) (a.put oi.dst v) w → Q (.panic c) a w := by exact fun _ _ _ h => h) : wpAnyE P md ops Q Lat (fuel + 1) listed a w :=
  wpAnyE_tk i hi hs hf hr hw hy h hQ
theorem wpAnyE_s (i : Nat) {oi : Oper} {fuel : Nat} {listed : Array Bool} {a : Act} {w : World} (hi : ops[i]? = some oi)
    (h : wpAnyE P md ops Q Lat fuel (listed.setIfInBounds i true) (a.put oi.dst undef) w)
    (hs : Region.noSelect ops = true := by kernel_rfl) (hf : Region.free md ops listed i = true := by kernel_rfl) (hr : (Region.ready md ops listed).contains i = true := by kernel_rfl)
    (hw : Region.wanted oi (yielded ops a.tmps) = false := by kernel_rfl) (hQ : ∀ c a w, Q (.panic c) (a.put oi.dst undef) w → Q (.panic c) a w := by exact fun _ _ _ h => h) : wpAnyE P md ops Q Lat (fuel + 1) listed a w :=
  wpAnyE_sk i hi hs hf hr hw h hQ
/-- the next operation is forced: from a later world -/
theorem wpAnyE_one {i : Nat} {o : Oper} {fuel : Nat} {listed : Array Bool} {a : Act} {w : World} (hr : Region.ready md ops listed = [i]) (ho : ops[i]? = some o)
    (h : ∀ w2, Lat w w2 → ∀ K' : Act → World → Prop, Hid (∀ a' w', Lat w2 w' → wpAnyE P md ops Q Lat fuel (listed.setIfInBounds i true) a' w' → K' a' w') → if Region.wanted o (yielded ops a.tmps) = true then Oper.wp P o a w2 K' Q else K' (a.put o.dst undef) w2) :
    wpAnyE P md ops Q Lat (fuel + 1) listed a w :=
  fun w2 h2 => ⟨fun h0 => (by rw [hr] at h0; cases h0), fun j hj => by
    rw [hr] at hj
    obtain rfl : j = i := by simpa using hj
    exact wpOp_step ho (fun K' hK => h w2 h2 K' (Lib.hid (fun a' w' h3 h4 => hK a' w' ⟨h3, h4⟩)))⟩
theorem wpAnyE_done {listed : Array Bool} {a : Act} {w : World} (hr : Region.ready md ops listed = []) (h : ∀ w2, Lat w w2 → Q .normal a w2) :
    ∀ fuel, wpAnyE P md ops Q Lat fuel listed a w
  | 0 => fun w2 h2 => ⟨hr, h w2 h2⟩
  | _ + 1 => fun w2 h2 => ⟨fun _ => h w2 h2, by rw [hr]; simp⟩
theorem wp_region_E {id : Nat} {a : Act} {w : World} (hm : P.follows .mixedOrders = true)
    (h : wpAnyE P .any ops Q Lat ops.size (Array.replicate ops.size false) a w.drew) : (Code.region id ops true).wp P Q a w :=
  wp_region_any hm (wpAny_of_E Lat.refl _ _ _ _ h)
end
end Go.Proofs.YtlihjmfdnkfmfaaGreatDoor
namespace Go.Proofs.YtlihjmfdnkfmfaaGreatDoor
open Go.RowKit Go.Lib

theorem number_any (n : Int) (w : World) : Calls Tryz.prog 87 #[.int .i64 n] w fun e w' => e = .returned (.agg (numC n).toArray) ∧ Below w.heap.size w w' := by
  go_enter Tryz.func87, Tryz.ntmps87
  go_wp2_with fail
  exact bodyPost_ret (results_cell_row rfl _ _ w.heap.size 43 (numC n).toArray (0, 0) _ rfl (heap_alloc_new w _) Tryz.underlying43 rfl (by kernel_rfl)) rfl ⟨rfl, bel_alloc (Below.refl _ _) _⟩

theorem words_any (s : ByteArray) (w : World) : Calls Tryz.prog 88 #[.string s] w fun e w' => e = .returned (.agg (wordC s).toArray) ∧ Below w.heap.size w w' := by
  go_enter Tryz.func88, Tryz.ntmps88
  go_wp2_with fail
  exact bodyPost_ret (results_cell_row rfl _ _ w.heap.size 43 (wordC s).toArray (0, 0) _ rfl (heap_alloc_new w _) Tryz.underlying43 rfl (by kernel_rfl)) rfl ⟨rfl, bel_alloc (Below.refl _ _) _⟩

theorem part_any (s t : ByteArray) (k n : Int) (A1 A2 : Option Addr) (n1 c1 n2 c2 : Nat) (w : World) : Calls Tryz.prog 86 #[.string s, .agg #[.int .i64 k, .int .i64 n, .string t, .slice A1 n1 c1, .slice A2 n2 c2]] w fun z w' => z = .returned (.agg #[.string s, .int .i64 k, .int .i64 n, .string t, .slice A1 n1 c1, .slice A2 n2 c2]) ∧ Below w.heap.size w w' := by
  go_enter Tryz.func86, Tryz.ntmps86
  go_wp2_with fail
  exact bodyPost_ret (results_cell_row rfl _ _ (w.heap.size + 1) 49 #[.string s, .int .i64 k, .int .i64 n, .string t, .slice A1 n1 c1, .slice A2 n2 c2] (0, 0) _ rfl (heap_alloc2_new w _ _) Tryz.underlying49 rfl (by kernel_rfl)) rfl ⟨rfl, bel_alloc (bel_alloc (Below.refl _ _) _) _⟩

set_option maxRecDepth 100000 in
set_option maxHeartbeats 1000000 in
theorem rprint_any (v : Value) (ms : List (ByteArray × JV)) (F : Nat → Prop) (w : World) (h : Sl memTy w F v ms) (hT : Tabs w) (hlen : mayJ 64 (.mk 7 0 ⟨#[]⟩ [] ms) = true → (printB 64 (.mk 7 0 ⟨#[]⟩ [] ms)).length ≤ 140737488355328) :
    Calls Tryz.prog 84 #[.bool true, v] w fun e w' => e = .returned (.tuple #[.string (if mayJ 64 (.mk 7 0 ⟨#[]⟩ [] ms) then ⟨(printB 64 (.mk 7 0 ⟨#[]⟩ [] ms)).toArray⟩ else ⟨#[]⟩), .int .i64 (if mayJ 64 (.mk 7 0 ⟨#[]⟩ [] ms) then 0 else 4)]) ∧ Below w.heap.size w w' := by
  have hj : JR w F (.mk 7 0 ⟨#[]⟩ [] ms) [.int .i64 7, .int .i64 0, .string ⟨#[]⟩, .slice none 0 0, v] := JR_iff.2 ⟨.slice none 0 0, v, ⟨rfl, by simp [JV.s, ByteArray.size]⟩, .inl ⟨rfl, none, 0, rfl⟩, h⟩
  have hbad := Print_bad _ _ F w hj hT
  have hgood := fun hm => Print_good _ _ F w hj hT hm (hlen hm)
  obtain ⟨A, c, rfl⟩ := h.form
  generalize mayJ 64 (.mk 7 0 ⟨#[]⟩ [] ms) = b at *
  generalize printB 64 (.mk 7 0 ⟨#[]⟩ [] ms) = P at *
  clear hj h hT
  cases b with
  | false =>
    have hb := hbad rfl
    have HB := Lib.hid hb
    clear hbad hgood hb
    go_enter Tryz.func84, Tryz.ntmps84
    go_wp2_with fail
    refine Calls.mono HB.out ?_
    rintro e w2 ⟨rfl, hb⟩
    go_wp2_with fail
    rw [Lib.run_convert_nil_bytes w2 22 9 5 0 Tryz.underlying22 Tryz.underlying5 Tryz.underlying9]
    simp only [Result.andThen]
    rw [Oper.upon_value]
    go_wp2_with fail
    go_ret2
    exact ⟨rfl, hb⟩
  | true =>
    have hb := hgood rfl
    have HB := Lib.hid hb
    clear hbad hgood hb
    go_enter Tryz.func84, Tryz.ntmps84
    go_wp2_with fail
    refine Calls.mono HB.out ?_
    rintro e w2 ⟨⟨g, c', rfl, hc⟩, hb⟩
    have hcv := run_convert_bytes_back w2 22 9 5 ⟨g, 0, none⟩ c' P Tryz.underlying22 Tryz.underlying5 Tryz.underlying9 hc
    have HC := Lib.hid hcv
    clear hc hcv
    go_wp2_with fail
    rw [HC.out]
    simp only [Result.andThen]
    rw [Oper.upon_value]
    go_wp2_with fail
    go_ret2
    exact ⟨rfl, hb⟩
end Go.Proofs.YtlihjmfdnkfmfaaGreatDoor
namespace Go.Proofs.YtlihjmfdnkfmfaaGreatDoor
open Go.RowKit Go.Lib

def short5R (s : ByteArray) : Bool := decide (s.size ≤ 500) && validB s
def nmN : ByteArray := ⟨#[110]⟩
def nmTitle : ByteArray := ⟨#[116, 105, 116, 108, 101]⟩
def feedO (n : Int) (t : ByteArray) : JV := .mk 7 0 ⟨#[]⟩ [] [(nmN, numV n), (nmTitle, wordV t)]
def putB (ok : Bool) (x : JV) : Value := .tuple #[.string (if ok && mayJ 64 x then ⟨(printB 64 x).toArray⟩ else ⟨#[]⟩), .int .i64 (if ok && mayJ 64 x then 0 else 4)]
def feedOk (n : Int) (t : ByteArray) : Bool := decide (0 ≤ n) && decide (n ≤ 1000000) && short5R t
/-- a row of members, new -/
theorem new_members {T : TypeId} (w : World) (ms : List (ByteArray × JV)) (cs : List Value) (hn : ms.length ≤ 1000) (h : ∀ W, Chunks memTy W (fun _ => True) ms cs) :
    Sl memTy (w.alloc (.cells cs.toArray T)) (fun _ => True) (.slice (some ⟨w.heap.size, 0, none⟩) ms.length ms.length) ms :=
  .inr ⟨_, 0, _, rfl, trivial, Nat.le_refl _, by omega, _, h _, fun j u hj => by
    rw [Nat.zero_add]; exact cell_newB _ _ _ _ _ (by simpa using hj)⟩
theorem mem_chunk {W : World} (a : ByteArray) (x : JV) (c : List Value) (ha : a.size ≤ 9223372036854775807) (h : JR W (fun _ => True) x c) : Chunks memTy W (fun _ => True) [(a, x)] (.string a :: c) :=
  Chunks.single (T := memTy) ⟨c, ⟨rfl, ha⟩, h⟩
/-- what printed hands back, as two letters -/
def nmGuid : ByteArray := ⟨#[103, 117, 105, 100]⟩
def nmLink : ByteArray := ⟨#[108, 105, 110, 107]⟩
def nmWhen : ByteArray := ⟨#[119, 104, 101, 110]⟩
def nmRead : ByteArray := ⟨#[114, 101, 97, 100]⟩
def nmStar : ByteArray := ⟨#[115, 116, 97, 114]⟩
def entryO (g l t : ByteArray) (n : Int) : JV := .mk 7 0 ⟨#[]⟩ [] [(nmGuid, wordV g), (nmLink, wordV l), (nmTitle, wordV t), (nmWhen, numV n)]
def entryOk (g l t : ByteArray) (n : Int) : Bool := (!g.toList.isEmpty) && short5R g && short5R l && short5R t && decide (0 ≤ n) && decide (n ≤ 1099511627776)
def stateO (r s : Int) : JV := .mk 7 0 ⟨#[]⟩ [] [(nmRead, numV r), (nmStar, numV s)]
def stateOk (r s : Int) : Bool := decide (0 ≤ r) && decide (r ≤ 2) && (s == 0 || s == 1) && decide (0 < r + s)
theorem stWrap (r s : Int) (h0 : decide (0 ≤ r) = true) (h1 : decide (r ≤ 2) = true) (h2 : (s == 0) = true ∨ (s == 1) = true) : IntKind.i64.wrap (r + s) = r + s := by
  have a0 := of_decide_eq_true h0
  have a1 := of_decide_eq_true h1
  have a2 : s = 0 ∨ s = 1 := h2.imp (fun h => by simpa using h) (fun h => by simpa using h)
  rw [IntWalk.i64_in _ (by omega)]
end Go.Proofs.YtlihjmfdnkfmfaaGreatDoor
namespace Go.Proofs.YtlihjmfdnkfmfaaGreatDoor
open Go.RowKit Go.Lib

theorem nm_len (s : ByteArray) : s.toList.length = s.size := by rw [ByteArray.toList_eq]; simp
theorem nm_some {s : ByteArray} (h : 1 ≤ s.size) : (!s.toList.isEmpty) = true := by
  have hl := nm_len s
  cases hs : s.toList with
  | nil => rw [hs] at hl; simp at hl; omega
  | cons a r => rfl
theorem nm_none {s : ByteArray} (h : ¬ 1 ≤ s.size) : (!s.toList.isEmpty) = false := by
  have hl := nm_len s
  cases hs : s.toList with
  | nil => rfl
  | cons a r => rw [hs] at hl; simp at hl; omega
def nmOk (c : Nat) : Bool := (decide (97 ≤ c) && decide (c ≤ 122)) || (decide (48 ≤ c) && decide (c ≤ 57)) || c == 45
def nameB (s : ByteArray) : Bool := s.data.toList.all (fun c => nmOk c.toNat) && (decide (1 ≤ s.size) && decide (s.size ≤ 20))
theorem nm_ways2 (c : Nat) : ∃ b1 b2 b3 b4 b5 : Bool, decide (97 ≤ (c : Int)) = b1 ∧ decide ((c : Int) ≤ 122) = b2 ∧ decide (48 ≤ (c : Int)) = b3 ∧ decide ((c : Int) ≤ 57) = b4 ∧ ((c : Int) == 45) = b5 ∧ nmOk c = ((b1 && b2) || (b3 && b4) || b5) :=
  ⟨_, _, _, _, _, rfl, rfl, rfl, rfl, rfl, by rw [Bool.eq_iff_iff]; simp [nmOk]; omega⟩
set_option maxRecDepth 100000 in
set_option maxHeartbeats 16000000 in
theorem jname (s : ByteArray) (hs : s.size ≤ 1000000000) (w : World) : Calls Tryz.prog 89 #[.string s] w fun e w' => e = .returned (.bool (nameB s)) ∧ w' = w := by
  have hR : nameB s = (s.data.toList.all (fun c => nmOk c.toNat) && (decide (1 ≤ s.size) && decide (s.size ≤ 20))) := rfl
  have HR := Lib.hid hR
  clear hR
  generalize nameB s = R at *
  go_enter Tryz.func89, Tryz.ntmps89
  go_wp2_with fail
  go_loopg [7] s.size (fun gg s7 wr => ∃ k : Nat, k ≤ s.size ∧ s.size - k ≤ gg ∧ s7 = .int .i64 (k : Int) ∧ wr = w ∧ Aside (s.data.toList.all (fun c => nmOk c.toNat) = (s.data.toList.drop k).all (fun c => nmOk c.toNat)))
  case atStart => exact ⟨0, by omega, by omega, rfl, rfl, rfl⟩
  case round =>
    obtain ⟨k, hk, hgg, rfl, rfl, HA⟩ := hrel
    by_cases hlt : k < s.size
    · have hltz : (k : Int) < (s.size : Int) := by omega
      have hq0 : (0 : Int) ≤ (k : Int) := by omega
      have hgb := get_byte hlt
      have hb := (byteAt s k).toNat_lt
      have hdr := drop_byte hlt
      have hbad : nmOk (byteAt s k).toNat = false → R = false := fun h => by rw [HR.out, HA.out, hdr]; simp [h]
      have hgood : nmOk (byteAt s k).toNat = true → s.data.toList.all (fun c => nmOk c.toNat) = (s.data.toList.drop (k + 1)).all (fun c => nmOk c.toNat) := fun h => by rw [HA.out, hdr]; simp [h]
      obtain ⟨b1, b2, b3, b4, b5, a1, a2, a3, a4, a5, hok⟩ := nm_ways2 (byteAt s k).toNat
      have HBAD := Lib.hid hbad; have HGOOD := Lib.hid hgood; have HOK := Lib.hid hok
      have hwk : wrap64 ((k : Int) + 1) = ((k + 1 : Nat) : Int) := by unfold wrap64; omega
      clear hbad hgood hok hdr HA
      cases b1 <;> cases b2 <;> cases b3 <;> cases b4 <;> cases b5
      all_goals
        go_wp2_with fail
        first
        | (go_roundg (s.size - (k + 1))
           case measure => omega
           case rel => exact ⟨k + 1, by omega, Nat.le_refl _, by first | rfl | go_num, rfl, HGOOD.out HOK.out⟩)
        | (go_ret
           exact ⟨ret_bool (HBAD.out HOK.out).symm, rfl⟩)
    · have hltz : ¬ (k : Int) < (s.size : Int) := by omega
      have hz : k = s.size := by omega
      have hend : R = (decide (1 ≤ s.size) && decide (s.size ≤ 20)) := by
        rw [HR.out, HA.out, List.drop_of_length_le (by simp; omega)]; simp
      have HE := Lib.hid hend
      clear hend HA hz
      by_cases h1 : 1 ≤ s.size
      · have c1 : (!s.toList.isEmpty) = true := nm_some h1
        by_cases h2 : s.size ≤ 20
        · have c2 : decide ((s.size : Int) ≤ 20) = true := decide_eq_true (by omega)
          go_wp2_with fail
          go_ret
          exact ⟨ret_bool (by rw [HE.out]; simp; omega), rfl⟩
        · have c2 : decide ((s.size : Int) ≤ 20) = false := decide_eq_false (by omega)
          go_wp2_with fail
          go_ret
          exact ⟨ret_bool (by rw [HE.out]; simp; omega), rfl⟩
      · have c1 : (!s.toList.isEmpty) = false := nm_none h1
        go_wp2_with fail
        go_ret
        exact ⟨ret_bool (by rw [HE.out]; simp; omega), rfl⟩
end Go.Proofs.YtlihjmfdnkfmfaaGreatDoor
namespace Go.Proofs.YtlihjmfdnkfmfaaGreatDoor
open Go.RowKit

theorem any_of_idx (p : Mk → Bool) (xs : List Mk) : decide (0 ≤ idxOf p xs) = xs.any p := by
  unfold idxOf
  cases h : xs.findIdx? p with
  | none =>
    rw [List.findIdx?_eq_none_iff] at h
    have : xs.any p = false := by simp only [List.any_eq_false]; intro x hx; simp [h x hx]
    simp [this]
  | some i =>
    rw [List.findIdx?_eq_some_iff_getElem] at h
    obtain ⟨hi, h1, _⟩ := h
    have : xs.any p = true := List.any_eq_true.2 ⟨_, List.getElem_mem hi, h1⟩
    simp [this]

set_option maxHeartbeats 400000 in
theorem containsFunc_any (fv sv : Value) (p : Mk → Bool) (F : Nat → Prop) (xs : List Mk) (w : World) (hs : Sl mkTy w F sv xs) (hf : Pred1 fv p w) :
    Calls Tryz.prog 126 #[sv, fv] w fun e w' => e = .returned (.bool (xs.any p)) ∧ Below w.heap.size w w' := by
  have h1 := indexFunc_any fv sv p F xs w hs hf
  have h2 := any_of_idx p xs
  generalize idxOf p xs = r at h1 h2
  have H2 := Lib.hid h2; clear h2 hs hf
  go_enter Tryz.func126, Tryz.ntmps126
  go_wp2_with fail
  refine Calls.mono h1 ?_
  rintro e w' ⟨rfl, hb'⟩
  go_wp2_with fail
  go_ret
  exact ⟨ret_bool H2.out, hb'⟩

def domB (m x : Mk) : Bool := decide (x.t ≤ m.t) && decide (x.u ≤ m.u)

set_option maxHeartbeats 400000 in
theorem dominates_any (m x : Mk) (w : World) :
    Calls Tryz.prog 128 #[.agg #[.int .i64 m.t, .int .i64 m.u], .agg #[.int .i64 x.t, .int .i64 x.u]] w fun e w' => e = .returned (.bool (domB m x)) ∧ Below w.heap.size w w' := by
  have hb : Below w.heap.size w ((w.alloc (.cells #[.int .i64 m.t, .int .i64 m.u] 170)).alloc (.cells #[.int .i64 x.t, .int .i64 x.u] 170)) := bel_alloc (bel_alloc (Below.refl _ _) _) _
  unfold domB
  cases h1 : decide (x.t ≤ m.t)
  all_goals
    go_enter Tryz.func128, Tryz.ntmps128
    go_wp2
    go_ret
    exact ⟨rfl, hb⟩

end Go.Proofs.YtlihjmfdnkfmfaaGreatDoor
namespace Go.Proofs.YtlihjmfdnkfmfaaGreatDoor
open Go.RowKit

theorem mkInfo : (Tryz.prog.info? 170).map (fun i => (i.zero, i.size, i.bytes)) = some (some (.agg #[.int .i64 0, .int .i64 0]), 2, 16) := by kernel_rfl

set_option maxHeartbeats 400000 in
theorem cloneMk_any (sv : Value) (F : Nat → Prop) (xs : List Mk) (w : World) (hs : Sl mkTy w F sv xs) (hn : xs.length * 16 ≤ 140737488355328) :
    Calls Tryz.prog 129 #[sv] w fun e w' => ∃ v cs, e = .returned v ∧ Below w.heap.size w w' ∧ w'.ownsRow w.heap.size 170 2 v xs.length cs ∧ Chunks mkTy w' F xs cs := by
  have e1 := fun (w : World) (a : Option Addr) (n c : Nat) => Lib.run_eql_slice_nil (P := Tryz.prog) w 109 _ a n c 0 0 Tryz.underlying109
  obtain ⟨i0, hi, hz0, hz1, hz2⟩ := info_parts mkInfo
  rcases hs.open with ⟨rfl, c, rfl⟩ | ⟨ad, c, cs, rfl, hch, hel⟩
  · go_enter Tryz.func129, Tryz.ntmps129
    go_wp2
    go_ret
    exact ⟨_, [], rfl, Below.refl _ _, World.ownsRow_nil _ _ _ _, rfl⟩
  · generalize hnn : xs.length = n at *
    have Hn := Lib.hid hnn; clear hnn
    have hown : (w.alloc (.cells #[] 170)).ownsRow w.heap.size 170 2 (.slice (some ⟨w.heap.size, 0, none⟩) 0 0) 0 [] := World.ownsRow_made w #[] 0 (Nat.le_refl _) (by decide) (by simp)
    have hb0 : Below w.heap.size w (w.alloc (.cells #[] 170)) := bel_alloc (Below.refl _ _) _
    have hel' : ∀ j u, cs[j]? = some u → (w.alloc (.cells #[] 170)).cell? (ad.add j) = some u := fun j u hj => cell_later' hb0 (hel j u hj)
    have hlen : cs.length = n * 2 := by rw [hch.len, Hn.out]; rfl
    have h1 := hch.one
    have Hh := Lib.hid hch.bound
    clear hel hch hs
    have Hl := Lib.hid hlen; clear hlen
    go_enter Tryz.func129, Tryz.ntmps129
    go_wp2_with (at_builtin; refine wpList_append_own _ rfl _ _ 109 rfl w.heap.size 170 i0 (.agg #[.int .i64 0, .int .i64 0]) 2 16 Tryz.underlying109 hi hz0 hz1 hz2 rfl (by decide) _ _ _ rfl hown ad n c cs rfl Hl.out hel' h1 ?c1 ?c2 ?c3 ?_)
    case c1 => simp only [maxLen]; omega
    case c2 => omega
    case c3 => exact hb0.size
    intro v' w1 hown1 hgrow _
    have hb1 : Below w.heap.size w w1 := bel_grown hb0 hgrow (fun k hk => by simp [Value.ownBlock] at hk; omega)
    have Hc := Lib.hid ((Hh.out.frame (fun k hk => hb1.block k hk.2)).mono (fun _ hk => hk.1))
    go_wp2
    go_ret
    exact ⟨_, _, rfl, hb1, hown1, Hc.out⟩
end Go.Proofs.YtlihjmfdnkfmfaaGreatDoor
namespace Go.Proofs.YtlihjmfdnkfmfaaGreatDoor
open Go.RowKit

/-- a predicate that answers in whatever world -/
def Pred0 (fv : Value) (p : Mk → Bool) : Prop :=
  ∃ g fst cap, fv = .func (.func g) fst cap ∧ (∀ args w, (callFunc g args).run Tryz.prog w = .ok (.enter g args) w) ∧
    ∀ (W : World) (x : Mk), Calls Tryz.prog g (fst ++ #[.agg #[.int .i64 x.t, .int .i64 x.u]] ++ cap) W fun e w' => e = .returned (.bool (p x)) ∧ Below W.heap.size W w'
theorem Pred0.at {fv : Value} {p : Mk → Bool} (h : Pred0 fv p) (w : World) : Pred1 fv p w := by
  obtain ⟨g, fst, cap, e, h1, h2⟩ := h
  exact ⟨g, fst, cap, e, h1, fun W x _ => h2 W x⟩

/-- cells of a block as marks -/
def MkAt (w : World) (g : Nat) (m : Nat) (x : Mk) : Prop := w.cell? ⟨g, m * 2, none⟩ = some (.int .i64 x.t) ∧ w.cell? ⟨g, m * 2 + 1, none⟩ = some (.int .i64 x.u)
theorem MkAt.frame {w w' : World} {g m : Nat} {x : Mk} (h : MkAt w g m x) (hb : w'.heap[g]? = w.heap[g]?) : MkAt w' g m x :=
  ⟨(World.cell?_of_block (w := w) (a := ⟨g, m * 2, none⟩) hb).trans h.1, (World.cell?_of_block (w := w) (a := ⟨g, m * 2 + 1, none⟩) hb).trans h.2⟩
/-- a row's block -/
def RowAt (w : World) (g : Nat) (e : TypeId) (size : Nat) : Prop := ∃ cur : Array Value, w.heap[g]? = some (.cells cur e (0, 0)) ∧ cur.size = size
theorem RowAt.frozen {w : World} {g e n : Nat} (h : RowAt w g e n) (i : Nat) : w.frozen? ⟨g, i, none⟩ = false := by
  obtain ⟨cur, h1, _⟩ := h; simp [World.frozen?, h1]
theorem RowAt.some {w : World} {g e n : Nat} (h : RowAt w g e n) (i : Nat) (hi : i < n) : ∃ v, w.cell? ⟨g, i, none⟩ = some v := by
  obtain ⟨cur, h1, rfl⟩ := h; exact ⟨cur[i], by simp [World.cell?, h1, hi]⟩
theorem RowAt.set {w : World} {g e n : Nat} (h : RowAt w g e n) (i : Nat) (u : Value) : RowAt (w.setCell ⟨g, i, none⟩ u) g e n := by
  obtain ⟨cur, h1, rfl⟩ := h
  exact ⟨cur.setIfInBounds i u, by rw [setCell_eq_setRow w g i cur e (0, 0) u h1]; exact setRow_heap w g cur _ e _ h1, by simp⟩
theorem RowAt.frame {w w' : World} {g e n : Nat} (h : RowAt w g e n) (hb : w'.heap[g]? = w.heap[g]?) : RowAt w' g e n := by
  obtain ⟨cur, h1, h2⟩ := h; exact ⟨cur, hb.trans h1, h2⟩
theorem RowAt.lt {w : World} {g e n : Nat} (h : RowAt w g e n) : g < w.heap.size := by
  obtain ⟨cur, h1, _⟩ := h; exact (Array.getElem?_eq_some_iff.1 h1).1

/-- the two stores of a mark -/
def put2 (w : World) (g i : Nat) (x : Mk) : World := (w.setCell ⟨g, i * 2, none⟩ (.int .i64 x.t)).setCell ⟨g, i * 2 + 1, none⟩ (.int .i64 x.u)
theorem put2_same {w : World} {g e n i : Nat} (h : RowAt w g e n) (hi : i * 2 + 1 < n) (x : Mk) : MkAt (put2 w g i x) g i x := by
  obtain ⟨v0, h0⟩ := h.some (i * 2) (by omega)
  obtain ⟨v1, h1⟩ := (h.set (i * 2) (.int .i64 x.t)).some (i * 2 + 1) (by omega)
  refine ⟨?_, ?_⟩
  · unfold put2
    rw [World.cell?_setCell_other _ _ _ _ (by simp)]
    exact World.cell?_setCell_same _ _ _ h0
  · unfold put2
    exact World.cell?_setCell_same _ _ _ h1
theorem put2_other {w : World} {g i m : Nat} {x y : Mk} (h : MkAt w g m y) (hm : m ≠ i) : MkAt (put2 w g i x) g m y := by
  refine ⟨?_, ?_⟩
  · unfold put2
    rw [World.cell?_setCell_other _ _ _ _ (by simp <;> omega), World.cell?_setCell_other _ _ _ _ (by simp <;> omega)]; exact h.1
  · unfold put2
    rw [World.cell?_setCell_other _ _ _ _ (by simp <;> omega), World.cell?_setCell_other _ _ _ _ (by simp <;> omega)]; exact h.2
def mkCells (xs : List Mk) : List Value := xs.flatMap fun x => [.int .i64 x.t, .int .i64 x.u]
theorem mkCells_cons (x : Mk) (xs : List Mk) : mkCells (x :: xs) = .int .i64 x.t :: .int .i64 x.u :: mkCells xs := rfl
theorem mkCells_len (xs : List Mk) : (mkCells xs).length = xs.length * 2 := by
  induction xs with
  | nil => rfl
  | cons x xs ih => rw [mkCells_cons]; simp [ih]; omega
theorem mkCells_chunks (w : World) (F : Nat → Prop) : ∀ xs : List Mk, Chunks mkTy w F xs (mkCells xs)
  | [] => rfl
  | x :: xs => ⟨[.int .i64 x.t, .int .i64 x.u], mkCells xs, rfl, rfl, mkCells_chunks w F xs⟩
theorem mkCells_of_chunks {w : World} {F : Nat → Prop} : ∀ {xs : List Mk} {cs : List Value}, Chunks mkTy w F xs cs → cs = mkCells xs
  | [], _, h => h
  | x :: xs, _, ⟨c, r, e, h1, h2⟩ => by
    obtain rfl : c = [.int .i64 x.t, .int .i64 x.u] := h1
    rw [e, mkCells_of_chunks h2]; rfl
theorem mkCells_get : ∀ (xs : List Mk) (m : Nat) (x : Mk), xs[m]? = some x → (mkCells xs)[m * 2]? = some (.int .i64 x.t) ∧ (mkCells xs)[m * 2 + 1]? = some (.int .i64 x.u)
  | y :: ys, 0, x, h => by
    obtain rfl : y = x := by simpa using h
    exact ⟨rfl, rfl⟩
  | y :: ys, m + 1, x, h => by
    have := mkCells_get ys m x (by simpa using h)
    rw [mkCells_cons, show (m + 1) * 2 = m * 2 + 1 + 1 by omega]
    simpa using this
/-- a block that bears marks is a row of the call's own -/
theorem own_of_mkAt {w : World} {g cap base : Nat} {e : TypeId} {ys : List Mk} (hr : RowAt w g e (cap * 2)) (hb : base ≤ g) (hl : ys.length ≤ cap) (hc : cap ≤ 9223372036854775807) (h : ∀ m x, ys[m]? = some x → MkAt w g m x) :
    w.ownsRow base e 2 (.slice (some ⟨g, 0, none⟩) ys.length cap) ys.length (mkCells ys) := by
  obtain ⟨cur, h1, h2⟩ := hr
  refine ⟨mkCells_len ys, .inr ⟨g, cap, cur, rfl, hb, h1, hl, by simpa [maxLen] using hc, h2, ?_⟩⟩
  apply List.ext_getElem?
  intro k
  by_cases hk : k < ys.length * 2
  · rw [List.getElem?_take, if_pos hk]
    obtain ⟨x, hx⟩ := get_ex (xs := ys) (k := k / 2) (by omega)
    have ha := h _ _ hx
    have hg := mkCells_get _ _ _ hx
    have hcell : ∀ i, w.cell? ⟨g, i, none⟩ = cur[i]? := fun i => by simp [World.cell?, h1]
    rw [MkAt, hcell, hcell] at ha
    rw [Array.getElem?_toList]
    rcases Nat.mod_two_eq_zero_or_one k with e | e
    · rw [show k = k / 2 * 2 by omega, ha.1, hg.1]
    · rw [show k = k / 2 * 2 + 1 by omega, ha.2, hg.2]
  · rw [List.getElem?_eq_none (by simp; omega), List.getElem?_eq_none (by rw [mkCells_len]; omega)]
theorem mkAt_of_own {w : World} {g cap n base : Nat} {e : TypeId} {xs : List Mk} (h : w.ownsRow base e 2 (.slice (some ⟨g, 0, none⟩) n cap) n (mkCells xs)) :
    RowAt w g e (cap * 2) ∧ base ≤ g ∧ xs.length ≤ cap ∧ cap ≤ 9223372036854775807 ∧ n = xs.length ∧ ∀ m x, xs[m]? = some x → MkAt w g m x := by
  have hl : n = xs.length := by have := h.1; rw [mkCells_len] at this; omega
  have hc := h.cells (g := g) rfl
  rcases h.2 with ⟨h0, _⟩ | ⟨g', cap', cur, h0, hg, hh, h1, h2, h3, h4⟩
  · simp at h0
  · simp only [Value.slice.injEq, Option.some.injEq, Addr.mk.injEq, and_true, true_and] at h0
    obtain ⟨rfl, rfl⟩ := h0
    refine ⟨⟨cur, hh, h3⟩, hg, by omega, by simpa [maxLen] using h2, hl, fun m x hx => ?_⟩
    have hg2 := mkCells_get _ _ _ hx
    have a0 := hc _ _ hg2.1
    have a1 := hc _ _ hg2.2
    rw [Addr.add_lit, Nat.zero_add] at a0 a1
    exact ⟨a0, a1⟩

theorem filter_take_succ {q : Mk → Bool} {xs : List Mk} {j : Nat} {x : Mk} (h : xs[j]? = some x) : (xs.take (j + 1)).filter q = (xs.take j).filter q ++ if q x then [x] else [] := by
  have hj := lt_of_get h
  rw [List.take_add_one, h, List.filter_append]
  cases hq : q x <;> simp [hq]
/-- behind the first one that falls -/
theorem filter_first {p : Mk → Bool} {xs : List Mk} {i : Nat} (h : xs.findIdx? p = some i) : (xs.take (i + 1)).filter (fun x => !p x) = xs.take i ∧ i < xs.length := by
  rw [List.findIdx?_eq_some_iff_getElem] at h
  obtain ⟨hi, h1, h2⟩ := h
  refine ⟨?_, hi⟩
  rw [filter_take_succ (List.getElem?_eq_getElem hi), h1]
  simp only [Bool.not_true, Bool.false_eq_true, if_false, List.append_nil]
  rw [List.filter_eq_self]
  intro x hx
  obtain ⟨j, hj, rfl⟩ := List.mem_iff_getElem.1 hx
  rw [List.length_take] at hj
  rw [List.getElem_take]
  have := h2 j (by omega)
  simpa using this
theorem filter_none {p : Mk → Bool} {xs : List Mk} (h : xs.findIdx? p = none) : xs.filter (fun x => !p x) = xs := by
  rw [List.findIdx?_eq_none_iff] at h
  rw [List.filter_eq_self]
  intro x hx
  simp [h x hx]
theorem mkAt_splice {w w' : World} {g off m e : Nat} {cur zs : List Value} {x : Mk} (h : MkAt w g m x) (hm : m * 2 + 1 < off) (hc : w.heap[g]? = some (.cells cur.toArray e (0, 0))) (hc' : w'.heap[g]? = some (.cells (splice cur off zs).toArray e (0, 0))) : MkAt w' g m x := by
  have c0 : ∀ i, w.cell? ⟨g, i, none⟩ = cur[i]? := fun i => by simp [World.cell?, hc]
  have c1 : ∀ i, w'.cell? ⟨g, i, none⟩ = (splice cur off zs)[i]? := fun i => by simp [World.cell?, hc']
  have h0 : ∀ i u, i < off → cur[i]? = some u → (splice cur off zs)[i]? = some u := by
    intro i u hi hu
    have := lt_of_get hu
    rw [splice, List.getElem?_append_left (by rw [List.length_take]; omega), List.getElem?_take, if_pos hi, hu]
  obtain ⟨a, b⟩ := h
  rw [c0] at a b
  exact ⟨(c1 _).trans (h0 _ _ (by omega) a), (c1 _).trans (h0 _ _ (by omega) b)⟩
theorem rowAt_splice {w' : World} {g off e n : Nat} {cur zs : List Value} (hl : cur.length = n) (hz : off + zs.length ≤ n) (hc' : w'.heap[g]? = some (.cells (splice cur off zs).toArray e (0, 0))) : RowAt w' g e n :=
  ⟨_, hc', by rw [List.size_toArray, length_splice _ _ _ (by omega), hl]⟩
end Go.Proofs.YtlihjmfdnkfmfaaGreatDoor
