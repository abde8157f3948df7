/- Parts of the proof: Pd, Qr, Pr, Pf. -/
import Derived.Test.YtlihjmfdnkfmfaaGreatDoorZPback9
import Derived.Test.YtlihjmfdnkfmfaaGreatDoorZPback16
import Derived.Test.YtlihjmfdnkfmfaaGreatDoorZPback22
import Derived.Test.YtlihjmfdnkfmfaaGreatDoorZPback23
import Derived.Test.YtlihjmfdnkfmfaaGreatDoorZPback14
import Derived.Test.YtlihjmfdnkfmfaaGreatDoorZPback17
namespace Go.Proofs.YtlihjmfdnkfmfaaGreatDoor
open Go.RowKit Go.Lib

def prB (x : JV) : List UInt8 := if mayJ 64 x then printB 64 x else []
def PrRes (x : JV) (w : World) (z : Ending) (w' : World) : Prop := (∃ (A : Option Addr) (c : Nat), z = .returned (.tuple #[.slice A (prB x).length c, .int .i64 (if mayJ 64 x then 0 else 4)]) ∧ BSl w' (fun _ => True) (.slice A (prB x).length c) ⟨(prB x).toArray⟩) ∧ Below w.heap.size w w'
theorem print_both (x : JV) (cs : List Value) (F : Nat → Prop) (w : World) (h : JR w F x cs) (hT : Tabs w) (hlen : mayJ 64 x = true → (printB 64 x).length ≤ 1000000000) : Calls Tryz.prog 21 #[.agg cs.toArray] w (PrRes x w) := by
  cases hm : mayJ 64 x with
  | true =>
    have hp : prB x = printB 64 x := by unfold prB; rw [hm]; rfl
    refine (Print_good x cs F w h hT hm (by have := hlen hm; omega)).mono ?_
    rintro e w' ⟨⟨g, c, rfl, hc⟩, hb⟩
    refine ⟨⟨some ⟨g, 0, none⟩, c, by rw [hp, hm]; rfl, ?_⟩, hb⟩
    rw [hp]
    refine .inl ⟨g, 0, c, by rw [list_size], trivial, fun i hi => ?_⟩
    have h := hc i (by rw [list_size] at hi; exact hi)
    rw [Addr.add_mid] at h
    exact h
  | false =>
    have hp : prB x = [] := by unfold prB; rw [hm]; rfl
    refine (Print_bad x cs F w h hT hm).mono ?_
    rintro e w' ⟨rfl, hb⟩
    exact ⟨⟨none, 0, by rw [hp, hm]; rfl, .inr ⟨by rw [hp]; rfl, none, 0, by rw [hp]; rfl⟩⟩, hb⟩
/-- the same, with the room that the answer has -/
def PrResC (x : JV) (w : World) (z : Ending) (w' : World) : Prop := (∃ (A : Option Addr) (c : Nat), z = .returned (.tuple #[.slice A (prB x).length c, .int .i64 (if mayJ 64 x then 0 else 4)]) ∧ (prB x).length ≤ c ∧ BSl w' (fun _ => True) (.slice A (prB x).length c) ⟨(prB x).toArray⟩) ∧ Below w.heap.size w w'
theorem print_bothC (x : JV) (cs : List Value) (F : Nat → Prop) (w : World) (h : JR w F x cs) (hT : Tabs w) (hlen : mayJ 64 x = true → (printB 64 x).length ≤ 1000000000) : Calls Tryz.prog 21 #[.agg cs.toArray] w (PrResC x w) := by
  cases hm : mayJ 64 x with
  | true =>
    have hp : prB x = printB 64 x := by unfold prB; rw [hm]; rfl
    refine (Print_full x cs F w h hT hm (by have := hlen hm; omega)).mono ?_
    rintro e w' ⟨⟨g, c, rfl, hcap, hc⟩, hb⟩
    refine ⟨⟨some ⟨g, 0, none⟩, c, by rw [hp, hm]; rfl, by rw [hp]; exact hcap.1, ?_⟩, hb⟩
    rw [hp]
    refine .inl ⟨g, 0, c, by rw [list_size], trivial, fun i hi => ?_⟩
    have h := hc i (by rw [list_size] at hi; exact hi)
    rw [Addr.add_mid] at h
    exact h
  | false =>
    have hp : prB x = [] := by unfold prB; rw [hm]; rfl
    refine (Print_bad x cs F w h hT hm).mono ?_
    rintro e w' ⟨rfl, hb⟩
    exact ⟨⟨none, 0, by rw [hp, hm]; rfl, by rw [hp]; exact Nat.le_refl _, .inr ⟨by rw [hp]; rfl, none, 0, by rw [hp]; rfl⟩⟩, hb⟩
end Go.Proofs.YtlihjmfdnkfmfaaGreatDoor
namespace Go.Proofs.YtlihjmfdnkfmfaaGreatDoor
open Go.RowKit Go.Lib

/-- the members of a request, as the program lays them -/
def reqMem (r : Rq) (f : List ByteArray) : List (ByteArray × JV) := (nm_op, wordV r.op) :: f.map fun nm => (nm, getF r nm)
def lastB (l : List (ByteArray × JV)) : ByteArray := (l.getLastD (e0, zeroV)).1
theorem fields_cases (op : ByteArray) : fieldsB op = [nm_user] ∨ fieldsB op = [nm_tx] ∨ fieldsB op = [nm_feed, nm_name, nm_tx] ∨ fieldsB op = [nm_feed, nm_tx] ∨ fieldsB op = [nm_name, nm_tx] ∨ fieldsB op = [nm_entry, nm_feed, nm_on, nm_tx] ∨
    fieldsB op = [nm_before, nm_feed, nm_tx] ∨ fieldsB op = [nm_after, nm_feed, nm_limit, nm_tx] ∨ fieldsB op = [nm_limit, nm_token, nm_user] ∨ fieldsB op = [] := by
  unfold fieldsB
  (repeat' split) <;> simp
theorem fields_rise (op : ByteArray) : BAsc' (fieldsB op) ∧ nm_op ∉ fieldsB op := by
  rcases fields_cases op with e | e | e | e | e | e | e | e | e | e
  all_goals
    rw [e]
    unfold BAsc'
    exact ⟨by decide +kernel, fun h => absurd (any_iff.2 h) (by decide +kernel)⟩
end Go.Proofs.YtlihjmfdnkfmfaaGreatDoor
namespace Go.Proofs.YtlihjmfdnkfmfaaGreatDoor
open Go.RowKit Go.Lib

/-! members that hold no lists -/
def PlnM (q : ByteArray × JV) : Prop := q.1.size ≤ 100 ∧ q.2.s.size ≤ 100000 ∧ q.2.l = [] ∧ q.2.m = []
def memPl (q : ByteArray × JV) : List Value := [.string q.1, .int .i64 q.2.k, .int .i64 q.2.n, .string q.2.s, .slice none 0 0, .slice none 0 0]
theorem pln_chunks {w : World} {F : Nat → Prop} : ∀ (vs : List (ByteArray × JV)), (∀ q ∈ vs, PlnM q) → Chunks memTy w F vs (vs.flatMap memPl)
  | [], _ => rfl
  | (nm, y) :: vs, h => by
    obtain ⟨h1, h2, h3, h4⟩ := h (nm, y) (List.mem_cons_self ..)
    have h1' : nm.size ≤ 100 := h1
    have h2' : y.s.size ≤ 100000 := h2
    have h3' : y.l = [] := h3
    have h4' : y.m = [] := h4
    refine ⟨memPl (nm, y), vs.flatMap memPl, rfl, ⟨_, ⟨rfl, by omega⟩, JR_iff.2 ⟨.slice none 0 0, .slice none 0 0, ⟨rfl, by omega⟩, ?_, ?_⟩⟩, pln_chunks vs (fun q hq => h q (List.mem_cons_of_mem _ hq))⟩
    · rw [h3']; exact .inl ⟨rfl, none, 0, rfl⟩
    · rw [h4']; exact .inl ⟨rfl, none, 0, rfl⟩
/-- proto.object, at members of which the row tells -/
theorem pobj_any (base : Nat) (v : Value) (vs : List (ByteArray × JV)) (cs : List Value) (F : Nat → Prop) (w : World) (ho : w.ownsRow base 49 6 v vs.length cs) (hc : Chunks memTy w F vs cs)
    (hF : ∀ b, F b → b < w.heap.size ∧ some b ≠ v.ownBlock) (hnd : (vs.map (fun m => m.1.toList)).Nodup) (hn : vs.length ≤ 1000000) :
    Calls Tryz.prog 63 #[v] w fun e w' => e = .returned (.agg #[.int .i64 7, .int .i64 0, .string ⟨#[]⟩, .slice none 0 0, v]) ∧ Sl memTy w' (fun _ => True) v (sortNames vs) ∧ w.grownBy w' v.ownBlock := by
  obtain ⟨ms, rfl, h2⟩ := chunks_mc hc
  have hl := h2.len
  refine (pobject_any base v ms w (by rw [hl]; exact ho) (by omega)).mono ?_
  rintro e w' ⟨rfl, ms', hp, hs, ho', hg⟩
  obtain ⟨vs', p, q⟩ := All2.perm hp h2
  have hq := mc_chunks (w := w) q
  have e := sort_eq p (q.sorted hs) hnd
  subst e
  refine ⟨rfl, ?_, hg⟩
  have hch := hq.frame (w' := w') (fun b hb => hg.block b (hF b hb).1 (hF b hb).2)
  exact (own_to_sl (T := memTy) (by rw [← q.len]; exact ho') hch).mono (fun _ _ => trivial)
/-! what a request prints -/
def justB (r : Rq) : Rq := (fieldsB r.op).foldl (fun j nm => putF j nm (getF r nm)) { zeroR with op := r.op }
def objR (r : Rq) : JV := .mk 7 0 ⟨#[]⟩ [] (sortNames (reqMem r (fieldsB r.op)))
def pprintB (r : Rq) : List UInt8 × Int := if fieldsB r.op = [] then ([], 16) else if justB r ≠ r then ([], 4) else (prB (objR r), if mayJ 64 (objR r) then 0 else 4)
def SmR (r : Rq) : Prop := r.op.size ≤ 100000 ∧ r.user.size ≤ 100000 ∧ r.feed.size ≤ 100000 ∧ r.name.size ≤ 100000 ∧ r.token.size ≤ 100000
theorem getF_pln {r : Rq} (h : SmR r) {nm : ByteArray} (hn : nm.size ≤ 100) : PlnM (nm, getF r nm) := by
  obtain ⟨h0, h1, h2, h3, h4⟩ := h
  refine ⟨hn, ?_⟩
  show (getF r nm).s.size ≤ 100000 ∧ (getF r nm).l = [] ∧ (getF r nm).m = []
  rcases name_ways nm with q | q | q | q | q | q | q | q | q | q
  · rw [(q 0 r zeroV).2.1]; exact ⟨h1, rfl, rfl⟩
  · rw [(q 0 r zeroV).2.1]; exact ⟨h2, rfl, rfl⟩
  · rw [(q 0 r zeroV).2.1]; exact ⟨h3, rfl, rfl⟩
  · rw [(q 0 r zeroV).2.1]; exact ⟨h4, rfl, rfl⟩
  all_goals
    rw [(q 0 r zeroV).2.2.1]
    exact ⟨Nat.zero_le _, rfl, rfl⟩
theorem reqMem_pln {r : Rq} (h : SmR r) {f : List ByteArray} (hf : ∀ nm ∈ f, nm.size ≤ 100) : ∀ q ∈ reqMem r f, PlnM q := by
  intro q hq
  rcases List.mem_cons.1 hq with rfl | hq
  · exact ⟨by show nm_op.size ≤ 100; decide, h.1, rfl, rfl⟩
  · obtain ⟨nm, hnm, rfl⟩ := List.mem_map.1 hq
    exact getF_pln h (hf nm hnm)
theorem fields_small (op : ByteArray) : ∀ nm ∈ fieldsB op, nm.size ≤ 100 := by
  rcases fields_cases op with e | e | e | e | e | e | e | e | e | e
  all_goals
    rw [e]
    decide +kernel
theorem reqMem_nodup (r : Rq) (op : ByteArray) : ((reqMem r (fieldsB op)).map (fun m => m.1.toList)).Nodup := by
  rcases fields_cases op with e | e | e | e | e | e | e | e | e | e
  all_goals
    rw [e]
    unfold reqMem
    simp only [List.map_cons, List.map_nil]
    decide +kernel
theorem cntL_ge {α : Type} {f : α → Int → Int} {B : Int} (hB : 0 ≤ B) : ∀ (l : List α), (∀ x ∈ l, ∀ k, k - B ≤ f x k) → ∀ n : Int, (l.length : Int) * B < n → n - (l.length : Int) * B ≤ cntL f l n
  | [], _, n, _ => by simp [cntL]
  | x :: xs, h, n, hn => by
    have e : ((x :: xs).length : Int) * B = (xs.length : Int) * B + B := by simp only [List.length_cons]; push_cast; rw [Int.add_mul, Int.one_mul]
    rw [e] at hn ⊢
    have h0 : 0 ≤ (xs.length : Int) * B := Int.mul_nonneg (by omega) hB
    simp only [cntL]
    rw [if_pos (by omega)]
    have h1 := h x (List.mem_cons_self ..) n
    have := cntL_ge hB xs (fun y hy => h y (List.mem_cons_of_mem _ hy)) (f x n) (by omega)
    omega
theorem pln_len {vs : List (ByteArray × JV)} (h : ∀ q ∈ vs, PlnM q) (hn : vs.length ≤ 8) (hm : mayJ 64 (.mk 7 0 ⟨#[]⟩ [] (sortNames vs)) = true) : (printB 64 (.mk 7 0 ⟨#[]⟩ [] (sortNames vs))).length ≤ 1000000000 := by
  have hp := sortNames_perm vs
  have hl := hp.length_eq
  have hc : 0 < countB 2 (.mk 7 0 ⟨#[]⟩ [] (sortNames vs)) 1000000 := by
    have h1 := cntL_ge (f := fun (p : ByteArray × JV) n => countB 1 p.2 (n - cap20 p.1)) (B := 100101) (by decide) (sortNames vs) (fun q hq k => by
      obtain ⟨a1, a2, a3, a4⟩ := h q (hp.mem_iff.1 hq)
      have c1 : cap20 q.1 ≤ (q.1.size : Int) := by unfold cap20; omega
      have c2 : cap20 q.2.s ≤ (q.2.s.size : Int) := by unfold cap20; omega
      simp only [countB, a3, a4, cntL]
      omega) 999999 (by rw [hl]; omega)
    rw [countB]
    simp only [JV.m, JV.l, JV.s, cntL, cap_nil]
    rw [hl] at h1
    exact Int.lt_of_lt_of_le (show (0 : Int) < 999999 - (vs.length : Int) * 100101 by omega) h1
  have := count_len 2 64 _ 1000000 hm hc
  omega
theorem reqMem_len (r : Rq) (op : ByteArray) : (reqMem r (fieldsB op)).length ≤ 8 := by
  rcases fields_cases op with e | e | e | e | e | e | e | e | e | e
  all_goals
    rw [e]
    simp only [reqMem, List.length_cons, List.map_cons, List.map_nil, List.length_nil]
    decide
/-! the walk -/
theorem two_newR (w : World) (o0 o1 : Obj) : Below w.heap.size w ((w.alloc o0).alloc o1) ∧ ((w.alloc o0).alloc o1).heap[w.heap.size]? = some o0 ∧ ((w.alloc o0).alloc o1).heap[w.heap.size + 1]? = some o1 := by
  have e0 : (w.alloc o0).heap.size = w.heap.size + 1 := Array.size_push _
  have h0 := heap_alloc_new w o0
  have h1 := heap_alloc_new (w.alloc o0) o1
  rw [e0] at h1
  have b1 := bel_alloc (Below.refl _ (w.alloc o0)) o1
  exact ⟨bel_alloc (bel_alloc (Below.refl _ _) _) _, Below.at b1 h0, h1⟩
theorem bel_setR {n : Nat} {w W : World} {X i : Nat} (hb : Below n w W) (hX : n ≤ X) (v : Value) : Below n w (W.setCell ⟨X, i, none⟩ v) :=
  hb.trans ⟨rfl, rfl, rfl, by simp [World.setCell], fun k hk => Below.heap_setCell _ _ _ _ (show k ≠ X by omega)⟩
theorem bytes_eqP {a b : ByteArray} : a.toList = b.toList ↔ a = b := by
  rw [ByteArray.toList_eq, ByteArray.toList_eq]
  obtain ⟨⟨x⟩⟩ := a
  obtain ⟨⟨y⟩⟩ := b
  simp
def justK (r : Rq) (f : List ByteArray) (k : Nat) : Rq := (f.take k).foldl (fun j nm => putF j nm (getF r nm)) { zeroR with op := r.op }
/-- how far the members are laid -/
def PrI (r : Rq) (f : List ByteArray) (w : World) (Bq : Nat) (vf : Value) (k : Nat) (s5 : Value) (wr : World) : Prop := Sl strTy wr (fun b => b < Bq) vf f ∧ RqAt w.heap.size r wr ∧ RqAt (Bq + 1) (justK r f k) wr ∧ wr.ownsRow Bq 49 6 s5 (k + 1) ((reqMem r (f.take k)).flatMap memPl) ∧ (∀ b, s5.ownBlock = some b → b ≠ Bq + 1) ∧ Below w.heap.size w wr
set_option maxHeartbeats 8000000 in
theorem run_neq_rq (w : World) (a b : Rq) : (binOp .neq 24 (.agg #[.string a.op, .string a.user, .string a.feed, .string a.name, .string a.token, .int .i64 a.tx, .int .i64 a.entry, .int .i64 a.after, .int .i64 a.limit, .int .i64 a.before, .bool a.on]) (.agg #[.string b.op, .string b.user, .string b.feed, .string b.name, .string b.token, .int .i64 b.tx, .int .i64 b.entry, .int .i64 b.after, .int .i64 b.limit, .int .i64 b.before, .bool b.on])).run Tryz.prog w = .ok (.bool (decide (a ≠ b))) w := by
  have hu := Tryz.underlying24
  rw [run_neq_struct, run_equalIn_struct (P := Tryz.prog) w 9999 24 _ _ (by kernel_rfl) (by kernel_rfl)]
  simp [Program.fieldsOf, hu, Op.eqFields, part, isAgg, sizeOf]
  go_simp
  by_cases h : a = b
  · subst h; simp
  · have hd : decide (a = b) = false := decide_eq_false h
    rw [hd]
    obtain ⟨a0, a1, a2, a3, a4, a5, a6, a7, a8, a9, a10⟩ := a
    obtain ⟨b0, b1, b2, b3, b4, b5, b6, b7, b8, b9, b10⟩ := b
    simp only [Rq.mk.injEq, not_and] at h
    simp only [← bytes_eqP] at h
    dsimp only
    (repeat' split) <;> first | rfl | (exfalso; exact h (by assumption) (by assumption) (by assumption) (by assumption) (by assumption) (by assumption) (by assumption) (by assumption) (by assumption) (by assumption) (by assumption)) | trace_state
set_option maxRecDepth 100000 in
set_option maxHeartbeats 16000000 in
theorem pprint_any (r : Rq) (w : World) (hT : Tabs w) (hsm : SmR r) :
    Calls Tryz.prog 15 #[.agg (rqC r)] w fun e w' => (∃ A c, e = .returned (.tuple #[.slice A (pprintB r).1.length c, .int .i64 (pprintB r).2]) ∧ (pprintB r).1.length ≤ c ∧ BSl w' (fun _ => True) (.slice A (pprintB r).1.length c) ⟨(pprintB r).1.toArray⟩) ∧ Below w.heap.size w w' := by
  obtain ⟨i0, hi, hz0, hz1, hz2⟩ := info_parts memInfo
  obtain ⟨f, hf⟩ : ∃ f, fieldsB r.op = f := ⟨_, rfl⟩
  have hfl := fields_len r.op
  have hfa := fun W => fields_any r.op W
  rw [hf] at hfl
  simp only [hf] at hfa
  have hbA : Below w.heap.size w (w.alloc (.cells #[.string r.op, .string r.user, .string r.feed, .string r.name, .string r.token, .int .i64 r.tx, .int .i64 r.entry, .int .i64 r.after, .int .i64 r.limit, .int .i64 r.before, .bool r.on] 24)) := bel_alloc (Below.refl _ _) _
  have hA := heap_alloc_new w (.cells #[.string r.op, .string r.user, .string r.feed, .string r.name, .string r.token, .int .i64 r.tx, .int .i64 r.entry, .int .i64 r.after, .int .i64 r.limit, .int .i64 r.before, .bool r.on] 24)
  have HB := Lib.hid hbA; have HA := Lib.hid (show RqAt w.heap.size r _ from hA); have HT := Lib.hid hT; have HF := Lib.hid hf; have HFL := Lib.hid hfl; have HFA := Lib.hid hfa; have HSM := Lib.hid hsm
  clear hbA hA hT hf hfl hfa hsm
  unfold rqC
  obtain ⟨P, hP⟩ : ∃ P, pprintB r = P := ⟨_, rfl⟩
  rw [hP]
  have HPP := Lib.hid hP
  clear hP
  go_enter Tryz.func15, Tryz.ntmps15
  go_upto_region 1 with (fail)
  generalize w.alloc (.cells #[.string r.op, .string r.user, .string r.feed, .string r.name, .string r.token, .int .i64 r.tx, .int .i64 r.entry, .int .i64 r.after, .int .i64 r.limit, .int .i64 r.before, .bool r.on] 24) = W0 at *
  obtain ⟨⟨c0, _, _, _, _, _, _, _, _, _, _⟩, _, hR0⟩ := RqAt.cells HA.out
  go_wp2_with fail
  refine Calls.mono (HFA.out _) ?_
  rintro e w1 ⟨⟨vf, rfl, hsl⟩, hb⟩
  obtain ⟨Af, cf, rfl⟩ := hsl.form
  have HB1 := Lib.hid (bel_trans HB.out hb); have HA1 := Lib.hid (RqAt.later HA.out hb); have HS1 := Lib.hid hsl
  clear HB HA hb hsl c0 hR0
  by_cases hz : f = []
  case pos =>
    obtain rfl : P = ([], 16) := by rw [← HPP.out]; unfold pprintB; rw [if_pos (HF.out.trans hz)]
    subst hz
    have e1 : ((([] : List ByteArray).length : Int) == 0) = true := rfl
    simp only [List.length_nil]
    go_wp2_with fail
    go_ret2
    exact ⟨⟨none, 0, rfl, .inr ⟨rfl, none, 0, rfl⟩⟩, HB1.out⟩
  case neg =>
    have hz1 : ((f.length : Int) == 0) = false := by cases f with
      | nil => exact absurd rfl hz
      | cons a b => simp only [List.length_cons]; rw [beq_eq_false_iff_ne]; omega
    have HZ := Lib.hid hz
    clear hz
    obtain ⟨⟨c0, _, _, _, _, _, _, _, _, _, _⟩, _, hR0⟩ := RqAt.cells HA1.out
    obtain ⟨nf, hnf⟩ : ∃ nf, f.length = nf := ⟨_, rfl⟩
    have HNF := Lib.hid hnf
    have hs1 := HS1.out
    rw [hnf] at hz1 hs1
    simp only [hnf]
    have HS1 := Lib.hid hs1
    clear hs1
    clear hnf
    go_wp2_with fail
    refine Calls.mono (ptext_any _ _) ?_
    rintro e w2 ⟨rfl, hb2⟩
    go_wp2_with fail
    refine Calls.mono (pmember_any _ _ _ _ _ _ _ _ _ _ _) ?_
    rintro e w3 ⟨rfl, hb3⟩
    have HB3 := Lib.hid (bel_trans (bel_trans HB1.out hb2) hb3); have HA3 := Lib.hid (RqAt.later HA1.out (bel_trans hb2 hb3)); have HS3 := Lib.hid (HS1.out.below (bel_trans hb2 hb3))
    clear hb2 hb3 HB1 HA1 HS1 c0 hR0 hz1
    go_upto_region 6 with (fail)
    have H2 := Lib.hid (two_newR w3 (.cells #[.string ⟨#[111, 112]⟩, .int .i64 5, .int .i64 0, .string r.op, .slice none 0 0, .slice none 0 0] 49) (.cells #[.string ⟨#[]⟩, .string ⟨#[]⟩, .string ⟨#[]⟩, .string ⟨#[]⟩, .string ⟨#[]⟩, .int .i64 0, .int .i64 0, .int .i64 0, .int .i64 0, .int .i64 0, .bool false] 24))
    have ho0 : ((w3.alloc (.cells #[.string ⟨#[111, 112]⟩, .int .i64 5, .int .i64 0, .string r.op, .slice none 0 0, .slice none 0 0] 49)).alloc (.cells #[.string ⟨#[]⟩, .string ⟨#[]⟩, .string ⟨#[]⟩, .string ⟨#[]⟩, .string ⟨#[]⟩, .int .i64 0, .int .i64 0, .int .i64 0, .int .i64 0, .int .i64 0, .bool false] 24)).ownsRow w3.heap.size 49 6 (.slice (some ⟨w3.heap.size, 0, none⟩) 1 1) 1 [.string ⟨#[111, 112]⟩, .int .i64 5, .int .i64 0, .string r.op, .slice none 0 0, .slice none 0 0] := ⟨rfl, .inr ⟨w3.heap.size, 1, _, rfl, Nat.le_refl _, H2.out.2.1, Nat.le_refl _, by decide, rfl, rfl⟩⟩
    have HO0 := Lib.hid ho0
    have HB4 := Lib.hid (bel_trans HB3.out H2.out.1); have HA4 := Lib.hid (RqAt.later HA3.out H2.out.1); have HS4 := Lib.hid ((Sl.below HS3.out.bound H2.out.1).mono (F' := fun b => b < w3.heap.size) (fun _ h => h.2)); have HJ4 := Lib.hid (show RqAt (w3.heap.size + 1) zeroR _ from H2.out.2.2)
    have HRB := Lib.hid HA3.out.cells.2.2
    clear H2 ho0 HB3 HA3 HS3
    generalize (w3.alloc (.cells #[.string ⟨#[111, 112]⟩, .int .i64 5, .int .i64 0, .string r.op, .slice none 0 0, .slice none 0 0] 49)).alloc (.cells #[.string ⟨#[]⟩, .string ⟨#[]⟩, .string ⟨#[]⟩, .string ⟨#[]⟩, .string ⟨#[]⟩, .int .i64 0, .int .i64 0, .int .i64 0, .int .i64 0, .int .i64 0, .bool false] 24) = W4 at *
    generalize w3.heap.size = Bq at *
    obtain ⟨⟨c0, _, _, _, _, _, _, _, _, _, _⟩, _, hR0⟩ := RqAt.cells HA4.out
    obtain ⟨_, ⟨f0, _⟩, hJ0⟩ := RqAt.cells HJ4.out
    have hI : PrI r f w Bq (.slice Af nf cf) 0 (.slice (some ⟨Bq, 0, none⟩) 1 1) (W4.setCell ⟨Bq + 1, 0, none⟩ (.string r.op)) := by
      have ho := fun (b : Nat) (hne : b ≠ Bq + 1) => Below.heap_setCell W4 ⟨Bq + 1, 0, none⟩ (.string r.op) b hne
      have hrb := HRB.out
      refine ⟨(Sl.frame (fun b hb => ho b (by omega)) HS4.out), (ho _ (by omega)).trans HA4.out, heap_setCell_row HJ4.out, own_kept HO0.out (fun b hb => ho b (by have e : Bq = b := Option.some.inj hb; omega)), (fun b hb => by have e : Bq = b := Option.some.inj hb; omega), bel_setR HB4.out (by have := HB4.out; omega) _⟩
    have HI := Lib.hid hI
    clear hI HB4 HA4 HS4 HJ4 HO0
    go_upto_region 7 with (fail)
    generalize W4.setCell ⟨Bq + 1, 0, none⟩ (.string r.op) = W5 at *
    clear c0 hR0 f0 hJ0
    go_wp2_with fail
    go_loopg [5, 8, 9, 26] nf (fun gg s5 _ _ s26 wr => ∃ k : Nat, k ≤ nf ∧ nf - k ≤ gg ∧ s26 = .int .i64 k ∧ Aside (PrI r f w Bq (.slice Af nf cf) k s5 wr))
    case atStart => exact ⟨0, Nat.zero_le _, by omega, rfl, HI.out⟩
    case round =>
      obtain ⟨k, hk, hgg, rfl, hi0⟩ := hrel
      obtain ⟨HIS, HIR, HIJ, HIO, HIN, HIB⟩ := hi0
      by_cases hlt : k < nf
      · have hltz : (k : Int) < (nf : Int) := by omega
        obtain ⟨nm, hx⟩ : ∃ nm, f[k]? = some nm := get_ex (by have := HNF.out; omega)
        obtain ⟨A', c', hve, hel⟩ := str_cells HIS
        have hd : Af = A' := (Value.slice.inj hve).1
        have he : cf = c' := (Value.slice.inj hve).2.2
        subst hd; subst he
        clear hve
        obtain ⟨b, o, rfl, r0⟩ := hel k nm hx
        have hbl := World.block_lt_of_cell? _ _ r0
        have hg := getF_any w.heap.size r nm wr HIR
        unfold plainC at hg
        have hpl := getF_pln HSM.out (nm := nm) (fields_small r.op nm (by rw [HF.out]; exact List.mem_of_getElem? hx))
        have htk : f.take (k + 1) = f.take k ++ [nm] := by rw [List.take_add_one, hx]; rfl
        have hjk : justK r f (k + 1) = putF (justK r f k) nm (getF r nm) := by unfold justK; rw [htk, List.foldl_append]; rfl
        have hrq : (reqMem r (f.take (k + 1))).flatMap memPl = (reqMem r (f.take k)).flatMap memPl ++ memPl (nm, getF r nm) := by
          rw [htk]; unfold reqMem; simp [List.map_append, List.flatMap_append, List.flatMap_cons]
        have HG := Lib.hid hg; have HPL := Lib.hid hpl; have HJK := Lib.hid hjk; have HRQ := Lib.hid hrq
        have HIS' := Lib.hid HIS; have HIR' := Lib.hid HIR; have HIJ' := Lib.hid HIJ; have HIO' := Lib.hid HIO; have HIN' := Lib.hid HIN; have HIB' := Lib.hid HIB
        clear hg hpl hjk hrq htk hel hx HIS HIR HIJ HIO HIN HIB
        obtain ⟨x, hxx⟩ : ∃ x, getF r nm = x := ⟨_, rfl⟩
        rw [hxx] at HG HJK HRQ
        have HXX := Lib.hid hxx
        clear hxx
        obtain ⟨L5, c5, rfl⟩ := own_sliceB HIO'.out
        go_upto_region 10 with (fail)
        go_wp2_with fail
        refine Calls.mono HG.out ?_
        rintro e w6 ⟨rfl, hb⟩
        have hal := bel_alloc (Below.refl w6.heap.size w6) (.cells #[.int .i64 x.k, .int .i64 x.n, .string x.s, .slice none 0 0, .slice none 0 0] 43)
        have hb2 := bel_trans hb hal
        have HX := Lib.hid (heap_alloc_new w6 (.cells #[.int .i64 x.k, .int .i64 x.n, .string x.s, .slice none 0 0, .slice none 0 0] 43))
        have JS := Lib.hid (HIS'.out.below hb2); have JR' := Lib.hid (HIR'.out.later hb2); have JJ := Lib.hid (HIJ'.out.later hb2); have JO := Lib.hid (own_later HIO'.out hb2); have JB := Lib.hid (bel_trans HIB'.out hb2)
        have HXJ := Lib.hid (show Bq + 1 < w6.heap.size from (HIJ'.out.later hb).cells.2.2)
        clear hb hal hb2 HIS' HIR' HIJ' HIO' HIB' HG
        go_upto_region 11 with (fail)
        generalize w6.alloc (.cells #[.int .i64 x.k, .int .i64 x.n, .string x.s, .slice none 0 0, .slice none 0 0] 43) = W7 at *
        generalize w6.heap.size = X9 at *
        obtain ⟨⟨y0, y1, y2, y3, y4⟩, _, hX9⟩ := cells5 HX.out
        go_wp2_with fail
        refine Calls.mono (setF_any (Bq + 1) _ nm x _ _ _ _ _ _ _ JJ.out) ?_
        rintro e w8 ⟨rfl, hj, hg⟩
        have hrb := HRB.out
        have hxj := HXJ.out
        have hk8 := fun (b : Nat) (hb : b < W7.heap.size) (hne : b ≠ Bq + 1) => hg.block b hb (fun e => hne (Option.some.inj e))
        have hx8 : w8.heap[X9]? = some (.cells #[.int .i64 x.k, .int .i64 x.n, .string x.s, .slice none 0 0, .slice none 0 0] 43 (0, 0)) := (hk8 X9 hX9 (by omega)).trans HX.out
        have kS := JS.out.bound.frame (w' := w8) (fun b hb => hk8 b hb.2 (by omega))
        have kR : RqAt w.heap.size r w8 := (hk8 _ (RqAt.cells JR'.out).2.2 (by omega)).trans JR'.out
        have kO := own_kept (W := w8) JO.out (fun b hb => hk8 b (JO.out.lt b hb).2 (HIN'.out b hb))
        have kB : Below w.heap.size w w8 := bel_grown JB.out hg (fun b hb => by have := Option.some.inj hb; omega)
        have KS := Lib.hid (kS.mono (F' := fun b => b < Bq) (fun _ h => h.1)); have KR := Lib.hid kR; have KO := Lib.hid kO; have KB := Lib.hid kB; have KJ := Lib.hid hj
        obtain ⟨⟨y0, y1, y2, y3, y4⟩, _, hX9'⟩ := cells5 hx8
        clear hk8 hx8 kS kR kO kB hj hg JS JR' JJ JO JB HX hX9 hrb hxj
        go_wp2_with fail
        refine Calls.mono (pmember_any _ _ _ _ _ _ _ _ _ _ _) ?_
        rintro e w9 ⟨rfl, hb⟩
        have hal := bel_alloc (Below.refl w9.heap.size w9) (.cells #[.string nm, .int .i64 x.k, .int .i64 x.n, .string x.s, .slice none 0 0, .slice none 0 0] 49)
        have hb2 := bel_trans hb hal
        have LS := Lib.hid (KS.out.below hb2); have LR := Lib.hid (KR.out.later hb2); have LJ := Lib.hid (KJ.out.later hb2); have LO := Lib.hid (own_later KO.out hb2); have LB := Lib.hid (bel_trans KB.out hb2)
        have hnew : ∀ j u, ([.string nm, .int .i64 x.k, .int .i64 x.n, .string x.s, .slice none 0 0, .slice none 0 0] : List Value)[j]? = some u → (w9.alloc (.cells #[.string nm, .int .i64 x.k, .int .i64 x.n, .string x.s, .slice none 0 0, .slice none 0 0] 49)).cell? ((⟨w9.heap.size, 0, none⟩ : Addr).add j) = some u := fun j u hj => by
          rw [Addr.add_lit, Nat.zero_add]; exact cell_newB w9 #[.string nm, .int .i64 x.k, .int .i64 x.n, .string x.s, .slice none 0 0, .slice none 0 0] 49 j u (by simpa using hj)
        have hone : ∀ u ∈ ([.string nm, .int .i64 x.k, .int .i64 x.n, .string x.s, .slice none 0 0, .slice none 0 0] : List Value), u.oneCell' = true := by intro u hu; simp at hu; rcases hu with rfl | rfl | rfl | rfl | rfl | rfl <;> rfl
        have SR := Lib.hid hnew; have ONE := Lib.hid hone
        have S1 := Lib.hid (show (k + 1) + 1 ≤ maxLen by have := HNF.out; have := HFL.out; simp only [maxLen]; omega)
        have S2 := Lib.hid (show ((k + 1) + 1) * 96 ≤ 140737488355328 by have := HNF.out; have := HFL.out; omega)
        have S3 := Lib.hid (show Bq ≤ (w9.alloc (.cells #[.string nm, .int .i64 x.k, .int .i64 x.n, .string x.s, .slice none 0 0, .slice none 0 0] 49)).heap.size by have := (RqAt.cells LJ.out).2.2; omega)
        have hkb : k ≤ 1000000 := by have := HNF.out; have := HFL.out; omega
        have HX9 := Lib.hid (show Bq + 1 < w9.heap.size from (KJ.out.later hb).cells.2.2)
        clear hb hal hb2 hnew hone KS KR KO KB KJ y0 y1 y2 y3 y4 hX9'
        go_wp2_with (at_builtin; refine wpList_append_ownB rfl _ _ 41 rfl Bq 49 i0 (.agg #[.string ⟨#[]⟩, .int .i64 0, .int .i64 0, .string ⟨#[]⟩, .slice none 0 0, .slice none 0 0]) 6 96 Tryz.underlying41 hi hz0 hz1 hz2 rfl (by decide) _ _ _ rfl LO.out ⟨w9.heap.size, 0, none⟩ 1 1 [.string nm, .int .i64 x.k, .int .i64 x.n, .string x.s, .slice none 0 0, .slice none 0 0] rfl rfl SR.out ONE.out S1.out S2.out S3.out ?_)
        intro v10 w10 ho10 hg10 hx10
        have hrb := HRB.out
        have hxj := HXJ.out
        generalize w9.alloc (.cells #[.string nm, .int .i64 x.k, .int .i64 x.n, .string x.s, .slice none 0 0, .slice none 0 0] 49) = W9 at *
        have hlt := LO.out.lt
        have hk10 := fun (b : Nat) (hb : b < W9.heap.size) (hne : ∀ j, (Value.slice L5 (k + 1) c5).ownBlock = some j → b ≠ j) => hg10.block b hb (fun e => hne b e.symm rfl)
        have hI : PrI r f w Bq (.slice (some ⟨b, o, none⟩) nf cf) (k + 1) v10 w10 := by
          refine ⟨LS.out.bound.frame (w' := w10) (fun b hb => hk10 b hb.2 (fun j hj => by have := (hlt j hj).1; have := hb.1; omega)) |>.mono (fun _ h => h.1), (hk10 _ (RqAt.cells LR.out).2.2 (fun j hj => by have := (hlt j hj).1; omega)).trans LR.out, ?_, ?_, ?_, bel_grown LB.out hg10 (fun j hj => by have := (hlt j hj).1; omega)⟩
          · rw [HJK.out]; exact (hk10 _ (RqAt.cells LJ.out).2.2 (fun j hj => (HIN'.out j hj).symm)).trans LJ.out
          · rw [HRQ.out]; exact ho10
          · intro j hj
            rcases hx10 with h | h
            · exact HIN'.out j (h.symm.trans hj)
            · have e := Option.some.inj (hj.symm.trans h)
              have := (RqAt.cells LJ.out).2.2
              have := HX9.out
              omega
        have HI2 := Lib.hid hI
        clear hI hk10 hlt ho10 hg10 hx10 LS LR LJ LO LB SR ONE S1 S2 S3
        go_wp2_with fail
        go_roundg (nf - (k + 1))
        case measure => omega
        case rel => exact ⟨k + 1, by omega, by omega, by go_num, HI2.out⟩
      · have hltz : ¬ (k : Int) < (nf : Int) := by omega
        obtain rfl : k = nf := by omega
        have htk : f.take k = f := List.take_of_length_le (by rw [HNF.out]; exact Nat.le_refl _)
        have hjb : justK r f k = justB r := by unfold justK justB; rw [htk, HF.out]
        rw [hjb] at HIJ
        rw [htk] at HIO
        obtain ⟨jb, hjb⟩ : ∃ jb, justB r = jb := ⟨_, rfl⟩
        rw [hjb] at HIJ
        have hpp : P = if jb ≠ r then ([], 4) else (prB (objR r), if mayJ 64 (objR r) then 0 else 4) := by
          rw [← HPP.out]; unfold pprintB; rw [hjb, if_neg (fun h => HZ.out (HF.out.symm.trans h))]
        have q0 := fun W => run_neq_rq W jb r
        have hlen : (reqMem r f).length = k + 1 := by simp only [reqMem, List.length_cons, List.length_map, HNF.out]
        have hpm := reqMem_pln HSM.out (f := f) (fun nm hnm => fields_small r.op nm (by rw [HF.out]; exact hnm))
        have hob := pobj_any Bq u5 (reqMem r f) _ (fun _ => False) wr (by rw [hlen]; exact HIO) (pln_chunks _ hpm) (fun _ h => h.elim) (by rw [← HF.out]; exact reqMem_nodup r r.op) (by have := reqMem_len r r.op; rw [HF.out] at this; omega)
        have hfin : objR r = .mk 7 0 ⟨#[]⟩ [] (sortNames (reqMem r f)) := by unfold objR; rw [HF.out]
        have hml := fun hm => pln_len hpm (by rw [← HF.out]; exact reqMem_len r r.op) hm
        rw [← hfin] at hml
        have hTr := HT.out.below HIB
        have hob1 := fun b hb => (HIO.lt b hb)
        have HOB := Lib.hid hob; have HPQ := Lib.hid hpp; have HQ0 := Lib.hid q0; have HFIN := Lib.hid hfin; have HML := Lib.hid hml; have HTR := Lib.hid hTr; have HBR := Lib.hid HIB
        have HO1 := Lib.hid hob1
        obtain ⟨⟨a0, a1, a2, a3, a4, a5, a6, a7, a8, a9, a10⟩, _, _⟩ := RqAt.cells HIR
        obtain ⟨⟨b0, b1, b2, b3, b4, b5, b6, b7, b8, b9, b10⟩, _, _⟩ := RqAt.cells HIJ
        obtain ⟨L5, c5, rfl⟩ := own_sliceB HIO
        clear htk hjb hpp q0 hlen hpm hob hfin hml hTr hob1 HIS HIR HIJ HIO HIN HIB
        have q0 := HQ0.out
        obtain ⟨dn, hdn⟩ : ∃ dn, decide (jb ≠ r) = dn := ⟨_, rfl⟩
        simp only [hdn] at q0
        have HDN := Lib.hid hdn
        clear hdn
        cases dn with
        | true =>
          obtain rfl : P = ([], 4) := by rw [HPQ.out, if_pos (of_decide_eq_true HDN.out)]
          clear HPQ HPP
          go_wp2_with fail
          go_ret2
          exact ⟨⟨none, 0, rfl, .inr ⟨rfl, none, 0, rfl⟩⟩, HBR.out⟩
        | false =>
          have hP2 : P = (prB (objR r), if mayJ 64 (objR r) then 0 else 4) := by rw [HPQ.out, if_neg (of_decide_eq_false HDN.out)]
          obtain ⟨P1, P2⟩ := P
          have hB : prB (objR r) = P1 := (congrArg Prod.fst hP2).symm
          have hE : (if mayJ 64 (objR r) then (0 : Int) else 4) = P2 := (congrArg Prod.snd hP2).symm
          have HBE := Lib.hid (And.intro hB hE)
          clear hP2 hB hE
          clear HPQ HPP
          go_wp2_with fail
          refine Calls.mono HOB.out ?_
          rintro e w6 ⟨rfl, hsl, hg⟩
          have hb6 : Below w.heap.size w w6 := bel_grown HBR.out hg (fun b hb => by have := (HO1.out b hb).1; have := HRB.out; omega)
          have hj : JR w6 (fun _ => True) (objR r) [.int .i64 7, .int .i64 0, .string ⟨#[]⟩, .slice none 0 0, .slice L5 (k + 1) c5] := by
            rw [HFIN.out]
            exact JR_iff.2 ⟨.slice none 0 0, _, ⟨rfl, by simp [JV.s, ByteArray.size]⟩, .inl ⟨rfl, none, 0, rfl⟩, hsl⟩
          have hpr := print_bothC (objR r) _ _ w6 hj (HT.out.below hb6) HML.out
          unfold PrResC at hpr
          rw [HBE.out.1, HBE.out.2] at hpr
          have HPR := Lib.hid hpr; have HB6 := Lib.hid hb6
          clear hsl hg hb6 hj hpr HFIN HML HBE
          go_wp2_with fail
          refine Calls.mono HPR.out ?_
          rintro e w7 ⟨⟨A7, c7, rfl, hcap, hbs⟩, hb⟩
          have HB7 := Lib.hid (bel_trans HB6.out hb); have HBS := Lib.hid hbs; have HCAP := Lib.hid hcap
          clear hb hbs hcap
          go_wp2_with fail
          go_ret2
          exact ⟨⟨A7, c7, rfl, HCAP.out, HBS.out⟩, HB7.out⟩
end Go.Proofs.YtlihjmfdnkfmfaaGreatDoor
namespace Go.Proofs.YtlihjmfdnkfmfaaGreatDoor
open Go.RowKit Go.Lib

def nm_error : ByteArray := ⟨#[101, 114, 114, 111, 114]⟩
def nm_ok : ByteArray := ⟨#[111, 107]⟩
def failO (e : Int) : JV := .mk 7 0 ⟨#[]⟩ [] [(nm_error, numV e), (nm_ok, truthV false)]
def doneO : JV := .mk 7 0 ⟨#[]⟩ [] [(nm_ok, truthV true)]
theorem own_new2 (w : World) (T : TypeId) (n : Nat) (cs : List Value) (sz : Nat) (hc : cs.length = n * sz) (hn : n ≤ 1000) : (w.alloc (.cells cs.toArray T)).ownsRow w.heap.size T sz (.slice (some ⟨w.heap.size, 0, none⟩) n n) n cs :=
  ⟨hc, .inr ⟨w.heap.size, n, cs.toArray, rfl, Nat.le_refl _, heap_alloc_new w _, Nat.le_refl _, by simp only [maxLen]; omega, by simpa using hc, by rw [← hc]; simp⟩⟩
theorem own_baseR {w : World} {base base' : Nat} {e : TypeId} {size n : Nat} {v : Value} {xs : List Value} (h : w.ownsRow base e size v n xs) (hb : base' ≤ base) : w.ownsRow base' e size v n xs :=
  ⟨h.1, h.2.imp id fun ⟨g, cap, cur, e, h1, h2⟩ => ⟨g, cap, cur, e, Nat.le_trans hb h1, h2⟩⟩
theorem slm_jr {w : World} {v : Value} {vs : List (ByteArray × JV)} (h : Sl memTy w (fun _ => True) v vs) : JR w (fun _ => True) (.mk 7 0 ⟨#[]⟩ [] vs) [.int .i64 7, .int .i64 0, .string ⟨#[]⟩, .slice none 0 0, v] :=
  JR_iff.2 ⟨.slice none 0 0, _, ⟨rfl, by simp [JV.s, ByteArray.size]⟩, .inl ⟨rfl, none, 0, rfl⟩, h⟩
set_option maxRecDepth 100000 in
set_option maxHeartbeats 16000000 in
theorem pfail_any (n : Int) (w : World) (hT : Tabs w) :
    Calls Tryz.prog 22 #[.int .i64 n] w fun e w' => (∃ v, e = .returned v ∧ BSl w' (fun _ => True) v ⟨(prB (failO n)).toArray⟩) ∧ Below w.heap.size w w' := by
  have hpl : ∀ q ∈ [(nm_error, numV n), (nm_ok, truthV false)], PlnM q := by
    intro q hq
    simp only [List.mem_cons, List.not_mem_nil, or_false] at hq
    rcases hq with rfl | rfl
    · exact ⟨by show nm_error.size ≤ 100; decide, Nat.zero_le _, rfl, rfl⟩
    · exact ⟨by show nm_ok.size ≤ 100; decide, Nat.zero_le _, rfl, rfl⟩
  have hso : sortNames [(nm_error, numV n), (nm_ok, truthV false)] = [(nm_error, numV n), (nm_ok, truthV false)] := by kernel_rfl
  have hml : mayJ 64 (failO n) = true → (printB 64 (failO n)).length ≤ 1000000000 := fun hm => by
    have h := pln_len hpl (show 2 ≤ 8 by decide)
    rw [hso] at h
    exact h hm
  have HND := Lib.hid (show ([(nm_error, numV n), (nm_ok, truthV false)].map (fun m => m.1.toList)).Nodup by show [nm_error.toList, nm_ok.toList].Nodup; decide +kernel)
  have HPL := Lib.hid hpl; have HSO := Lib.hid hso; have HML := Lib.hid hml; have HT := Lib.hid hT
  clear hpl hso hml hT
  go_enter Tryz.func22, Tryz.ntmps22
  go_wp2_with fail
  refine Calls.mono (pnumber_any _ _) ?_
  rintro e w1 ⟨rfl, hb1⟩
  go_wp2_with fail
  refine Calls.mono (pmember_any _ _ _ _ _ _ _ _ _ _ _) ?_
  rintro e w2 ⟨rfl, hb2⟩
  go_wp2_with fail
  refine Calls.mono (ptruth_f _) ?_
  rintro e w3 ⟨rfl, hb3⟩
  go_wp2_with fail
  refine Calls.mono (pmember_any _ _ _ _ _ _ _ _ _ _ _) ?_
  rintro e w4 ⟨rfl, hb4⟩
  have HB4 := Lib.hid (bel_trans (bel_trans (bel_trans hb1 hb2) hb3) hb4)
  clear hb1 hb2 hb3 hb4
  go_wp2_with fail
  have ho := own_new2 w4 49 2 [.string ⟨#[101, 114, 114, 111, 114]⟩, .int .i64 4, .int .i64 n, .string ⟨#[]⟩, .slice none 0 0, .slice none 0 0, .string ⟨#[111, 107]⟩, .int .i64 2, .int .i64 0, .string ⟨#[]⟩, .slice none 0 0, .slice none 0 0] 6 rfl (by decide)
  have hbA := bel_alloc (Below.refl w4.heap.size w4) (.cells #[.string ⟨#[101, 114, 114, 111, 114]⟩, .int .i64 4, .int .i64 n, .string ⟨#[]⟩, .slice none 0 0, .slice none 0 0, .string ⟨#[111, 107]⟩, .int .i64 2, .int .i64 0, .string ⟨#[]⟩, .slice none 0 0, .slice none 0 0] 49)
  have hob := pobj_any w4.heap.size _ [(nm_error, numV n), (nm_ok, truthV false)] [.string ⟨#[101, 114, 114, 111, 114]⟩, .int .i64 4, .int .i64 n, .string ⟨#[]⟩, .slice none 0 0, .slice none 0 0, .string ⟨#[111, 107]⟩, .int .i64 2, .int .i64 0, .string ⟨#[]⟩, .slice none 0 0, .slice none 0 0] (fun _ => False) _ ho (pln_chunks _ HPL.out) (fun _ h => h.elim) HND.out (show 2 ≤ 1000000 by decide)
  rw [HSO.out] at hob
  have HOB := Lib.hid hob; have HBA := Lib.hid hbA
  clear ho hbA hob
  generalize w4.alloc (.cells #[.string ⟨#[101, 114, 114, 111, 114]⟩, .int .i64 4, .int .i64 n, .string ⟨#[]⟩, .slice none 0 0, .slice none 0 0, .string ⟨#[111, 107]⟩, .int .i64 2, .int .i64 0, .string ⟨#[]⟩, .slice none 0 0, .slice none 0 0] 49) = W5 at *
  refine Calls.mono HOB.out ?_
  rintro e w6 ⟨rfl, hsl, hg⟩
  have hb6 := bel_grown (bel_trans HB4.out HBA.out) hg (fun b hb => by have e : w4.heap.size = b := Option.some.inj hb; have := HB4.out.size; omega)
  have hpr := print_both (failO n) _ _ w6 (slm_jr hsl) (HT.out.below hb6) HML.out
  unfold PrRes at hpr
  obtain ⟨E, hE⟩ : ∃ E, (if mayJ 64 (failO n) = true then (0 : Int) else 4) = E := ⟨_, rfl⟩
  rw [hE] at hpr
  have HPR := Lib.hid hpr; have HB6 := Lib.hid hb6
  clear hsl hg hb6 hpr HOB HBA HB4 hE
  go_wp2_with fail
  refine Calls.mono HPR.out ?_
  rintro e w7 ⟨⟨A7, c7, rfl, hbs⟩, hb⟩
  have HB7 := Lib.hid (bel_trans HB6.out hb); have HBS := Lib.hid hbs
  clear hb hbs
  go_wp2_with fail
  go_ret
  exact ⟨⟨_, rfl, HBS.out⟩, HB7.out⟩
set_option maxRecDepth 100000 in
set_option maxHeartbeats 16000000 in
/-- answer, where what is told may be told -/
theorem panswer_any (w0 : World) (base : Nat) (v : Value) (vs : List (ByteArray × JV)) (cs : List Value) (F : Nat → Prop) (w : World) (hT : Tabs w0) (hw : Below w0.heap.size w0 w) (hbs : w0.heap.size ≤ base) (ho : w.ownsRow base 49 6 v vs.length cs) (hc : Chunks memTy w F vs cs)
    (hF : ∀ b, F b → b < w.heap.size ∧ some b ≠ v.ownBlock) (hnd : (vs.map (fun m => m.1.toList)).Nodup) (hn : vs.length ≤ 1000000) (hm : mayJ 64 (.mk 7 0 ⟨#[]⟩ [] (sortNames vs)) = true) (hl : (printB 64 (.mk 7 0 ⟨#[]⟩ [] (sortNames vs))).length ≤ 1000000000) :
    Calls Tryz.prog 77 #[v] w fun e w' => (∃ u, e = .returned u ∧ BSl w' (fun _ => True) u ⟨(prB (.mk 7 0 ⟨#[]⟩ [] (sortNames vs))).toArray⟩) ∧ Below w0.heap.size w0 w' := by
  have hob := pobj_any base v vs cs F w ho hc hF hnd hn
  obtain ⟨L, c, rfl⟩ := own_sliceB ho
  have hlt : ∀ b, (Value.slice L vs.length c).ownBlock = some b → w0.heap.size ≤ b := fun b hb => by have := (ho.lt b hb).1; omega
  have HOB := Lib.hid hob; have HM := Lib.hid hm; have HL := Lib.hid hl; have HT := Lib.hid hT; have HW := Lib.hid hw; have HLT := Lib.hid hlt
  clear hob hm hl hT hlt ho hc hF hnd hn hw hbs
  go_enter Tryz.func77, Tryz.ntmps77
  go_wp2_with fail
  refine Calls.mono HOB.out ?_
  rintro e w6 ⟨rfl, hsl, hg⟩
  have hb6 := bel_grown HW.out hg HLT.out
  have hpr := print_both _ _ _ w6 (slm_jr hsl) (HT.out.below hb6) (fun _ => HL.out)
  unfold PrRes at hpr
  rw [HM.out, if_pos rfl] at hpr
  have HPR := Lib.hid hpr; have HB6 := Lib.hid hb6
  clear hsl hg hb6 hpr HOB HW HM HL
  go_wp2_with fail
  refine Calls.mono HPR.out ?_
  rintro e w7 ⟨⟨A7, c7, rfl, hbs⟩, hb⟩
  have HB7 := Lib.hid (bel_trans HB6.out hb); have HBS := Lib.hid hbs
  clear hb hbs
  go_wp2_with fail
  go_ret
  exact ⟨⟨_, rfl, HBS.out⟩, HB7.out⟩
theorem done_may : mayJ 64 doneO = true := by kernel_rfl
theorem done_print : printB 64 doneO = [123, 34, 111, 107, 34, 58, 116, 114, 117, 101, 125] := by kernel_rfl
set_option maxRecDepth 100000 in
set_option maxHeartbeats 16000000 in
theorem pdone_any (w : World) (hT : Tabs w) :
    Calls Tryz.prog 33 #[] w fun e w' => (∃ v, e = .returned v ∧ BSl w' (fun _ => True) v ⟨#[123, 34, 111, 107, 34, 58, 116, 114, 117, 101, 125]⟩) ∧ Below w.heap.size w w' := by
  have hpl : ∀ q ∈ [(nm_ok, truthV true)], PlnM q := by
    intro q hq
    obtain rfl := List.mem_singleton.1 hq
    exact ⟨by show nm_ok.size ≤ 100; decide, Nat.zero_le _, rfl, rfl⟩
  have hso : sortNames [(nm_ok, truthV true)] = [(nm_ok, truthV true)] := rfl
  have hpb : prB (.mk 7 0 ⟨#[]⟩ [] (sortNames [(nm_ok, truthV true)])) = [123, 34, 111, 107, 34, 58, 116, 114, 117, 101, 125] := by
    rw [hso]; show prB doneO = _; unfold prB; rw [done_may, if_pos rfl, done_print]
  have han := fun W2 (hb : Below w.heap.size w W2) v ho => panswer_any w w.heap.size v [(nm_ok, truthV true)] [.string ⟨#[111, 107]⟩, .int .i64 3, .int .i64 0, .string ⟨#[]⟩, .slice none 0 0, .slice none 0 0] (fun _ => False) W2 hT hb (Nat.le_refl _) ho (pln_chunks _ hpl) (fun _ h => h.elim) (by show [nm_ok.toList].Nodup; decide +kernel) (show 1 ≤ 1000000 by decide) (by rw [hso]; exact done_may) (by rw [hso]; show (printB 64 doneO).length ≤ _; rw [done_print]; decide)
  rw [hpb] at han
  have HAN := Lib.hid han
  clear hpl hso hpb han
  go_enter Tryz.func33, Tryz.ntmps33
  go_wp2_with fail
  refine Calls.mono (ptruth_t _) ?_
  rintro e w3 ⟨rfl, hb3⟩
  go_wp2_with fail
  refine Calls.mono (pmember_any _ _ _ _ _ _ _ _ _ _ _) ?_
  rintro e w4 ⟨rfl, hb4⟩
  have HB4 := Lib.hid (bel_trans hb3 hb4)
  clear hb3 hb4
  go_wp2_with fail
  have ho := own_baseR (own_new2 w4 49 1 [.string ⟨#[111, 107]⟩, .int .i64 3, .int .i64 0, .string ⟨#[]⟩, .slice none 0 0, .slice none 0 0] 6 rfl (by decide)) HB4.out.size
  have hcl := HAN.out _ (bel_alloc HB4.out (.cells #[.string ⟨#[111, 107]⟩, .int .i64 3, .int .i64 0, .string ⟨#[]⟩, .slice none 0 0, .slice none 0 0] 49)) _ ho
  have HCL := Lib.hid hcl
  clear ho hcl HB4
  generalize w4.alloc (.cells #[.string ⟨#[111, 107]⟩, .int .i64 3, .int .i64 0, .string ⟨#[]⟩, .slice none 0 0, .slice none 0 0] 49) = W5 at *
  refine Calls.mono HCL.out ?_
  rintro e w6 ⟨⟨u, rfl, hbs⟩, hb⟩
  obtain ⟨A7, c7, rfl⟩ := hbs.form
  have HB6 := Lib.hid hb; have HBS := Lib.hid hbs
  clear hb hbs
  go_wp2_with fail
  go_ret
  exact ⟨⟨_, rfl, HBS.out⟩, HB6.out⟩
end Go.Proofs.YtlihjmfdnkfmfaaGreatDoor
