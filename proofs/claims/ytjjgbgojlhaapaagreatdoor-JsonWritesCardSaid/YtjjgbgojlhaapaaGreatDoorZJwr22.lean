/- Parts of the proof: Kn. -/
import Derived.Test.YtjjgbgojlhaapaaGreatDoorZJwr21
import Derived.Test.YtjjgbgojlhaapaaGreatDoorZJwr4
namespace Go.Proofs.YtjjgbgojlhaapaaGreatDoor
open Go.RowKit Go.Lib

/-- a list of texts in memory -/
def strTy : Ty ByteArray where
  sz := 1
  pos := by decide
  R := fun _ _ s cs => cs = [.string s]
  len := by rintro w F x cs rfl; rfl
  one := by rintro w F x cs rfl u hu; rw [List.mem_singleton.1 hu]; rfl
  mono := fun _ h => h
  frame := fun _ h => h
  bound := fun h => h
theorem str_chunks {w : World} {F : Nat → Prop} : ∀ (xs : List ByteArray), Chunks strTy w F xs (xs.map Value.string)
  | [] => rfl
  | x :: xs => ⟨[.string x], xs.map Value.string, rfl, rfl, str_chunks xs⟩
section
variable {P : Program} {ops : Array Oper} {Q : Exit → Act → World → Prop}
/-- no operation of the region is a defer statement -/
def noDefer (ops : Array Oper) : Bool := ops.all fun o => match o.op with
  | .defer _ => false
  | _ => true
theorem noDefer_at (h : noDefer ops = true) {i : Nat} {o : Oper} (ho : ops[i]? = some o) : ∀ c, o.op ≠ .defer c := fun c hc => by
  have h1 := Array.all_eq_true'.1 h o (Array.mem_of_getElem? ho)
  rw [hc] at h1
  cases h1
/-- what goes through outside a round goes through in a round -/
theorem wpOps_round {l n : Nat} (hd : noDefer ops = true) (hlo : ¬ LetsOut Q) :
    ∀ (is : List Nat) (a : Act) (w : World), wpOps P ops Q is a w → wpOpsIn (Fence.wide.inRound l) n P ops Q is a w
  | [], _, _, h => h
  | i :: is, a, w, h => by
    have ih := wpOps_round (l := l) (n := n) hd hlo is
    rw [wpOps_cons] at h
    rw [wpOpsIn_cons]
    unfold wpOp at h
    unfold wpOpIn
    cases ho : ops[i]? with
    | none => simp only [ho] at h ⊢; exact ih _ _ h
    | some o =>
      simp only [ho] at h ⊢
      by_cases hw : Region.wanted o (yielded ops a.tmps) = true
      · rw [if_pos hw] at h ⊢
        rcases h with h | h
        case inr => exact absurd h.2 hlo
        refine ⟨fun _ _ => trivial, ?_⟩
        have hs : Oper.semAt (Fence.wide.inRound l).round a.eval o = execOp a.eval o := Oper.semAt_some l _ o (noDefer_at hd ho)
        rw [hs]
        unfold Oper.wp at h
        generalize (execOp a.eval o).run P w = r at *
        cases r with
        | ok x w' =>
          cases x with
          | value v => exact ih _ _ h
          | skip => exact ih _ _ h
          | defer d => exact ih _ _ h
          | enter f args =>
            refine ⟨fun hh => (by first | cases hh | simp [Fence.wide, Fence.inRound] at hh), CallsIn.inRound l (callsIn_wide.2 (Calls.mono h fun e w2 he => ?_))⟩
            cases e with
            | returned v => exact ih _ _ he
            | panicked c => exact he
            | outgrown => exact he
          | row row args => exact ⟨fun hh => (by first | cases hh | simp [Fence.wide, Fence.inRound] at hh), fun c cs _ => let ⟨v, w2, r, s⟩ := h c cs; ⟨v, w2, ih _ _ r, stepsIn_wide.2 s⟩⟩
          | _ => exact h.elim
        | halt x w' => cases x <;> first | exact h | exact h.elim
      · rw [if_neg hw] at h ⊢
        exact ⟨fun _ _ => trivial, ih _ _ h⟩
theorem wpIn_round_any {l n id : Nat} {a : Act} {w : World} (hm : P.follows .mixedOrders = true) (hd : noDefer ops = true) (hlo : ¬ LetsOut Q)
    (h : wpAny P .any ops Q ops.size (Array.replicate ops.size false) a w.drew) : (Code.region id ops true).wpIn (Fence.wide.inRound l) n P Q a w :=
  wpIn_region_draw fun t => by
    simp only [Region.schedule, hm, Bool.true_or, if_true]
    exact wpOps_round hd hlo _ a _ (wpAny_sound ops.size t _ a _ h)
end
theorem run_equalIn_func_nil {P : Program} (w : World) (d : Nat) (t : TypeId) {ps rs : Array TypeId} {v : Bool} (f : Fn) (a b : Array Value) (h : P.underlying t = some (.func ps rs v)) : (Op.equalIn (d + 1) t (.func f a b) .nilFunc).run P w = .ok false w := by
  simp [Op.equalIn, run_underlying h]
theorem run_eql_func_nil (w : World) (f : Fn) (a b : Array Value) : (binOp .eql 58 (.func f a b) .nilFunc).run Tryz.prog w = .ok (.bool false) w := by
  simp only [binOp]
  simp [Op.equal, Op.maxDepth, run_equalIn_func_nil w 9999 _ f a b Tryz.underlying58]
def NmS (a b X : Nat) (va vb : Value) (cx : Array Value) (w : World) : Prop := w.heap[a]? = some (.cells #[va] 54 (0, 0)) ∧ w.heap[b]? = some (.cells #[vb] 32 (0, 0)) ∧ w.heap[X]? = some (.cells cx 28 (0, 0))
theorem NmS.later {a b X : Nat} {va vb : Value} {cx : Array Value} {w W : World} (h : NmS a b X va vb cx w) (hb : Below w.heap.size w W) : NmS a b X va vb cx W := ⟨Below.at hb h.1, Below.at hb h.2.1, Below.at hb h.2.2⟩
theorem NmS.cells {a b X : Nat} {va vb a0 a1 a2 a3 a4 : Value} {w : World} (h : NmS a b X va vb #[a0, a1, a2, a3, a4] w) : w.cell? ⟨a, 0, none⟩ = some va ∧ w.cell? ⟨b, 0, none⟩ = some vb ∧
    w.cell? ⟨X, 0, none⟩ = some a0 ∧ w.cell? ⟨X, 1, none⟩ = some a1 ∧ w.cell? ⟨X, 2, none⟩ = some a2 ∧ w.cell? ⟨X, 3, none⟩ = some a3 ∧ w.cell? ⟨X, 4, none⟩ = some a4 :=
  ⟨by rw [Lib.cell_of_heap h.1]; rfl, by rw [Lib.cell_of_heap h.2.1]; rfl, (cells5 h.2.2).1.1, (cells5 h.2.2).1.2.1, (cells5 h.2.2).1.2.2.1, (cells5 h.2.2).1.2.2.2.1, (cells5 h.2.2).1.2.2.2.2⟩
theorem strInfo : (Tryz.prog.info? 9).map (fun i => (i.zero, i.size, i.bytes)) = some (some (.string ⟨#[]⟩), 1, 16) := by kernel_rfl
/-- the block of a row is cells -/
theorem own_cells {w : World} {base : Nat} {e : TypeId} {size n k : Nat} {v : Value} {xs : List Value} {o : Obj} (h : w.ownsRow base e size v n xs) (hv : v.ownBlock = some k) (hk : w.heap[k]? = some o) (hc : o.isCells = false) : False := by
  rcases h.2 with ⟨rfl, _⟩ | ⟨g, cap, cur, rfl, _, hg, _⟩
  · cases hv
  · obtain rfl : g = k := Option.some.inj hv
    rw [hg] at hk
    cases hk
    cases hc
/-- a row, by its block alone -/
theorem own_block {w W : World} {base : Nat} {e : TypeId} {size n : Nat} {v : Value} {xs : List Value} (h : w.ownsRow base e size v n xs) (hb : ∀ j, v.ownBlock = some j → W.heap[j]? = w.heap[j]?) : W.ownsRow base e size v n xs := by
  obtain ⟨h1, h2⟩ := h
  refine ⟨h1, h2.imp id ?_⟩
  rintro ⟨g, cap, cur, rfl, hg, hh, hr⟩
  exact ⟨g, cap, cur, rfl, hg, (hb g rfl).trans hh, hr⟩
def NmI (w : World) (n : Int) (B0 : Nat) (pre : List (ByteArray × JV)) (W : World) : Prop := ∃ va vb csb, ((W.heap[w.heap.size]? = some (.cells #[.int .i64 n] 3 (0, 0)) ∧ W.heap[w.heap.size + 1]? = some (.cells #[va] 54 (0, 0)) ∧ W.heap[w.heap.size + 1 + 1]? = some (.cells #[vb] 32 (0, 0))) ∧
  (W.ownsRow B0 9 1 va pre.length (pre.map fun q => Value.string q.1) ∧ W.ownsRow B0 35 5 vb pre.length csb) ∧ Chunks jvTy W (fun b => B0 ≤ b ∧ some b ≠ va.ownBlock ∧ some b ≠ vb.ownBlock) (pre.map (·.2)) csb) ∧ (∀ j, va.ownBlock = some j → vb.ownBlock ≠ some j) ∧ Below w.heap.size w W
theorem NmI.later {w : World} {n : Int} {B0 : Nat} {pre : List (ByteArray × JV)} {X Y : World} (h : NmI w n B0 pre X) (hb : Below X.heap.size X Y) : NmI w n B0 pre Y := by
  obtain ⟨va, vb, csb, ⟨⟨h1, h2, h3⟩, ⟨h4, h5⟩, h6⟩, h7, h8⟩ := h
  exact ⟨va, vb, csb, ⟨⟨Below.at hb h1, Below.at hb h2, Below.at hb h3⟩, ⟨own_laterB h4 hb, own_laterB h5 hb⟩, h6.later hb⟩, h7, bel_trans h8 hb⟩
theorem own_putObj {w : World} {base l : Nat} {e : TypeId} {size n : Nat} {v : Value} {xs : List Value} (h : w.ownsRow base e size v n xs) (hl : l < base) (o : Obj) : (w.putObj l o).ownsRow base e size v n xs := by
  refine World.ownsRow.kept h (grownBy_putObj' w l o) ?_
  rcases hv : v.ownBlock with _ | j
  · exact .inl rfl
  · exact .inr (fun e' => by have := (h.lt j hv).1; have := Option.some.inj e'; omega)
theorem NmI.put {w : World} {n : Int} {B0 l : Nat} {pre : List (ByteArray × JV)} {X : World} (h : NmI w n B0 pre X) (hl : l < B0) (h3l : w.heap.size + 2 < l) (o : Obj) : NmI w n B0 pre (X.putObj l o) := by
  obtain ⟨va, vb, csb, ⟨⟨h1, h2, h3⟩, ⟨h4, h5⟩, h6⟩, h7, h8⟩ := h
  exact ⟨va, vb, csb, ⟨⟨(World.putObj_heap_other (by omega)).trans h1, (World.putObj_heap_other (by omega)).trans h2, (World.putObj_heap_other (by omega)).trans h3⟩, ⟨own_putObj h4 hl o, own_putObj h5 hl o⟩,
    h6.frame (fun b hb => World.putObj_heap_other (by have := hb.1; omega))⟩, h7, h8.trans (below_putObj (by omega) o)⟩
theorem NmI.out {w : World} {n : Int} {B0 : Nat} {pre : List (ByteArray × JV)} {X : World} (h : NmI w n B0 pre X) : ∃ va vb, X.heap[w.heap.size + 1]? = some (.cells #[va] 54 (0, 0)) ∧ X.heap[w.heap.size + 1 + 1]? = some (.cells #[vb] 32 (0, 0)) ∧
    Sl strTy X (fun b => B0 ≤ b) va (pre.map (·.1)) ∧ Sl jvTy X (fun b => B0 ≤ b) vb (pre.map (·.2)) := by
  obtain ⟨va, vb, csb, ⟨⟨h1, h2, h3⟩, ⟨h4, h5⟩, h6⟩, h7, h8⟩ := h
  have ha : X.ownsRow B0 9 strTy.sz va (pre.map (·.1)).length ((pre.map (·.1)).map Value.string) := by
    rw [List.length_map, List.map_map]; exact h4
  have hb : X.ownsRow B0 35 jvTy.sz vb (pre.map (·.2)).length csb := by rw [List.length_map]; exact h5
  refine ⟨va, vb, h2, h3, (own_to_sl ha (F := fun _ => False) (str_chunks _)).mono (fun b hb' => ?_), (own_to_sl hb h6).mono (fun b hb' => ?_)⟩
  · rcases hb' with hb' | hb'
    · exact hb'.elim
    · exact (h4.lt b hb'.symm).1
  · rcases hb' with hb' | hb'
    · exact hb'.1
    · exact (h5.lt b hb'.symm).1
def NmRes (x : JV) (n : Int) (w : World) (z : Ending) (w' : World) : Prop := (∃ v1 v2, z = .returned (.tuple #[v1, v2]) ∧ Sl strTy w' (fun b => w.heap.size ≤ b) v1 (((memsOf x).take n.toNat).map (·.1)) ∧ Sl jvTy w' (fun b => w.heap.size ≤ b) v2 (((memsOf x).take n.toNat).map (·.2))) ∧ Below w.heap.size w w'
set_option maxRecDepth 100000 in
set_option maxHeartbeats 16000000 in
theorem names_any (x : JV) (A1 : Option Addr) (c1 : Nat) (A2 : Option Addr) (c2 : Nat) (F : Nat → Prop) (Bv : Nat) (n : Int) (w : World) (hln : LnJ x) (hbox : w.heap[Bv]? = some (.cells #[.int .i64 x.k, .int .i64 x.n, .string x.s, .slice A1 x.l.length c1, .slice A2 x.m.length c2] 28 (0, 0)))
    (hj : JR w F x [.int .i64 x.k, .int .i64 x.n, .string x.s, .slice A1 x.l.length c1, .slice A2 x.m.length c2]) :
    Calls Tryz.prog 20 #[.func (.func 41) #[] #[.pointer (some ⟨Bv, 0, none⟩)], .int .i64 n] w (NmRes x n w) := by
  have hlm : (memsOf x).length ≤ 1000000 := by
    unfold memsOf
    split
    · exact ((LnJ_iff x).1 hln).1.2
    · simp
  have hlmm : ∀ q ∈ memsOf x, LnJ q.2 := by
    unfold memsOf
    split
    · exact ((LnJ_iff x).1 hln).2.2
    · simp
  refine (callsIn_wide (n := 4)).1 (callsIn_of_wp_marks Tryz.func20 rfl trivial ?_ rfl)
  simp only [Tryz.ntmps20, List.size_toArray, List.length_cons, List.length_nil, Nat.reduceAdd, Nat.reduceSub, Array.replicate_succ, Array.replicate_zero, List.push_toArray, List.append_toArray, List.nil_append, List.cons_append]
  refine wpIn_wide.2 ?_
  have hnil := fun W a b => run_eql_func_nil W (.func 41) a b
  by_cases hn : n < 1
  · have dn : decide (n < 1) = true := decide_eq_true hn
    have hb0 : Below w.heap.size w (((w.alloc (.cells #[.int .i64 n] 3)).alloc (.cells #[.slice none 0 0] 54)).alloc (.cells #[.slice none 0 0] 32)) := bel_alloc (bel_alloc (bel_alloc (Below.refl _ _) _) _) _
    have HB0 := Lib.hid hb0
    have hnt : n.toNat = 0 := by omega
    clear hbox hj hln hb0
    go_wp2_with fail
    refine ⟨.tuple #[.slice none 0 0, .slice none 0 0], ?_, ⟨⟨_, _, rfl, by rw [hnt]; exact Sl.nil none 0, by rw [hnt]; exact Sl.nil none 0⟩, HB0.out⟩⟩
    simp [results, Tryz.f20, go_sem]
  · have dn : decide (n < 1) = false := decide_eq_false hn
    have hmq := fun m W (hb : Below w.heap.size w W) => members_seq m x A1 c1 A2 c2 (fun b => F b ∧ b < w.heap.size) Bv w.heap.size W hb.size (fun _ hb => hb.2) (Below.at hb hbox) (JR_later (JR_bound _ _ hj) hb) hln
    have HMQ := Lib.hid hmq
    clear hbox hj hln hmq
    go_wp2_with fail
    have q1 := heap_alloc_new (w.alloc (.cells #[.int .i64 n] 3)) (.cells #[.slice none 0 0] 54)
    have q2 := heap_alloc_new ((w.alloc (.cells #[.int .i64 n] 3)).alloc (.cells #[.slice none 0 0] 54)) (.cells #[.slice none 0 0] 32)
    have q0 := Below.at (bel_alloc (bel_alloc (Below.refl _ _) (.cells #[.slice none 0 0] 54)) (.cells #[.slice none 0 0] 32)) (heap_alloc_new w (.cells #[.int .i64 n] 3))
    have q1' := Below.at (bel_alloc (Below.refl _ _) (.cells #[.slice none 0 0] 32)) q1
    have hb0 : Below w.heap.size w (((w.alloc (.cells #[.int .i64 n] 3)).alloc (.cells #[.slice none 0 0] 54)).alloc (.cells #[.slice none 0 0] 32)) := bel_alloc (bel_alloc (bel_alloc (Below.refl _ _) _) _) _
    have hs0 : (((w.alloc (.cells #[.int .i64 n] 3)).alloc (.cells #[.slice none 0 0] 54)).alloc (.cells #[.slice none 0 0] 32)).heap.size = w.heap.size + 1 + 1 + 1 := by simp only [World.size_alloc]
    simp only [World.size_alloc] at q1' q2
    clear q1
    generalize (((w.alloc (.cells #[.int .i64 n] 3)).alloc (.cells #[.slice none 0 0] 54)).alloc (.cells #[.slice none 0 0] 32)) = W0 at *
    have HS0 := Lib.hid hs0
    have HLM := Lib.hid hlmm
    have h0 : NmI w n (W0.heap.size + 2) [] W0 := ⟨.slice none 0 0, .slice none 0 0, [], ⟨⟨q0, q1', q2⟩, ⟨World.ownsRow_nil _ _ _ _, World.ownsRow_nil _ _ _ _⟩, rfl⟩, fun j hj => (by cases hj), hb0⟩
    have hmseq := fun m => HMQ.out m W0 hb0
    clear hs0 q0 q1' q2 hb0 hlmm
    refine (wpIn_wide (n := 4)).1 (range_members (n := 4) (n₀ := w.heap.size) (by have := HS0.out; omega) (by decide) rfl (enters_of Tryz.func41 (by kernel_rfl) rfl) (hmseq _) rfl
      (fun pre W => (pre.length : Int) < n ∧ NmI w n (W0.heap.size + 2) pre W)
      (fun c pre W => c = .exit 0 ∧ (pre.length : Int) = n ∧ NmI w n (W0.heap.size + 2) pre W)
      (fun s X Y h hb => ⟨h.1, h.2.later hb⟩)
      (fun s X o h => ⟨h.1, h.2.put (by omega) (by have := HS0.out; omega) o⟩)
      (fun c s X o h => ⟨h.1, h.2.1, h.2.2.put (by omega) (by have := HS0.out; omega) o⟩)
      ⟨by simp; omega, h0⟩
      (fun nm y A3 n3 c3 A4 n4 c4 a' W => ∃ Bx B, W0.heap.size + 1 < Bx ∧ W0.heap.size + 1 < B ∧ W.heap[Bx]? = some (.cells #[.int .i64 y.k, .int .i64 y.n, .string y.s, .slice A3 n3 c3, .slice A4 n4 c4] 28 (0, 0)) ∧ JR W (fun b => B ≤ b) y [.int .i64 y.k, .int .i64 y.n, .string y.s, .slice A3 n3 c3, .slice A4 n4 c4] ∧
        ((∀ va, W.heap[w.heap.size + 1]? = some (.cells #[va] 54 (0, 0)) → ∀ j, va.ownBlock = some j → j < Bx ∧ j < B) ∧ ∀ vb, W.heap[w.heap.size + 1 + 1]? = some (.cells #[vb] 32 (0, 0)) → ∀ j, vb.ownBlock = some j → j < Bx ∧ j < B) ∧
        a' = { tmps := #[.func (.func 41) #[] #[.pointer (some ⟨Bv, 0, none⟩)], .int .i64 n, undef, .pointer (some ⟨w.heap.size, 0, none⟩), .slice none 0 0, .slice none 0 0, .pointer (some ⟨w.heap.size + 1, 0, none⟩), .pointer (some ⟨w.heap.size + 1 + 1, 0, none⟩), .string nm, .pointer (some ⟨Bx, 0, none⟩), .func (.func 41) #[] #[.pointer (some ⟨Bv, 0, none⟩)], .bool false, .bool false, .int .i64 n, .bool false, .bool false, .func (.func 41) #[] #[.pointer (some ⟨Bv, 0, none⟩)], .string nm, .agg #[.int .i64 y.k, .int .i64 y.n, .string y.s, .slice A3 n3 c3, .slice A4 n4 c4], undef, undef, undef, undef, undef, undef, undef, undef, undef, undef, undef, undef, undef, undef, undef], defers := [] })
      (fun nm y A3 n3 c3 A4 n4 c4 a' X o h => by
        obtain ⟨Bx, B, h1, h2, h3, h4, ⟨h5, h6⟩, h7⟩ := h
        exact ⟨Bx, B, h1, h2, (World.putObj_heap_other (by omega)).trans h3, JR_frame (fun b hb => World.putObj_heap_other (by omega)) _ _ h4,
          ⟨fun va hv => h5 va ((World.putObj_heap_other (by have := HS0.out; omega)).symm.trans hv), fun vb hv => h6 vb ((World.putObj_heap_other (by have := HS0.out; omega)).symm.trans hv)⟩, h7⟩)
      ?assign ?body ?done ?stop)
    case assign =>
      intro pre nm y A3 n3 c3 A4 n4 c4 B Wp W K hip hpB hpb hB hlt hjr hK
      have hsem := Oper.semAt_some (W0.heap.size + 1)
      gi_wp2
      have hba := bel_alloc (Below.refl W.heap.size W) (.cells #[.int .i64 y.k, .int .i64 y.n, .string y.s, .slice A3 n3 c3, .slice A4 n4 c4] 28)
      have hbp := bel_trans hpb hba
      have hs0 := HS0.out
      obtain ⟨va, vb, csb, ⟨⟨h1, h2, h3⟩, ⟨h4, h5⟩, h6⟩, h7, h8⟩ := hip.2
      have hsz := hpb.size
      exact hK _ _ ((KeepsOthers.alloc _ _).from _) (hba.mono (by omega)) ⟨hip.1, hip.2.later hbp⟩ ⟨W.heap.size, B, hlt, hB, heap_alloc_new W _, JR_later hjr hba,
        ⟨fun va' hv j hj => by
          have e := (Below.at hbp h2).symm.trans hv
          obtain rfl : va = va' := by simpa using e
          have := (h4.lt j hj).2
          omega, fun vb' hv j hj => by
          have e := (Below.at hbp h3).symm.trans hv
          obtain rfl : vb = vb' := by simpa using e
          have := (h5.lt j hj).2
          omega⟩, rfl⟩
    case body =>
      rintro pre post nm y A3 n3 c3 A4 n4 c4 a' W ⟨hln2, hi⟩ hlt ⟨Bx, B, hBx, hB, hbx, hjr, ⟨hoa, hob⟩, rfl⟩ hms
      have hsem := Oper.semAt_some (W0.heap.size + 1)
      obtain ⟨va, vb, csb, ⟨⟨h1, h2, h3⟩, ⟨h4, h5⟩, h6⟩, h7, h8⟩ := hi
      have hsem2 := Oper.semAt_some (w.heap.size + 1 + 1 + 1 + 1)
      replace hoa := hoa _ h2
      replace hob := hob _ h3
      obtain ⟨L1, d1, rfl⟩ := own_sliceB h4
      obtain ⟨L2, d2, rfl⟩ := own_sliceB h5
      have hs0 := HS0.out
      have hpl : pre.length + 1 ≤ 1000000 := by
        have : (memsOf x).length = pre.length + (post.length + 1) := by rw [hms]; simp
        omega
      have hlny : LnJ y := HLM.out (nm, y) (by rw [hms]; simp)
      have HH1 := Lib.hid h1; have HH2 := Lib.hid h2; have HH3 := Lib.hid h3; have HH4 := Lib.hid h4; have HH5 := Lib.hid h5; have HH6 := Lib.hid h6; have HH7 := Lib.hid h7; have HH8 := Lib.hid h8
      have HOA := Lib.hid hoa; have HOB := Lib.hid hob; have HJR := Lib.hid hjr; have HBX := Lib.hid hbx; have HMS := Lib.hid hms
      have HSS := Lib.hid (show NmS (w.heap.size + 1) (w.heap.size + 1 + 1) Bx (.slice L1 pre.length d1) (.slice L2 pre.length d2) #[.int .i64 y.k, .int .i64 y.n, .string y.s, .slice A3 n3 c3, .slice A4 n4 c4] W.drew from ⟨h2, h3, hbx⟩)
      clear h1 h2 h3 h4 h5 h6 h7 h8 hoa hob hjr hbx hms
      gi_wp2
      refine wpIn_round_any (by kernel_rfl) (by kernel_rfl) (by rintro ⟨_, _, h⟩; exact h) ?_
      refine PrintLast.wpAny_of_last (S := NmS (w.heap.size + 1) (w.heap.size + 1 + 1) Bx (.slice L1 pre.length d1) (.slice L2 pre.length d2) #[.int .i64 y.k, .int .i64 y.n, .string y.s, .slice A3 n3 c3, .slice A4 n4 c4]) (ds := [8, 9, 10]) _ _ _ _ ?_
      have hHeld := HSS.out
      refine PrintLast.wpAnyLast_take (i := 0) (v := ?_) rfl (by kernel_rfl) (by kernel_rfl) (by kernel_rfl) (by kernel_rfl) (by kernel_rfl) (fun _ _ _ h => h) (Or.inl ⟨by kernel_rfl, ?_⟩) (by assumption) ?_
      rotate_left
      · (intro wX hSw; obtain ⟨z1, z2, x0, x1, x2, x3, x4⟩ := NmS.cells hSw; go_simp; try (with_reducible rfl))
      try simp only [List.getElem_toArray, List.getElem_cons_zero, List.getElem_cons_succ, Act.put, List.setIfInBounds_toArray, List.set_cons_zero, List.set_cons_succ]
      refine PrintLast.wpAnyLast_take (i := 1) (v := ?_) rfl (by kernel_rfl) (by kernel_rfl) (by kernel_rfl) (by kernel_rfl) (by kernel_rfl) (fun _ _ _ h => h) (Or.inl ⟨by kernel_rfl, ?_⟩) (by assumption) ?_
      rotate_left
      · (intro wX hSw; obtain ⟨z1, z2, x0, x1, x2, x3, x4⟩ := NmS.cells hSw; go_simp; try (with_reducible rfl))
      try simp only [List.getElem_toArray, List.getElem_cons_zero, List.getElem_cons_succ, Act.put, List.setIfInBounds_toArray, List.set_cons_zero, List.set_cons_succ]
      refine PrintLast.wpAnyLast_take (i := 4) (v := ?_) rfl (by kernel_rfl) (by kernel_rfl) (by kernel_rfl) (by kernel_rfl) (by kernel_rfl) (fun _ _ _ h => h) (Or.inl ⟨by kernel_rfl, ?_⟩) (by assumption) ?_
      rotate_left
      · (intro wX hSw; obtain ⟨z1, z2, x0, x1, x2, x3, x4⟩ := NmS.cells hSw; go_simp; try (with_reducible rfl))
      try simp only [List.getElem_toArray, List.getElem_cons_zero, List.getElem_cons_succ, Act.put, List.setIfInBounds_toArray, List.set_cons_zero, List.set_cons_succ]
      refine PrintLast.wpAnyLast_take (i := 5) (v := ?_) rfl (by kernel_rfl) (by kernel_rfl) (by kernel_rfl) (by kernel_rfl) (by kernel_rfl) (fun _ _ _ h => h) (Or.inl ⟨by kernel_rfl, ?_⟩) (by assumption) ?_
      rotate_left
      · (intro wX hSw; obtain ⟨z1, z2, x0, x1, x2, x3, x4⟩ := NmS.cells hSw; go_simp; try (with_reducible rfl))
      try simp only [List.getElem_toArray, List.getElem_cons_zero, List.getElem_cons_succ, Act.put, List.setIfInBounds_toArray, List.set_cons_zero, List.set_cons_succ]
      have HK := Lib.hid hHeld
      clear hHeld
      refine PrintLast.wpAnyLast_ready (rs := [2]) (by kernel_rfl) (by simp) ?_
      refine PrintLast.AllReadyL.cons rfl (by decide) (fun K hK => ?_) PrintLast.AllReadyL.nil
      rw [if_pos (by kernel_rfl)]
      go_simp
      try simp only [List.foldl_cons, List.foldl_nil, List.setIfInBounds_toArray, List.set_cons_zero, List.set_cons_succ, Nat.reduceAdd]
      refine hK.out _ _ ?_ (fun hHeld => ?_)
      · exact NmS.later HK.out (bel_alloc (Below.refl _ _) _)
      clear hK K hHeld
      try simp only [List.getElem_toArray, List.getElem_cons_zero, List.getElem_cons_succ, Act.put, List.setIfInBounds_toArray, List.set_cons_zero, List.set_cons_succ]
      refine PrintLast.wpAnyLast_ready (rs := [3]) (by kernel_rfl) (by simp) ?_
      refine PrintLast.AllReadyL.cons rfl (by decide) (fun K hK => ?_) PrintLast.AllReadyL.nil
      have hal := bel_alloc (bel_drew (Below.refl W.heap.size W)) (.cells #[.string nm] 9)
      have hszD : (W.drew.alloc (.cells #[.string nm] 9)).heap.size = W.heap.size + 1 := by rw [World.size_alloc]; rfl
      have hnew : ∀ j u, [Value.string nm][j]? = some u → (W.drew.alloc (.cells #[.string nm] 9)).cell? ((⟨W.drew.heap.size, 0, none⟩ : Addr).add j) = some u := fun j u hj => by
        rw [Addr.add_lit, Nat.zero_add]; exact cell_newB W.drew #[.string nm] 9 j u (by simpa using hj)
      obtain ⟨i1, hi1, hy0, hy1, hy2⟩ := info_parts strInfo
      refine step_append_own rfl _ _ 54 rfl (W0.heap.size + 2) 9 i1 _ 1 16 Tryz.underlying54 hi1 hy0 hy1 hy2 rfl (by decide) _ pre.length (pre.map fun q => Value.string q.1) rfl (own_laterB HH4.out hal) ⟨W.drew.heap.size, 0, none⟩ 1 1 [.string nm] rfl rfl hnew (by intro u hu; rw [List.mem_singleton.1 hu]; rfl) (by simp only [maxLen]; omega) (by omega) (Nat.le_trans (show W0.heap.size + 2 ≤ W.heap.size + 1 by omega) (Nat.le_of_eq hszD.symm)) ?_
      intro v1 W3 ho1 hg1 hx1
      obtain ⟨M1, e1, rfl⟩ := own_sliceB ho1
      have hgA : (W.drew.alloc (.cells #[.string nm] 9)).grownBy W3 (Value.slice L1 pre.length d1).ownBlock := hg1
      have hxA : (Value.slice M1 (pre.length + 1) e1).ownBlock = (Value.slice L1 pre.length d1).ownBlock ∨ (Value.slice M1 (pre.length + 1) e1).ownBlock = some (W.drew.alloc (.cells #[.string nm] 9)).heap.size := hx1
      have hlA : ∀ j, (Value.slice L1 pre.length d1).ownBlock = some j → W0.heap.size + 2 ≤ j ∧ j < W.heap.size := fun j hj => HH4.out.lt j hj
      have hkA : ∀ b, b < W.heap.size → (Value.slice L1 pre.length d1).ownBlock ≠ some b → W3.heap[b]? = W.heap[b]? := fun b hb hne => (hgA.block b (by omega) (fun e => hne e.symm)).trans (hal.block b hb)
      have hBxl : Bx < W.heap.size := (Array.getElem?_eq_some_iff.1 HBX.out).1
      have hS3 : NmS (w.heap.size + 1) (w.heap.size + 1 + 1) Bx (.slice L1 pre.length d1) (.slice L2 pre.length d2) #[.int .i64 y.k, .int .i64 y.n, .string y.s, .slice A3 n3 c3, .slice A4 n4 c4] W3 :=
        ⟨(hkA _ (by omega) (fun e => by have := (hlA _ e).1; omega)).trans HH2.out, (hkA _ (by omega) (fun e => by have := (hlA _ e).1; omega)).trans HH3.out, (hkA _ hBxl (fun e => by have := (HOA.out _ e).1; omega)).trans HBX.out⟩
      have HS3 := Lib.hid hS3; have HO1 := Lib.hid ho1; have HXA := Lib.hid hxA; have HKA := Lib.hid hkA; have HLA := Lib.hid hlA
      have hs3 : W.heap.size + 1 ≤ W3.heap.size := by have := hgA.size; omega
      have hj3 : JR W3 (fun b => B ≤ b) y [.int .i64 y.k, .int .i64 y.n, .string y.s, .slice A3 n3 c3, .slice A4 n4 c4] := JR_mono (fun b h => h.1) _ _ (JR_frame (w' := W3) (fun b (hb : B ≤ b ∧ b < W.heap.size) => hkA b hb.2 (fun e => by have := (HOA.out _ e).2; omega)) _ _ (JR_bound _ _ HJR.out))
      have HPL := Lib.hid (plain_any y _ _ W3 hlny hj3)
      have hbA : Below w.heap.size w W3 := ⟨hgA.os.trans (hal.os.trans HH8.out.os), hgA.tape.trans (hal.tape.trans HH8.out.tape), hgA.output.trans (hal.output.trans HH8.out.output), by have := HH8.out.size; omega, fun k hk => (hkA k (by have := HH8.out.size; omega) (fun e => by have := (hlA _ e).1; omega)).trans (HH8.out.block k hk)⟩
      have HBA := Lib.hid hbA
      have HKP := Lib.hid (show KeepsFrom W0.heap.size W W3 from ⟨by omega, fun k o _ hk hc => (hkA k (Array.getElem?_eq_some_iff.1 hk).1 (fun e => own_cells HH4.out e hk hc)).trans hk⟩)
      have HB0 := Lib.hid (show Below W0.heap.size W W3 from ⟨hgA.os.trans hal.os, hgA.tape.trans hal.tape, hgA.output.trans hal.output, by omega, fun k hk => hkA k (by omega) (fun e => by have := (hlA _ e).1; omega)⟩)
      refine hK.out _ _ hS3 (fun hHeld => ?_)
      clear hK K hHeld hgA hxA hlA hkA hS3 ho1 hg1 hx1 hj3 hbA hal hnew
      try simp only [List.getElem_toArray, List.getElem_cons_zero, List.getElem_cons_succ, Act.put, List.setIfInBounds_toArray, List.set_cons_zero, List.set_cons_succ]
      refine PrintLast.wpAnyLast_ready (rs := [6]) (by kernel_rfl) (by simp) ?_
      refine PrintLast.AllReadyL.cons rfl (by decide) (fun K hK => ?_) PrintLast.AllReadyL.nil
      rw [if_pos (by kernel_rfl)]
      go_simp
      go_at_call 11; refine (HPL.out).mono ?_; rintro e w5 ⟨⟨D1, j1, g1, D2, j2, g2, rfl, hjp⟩, hb5⟩
      have HJP := Lib.hid hjp; have HB5 := Lib.hid hb5
      clear hjp hb5
      go_wp2_with fail
      refine hK.out _ _ ?_ (fun hHeld => ?_)
      · exact NmS.later HS3.out HB5.out
      clear hK K hHeld
      try simp only [List.getElem_toArray, List.getElem_cons_zero, List.getElem_cons_succ, Act.put, List.setIfInBounds_toArray, List.set_cons_zero, List.set_cons_succ]
      refine PrintLast.wpAnyLast_ready (rs := [7]) (by kernel_rfl) (by simp) ?_
      refine PrintLast.AllReadyL.cons rfl (by decide) (fun K hK => ?_) PrintLast.AllReadyL.nil
      rw [if_pos (by kernel_rfl)]
      go_simp
      try simp only [List.foldl_cons, List.foldl_nil, List.setIfInBounds_toArray, List.set_cons_zero, List.set_cons_succ, Nat.reduceAdd]
      refine hK.out _ _ ?_ (fun hHeld => ?_)
      · exact NmS.later HS3.out (bel_alloc HB5.out _)
      clear hK K hHeld
      try simp only [List.getElem_toArray, List.getElem_cons_zero, List.getElem_cons_succ, Act.put, List.setIfInBounds_toArray, List.set_cons_zero, List.set_cons_succ]
      refine PrintLast.wpAnyLast_ready (rs := [8]) (by kernel_rfl) (by simp) ?_
      refine PrintLast.AllReadyL.cons_last rfl (by decide) (fun K hK => ?_) PrintLast.AllReadyL.nil
      have hal := bel_alloc HB5.out (.cells #[.int .i64 y.k, .int .i64 y.n, .string y.s, .slice D1 j1 g1, .slice D2 j2 g2] 35)
      have hszD2 : (w5.alloc (.cells #[.int .i64 y.k, .int .i64 y.n, .string y.s, .slice D1 j1 g1, .slice D2 j2 g2] 35)).heap.size = w5.heap.size + 1 := by rw [World.size_alloc]
      have hs5 := HB5.out.size
      have hnew : ∀ j u, [.int .i64 y.k, .int .i64 y.n, .string y.s, .slice D1 j1 g1, .slice D2 j2 g2][j]? = some u → (w5.alloc (.cells #[.int .i64 y.k, .int .i64 y.n, .string y.s, .slice D1 j1 g1, .slice D2 j2 g2] 35)).cell? ((⟨w5.heap.size, 0, none⟩ : Addr).add j) = some u := fun j u hj => by
        rw [Addr.add_lit, Nat.zero_add]; exact cell_newB w5 #[.int .i64 y.k, .int .i64 y.n, .string y.s, .slice D1 j1 g1, .slice D2 j2 g2] 35 j u (by simpa using hj)
      have hlB : ∀ j, (Value.slice L2 pre.length d2).ownBlock = some j → W0.heap.size + 2 ≤ j ∧ j < W.heap.size := fun j hj => HH5.out.lt j hj
      have hneA : ∀ j, (Value.slice L2 pre.length d2).ownBlock = some j → (Value.slice L1 pre.length d1).ownBlock ≠ some j := fun j hj e => HH7.out j e hj
      have hoB : W3.ownsRow (W0.heap.size + 2) 35 5 (.slice L2 pre.length d2) pre.length csb := own_block HH5.out (fun j hj => HKA.out j (hlB j hj).2 (hneA j hj))
      have hcB : Chunks jvTy W3 (fun b => W0.heap.size + 2 ≤ b ∧ some b ≠ (Value.slice L1 pre.length d1).ownBlock ∧ some b ≠ (Value.slice L2 pre.length d2).ownBlock ∧ b < W.heap.size) (pre.map (·.2)) csb :=
        (HH6.out.bound.frame (w' := W3) (fun b hb => HKA.out b hb.2 (fun e => hb.1.2.1 e.symm))).mono (fun b h => ⟨h.1.1, h.1.2.1, h.1.2.2, h.2⟩)
      obtain ⟨i2, hi2, hv0, hv1, hv2⟩ := info_parts rvalInfo
      refine step_append_own rfl _ _ 32 rfl (W0.heap.size + 2) 35 i2 _ 5 80 Tryz.underlying32 hi2 hv0 hv1 hv2 rfl (by decide) _ pre.length csb rfl (own_laterB hoB hal) ⟨w5.heap.size, 0, none⟩ 1 1 [.int .i64 y.k, .int .i64 y.n, .string y.s, .slice D1 j1 g1, .slice D2 j2 g2] rfl rfl hnew (by intro u hu; simp at hu; rcases hu with rfl | rfl | rfl | rfl | rfl <;> rfl) (by simp only [maxLen]; omega) (by omega) (Nat.le_trans (show W0.heap.size + 2 ≤ w5.heap.size + 1 by omega) (Nat.le_of_eq hszD2.symm)) ?_
      intro v2 W8 ho2 hg2 hx2
      obtain ⟨M2, e2, rfl⟩ := own_sliceB ho2
      have hgB : (w5.alloc (.cells #[.int .i64 y.k, .int .i64 y.n, .string y.s, .slice D1 j1 g1, .slice D2 j2 g2] 35)).grownBy W8 (Value.slice L2 pre.length d2).ownBlock := hg2
      have hxB : (Value.slice M2 (pre.length + 1) e2).ownBlock = (Value.slice L2 pre.length d2).ownBlock ∨ (Value.slice M2 (pre.length + 1) e2).ownBlock = some (w5.alloc (.cells #[.int .i64 y.k, .int .i64 y.n, .string y.s, .slice D1 j1 g1, .slice D2 j2 g2] 35)).heap.size := hx2
      refine hK.out _ _ ?_
      clear hK K
      try simp only [List.getElem_toArray, List.getElem_cons_zero, List.getElem_cons_succ, Act.put, List.setIfInBounds_toArray, List.set_cons_zero, List.set_cons_succ]
      have hs8 := hgB.size
      have hb8 : ∀ b, b < w5.heap.size → (Value.slice L2 pre.length d2).ownBlock ≠ some b → W8.heap[b]? = w5.heap[b]? := fun b hb hne => (hgB.block b (by omega) (fun e => hne e.symm)).trans ((bel_alloc (Below.refl w5.heap.size w5) _).block b hb)
      have hb83 : ∀ b, b < W3.heap.size → (Value.slice L2 pre.length d2).ownBlock ≠ some b → W8.heap[b]? = W3.heap[b]? := fun b hb hne => (hb8 b (by omega) hne).trans (HB5.out.block b hb)
      have y1x := (hb83 (w.heap.size + 1) (by omega) (fun e => by have := (hlB _ e).1; omega)).trans HS3.out.1
      have y2x := (hb83 (w.heap.size + 1 + 1) (by omega) (fun e => by have := (hlB _ e).1; omega)).trans HS3.out.2.1
      have y0x := (hb83 w.heap.size (by omega) (fun e => by have := (hlB _ e).1; omega)).trans ((HKA.out w.heap.size (by omega) (fun e => by have := (HLA.out _ e).1; omega)).trans HH1.out)
      have hne12 : w.heap.size + 1 ≠ w.heap.size + 1 + 1 := by omega
      have c1x : W8.cell? ⟨w.heap.size + 1, 0, none⟩ = some (.slice L1 pre.length d1) := by rw [Lib.cell_of_heap y1x]; rfl
      have u1x : W8.frozen? ⟨w.heap.size + 1, 0, none⟩ = false := by simp [World.frozen?, y1x]
      have c2x : W8.cell? ⟨w.heap.size + 1 + 1, 0, none⟩ = some (.slice L2 pre.length d2) := by rw [Lib.cell_of_heap y2x]; rfl
      have u2x : W8.frozen? ⟨w.heap.size + 1 + 1, 0, none⟩ = false := by simp [World.frozen?, y2x]
      obtain ⟨WF, hWF⟩ : ∃ WF, WF = (W8.setCell ⟨w.heap.size + 1, 0, none⟩ (.slice M1 (pre.length + 1) e1)).setCell ⟨w.heap.size + 1 + 1, 0, none⟩ (.slice M2 (pre.length + 1) e2) := ⟨_, rfl⟩
      have f1 : WF.heap[w.heap.size + 1]? = some (.cells #[.slice M1 (pre.length + 1) e1] 54 (0, 0)) := by
        rw [hWF]
        refine (Below.heap_setCell _ _ _ _ (show w.heap.size + 1 ≠ w.heap.size + 1 + 1 by omega)).trans ?_
        simpa using heap_setCell_row (i := 0) (v := .slice M1 (pre.length + 1) e1) y1x
      have f2 : WF.heap[w.heap.size + 1 + 1]? = some (.cells #[.slice M2 (pre.length + 1) e2] 32 (0, 0)) := by
        rw [hWF]
        have h := (Below.heap_setCell W8 ⟨w.heap.size + 1, 0, none⟩ (.slice M1 (pre.length + 1) e1) (w.heap.size + 1 + 1) (show w.heap.size + 1 + 1 ≠ w.heap.size + 1 by omega)).trans y2x
        simpa using heap_setCell_row (i := 0) (v := .slice M2 (pre.length + 1) e2) h
      have fo : ∀ b, b ≠ w.heap.size + 1 → b ≠ w.heap.size + 1 + 1 → WF.heap[b]? = W8.heap[b]? := fun b h1 h2 => by
        rw [hWF]
        exact (Below.heap_setCell _ _ _ _ (show b ≠ w.heap.size + 1 + 1 from h2)).trans (Below.heap_setCell _ _ _ _ (show b ≠ w.heap.size + 1 from h1))
      have f0 := (fo w.heap.size (by omega) (by omega)).trans y0x
      have hA : ∀ j, (Value.slice M1 (pre.length + 1) e1).ownBlock = some j → W0.heap.size + 2 ≤ j ∧ j < W3.heap.size ∧ (Value.slice L2 pre.length d2).ownBlock ≠ some j ∧ j ≠ w5.heap.size + 1 := fun j hj => by
        have hlt := HO1.out.lt j hj
        refine ⟨hlt.1, hlt.2, fun e => ?_, by omega⟩
        rcases HXA.out with h | h
        · exact HH7.out j (h.symm.trans hj) e
        · have h1 := Option.some.inj (hj.symm.trans h)
          have h2 := (hlB j e).2
          omega
      have hB : ∀ j, (Value.slice M2 (pre.length + 1) e2).ownBlock = some j → (Value.slice L2 pre.length d2).ownBlock = some j ∨ j = w5.heap.size + 1 := fun j hj => by
        rcases hxB with h | h
        · exact .inl (h.symm.trans hj)
        · exact .inr ((Option.some.inj (hj.symm.trans h)).trans hszD2)
      have rA : WF.ownsRow (W0.heap.size + 2) 9 1 (.slice M1 (pre.length + 1) e1) (pre ++ [(nm, y)]).length ((pre ++ [(nm, y)]).map fun q => Value.string q.1) := by
        have h := own_block (W := WF) HO1.out (fun j hj => (fo j (by have := (hA j hj).1; omega) (by have := (hA j hj).1; omega)).trans (hb83 j (hA j hj).2.1 (hA j hj).2.2.1))
        simpa using h
      have rB : WF.ownsRow (W0.heap.size + 2) 35 5 (.slice M2 (pre.length + 1) e2) (pre ++ [(nm, y)]).length (csb ++ [.int .i64 y.k, .int .i64 y.n, .string y.s, .slice D1 j1 g1, .slice D2 j2 g2]) := by
        have h := own_block (W := WF) ho2 (fun j hj => fo j (by have := (ho2.lt j hj).1; omega) (by have := (ho2.lt j hj).1; omega))
        simpa using h
      have kA : Chunks jvTy WF (fun b => W0.heap.size + 2 ≤ b ∧ some b ≠ (Value.slice M1 (pre.length + 1) e1).ownBlock ∧ some b ≠ (Value.slice M2 (pre.length + 1) e2).ownBlock) ((pre ++ [(nm, y)]).map (·.2)) (csb ++ [.int .i64 y.k, .int .i64 y.n, .string y.s, .slice D1 j1 g1, .slice D2 j2 g2]) := by
        have kOld : Chunks jvTy WF (fun b => W0.heap.size + 2 ≤ b ∧ some b ≠ (Value.slice M1 (pre.length + 1) e1).ownBlock ∧ some b ≠ (Value.slice M2 (pre.length + 1) e2).ownBlock) (pre.map (·.2)) csb := (hcB.frame (w' := WF) (fun b hb => (fo b (by have := hb.1; omega) (by have := hb.1; omega)).trans (hb83 b (by have := hb.2.2.2; omega) (fun e => hb.2.2.1 e.symm)))).mono (fun b hb => ⟨hb.1, fun e => by
            rcases HXA.out with h | h
            · exact hb.2.1 (e.trans h)
            · have h1 := Option.some.inj (e.trans h); have := hb.2.2.2; omega, fun e => by
            rcases hB b e.symm with h | h
            · exact hb.2.2.1 h.symm
            · have := hb.2.2.2; omega⟩)
        have kNew : JR WF (fun b => W0.heap.size + 2 ≤ b ∧ some b ≠ (Value.slice M1 (pre.length + 1) e1).ownBlock ∧ some b ≠ (Value.slice M2 (pre.length + 1) e2).ownBlock) y [.int .i64 y.k, .int .i64 y.n, .string y.s, .slice D1 j1 g1, .slice D2 j2 g2] := JR_mono (F := fun b => W3.heap.size ≤ b ∧ b < w5.heap.size) (fun b hb => ⟨by have := hb.1; omega, fun e => by have := (hA b e.symm).2.1; have := hb.1; omega, fun e => by
            rcases hB b e.symm with h | h
            · have := (hlB b h).2; have := hb.1; omega
            · have := hb.2; omega⟩) _ _ (JR_frame (w' := WF) (fun b (hb : W3.heap.size ≤ b ∧ b < w5.heap.size) => (fo b (by have := hb.1; omega) (by have := hb.1; omega)).trans (hb8 b hb.2 (fun e => by have := (hlB b e).2; have := hb.1; omega))) _ _ (JR_bound _ _ HJP.out))
        rw [List.map_append]
        exact Chunks.append kOld ⟨[.int .i64 y.k, .int .i64 y.n, .string y.s, .slice D1 j1 g1, .slice D2 j2 g2], [], by simp, kNew, rfl⟩
      have dis : ∀ j, (Value.slice M1 (pre.length + 1) e1).ownBlock = some j → (Value.slice M2 (pre.length + 1) e2).ownBlock ≠ some j := fun j hj e => by
        rcases hB j e with h | h
        · exact (hA j hj).2.2.1 h
        · exact (hA j hj).2.2.2 h
      have hbelF : ∀ X : World, Below w.heap.size X W3 → Below w.heap.size X WF := fun X hX => by
        have hs9 : WF.heap.size = W8.heap.size := by rw [hWF]; simp [World.setCell]
        refine hX.trans ⟨?_, ?_, ?_, by omega, fun k hk => (fo k (by omega) (by omega)).trans (hb83 k (by omega) (fun e => by have := (hlB _ e).1; omega))⟩
        · rw [hWF]; exact hgB.os.trans HB5.out.os
        · rw [hWF]; exact hgB.tape.trans HB5.out.tape
        · rw [hWF]; exact hgB.output.trans HB5.out.output
      have hkF : KeepsFrom W0.heap.size W WF := by
        have hs9 : WF.heap.size = W8.heap.size := by rw [hWF]; simp [World.setCell]
        refine HKP.out.trans ⟨by omega, fun k o hk0 hk hc => ?_⟩
        exact ((fo k (by omega) (by omega)).trans (hb83 k (Array.getElem?_eq_some_iff.1 hk).1 (fun e => own_cells hoB e hk hc))).trans hk
      have HKF := Lib.hid hkF
      have HBF := Lib.hid (hbelF W (HB0.out.mono (by omega)))
      have HNF := Lib.hid (show NmI w n (W0.heap.size + 2) (pre ++ [(nm, y)]) WF from ⟨_, _, _, ⟨⟨f0, f1, f2⟩, ⟨rA, rB⟩, kA⟩, dis, hbelF w HBA.out⟩)
      have n0x : WF.cell? ⟨w.heap.size, 0, none⟩ = some (.int .i64 n) := by rw [Lib.cell_of_heap f0]; rfl
      have a0x : WF.cell? ⟨w.heap.size + 1, 0, none⟩ = some (.slice M1 (pre.length + 1) e1) := by rw [Lib.cell_of_heap f1]; rfl
      have HWF := Lib.hid hWF
      clear hkF hbelF f0 f1 f2 fo rA rB kA dis hA hB hb8 hb83 y0x y1x y2x hWF hoB hcB hlB hneA hxB hgB hg2 hx2 ho2 hal hnew
      refine PrintLast.wpAnyLast_ready (rs := [9]) (by kernel_rfl) (by simp) ?_
      refine PrintLast.AllReadyL.cons_last rfl (by decide) (fun K hK => ?_) PrintLast.AllReadyL.nil
      rw [if_pos (by kernel_rfl)]
      go_simp
      refine hK.out _ _ ?_
      clear hK K
      try simp only [List.getElem_toArray, List.getElem_cons_zero, List.getElem_cons_succ, Act.put, List.setIfInBounds_toArray, List.set_cons_zero, List.set_cons_succ]
      refine PrintLast.wpAnyLast_ready (rs := [10]) (by kernel_rfl) (by simp) ?_
      refine PrintLast.AllReadyL.cons_last rfl (by decide) (fun K hK => ?_) PrintLast.AllReadyL.nil
      rw [if_pos (by kernel_rfl)]
      go_simp
      refine hK.out _ _ ?_
      clear hK K
      try simp only [List.getElem_toArray, List.getElem_cons_zero, List.getElem_cons_succ, Act.put, List.setIfInBounds_toArray, List.set_cons_zero, List.set_cons_succ]
      refine PrintLast.wpAnyLast_done (by kernel_rfl) ?_ _
      rw [← HWF.out]
      clear HWF c1x u1x c2x u2x
      by_cases hlast : ((pre.length : Int) + 1 = n)
      · have d1 : ((pre.length : Int) + 1 == n) = true := by simpa using hlast
        have d2 : (((pre.length + 1 : Nat) : Int) == n) = true := by simp; omega
        gi_wp2
        exact ⟨HKF.out, rfl, by rw [List.length_append]; simp; omega, HNF.out⟩
      · have d1 : ((pre.length : Int) + 1 == n) = false := by simpa using hlast
        have d2 : (((pre.length + 1 : Nat) : Int) == n) = false := by simp; omega
        gi_wp2
        exact ⟨HKF.out, HBF.out, ⟨by rw [List.length_append]; simp; omega, HNF.out⟩⟩
    case done =>
      rintro W ⟨hlen, hi⟩ hK
      obtain ⟨va, vb, h1, h2, h3, h4⟩ := hi.out
      obtain ⟨_, _, _, _, _, hbl⟩ := hi
      obtain ⟨L1, d1, rfl⟩ := h3.form
      obtain ⟨L2, d2, rfl⟩ := h4.form
      rw [List.length_map] at h1 h2 h3 h4
      have htk : (memsOf x).take n.toNat = memsOf x := List.take_of_length_le (by omega)
      have c1 : W.cell? ⟨w.heap.size + 1, 0, none⟩ = some (.slice L1 (memsOf x).length d1) := by rw [Lib.cell_of_heap h1]; rfl
      have c2 : W.cell? ⟨w.heap.size + 1 + 1, 0, none⟩ = some (.slice L2 (memsOf x).length d2) := by rw [Lib.cell_of_heap h2]; rfl
      have HK := Lib.hid hK; have HBL := Lib.hid hbl; have H3 := Lib.hid h3; have H4 := Lib.hid h4; have HTK := Lib.hid htk
      clear hK hbl h3 h4 h1 h2 htk hmseq h0
      go_wp2_with fail
      go_quiet (fail)
      go_wp2_with fail
      have hs0 := HS0.out
      refine ⟨by simp, .inl ⟨_, _, rfl, run_takeDeferred (show (W.drewN _).heap[W0.heap.size]? = _ from HK.out), ?_⟩⟩
      refine ⟨.tuple #[.slice L1 (memsOf x).length d1, .slice L2 (memsOf x).length d2], ?_, ⟨⟨_, _, rfl, ?_, ?_⟩, ?_⟩⟩
      · simp [results, Tryz.f20, go_sem]
      · rw [HTK.out]
        exact Sl.mono (F' := fun b => w.heap.size ≤ b) (fun b (hb : W0.heap.size + 2 ≤ b) => by omega) (Sl.frame (w := W) (w' := (W.drewN _).putObj W0.heap.size (.deferred none)) (fun b (hb : W0.heap.size + 2 ≤ b) => (World.putObj_heap_other (w := W.drewN _) (show b ≠ W0.heap.size by omega))) H3.out)
      · rw [HTK.out]
        exact Sl.mono (F' := fun b => w.heap.size ≤ b) (fun b (hb : W0.heap.size + 2 ≤ b) => by omega) (Sl.frame (w := W) (w' := (W.drewN _).putObj W0.heap.size (.deferred none)) (fun b (hb : W0.heap.size + 2 ≤ b) => (World.putObj_heap_other (w := W.drewN _) (show b ≠ W0.heap.size by omega))) H4.out)
      · exact (bel_drewN HBL.out _).trans (below_putObj (by omega) _)
    case stop =>
      rintro c pre post W hms ⟨rfl, hlen, hi⟩ hK
      obtain ⟨va, vb, h1, h2, h3, h4⟩ := hi.out
      obtain ⟨_, _, _, _, _, hbl⟩ := hi
      obtain ⟨L1, d1, rfl⟩ := h3.form
      obtain ⟨L2, d2, rfl⟩ := h4.form
      rw [List.length_map] at h1 h2 h3 h4
      have htk : (memsOf x).take n.toNat = pre := by rw [hms]; exact List.take_left' (by omega)
      have c1 : W.cell? ⟨w.heap.size + 1, 0, none⟩ = some (.slice L1 pre.length d1) := by rw [Lib.cell_of_heap h1]; rfl
      have c2 : W.cell? ⟨w.heap.size + 1 + 1, 0, none⟩ = some (.slice L2 pre.length d2) := by rw [Lib.cell_of_heap h2]; rfl
      have HK := Lib.hid hK; have HBL := Lib.hid hbl; have H3 := Lib.hid h3; have H4 := Lib.hid h4; have HTK := Lib.hid htk
      clear hK hbl h3 h4 h1 h2 htk hmseq h0 hms
      refine wpIn_exit ?_
      go_wp2_with fail
      go_quiet (fail)
      go_wp2_with fail
      have hs0 := HS0.out
      refine ⟨by simp, .inl ⟨_, _, rfl, run_takeDeferred (show (W.drewN _).heap[W0.heap.size]? = _ from HK.out), ?_⟩⟩
      refine ⟨.tuple #[.slice L1 pre.length d1, .slice L2 pre.length d2], ?_, ⟨⟨_, _, rfl, ?_, ?_⟩, ?_⟩⟩
      · simp [results, Tryz.f20, go_sem]
      · rw [HTK.out]
        exact Sl.mono (F' := fun b => w.heap.size ≤ b) (fun b (hb : W0.heap.size + 2 ≤ b) => by omega) (Sl.frame (w := W) (w' := (W.drewN _).putObj W0.heap.size (.deferred none)) (fun b (hb : W0.heap.size + 2 ≤ b) => (World.putObj_heap_other (w := W.drewN _) (show b ≠ W0.heap.size by omega))) H3.out)
      · rw [HTK.out]
        exact Sl.mono (F' := fun b => w.heap.size ≤ b) (fun b (hb : W0.heap.size + 2 ≤ b) => by omega) (Sl.frame (w := W) (w' := (W.drewN _).putObj W0.heap.size (.deferred none)) (fun b (hb : W0.heap.size + 2 ≤ b) => (World.putObj_heap_other (w := W.drewN _) (show b ≠ W0.heap.size by omega))) H4.out)
      · exact (bel_drewN HBL.out _).trans (below_putObj (by omega) _)
end Go.Proofs.YtjjgbgojlhaapaaGreatDoor
