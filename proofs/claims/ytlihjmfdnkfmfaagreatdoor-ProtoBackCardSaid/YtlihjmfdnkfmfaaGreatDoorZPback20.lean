/- Parts of the proof: Ky, Kg. -/
import Derived.RangeFuncNested
import Derived.RangeFuncBound
import Derived.RangeFuncCalls
import Derived.RangeFuncLeaves
import Derived.Shelf.Abstract
import Derived.WalkKit
import Derived.OwnWalkIn
import Derived.TacticsInMore
import Derived.LoopNIn
import Derived.LoopIn
import Derived.Test.YtlihjmfdnkfmfaaGreatDoorZPback19
namespace Go.Proofs.YtlihjmfdnkfmfaaGreatDoor
open Go.RowKit Go.Lib

/-- what a walk over an object's members promises: each round is handed a name and a value that lies in memory of its own, beyond the loop's record -/
def MSeq (n gf : Nat) (lb : Array Value) (ms : List (ByteArray × JV)) (n₀ : Nat) (w : World) : Prop := ∀ (l : Nat) (I J : List (ByteArray × JV) → World → Prop) (W : World), Below w.heap.size w W → l < W.heap.size →
  (∀ s X Y, I s X → Below X.heap.size X Y → I s Y) →
  (∀ (pre post : List (ByteArray × JV)) (nm : ByteArray) (y : JV) (A1 : Option Addr) (n1 c1 : Nat) (A2 : Option Addr) (n2 c2 B : Nat) (W0 W1 : World), I pre W0 → W0.heap.size ≤ B → Below W0.heap.size W0 W1 → l < B → JR W1 (fun b => B ≤ b) y [.int .i64 y.k, .int .i64 y.n, .string y.s, .slice A1 n1 c1, .slice A2 n2 c2] → ms = pre ++ (nm, y) :: post →
    YieldAt Fence.wide (n - 1) Tryz.prog l #[.string nm, .agg #[.int .i64 y.k, .int .i64 y.n, .string y.s, .slice A1 n1 c1, .slice A2 n2 c2]] W1 fun e W' =>
      (e = .returned (.bool true) ∧ I (pre ++ [(nm, y)]) W' ∧ Below n₀ W1 W') ∨ (e = .returned (.bool false) ∧ J (pre ++ [(nm, y)]) W')) →
  I [] W →
  CallsIn Fence.wide n Tryz.prog gf (#[.func (.yield l) #[] #[]] ++ lb) W fun e W' => (∃ v, e = .returned v) ∧ (I ms W' ∨ ∃ pre post, ms = pre ++ post ∧ J pre W')
/-- how the loop's body may be left -/
def MPost (w : World) (n₀ : Nat) (I : List (ByteArray × JV) → World → Prop) (Ix : Code → List (ByteArray × JV) → World → Prop) (xs : List (ByteArray × JV)) (W : World) : Exit → Act → World → Prop
  | .normal, _, W' => KeepsFrom w.heap.size W W' ∧ Below n₀ W W' ∧ I xs W'
  | .ret, _, W' => KeepsFrom w.heap.size W W' ∧ Ix .ret xs W'
  | .exit id, _, W' => KeepsFrom w.heap.size W W' ∧ Ix (.exit id) xs W'
  | _, _, _ => False
theorem below_putObj {m : Nat} {W : World} {l : Nat} (hl : m ≤ l) (o : Obj) : Below m W (W.putObj l o) :=
  ⟨rfl, rfl, rfl, by simp, fun k hk => World.putObj_heap_other (by omega)⟩
/-- the loop: its round is walked once, in a world of which the invariant speaks -/
theorem range_members {g : Operand} {ps : Array Tmp} {assign body : Code} {Q : Exit → Act → World → Prop} {a : Act} {w : World} {n gf n₀ : Nat} {lb : Array Value} {ms : List (ByteArray × JV)} (hn₀ : n₀ ≤ w.heap.size)
    (h1 : 1 ≤ n) (hg : a.eval g = .func (.func gf) #[] lb) (eg : ∀ args w, (callFunc gf args).run Tryz.prog w = .ok (.enter gf args) w) (hseq : MSeq (n - 1) gf lb ms n₀ w) (hps : ps.size = 2)
    (I : List (ByteArray × JV) → World → Prop) (Ix : Code → List (ByteArray × JV) → World → Prop)
    (hIb : ∀ s X Y, I s X → Below X.heap.size X Y → I s Y) (hIp : ∀ s X o, I s X → I s (X.putObj (w.heap.size + 1) o)) (hXp : ∀ c s X o, Ix c s X → Ix c s (X.putObj (w.heap.size + 1) o)) (h0 : I [] w)
    (Ax : ByteArray → JV → Option Addr → Nat → Nat → Option Addr → Nat → Nat → Act → World → Prop) (hAx : ∀ nm y A1 n1 c1 A2 n2 c2 a' X o, Ax nm y A1 n1 c1 A2 n2 c2 a' X → Ax nm y A1 n1 c1 A2 n2 c2 a' (X.putObj (w.heap.size + 1) o))
    (hassign : ∀ (pre : List (ByteArray × JV)) (nm : ByteArray) (y : JV) (A1 : Option Addr) (n1 c1 : Nat) (A2 : Option Addr) (n2 c2 : Nat) (B : Nat) (Wp W : World) (K : Act → World → Prop), I pre Wp → Wp.heap.size ≤ B → Below Wp.heap.size Wp W → w.heap.size + 1 < B → w.heap.size + 1 < W.heap.size → JR W (fun b => B ≤ b) y [.int .i64 y.k, .int .i64 y.n, .string y.s, .slice A1 n1 c1, .slice A2 n2 c2] →
      (∀ a' W', KeepsFrom w.heap.size W W' → Below n₀ W W' → I pre W' → Ax nm y A1 n1 c1 A2 n2 c2 a' W' → K a' W') →
      assign.wpIn (Fence.wide.inRound (w.heap.size + 1)) (n - 1 - 1) Tryz.prog (Exit.then K (fun _ _ _ => False)) { tmps := (ps.zip #[.string nm, .agg #[.int .i64 y.k, .int .i64 y.n, .string y.s, .slice A1 n1 c1, .slice A2 n2 c2]]).foldl (fun t (p, v) => t.setIfInBounds p v) a.tmps, defers := [] } W)
    (hbody : ∀ (pre post : List (ByteArray × JV)) (nm : ByteArray) (y : JV) (A1 : Option Addr) (n1 c1 : Nat) (A2 : Option Addr) (n2 c2 : Nat) (a' : Act) (W : World), I pre W → w.heap.size + 1 < W.heap.size → Ax nm y A1 n1 c1 A2 n2 c2 a' W → ms = pre ++ (nm, y) :: post →
      body.wpIn (Fence.wide.inRound (w.heap.size + 1)) (n - 1 - 1) Tryz.prog (MPost w n₀ I Ix (pre ++ [(nm, y)]) W) a' W)
    (hdone : ∀ (W : World), I ms W → W.heap[w.heap.size]? = some (.deferred (some [])) → Q .normal { a with defers := { target := .collected w.heap.size, args := #[] } :: a.defers } W)
    (hstop : ∀ (c : Code) (pre post : List (ByteArray × JV)) (W : World), ms = pre ++ post → Ix c pre W → W.heap[w.heap.size]? = some (.deferred (some [])) → c.wpIn Fence.wide n Tryz.prog Q { a with defers := { target := .collected w.heap.size, args := #[] } :: a.defers } W) :
    (Code.rangeFunc g ps assign body).wpIn Fence.wide n Tryz.prog Q a w := by
  refine wpIn_rangeFunc (fun fn hfn => ?_)
  obtain ⟨rec, hrec⟩ : ∃ rec : LoopState → Option Code → Loop, rec = fun st pe => { state := st, pending := pe, fn, tmps := a.tmps, params := ps, assign, body, defers := w.heap.size } := ⟨_, rfl⟩
  obtain ⟨W1, hW1⟩ : ∃ W1, (w.alloc (.deferred (some []))).alloc (.loop (rec .ready none)) = W1 := ⟨_, rfl⟩
  have hb1 : Below w.heap.size w W1 := by rw [← hW1]; exact bel_alloc (bel_alloc (Below.refl _ _) _) _
  have hL1 : W1.heap[w.heap.size + 1]? = some (.loop (rec .ready none)) := by rw [← hW1]; exact heap_alloc2_new w _ _
  have hK1 : W1.heap[w.heap.size]? = some (.deferred (some [])) := by rw [← hW1]; exact heap_alloc2_old w _ _
  refine ⟨w.heap.size + 1, [{ target := .collected w.heap.size, args := #[] }], W1, { target := .fn (.func gf) lb, args := #[.func (.yield (w.heap.size + 1)) #[] #[]] }, W1, gf,
    #[.func (.yield (w.heap.size + 1)) #[] #[]] ++ lb, W1, ?_, ?_, fun _ _ => trivial, ?_, fun _ => h1, ?_⟩
  · rw [← hW1, hrec]; exact run_enterLoop_outer _ _ _ _ _
  · simp only [resolve, hg]
    simp [go_sem]
  · simp [invoke, go_sem, eg]
  · refine (hseq (w.heap.size + 1)
      (fun pre W => I pre W ∧ W.heap[w.heap.size + 1]? = some (.loop (rec .ready none)) ∧ W.heap[w.heap.size]? = some (.deferred (some [])))
      (fun pre W => ∃ c, Ix c pre W ∧ W.heap[w.heap.size + 1]? = some (.loop (rec .done (some c))) ∧ W.heap[w.heap.size]? = some (.deferred (some [])))
      W1 hb1 (Array.getElem?_eq_some_iff.1 hL1).1 (fun s X Y h hb => ⟨hIb s X Y h.1 hb, Below.at hb h.2.1, Below.at hb h.2.2⟩) ?_ ⟨hIb _ _ _ h0 hb1, hL1, hK1⟩).mono ?_
    · rintro pre post nm y A1 n1 c1 A2 n2 c2 B Wp W ⟨hi, hlp, hkp⟩ hpB hpb hB hjr hms
      have hl := Below.at hpb hlp
      have hk := Below.at hpb hkp
      have hlt : w.heap.size + 1 < W.heap.size := (Array.getElem?_eq_some_iff.1 hl).1
      have hy := run_yield (P := Tryz.prog) (args := #[.string nm, .agg #[.int .i64 y.k, .int .i64 y.n, .string y.s, .slice A1 n1 c1, .slice A2 n2 c2]]) hl (by rw [hrec]; exact hps.symm)
      rw [hrec] at hy
      refine ⟨fn, _, assign, body, hy, roundIn_of_wpIn hfn (hassign pre nm y A1 n1 c1 A2 n2 c2 B Wp W _ hi hpB hpb hB hlt hjr ?_)⟩
      clear hy
      intro a' Wa hka hba hia hax
      have hla := hka.same _ _ (Nat.le_succ _) hl rfl
      have hda := hka.same _ _ (Nat.le_refl _) hk rfl
      have hlta : w.heap.size + 1 < Wa.heap.size := (Array.getElem?_eq_some_iff.1 hla).1
      refine ⟨_, run_beginRound hla (by rw [hrec]), ?_⟩
      have hl2 : (Wa.putObj (w.heap.size + 1) (.loop { rec .ready none with state := .busy })).heap[w.heap.size + 1]? = some (.loop { rec .ready none with state := .busy }) := World.putObj_heap_same hlta
      have hd2 : (Wa.putObj (w.heap.size + 1) (.loop { rec .ready none with state := .busy })).heap[w.heap.size]? = some (.deferred (some [])) := (World.putObj_heap_other (by omega)).trans hda
      refine wpIn_mono (hbody pre post nm y A1 n1 c1 A2 n2 c2 a' _ (hIp _ _ _ hia) (by simpa using hlta) (hAx _ _ _ _ _ _ _ _ _ _ _ hax) hms) ?_
      have fin : ∀ (jump : Option Code) (W3 : World), KeepsFrom w.heap.size (Wa.putObj (w.heap.size + 1) (.loop { rec .ready none with state := .busy })) W3 →
          (Instr.endRound (w.heap.size + 1) jump).run Tryz.prog W3 = .ok (.bool jump.isNone) (W3.putObj (w.heap.size + 1) (.loop (rec (if jump.isNone then .ready else .done) jump))) ∧
          (W3.putObj (w.heap.size + 1) (.loop (rec (if jump.isNone then .ready else .done) jump))).heap[w.heap.size + 1]? = some (.loop (rec (if jump.isNone then .ready else .done) jump)) ∧
          (W3.putObj (w.heap.size + 1) (.loop (rec (if jump.isNone then .ready else .done) jump))).heap[w.heap.size]? = some (.deferred (some [])) := fun jump W3 hk3 => by
        have hl3 := hk3.same _ _ (Nat.le_succ _) hl2 rfl
        have he := run_endRound (P := Tryz.prog) jump hl3
        refine ⟨by rw [hrec] at he ⊢; exact he, World.putObj_heap_same (Array.getElem?_eq_some_iff.1 hl3).1, (World.putObj_heap_other (by omega)).trans (hk3.same _ _ (Nat.le_refl _) hd2 rfl)⟩
      rintro e a3 W3 hp
      cases e with
      | normal =>
        obtain ⟨hk3, hb3, hi3⟩ := hp
        obtain ⟨hr, hl4, hd4⟩ := fin none W3 hk3
        exact ⟨_, _, hr, .inl ⟨rfl, ⟨hIp _ _ _ hi3, hl4, hd4⟩, ((hba.trans (below_putObj (by omega) _)).trans hb3).trans (below_putObj (by omega) _)⟩⟩
      | ret =>
        obtain ⟨hk3, hi3⟩ := hp
        obtain ⟨hr, hl4, hd4⟩ := fin (some .ret) W3 hk3
        exact ⟨_, _, hr, .inr ⟨rfl, .ret, hXp _ _ _ _ hi3, hl4, hd4⟩⟩
      | exit id =>
        obtain ⟨hk3, hi3⟩ := hp
        obtain ⟨hr, hl4, hd4⟩ := fin (some (.exit id)) W3 hk3
        exact ⟨_, _, hr, .inr ⟨rfl, .exit id, hXp _ _ _ _ hi3, hl4, hd4⟩⟩
      | goto t => exact hp.elim
      | panic ch => exact hp.elim
      | outgrown => exact hp.elim
    · rintro e W2 ⟨⟨v, rfl⟩, (⟨hi, hl, hk⟩ | ⟨pre, post, hms, c, hi, hl, hk⟩)⟩
      · exact ⟨none, _, by have := run_endLoop (P := Tryz.prog) hl (by rw [hrec]; simp); rw [hrec] at this; exact this, hdone _ (hIp _ _ _ hi) ((World.putObj_heap_other (by omega)).trans hk)⟩
      · exact ⟨some c, _, by have := run_endLoop (P := Tryz.prog) hl (by rw [hrec]; simp); rw [hrec] at this; exact this, hstop c pre post _ hms (hXp _ _ _ _ hi) ((World.putObj_heap_other (by omega)).trans hk)⟩
end Go.Proofs.YtlihjmfdnkfmfaaGreatDoor
namespace Go.Proofs.YtlihjmfdnkfmfaaGreatDoor
open Go.RowKit Go.Lib

def memsOf (x : JV) : List (ByteArray × JV) := if x.k = 7 then x.m else []
theorem JR_kept {w0 W wr : World} {F : Nat → Prop} {n₀ : Nat} {x : JV} {cs : List Value} (h : JR w0 F x cs) (hF : ∀ b, F b → b < n₀) (hn : n₀ ≤ w0.heap.size) (h0 : Below w0.heap.size w0 W) (h1 : Below n₀ W wr) : JR wr F x cs :=
  JR_frame (w' := wr) (fun b hb => (h1.block b (hF b hb)).trans (h0.block b (Nat.lt_of_lt_of_le (hF b hb) hn))) _ _ h
set_option maxRecDepth 100000 in
set_option maxHeartbeats 16000000 in
theorem members_seq (n : Nat) (x : JV) (A1 : Option Addr) (c1 : Nat) (A2 : Option Addr) (c2 : Nat) (F0 : Nat → Prop) (Bv n₀ : Nat) (w : World) (hn₀ : n₀ ≤ w.heap.size) (hF0 : ∀ b, F0 b → b < n₀) (hbox : w.heap[Bv]? = some (.cells #[.int .i64 x.k, .int .i64 x.n, .string x.s, .slice A1 x.l.length c1, .slice A2 x.m.length c2] 43 (0, 0)))
    (hj : JR w F0 x [.int .i64 x.k, .int .i64 x.n, .string x.s, .slice A1 x.l.length c1, .slice A2 x.m.length c2]) (hln : LnJ x) : MSeq n 100 #[.pointer (some ⟨Bv, 0, none⟩)] (memsOf x) n₀ w := by
  intro l I J W hW hlW hIb hY h0
  have lnm := ((LnJ_iff x).1 hln).2.2
  have hbx := Below.at hW hbox
  have hBv : Bv < w.heap.size := (Array.getElem?_eq_some_iff.1 hbox).1
  refine callsIn_wide.2 ?_
  by_cases hk7 : x.k = 7
  · have dk : (x.k != 7) = false := by rw [hk7]; rfl
    have hms : memsOf x = x.m := by unfold memsOf; rw [if_pos hk7]
    rw [hms] at hY ⊢
    have HJ0 := Lib.hid hj; have HW := Lib.hid hW; have HIB := Lib.hid hIb; have HY := Lib.hid hY; have H0 := Lib.hid h0; have LNM := Lib.hid lnm; have HBX := Lib.hid hbox
    obtain ⟨⟨p0, p1, p2, p3, p4⟩, _, hPw⟩ := cells5 hbx
    clear hj hW hIb hY h0 lnm hbox hms hbx hln hk7
    go_enter Tryz.func100, Tryz.ntmps100
    go_wp2_with fail
    go_loopg [11] x.m.length (fun gg s11 wr => ∃ k : Nat, k ≤ x.m.length ∧ x.m.length - k ≤ gg ∧ s11 = .int .i64 k ∧ Aside (I (x.m.take k) wr) ∧ Aside (Below n₀ W wr))
    case atStart => exact ⟨0, Nat.zero_le _, by omega, rfl, H0.out, Below.refl _ _⟩
    case round =>
      clear p0 p1 p2 p3 p4 hPw H0
      obtain ⟨k, hk, hgg, rfl, hi, hbr⟩ := hrel
      obtain ⟨vl, vm, ⟨he, _⟩, _, hm⟩ := JR_iff.1 (JR_kept HJ0.out hF0 hn₀ HW.out hbr)
      obtain ⟨rfl, rfl⟩ : vl = .slice A1 x.l.length c1 ∧ vm = .slice A2 x.m.length c2 := by simpa using he.symm
      obtain ⟨A2', c2', hA2, _, hem⟩ := mem_cells hm
      obtain ⟨rfl, rfl⟩ : A2 = A2' ∧ c2 = c2' := by simpa using hA2
      clear hA2 he hm
      by_cases hlt : k < x.m.length
      · have hltz : (k : Int) < (x.m.length : Int) := by omega
        have hk0 : (0 : Int) ≤ (k : Int) := by omega
        obtain ⟨⟨nm, q⟩, hx⟩ : ∃ p, x.m[k]? = some p := get_ex hlt
        obtain ⟨b, o, C1, k1, f1, C2, k2, f2, rfl, hnz, r0, r1, r2, r3, r4, r5, hjq⟩ := hem k nm q hx
        have hal := bel_alloc (Below.refl wr.heap.size wr) (.cells #[.string nm, .int .i64 q.k, .int .i64 q.n, .string q.s, .slice C1 k1 f1, .slice C2 k2 f2] 49)
        have hald := bel_drew hal
        have hsz : n₀ ≤ wr.heap.size := Nat.le_trans hn₀ (Nat.le_trans HW.out.size hbr.size)
        have hcp := copy_any q _ F0 (wr.alloc (.cells #[.string nm, .int .i64 q.k, .int .i64 q.n, .string q.s, .slice C1 k1 f1, .slice C2 k2 f2] 49)).drew (LNM.out (nm, q) (get_mem hx)) (JR_later hjq hald)
        have HC := Lib.hid hcp
        have HI := Lib.hid (HIB.out _ _ _ hi hald)
        have HLD := Lib.hid (show l < (wr.alloc (.cells #[.string nm, .int .i64 q.k, .int .i64 q.n, .string q.s, .slice C1 k1 f1, .slice C2 k2 f2] 49)).drew.heap.size by have h1 : l < W.heap.size := hlW; have h2 := hbr.size; have h3 := hald.size; omega)
        have HBD := Lib.hid (hbr.trans (hald.mono hsz))
        have HSZ := Lib.hid (show n₀ ≤ (wr.alloc (.cells #[.string nm, .int .i64 q.k, .int .i64 q.n, .string q.s, .slice C1 k1 f1, .slice C2 k2 f2] 49)).drew.heap.size by have h3 := hald.size; omega)
        have HSPL := Lib.hid (show x.m = x.m.take k ++ (nm, q) :: x.m.drop (k + 1) by rw [← drop_of_get hx, List.take_append_drop])
        have HX := Lib.hid hx
        obtain ⟨⟨x0, x1, x2, x3, x4, x5⟩, _, hXw⟩ := cells6 (show (wr.alloc (.cells #[.string nm, .int .i64 q.k, .int .i64 q.n, .string q.s, .slice C1 k1 f1, .slice C2 k2 f2] 49)).drew.heap[wr.heap.size]? = _ from heap_alloc_new wr _)
        clear hx hjq hald hi hbr hem hnz hcp hal
        go_upto_region 4 with (fail)
        generalize hD : (wr.alloc (.cells #[.string nm, .int .i64 q.k, .int .i64 q.n, .string q.s, .slice C1 k1 f1, .slice C2 k2 f2] 49)) = D0 at *
        go_wp2_with fail
        refine wpIn_wide.1 (wpIn_region_any (F := Fence.wide) (n := n) (by kernel_rfl) ?_)
        change wpAnyIn _ _ _ _ _ _ _ _ _ (World.drew _)
        clear r0 r1 r2 r3 r4 r5
        clear hD
        generalize D0.drew = D at *
        refine wpAnyIn_take (i := 0) (v := ?_) rfl rfl (by kernel_rfl) (by kernel_rfl) (by kernel_rfl) (fun _ _ _ h => h) ⟨Or.inl ⟨by kernel_rfl, ?_⟩, fun _ => rfl⟩ ?_
        rotate_left
        · (intro w; go_simp; try (with_reducible rfl))
        try simp only [lay]
        refine wpAnyIn_take (i := 1) (v := ?_) rfl rfl (by kernel_rfl) (by kernel_rfl) (by kernel_rfl) (fun _ _ _ h => h) ⟨Or.inl ⟨by kernel_rfl, ?_⟩, fun _ => rfl⟩ ?_
        rotate_left
        · (intro w; go_simp; try (with_reducible rfl))
        try simp only [lay]
        refine wpAnyIn_take (i := 3) (v := ?_) rfl rfl (by kernel_rfl) (by kernel_rfl) (by kernel_rfl) (fun _ _ _ h => h) ⟨Or.inl ⟨by kernel_rfl, ?_⟩, fun _ => rfl⟩ ?_
        rotate_left
        · (intro w; go_simp; try (with_reducible rfl))
        try simp only [lay]
        refine wpAnyIn_ready (rs := [2, 4]) (by kernel_rfl) (by simp) ?_
        refine AllReadyIn.cons rfl (fun K hK => ?_) (AllReadyIn.cons rfl (fun K hK => ?_) AllReadyIn.nil)
        · rw [if_pos (by kernel_rfl)]
          go_simp
          refine hK _ _ ?_
          clear hK K
          try simp only [lay]
          refine wpAnyIn_ready (rs := [4]) (by kernel_rfl) (by simp) ?_
          refine AllReadyIn.cons rfl (fun K hK => ?_) AllReadyIn.nil
          rw [if_pos (by kernel_rfl)]
          go_simp
          refine hK _ _ ?_
          clear hK K
          try simp only [lay]
          refine wpAnyIn_ready (rs := [5]) (by kernel_rfl) (by simp) ?_
          refine AllReadyIn.cons rfl (fun K hK => ?_) AllReadyIn.nil
          rw [if_pos (by kernel_rfl)]
          go_simp
          refine ⟨trivial, fun h => (by first | cases h | simp [Fence.wide] at h), (callsIn_wide.2 HC.out).mono ?_⟩
          rintro e w5 ⟨⟨D1, j1, g1, D2, j2, g2, rfl, hjr⟩, hb5⟩
          obtain ⟨fn, tmps, assign, body, hy, hR⟩ := HY.out (x.m.take k) (x.m.drop (k + 1)) nm q D1 j1 g1 D2 j2 g2 _ D w5 HI.out (Nat.le_refl _) hb5 HLD.out hjr HSPL.out
          have HB5 := Lib.hid (HBD.out.trans (hb5.mono HSZ.out)); have HRR := Lib.hid hR
          have y0 := cell_later' hb5 x0
          clear hjr hR HC HI HY
          refine hK _ _ ?_
          clear hK K x0
          try simp only [lay]
          refine wpAnyIn_ready (rs := [6]) (by kernel_rfl) (by simp) ?_
          refine AllReadyIn.cons rfl (fun K hK => ?_) AllReadyIn.nil
          rw [if_pos (by kernel_rfl)]
          go_simp
          first | refine ⟨fun h => (by first | cases h | simp [Fence.wide] at h), HRR.out.mono ?_⟩ | refine ⟨trivial, fun h => (by first | cases h | simp [Fence.wide] at h), HRR.out.mono ?_⟩ | refine HRR.out.mono ?_
          rintro e w6 (⟨rfl, hi6, hb6⟩ | ⟨rfl, hj6⟩)
          · refine hK _ _ ?_
            clear hK K
            try simp only [lay]
            refine wpAnyIn_ready (rs := [7]) (by kernel_rfl) (by simp) ?_
            refine AllReadyIn.cons rfl (fun K hK => ?_) AllReadyIn.nil
            rw [if_pos (by kernel_rfl)]
            go_simp
            refine hK _ _ ?_
            clear hK K
            try simp only [lay]
            refine wpAnyIn_done (by kernel_rfl) ?_ _
            have HE := Lib.hid (HB5.out.trans hb6); have HI6 := Lib.hid hi6
            clear hi6 hb6 HB5 hy
            go_wp2_with fail
            go_roundg (x.m.length - (k + 1))
            case measure => omega
            case rel => exact ⟨k + 1, by omega, by omega, by simp, by rw [take_snoc' HX.out]; exact HI6.out, HE.out⟩
          · refine hK _ _ ?_
            clear hK K
            try simp only [lay]
            refine wpAnyIn_ready (rs := [7]) (by kernel_rfl) (by simp) ?_
            refine AllReadyIn.cons rfl (fun K hK => ?_) AllReadyIn.nil
            rw [if_pos (by kernel_rfl)]
            go_simp
            refine hK _ _ ?_
            clear hK K
            try simp only [lay]
            refine wpAnyIn_done (by kernel_rfl) ?_ _
            have HJ6 := Lib.hid hj6
            clear hj6 HB5 hy
            go_wp2_with fail
            refine bodyPost_ret (results_none rfl _ _ _) rfl ?_
            exact ⟨⟨_, rfl⟩, .inr ⟨x.m.take k ++ [(nm, q)], x.m.drop (k + 1), by rw [List.append_assoc]; exact HSPL.out, HJ6.out⟩⟩
        · rw [if_pos (by kernel_rfl)]
          go_simp
          refine hK _ _ ?_
          clear hK K
          try simp only [lay]
          refine wpAnyIn_ready (rs := [2, 5]) (by kernel_rfl) (by simp) ?_
          refine AllReadyIn.cons rfl (fun K hK => ?_) (AllReadyIn.cons rfl (fun K hK => ?_) AllReadyIn.nil)
          · rw [if_pos (by kernel_rfl)]
            go_simp
            refine hK _ _ ?_
            clear hK K
            try simp only [lay]
            refine wpAnyIn_ready (rs := [5]) (by kernel_rfl) (by simp) ?_
            refine AllReadyIn.cons rfl (fun K hK => ?_) AllReadyIn.nil
            rw [if_pos (by kernel_rfl)]
            go_simp
            refine ⟨trivial, fun h => (by first | cases h | simp [Fence.wide] at h), (callsIn_wide.2 HC.out).mono ?_⟩
            rintro e w5 ⟨⟨D1, j1, g1, D2, j2, g2, rfl, hjr⟩, hb5⟩
            obtain ⟨fn, tmps, assign, body, hy, hR⟩ := HY.out (x.m.take k) (x.m.drop (k + 1)) nm q D1 j1 g1 D2 j2 g2 _ D w5 HI.out (Nat.le_refl _) hb5 HLD.out hjr HSPL.out
            have HB5 := Lib.hid (HBD.out.trans (hb5.mono HSZ.out)); have HRR := Lib.hid hR
            have y0 := cell_later' hb5 x0
            clear hjr hR HC HI HY
            refine hK _ _ ?_
            clear hK K x0
            try simp only [lay]
            refine wpAnyIn_ready (rs := [6]) (by kernel_rfl) (by simp) ?_
            refine AllReadyIn.cons rfl (fun K hK => ?_) AllReadyIn.nil
            rw [if_pos (by kernel_rfl)]
            go_simp
            first | refine ⟨fun h => (by first | cases h | simp [Fence.wide] at h), HRR.out.mono ?_⟩ | refine ⟨trivial, fun h => (by first | cases h | simp [Fence.wide] at h), HRR.out.mono ?_⟩ | refine HRR.out.mono ?_
            rintro e w6 (⟨rfl, hi6, hb6⟩ | ⟨rfl, hj6⟩)
            · refine hK _ _ ?_
              clear hK K
              try simp only [lay]
              refine wpAnyIn_ready (rs := [7]) (by kernel_rfl) (by simp) ?_
              refine AllReadyIn.cons rfl (fun K hK => ?_) AllReadyIn.nil
              rw [if_pos (by kernel_rfl)]
              go_simp
              refine hK _ _ ?_
              clear hK K
              try simp only [lay]
              refine wpAnyIn_done (by kernel_rfl) ?_ _
              have HE := Lib.hid (HB5.out.trans hb6); have HI6 := Lib.hid hi6
              clear hi6 hb6 HB5 hy
              go_wp2_with fail
              go_roundg (x.m.length - (k + 1))
              case measure => omega
              case rel => exact ⟨k + 1, by omega, by omega, by simp, by rw [take_snoc' HX.out]; exact HI6.out, HE.out⟩
            · refine hK _ _ ?_
              clear hK K
              try simp only [lay]
              refine wpAnyIn_ready (rs := [7]) (by kernel_rfl) (by simp) ?_
              refine AllReadyIn.cons rfl (fun K hK => ?_) AllReadyIn.nil
              rw [if_pos (by kernel_rfl)]
              go_simp
              refine hK _ _ ?_
              clear hK K
              try simp only [lay]
              refine wpAnyIn_done (by kernel_rfl) ?_ _
              have HJ6 := Lib.hid hj6
              clear hj6 HB5 hy
              go_wp2_with fail
              refine bodyPost_ret (results_none rfl _ _ _) rfl ?_
              exact ⟨⟨_, rfl⟩, .inr ⟨x.m.take k ++ [(nm, q)], x.m.drop (k + 1), by rw [List.append_assoc]; exact HSPL.out, HJ6.out⟩⟩
          · rw [if_pos (by kernel_rfl)]
            go_simp
            refine ⟨trivial, fun h => (by first | cases h | simp [Fence.wide] at h), (callsIn_wide.2 HC.out).mono ?_⟩
            rintro e w5 ⟨⟨D1, j1, g1, D2, j2, g2, rfl, hjr⟩, hb5⟩
            obtain ⟨fn, tmps, assign, body, hy, hR⟩ := HY.out (x.m.take k) (x.m.drop (k + 1)) nm q D1 j1 g1 D2 j2 g2 _ D w5 HI.out (Nat.le_refl _) hb5 HLD.out hjr HSPL.out
            have HB5 := Lib.hid (HBD.out.trans (hb5.mono HSZ.out)); have HRR := Lib.hid hR
            have y0 := cell_later' hb5 x0
            clear hjr hR HC HI HY
            refine hK _ _ ?_
            clear hK K x0
            try simp only [lay]
            refine wpAnyIn_ready (rs := [2]) (by kernel_rfl) (by simp) ?_
            refine AllReadyIn.cons rfl (fun K hK => ?_) AllReadyIn.nil
            rw [if_pos (by kernel_rfl)]
            go_simp
            refine hK _ _ ?_
            clear hK K
            try simp only [lay]
            refine wpAnyIn_ready (rs := [6]) (by kernel_rfl) (by simp) ?_
            refine AllReadyIn.cons rfl (fun K hK => ?_) AllReadyIn.nil
            rw [if_pos (by kernel_rfl)]
            go_simp
            first | refine ⟨fun h => (by first | cases h | simp [Fence.wide] at h), HRR.out.mono ?_⟩ | refine ⟨trivial, fun h => (by first | cases h | simp [Fence.wide] at h), HRR.out.mono ?_⟩ | refine HRR.out.mono ?_
            rintro e w6 (⟨rfl, hi6, hb6⟩ | ⟨rfl, hj6⟩)
            · refine hK _ _ ?_
              clear hK K
              try simp only [lay]
              refine wpAnyIn_ready (rs := [7]) (by kernel_rfl) (by simp) ?_
              refine AllReadyIn.cons rfl (fun K hK => ?_) AllReadyIn.nil
              rw [if_pos (by kernel_rfl)]
              go_simp
              refine hK _ _ ?_
              clear hK K
              try simp only [lay]
              refine wpAnyIn_done (by kernel_rfl) ?_ _
              have HE := Lib.hid (HB5.out.trans hb6); have HI6 := Lib.hid hi6
              clear hi6 hb6 HB5 hy
              go_wp2_with fail
              go_roundg (x.m.length - (k + 1))
              case measure => omega
              case rel => exact ⟨k + 1, by omega, by omega, by simp, by rw [take_snoc' HX.out]; exact HI6.out, HE.out⟩
            · refine hK _ _ ?_
              clear hK K
              try simp only [lay]
              refine wpAnyIn_ready (rs := [7]) (by kernel_rfl) (by simp) ?_
              refine AllReadyIn.cons rfl (fun K hK => ?_) AllReadyIn.nil
              rw [if_pos (by kernel_rfl)]
              go_simp
              refine hK _ _ ?_
              clear hK K
              try simp only [lay]
              refine wpAnyIn_done (by kernel_rfl) ?_ _
              have HJ6 := Lib.hid hj6
              clear hj6 HB5 hy
              go_wp2_with fail
              refine bodyPost_ret (results_none rfl _ _ _) rfl ?_
              exact ⟨⟨_, rfl⟩, .inr ⟨x.m.take k ++ [(nm, q)], x.m.drop (k + 1), by rw [List.append_assoc]; exact HSPL.out, HJ6.out⟩⟩
      · have hltz : ¬ (k : Int) < (x.m.length : Int) := by omega
        have hi' : I x.m wr := by have h := hi; rw [List.take_of_length_le (by omega)] at h; exact h
        have HI := Lib.hid hi'
        clear hi hi' hbr hem
        go_wp2_with fail
        first | go_end0 | refine bodyPost_ret (results_none rfl _ _ _) rfl ?_
        exact ⟨⟨_, rfl⟩, .inl HI.out⟩
  · have dk : (x.k != 7) = true := by simpa using hk7
    have hms : memsOf x = [] := by unfold memsOf; rw [if_neg hk7]
    rw [hms]
    have H0 := Lib.hid h0
    obtain ⟨⟨p0, p1, p2, p3, p4⟩, _, hPw⟩ := cells5 hbx
    clear hj hW hIb hY h0 lnm hbox hms hbx hln hk7
    go_enter Tryz.func100, Tryz.ntmps100
    go_wp2_with fail
    first | go_end0 | refine bodyPost_ret (results_none rfl _ _ _) rfl ?_
    exact ⟨⟨_, rfl⟩, .inl H0.out⟩
end Go.Proofs.YtlihjmfdnkfmfaaGreatDoor
