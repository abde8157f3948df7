/- Parts of the proof: Hp, Rv. -/
import Derived.Test.YtjjgbgojlhaapaaDoorZWrites26
import Derived.Test.YtjjgbgojlhaapaaDoorZWrites33
import Derived.Test.YtjjgbgojlhaapaaDoorZWrites5
import Derived.Test.YtjjgbgojlhaapaaDoorZWrites31
namespace Go.Proofs.YtjjgbgojlhaapaaDoor
open Go.RowKit Go.Lib

theorem valInfoR : (Tryd.prog.info? 87).map (fun i => (i.zero, i.size, i.bytes)) = some (some (.agg #[.int .i64 0, .int .i64 0, .string ⟨#[]⟩, .slice none 0 0, .slice none 0 0]), 5, 80) := by kernel_rfl
theorem slM_cellsR {w : World} {F : Nat → Prop} {v : Value} {xs : List Mk} (hs : Sl mkTy w F v xs) : ∃ A c, v = .slice A xs.length c ∧ xs.length ≤ 9223372036854775807 ∧ ∀ k x, xs[k]? = some x → ∃ b o, A = some ⟨b, o, none⟩ ∧ w.cell? ⟨b, o + k * 2, none⟩ = some (.int .i64 x.t) ∧ w.cell? ⟨b, o + k * 2 + 1, none⟩ = some (.int .i64 x.u) := by
  rcases hs with ⟨rfl, A, c, rfl⟩ | ⟨b, o, c, rfl, _, h3, h4, hel⟩
  · exact ⟨A, c, rfl, by simp, fun k x hk => by simp at hk⟩
  · refine ⟨_, _, rfl, by omega, fun k x hk => ?_⟩
    obtain ⟨h1, h2⟩ := mk_cells hel k x hk
    exact ⟨b, o, rfl, h1, h2⟩

theorem number_litR (n : Int) (w : World) : Calls Tryd.prog 47 #[.int .i64 n] w fun e w' => e = .returned (.agg #[.int .i64 4, .int .i64 n, .string ⟨#[]⟩, .slice none 0 0, .slice none 0 0]) ∧ Below w.heap.size w w' := rnumber n w
def PRelR (xs : List Mk) (w : World) (B T k : Nat) (wr : World) : Prop := ∃ v cs, wr.heap[T]? = some (.cells #[.int .i64 6, .int .i64 0, .string ⟨#[]⟩, v, .slice none 0 0] 87 (0, 0)) ∧ wr.ownsRow (T + 1) 87 5 v k cs ∧
  Chunks jvTy wr (fun b => T < b ∧ b < wr.heap.size ∧ some b ≠ v.ownBlock) ((xs.take k).map markV) cs ∧ Below B w wr
theorem numV_jrR (w : World) (F : Nat → Prop) (n : Int) : JR w F (numV n) [.int .i64 4, .int .i64 n, .string ⟨#[]⟩, .slice none 0 0, .slice none 0 0] :=
  JR_iff.2 ⟨.slice none 0 0, .slice none 0 0, ⟨rfl, by simp [numV, JV.s, ByteArray.size]⟩, .inl ⟨rfl, none, 0, rfl⟩, .inl ⟨rfl, none, 0, rfl⟩⟩
theorem wordV_jrR (w : World) (F : Nat → Prop) (s : ByteArray) (hs : s.size ≤ 9223372036854775807) : JR w F (wordV s) [.int .i64 5, .int .i64 0, .string s, .slice none 0 0, .slice none 0 0] :=
  JR_iff.2 ⟨.slice none 0 0, .slice none 0 0, ⟨rfl, hs⟩, .inl ⟨rfl, none, 0, rfl⟩, .inl ⟨rfl, none, 0, rfl⟩⟩
theorem markV_jrR (w : World) (F : Nat → Prop) (m : Mk) (g : Nat) (hF : F g)
    (hg : w.heap[g]? = some (.cells #[.int .i64 4, .int .i64 m.t, .string ⟨#[]⟩, .slice none 0 0, .slice none 0 0, .int .i64 4, .int .i64 m.u, .string ⟨#[]⟩, .slice none 0 0, .slice none 0 0] 87 (0, 0))) :
    JR w F (markV m) [.int .i64 6, .int .i64 0, .string ⟨#[]⟩, .slice (some ⟨g, 0, none⟩) 2 2, .slice none 0 0] := by
  refine JR_iff.2 ⟨.slice (some ⟨g, 0, none⟩) 2 2, .slice none 0 0, ⟨rfl, by simp [markV, JV.s, ByteArray.size]⟩, .inr ⟨g, 0, 2, rfl, hF, Nat.le_refl _, by decide, _, ⟨_, _, rfl, numV_jrR w F m.t, ⟨_, [], rfl, numV_jrR w F m.u, rfl⟩⟩, fun j u hj => ?_⟩, .inl ⟨rfl, none, 0, rfl⟩⟩
  rw [Nat.zero_add, Lib.cell_of_heap hg]
  simpa using hj
theorem mem_singleR (w5 : World) (nm : ByteArray) (x : JV) (c : List Value) (hn : nm.size ≤ 9223372036854775807) (h : JR w5 (fun _ => True) x c) :
    Sl memTy (w5.alloc (.cells (Value.string nm :: c).toArray 91)) (fun _ => True) (.slice (some ⟨w5.heap.size, 0, none⟩) 1 1) [(nm, x)] :=
  .inr ⟨_, 0, 1, rfl, trivial, Nat.le_refl _, by decide, _, Chunks.single (T := memTy) ⟨c, ⟨rfl, hn⟩, JR_later h (bel_alloc (Below.refl _ _) _)⟩, fun j u hj => by
    rw [Nat.zero_add]; exact cell_newB _ _ _ _ _ (by simpa using hj)⟩
theorem PRel_stepR {xs : List Mk} {w wr U W : World} {B T k g : Nat} {A' A2 : Option Addr} {c' c2 : Nat} {cs : List Value} {m : Mk}
    (hown : wr.ownsRow (T + 1) 87 5 (.slice A' k c') k cs) (hch : Chunks jvTy wr (fun b => T < b ∧ b < wr.heap.size ∧ some b ≠ (Value.slice A' k c').ownBlock) ((xs.take k).map markV) cs) (hbw : Below B w wr)
    (hTr : T < wr.heap.size) (hBT : B ≤ T) (hU : Below wr.heap.size wr U) (hz : wr.heap.size ≤ g)
    (hg8 : U.heap[g]? = some (.cells #[.int .i64 4, .int .i64 m.t, .string ⟨#[]⟩, .slice none 0 0, .slice none 0 0, .int .i64 4, .int .i64 m.u, .string ⟨#[]⟩, .slice none 0 0, .slice none 0 0] 87 (0, 0)))
    (hg : U.grownBy W (Value.slice A' k c').ownBlock)
    (hx : (Value.slice A2 (k + 1) c2).ownBlock = (Value.slice A' k c').ownBlock ∨ (Value.slice A2 (k + 1) c2).ownBlock = some U.heap.size)
    (hoo : W.ownsRow (T + 1) 87 5 (.slice A2 (k + 1) c2) (k + 1) (cs ++ [.int .i64 6, .int .i64 0, .string ⟨#[]⟩, .slice (some ⟨g, 0, none⟩) 2 2, .slice none 0 0]))
    (hTW : W.heap[T]? = some (.cells #[.int .i64 6, .int .i64 0, .string ⟨#[]⟩, .slice A' k c', .slice none 0 0] 87 (0, 0))) (hxk : xs[k]? = some m) :
    PRelR xs w B T (k + 1) (W.setCell ⟨T, 3, none⟩ (.slice A2 (k + 1) c2)) := by
  have hg1 : W.grownBy (W.setCell ⟨T, 3, none⟩ (.slice A2 (k + 1) c2)) (some T) := grown_set _
  have hob : ∀ j, (Value.slice A' k c').ownBlock = some j → T + 1 ≤ j ∧ j < wr.heap.size := fun j hj => hown.lt j hj
  have hob2 : ∀ j, (Value.slice A2 (k + 1) c2).ownBlock = some j → T + 1 ≤ j ∧ j < W.heap.size := fun j hj => hoo.lt j hj
  have hgU : g < U.heap.size := (Array.getElem?_eq_some_iff.1 hg8).1
  have hsz := hg.size
  have hsz2 := hU.size
  have hsz3 : (W.setCell ⟨T, 3, none⟩ (.slice A2 (k + 1) c2)).heap.size = W.heap.size := by simp [World.setCell]
  have hblk : ∀ b, T < b → b < U.heap.size → some b ≠ (Value.slice A' k c').ownBlock → (W.setCell ⟨T, 3, none⟩ (.slice A2 (k + 1) c2)).heap[b]? = U.heap[b]? := fun b h1 h2 h3 =>
    (hg1.block b (by omega) (by intro e; have := Option.some.inj e; omega)).trans (hg.block b h2 h3)
  refine ⟨.slice A2 (k + 1) c2, _, ?_, World.ownsRow.kept hoo hg1 ?_, ?_, ?_⟩
  · simp [World.setCell, Array.getElem?_modify, hTW]
  · rcases hv : (Value.slice A2 (k + 1) c2).ownBlock with _ | j
    · exact .inl rfl
    · right; intro e; have := hob2 j hv; have := Option.some.inj e; omega
  · have e1 : (xs.take (k + 1)).map markV = (xs.take k).map markV ++ [markV m] := by rw [List.take_add_one, hxk]; simp
    rw [e1]
    have hnb : ∀ b, b < U.heap.size → some b ≠ (Value.slice A' k c').ownBlock → some b ≠ (Value.slice A2 (k + 1) c2).ownBlock := fun b hb h3 => by
      rcases hx with h | h
      · rw [h]; exact h3
      · rw [h]; intro e; have := Option.some.inj e; omega
    have hgo : some g ≠ (Value.slice A' k c').ownBlock := by intro e; have := hob g e.symm; omega
    have p1 := (hch.frame (w' := W.setCell ⟨T, 3, none⟩ (.slice A2 (k + 1) c2)) (fun b hb => (hblk b hb.1 (by omega) hb.2.2).trans (hU.block b hb.2.1))).mono (F' := fun b => T < b ∧ b < (W.setCell ⟨T, 3, none⟩ (.slice A2 (k + 1) c2)).heap.size ∧ some b ≠ (Value.slice A2 (k + 1) c2).ownBlock) (fun b hb => ⟨hb.1, by have := hb.2.1; omega, hnb b (by have := hb.2.1; omega) hb.2.2⟩)
    exact p1.append (Chunks.single (T := jvTy) (markV_jrR _ _ m g ⟨by omega, by omega, hnb g hgU hgo⟩ ((hblk g (by omega) hgU hgo).trans hg8)))
  · have h1 : Below B w U := hbw.trans (hU.mono (by omega))
    have h2 : Below B w W := h1.grown hg (by omega) (fun j hj => by have := hob j hj; omega)
    exact h2.setCell (by show B ≤ T; omega) _
set_option maxRecDepth 100000 in
set_option maxHeartbeats 16000000 in
theorem rputMarks (sv : Value) (F : Nat → Prop) (xs : List Mk) (w : World) (hs : Sl mkTy w F sv xs) (hx8 : xs.length ≤ 1000000) (hsm : SmJ (marksO xs)) (hlen : mayJ 64 (marksO xs) = true → (printB 64 (marksO xs)).length ≤ 1000000000) :
    Calls Tryd.prog 23 #[sv] w fun e w' => e = .returned (putB (mayB xs) (marksO xs)) ∧ Below w.heap.size w w' := by
  have hmay := fun W (hW : Below w.heap.size w W) => refMay_any sv F xs W (Sl.below hs hW)
  obtain ⟨S, E, hput, hp⟩ := printedC (marksO xs) (mayB xs) hsm hlen
  rw [hput]
  obtain ⟨A, c, rfl, hn63, hel⟩ := slM_cellsR hs
  have Hel := Lib.hid hel; have HMay := Lib.hid hmay; have HX8 := Lib.hid hx8; have HP0 := Lib.hid hp
  generalize hn : xs.length = n at *
  have Hn := Lib.hid hn
  clear hel hmay hx8 hs hn hp hput hsm hlen
  go_enter Tryd.func23, Tryd.ntmps23
  go_wp2_with fail
  have h0 : PRelR xs w w.heap.size w.heap.size 0 (w.alloc (.cells #[.int .i64 6, .int .i64 0, .string ⟨#[]⟩, .slice none 0 0, .slice none 0 0] 87)) := ⟨.slice none 0 0, [], heap_alloc_new w _, World.ownsRow_nil _ _ _ _, rfl, bel_alloc (Below.refl _ _) _⟩
  have H0 := Lib.hid h0
  clear h0
  generalize hTe : w.heap.size = T at *
  have HB1 := Lib.hid (Nat.le_refl T)
  have HTe := Lib.hid hTe
  clear hTe
  go_loopg [5] n (fun gg s5 wr => ∃ k : Nat, k ≤ n ∧ n - k ≤ gg ∧ s5 = .int .i64 k ∧ Aside (PRelR xs w T T k wr))
  case atStart => exact ⟨0, Nat.zero_le _, by omega, rfl, H0.out⟩
  case round =>
    obtain ⟨k, hk, hgg, rfl, HP⟩ := hrel
    obtain ⟨v, cs, hbk, hown, hch, hbw⟩ := HP.out
    obtain ⟨A', c', rfl⟩ := own_sliceB hown
    have v0 : wr.cell? ⟨T, 0, none⟩ = some (.int .i64 6) := by rw [Lib.cell_of_heap hbk]; rfl
    have v1 : wr.cell? ⟨T, 1, none⟩ = some (.int .i64 0) := by rw [Lib.cell_of_heap hbk]; rfl
    have v2 : wr.cell? ⟨T, 2, none⟩ = some (.string ⟨#[]⟩) := by rw [Lib.cell_of_heap hbk]; rfl
    have v3 : wr.cell? ⟨T, 3, none⟩ = some (.slice A' k c') := by rw [Lib.cell_of_heap hbk]; rfl
    have v4 : wr.cell? ⟨T, 4, none⟩ = some (.slice none 0 0) := by rw [Lib.cell_of_heap hbk]; rfl
    have hTr : T < wr.heap.size := World.block_lt_of_cell? _ _ v0
    have HBK := Lib.hid hbk; have HO := Lib.hid hown; have HC := Lib.hid hch; have HB := Lib.hid hbw
    have HBw := Lib.hid (show Below w.heap.size w wr by rw [HTe.out]; exact hbw)
    clear hbk hown hch hbw
    by_cases hlt : k < n
    · have hltz : (k : Int) < (n : Int) := by omega
      obtain ⟨m, hx⟩ : ∃ p, xs[k]? = some p := get_ex (by have := Hn.out; omega)
      obtain ⟨o, q, rfl, e0, e1⟩ := Hel.out k m hx
      have r0 := cell_later' HBw.out e0
      have r1 := cell_later' HBw.out e1
      have hor : o < wr.heap.size := World.block_lt_of_cell? _ _ r0
      have HX := Lib.hid hx
      clear hx e0 e1
      go_wp2_with fail
      clear v0 v1 v2 v4
      have hk0 : (0 : Int) ≤ (k : Int) := by omega
      refine PrintLast.wp_region_last_drew (S := fun w' => Below wr.heap.size wr w' ∧ w'.cell? ⟨T, 3, none⟩ = some (.slice A' k c') ∧ w'.cell? ⟨o, q + k * 2, none⟩ = some (.int .i64 m.t) ∧ w'.cell? ⟨o, q + k * 2 + 1, none⟩ = some (.int .i64 m.u)) (ds := [17, 19]) (by kernel_rfl) ?_ (fun hHeld => ?_)
      · exact ⟨bel_drew (Below.refl _ _), by simpa using v3, by simpa using r0, by simpa using r1⟩
      clear r0 r1
      refine PrintLast.wpAnyLast_take (i := 0) (v := ?_) rfl (by kernel_rfl) (by kernel_rfl) (by kernel_rfl) (by kernel_rfl) (by kernel_rfl) (fun _ _ _ h => h) (Or.inl ⟨by kernel_rfl, ?_⟩) (by assumption) ?_
      rotate_left
      · (intro w hSw; (try dsimp only at hSw); go_simp; try (with_reducible rfl))
      try simp only [List.getElem_toArray, List.getElem_cons_zero, Act.put, List.setIfInBounds_toArray, List.set_cons_zero, List.set_cons_succ]
      refine PrintLast.wpAnyLast_take (i := 1) (v := ?_) rfl (by kernel_rfl) (by kernel_rfl) (by kernel_rfl) (by kernel_rfl) (by kernel_rfl) (fun _ _ _ h => h) (Or.inl ⟨by kernel_rfl, ?_⟩) (by assumption) ?_
      rotate_left
      · (intro w hSw; (try dsimp only at hSw); go_simp; try (with_reducible rfl))
      try simp only [List.getElem_toArray, List.getElem_cons_zero, List.getElem_cons_succ, Act.put, List.setIfInBounds_toArray, List.set_cons_zero, List.set_cons_succ]
      refine PrintLast.wpAnyLast_take (i := 2) (v := ?_) rfl (by kernel_rfl) (by kernel_rfl) (by kernel_rfl) (by kernel_rfl) (by kernel_rfl) (fun _ _ _ h => h) (Or.inl ⟨by kernel_rfl, ?_⟩) (by assumption) ?_
      rotate_left
      · (intro w hSw; (try dsimp only at hSw); go_simp; try (with_reducible rfl))
      try simp only [List.getElem_toArray, List.getElem_cons_zero, List.getElem_cons_succ, Act.put, List.setIfInBounds_toArray, List.set_cons_zero, List.set_cons_succ]
      refine PrintLast.wpAnyLast_take (i := 3) (v := ?_) rfl (by kernel_rfl) (by kernel_rfl) (by kernel_rfl) (by kernel_rfl) (by kernel_rfl) (fun _ _ _ h => h) (Or.inl ⟨by kernel_rfl, ?_⟩) (by assumption) ?_
      rotate_left
      · (intro w hSw; (try dsimp only at hSw); go_simp; try (with_reducible rfl))
      try simp only [List.getElem_toArray, List.getElem_cons_zero, List.getElem_cons_succ, Act.put, List.setIfInBounds_toArray, List.set_cons_zero, List.set_cons_succ]
      refine PrintLast.wpAnyLast_take (i := 4) (v := ?_) rfl (by kernel_rfl) (by kernel_rfl) (by kernel_rfl) (by kernel_rfl) (by kernel_rfl) (fun _ _ _ h => h) (Or.inl ⟨by kernel_rfl, ?_⟩) (by assumption) ?_
      rotate_left
      · (intro w hSw; (try dsimp only at hSw); go_simp; try (with_reducible rfl))
      try simp only [List.getElem_toArray, List.getElem_cons_zero, List.getElem_cons_succ, Act.put, List.setIfInBounds_toArray, List.set_cons_zero, List.set_cons_succ]
      refine PrintLast.wpAnyLast_take (i := 5) (v := ?_) rfl (by kernel_rfl) (by kernel_rfl) (by kernel_rfl) (by kernel_rfl) (by kernel_rfl) (fun _ _ _ h => h) (Or.inl ⟨by kernel_rfl, ?_⟩) (by assumption) ?_
      rotate_left
      · (intro w hSw; (try dsimp only at hSw); go_simp; try (with_reducible rfl))
      try simp only [List.getElem_toArray, List.getElem_cons_zero, List.getElem_cons_succ, Act.put, List.setIfInBounds_toArray, List.set_cons_zero, List.set_cons_succ]
      refine PrintLast.wpAnyLast_take (i := 6) (v := ?_) rfl (by kernel_rfl) (by kernel_rfl) (by kernel_rfl) (by kernel_rfl) (by kernel_rfl) (fun _ _ _ h => h) (Or.inl ⟨by kernel_rfl, ?_⟩) (by assumption) ?_
      rotate_left
      · (intro w hSw; (try dsimp only at hSw); go_simp; try (with_reducible rfl))
      try simp only [List.getElem_toArray, List.getElem_cons_zero, List.getElem_cons_succ, Act.put, List.setIfInBounds_toArray, List.set_cons_zero, List.set_cons_succ]
      refine PrintLast.wpAnyLast_take (i := 8) (v := ?_) rfl (by kernel_rfl) (by kernel_rfl) (by kernel_rfl) (by kernel_rfl) (by kernel_rfl) (fun _ _ _ h => h) (Or.inl ⟨by kernel_rfl, ?_⟩) (by assumption) ?_
      rotate_left
      · (intro w hSw; (try dsimp only at hSw); go_simp; try (with_reducible rfl))
      try simp only [List.getElem_toArray, List.getElem_cons_zero, List.getElem_cons_succ, Act.put, List.setIfInBounds_toArray, List.set_cons_zero, List.set_cons_succ]
      refine PrintLast.wpAnyLast_take (i := 9) (v := ?_) rfl (by kernel_rfl) (by kernel_rfl) (by kernel_rfl) (by kernel_rfl) (by kernel_rfl) (fun _ _ _ h => h) (Or.inl ⟨by kernel_rfl, ?_⟩) (by assumption) ?_
      rotate_left
      · (intro w hSw; (try dsimp only at hSw); go_simp; try (with_reducible rfl))
      try simp only [List.getElem_toArray, List.getElem_cons_zero, List.getElem_cons_succ, Act.put, List.setIfInBounds_toArray, List.set_cons_zero, List.set_cons_succ]
      refine PrintLast.wpAnyLast_take (i := 10) (v := ?_) rfl (by kernel_rfl) (by kernel_rfl) (by kernel_rfl) (by kernel_rfl) (by kernel_rfl) (fun _ _ _ h => h) (Or.inl ⟨by kernel_rfl, ?_⟩) (by assumption) ?_
      rotate_left
      · (intro w hSw; (try dsimp only at hSw); go_simp; try (with_reducible rfl))
      try simp only [List.getElem_toArray, List.getElem_cons_zero, List.getElem_cons_succ, Act.put, List.setIfInBounds_toArray, List.set_cons_zero, List.set_cons_succ]
      refine PrintLast.wpAnyLast_take (i := 11) (v := ?_) rfl (by kernel_rfl) (by kernel_rfl) (by kernel_rfl) (by kernel_rfl) (by kernel_rfl) (fun _ _ _ h => h) (Or.inl ⟨by kernel_rfl, ?_⟩) (by assumption) ?_
      rotate_left
      · (intro w hSw; (try dsimp only at hSw); go_simp; try (with_reducible rfl))
      try simp only [List.getElem_toArray, List.getElem_cons_zero, List.getElem_cons_succ, Act.put, List.setIfInBounds_toArray, List.set_cons_zero, List.set_cons_succ]
      refine PrintLast.wpAnyLast_take (i := 12) (v := ?_) rfl (by kernel_rfl) (by kernel_rfl) (by kernel_rfl) (by kernel_rfl) (by kernel_rfl) (fun _ _ _ h => h) (Or.inl ⟨by kernel_rfl, ?_⟩) (by assumption) ?_
      rotate_left
      · (intro w hSw; (try dsimp only at hSw); go_simp; try (with_reducible rfl))
      try simp only [List.getElem_toArray, List.getElem_cons_zero, List.getElem_cons_succ, Act.put, List.setIfInBounds_toArray, List.set_cons_zero, List.set_cons_succ]
      have HK := Lib.hid hHeld
      clear hHeld
      refine PrintLast.wpAnyLast_ready (rs := [7]) (by kernel_rfl) (by simp) ?_
      refine PrintLast.AllReadyL.cons rfl (by decide) (fun K hK => ?_) PrintLast.AllReadyL.nil
      rw [if_pos (by kernel_rfl)]
      go_simp
      go_at_call 47; refine (rnumber m.t _).mono ?_; rintro e w5 ⟨rfl, hbw5⟩
      go_wp2_with fail
      refine hK.out _ _ ?_ (fun hHeld => ?_)
      · exact ⟨bel_trans HK.out.1 (by assumption), cell_later' (by assumption) HK.out.2.1, cell_later' (by assumption) HK.out.2.2.1, cell_later' (by assumption) HK.out.2.2.2⟩
      clear hK K
      try simp only [List.getElem_toArray, List.getElem_cons_zero, List.getElem_cons_succ, Act.put, List.setIfInBounds_toArray, List.set_cons_zero, List.set_cons_succ]
      clear HK
      have HK := Lib.hid hHeld
      clear hHeld
      refine PrintLast.wpAnyLast_ready (rs := [13]) (by kernel_rfl) (by simp) ?_
      refine PrintLast.AllReadyL.cons rfl (by decide) (fun K hK => ?_) PrintLast.AllReadyL.nil
      rw [if_pos (by kernel_rfl)]
      go_simp
      go_at_call 47; refine (rnumber m.u _).mono ?_; rintro e w6 ⟨rfl, hbw6⟩
      go_wp2_with fail
      refine hK.out _ _ ?_ (fun hHeld => ?_)
      · exact ⟨bel_trans HK.out.1 (by assumption), cell_later' (by assumption) HK.out.2.1, cell_later' (by assumption) HK.out.2.2.1, cell_later' (by assumption) HK.out.2.2.2⟩
      clear hK K
      try simp only [List.getElem_toArray, List.getElem_cons_zero, List.getElem_cons_succ, Act.put, List.setIfInBounds_toArray, List.set_cons_zero, List.set_cons_succ]
      clear HK
      have hz6a := hHeld.1.size
      have HK := Lib.hid hHeld
      clear hHeld
      refine PrintLast.wpAnyLast_ready (rs := [14]) (by kernel_rfl) (by simp) ?_
      refine PrintLast.AllReadyL.cons rfl (by decide) (fun K hK => ?_) PrintLast.AllReadyL.nil
      rw [if_pos (by kernel_rfl)]
      go_simp
      try simp only [List.foldl_cons, List.foldl_nil, List.setIfInBounds_toArray, List.set_cons_zero, List.set_cons_succ, Nat.reduceAdd]
      refine hK.out _ _ ?_ (fun hHeld => ?_)
      · exact ⟨bel_alloc HK.out.1 _, cell_later' (bel_alloc (Below.refl _ _) _) HK.out.2.1, cell_later' (bel_alloc (Below.refl _ _) _) HK.out.2.2.1, cell_later' (bel_alloc (Below.refl _ _) _) HK.out.2.2.2⟩
      clear hK K
      try simp only [List.getElem_toArray, List.getElem_cons_zero, List.getElem_cons_succ, Act.put, List.setIfInBounds_toArray, List.set_cons_zero, List.set_cons_succ]
      clear HK
      refine PrintLast.wpAnyLast_take (i := 15) (v := ?_) rfl (by kernel_rfl) (by kernel_rfl) (by kernel_rfl) (by kernel_rfl) (by kernel_rfl) (fun _ _ _ h => h) (Or.inl ⟨by kernel_rfl, ?_⟩) (by assumption) ?_
      rotate_left
      · (intro w hSw; (try dsimp only at hSw); go_simp; try (with_reducible rfl))
      try simp only [List.getElem_toArray, List.getElem_cons_zero, List.getElem_cons_succ, Act.put, List.setIfInBounds_toArray, List.set_cons_zero, List.set_cons_succ]
      have HK := Lib.hid hHeld
      clear hHeld
      refine PrintLast.wpAnyLast_ready (rs := [16]) (by kernel_rfl) (by simp) ?_
      refine PrintLast.AllReadyL.cons rfl (by decide) (fun K hK => ?_) PrintLast.AllReadyL.nil
      rw [if_pos (by kernel_rfl)]
      go_simp
      try simp only [List.foldl_cons, List.foldl_nil, List.setIfInBounds_toArray, List.set_cons_zero, List.set_cons_succ, Nat.reduceAdd]
      refine hK.out _ _ ?_ (fun hHeld => ?_)
      · exact ⟨bel_alloc HK.out.1 _, cell_later' (bel_alloc (Below.refl _ _) _) HK.out.2.1, cell_later' (bel_alloc (Below.refl _ _) _) HK.out.2.2.1, cell_later' (bel_alloc (Below.refl _ _) _) HK.out.2.2.2⟩
      clear hK K
      try simp only [List.getElem_toArray, List.getElem_cons_zero, List.getElem_cons_succ, Act.put, List.setIfInBounds_toArray, List.set_cons_zero, List.set_cons_succ]
      clear HK
      replace hHeld := hHeld.1
      have hg8 := heap_alloc2_old w6 (.cells #[.int .i64 4, .int .i64 m.t, .string ⟨#[]⟩, .slice none 0 0, .slice none 0 0, .int .i64 4, .int .i64 m.u, .string ⟨#[]⟩, .slice none 0 0, .slice none 0 0] 87) (.cells #[.int .i64 6, .int .i64 0, .string ⟨#[]⟩, .slice (some ⟨w6.heap.size, 0, none⟩) 2 2, .slice none 0 0] 87)
      have hg10 := heap_alloc2_new w6 (.cells #[.int .i64 4, .int .i64 m.t, .string ⟨#[]⟩, .slice none 0 0, .slice none 0 0, .int .i64 4, .int .i64 m.u, .string ⟨#[]⟩, .slice none 0 0, .slice none 0 0] 87) (.cells #[.int .i64 6, .int .i64 0, .string ⟨#[]⟩, .slice (some ⟨w6.heap.size, 0, none⟩) 2 2, .slice none 0 0] 87)
      have hz6 : wr.heap.size ≤ w6.heap.size := hz6a
      generalize (w6.alloc (.cells #[.int .i64 4, .int .i64 m.t, .string ⟨#[]⟩, .slice none 0 0, .slice none 0 0, .int .i64 4, .int .i64 m.u, .string ⟨#[]⟩, .slice none 0 0, .slice none 0 0] 87)).alloc (.cells #[.int .i64 6, .int .i64 0, .string ⟨#[]⟩, .slice (some ⟨w6.heap.size, 0, none⟩) 2 2, .slice none 0 0] 87) = U at *
      have hown := own_laterB HO.out hHeld
      obtain ⟨i0, hi, hz0, hz1, hz2⟩ := info_parts valInfoR
      have hnews : ∀ j u, [Value.int .i64 6, .int .i64 0, .string ⟨#[]⟩, .slice (some ⟨w6.heap.size, 0, none⟩) 2 2, .slice none 0 0][j]? = some u → U.cell? ((⟨w6.heap.size + 1, 0, none⟩ : Addr).add j) = some u := fun j u hj => by rw [Addr.add_lit, Lib.cell_of_heap hg10]; simpa using hj
      have HOU := Lib.hid hown; have HNW := Lib.hid hnews; have HG8 := Lib.hid hg8; have HU := Lib.hid hHeld
      clear hown hnews hg8 hg10 hHeld
      have hM : k + 1 ≤ maxLen := by have := HX8.out; simp only [maxLen]; omega
      have hby : (k + 1) * 80 ≤ 140737488355328 := by have := HX8.out; omega
      have hbs : T + 1 ≤ U.heap.size := by have := HU.out.size; omega
      refine PrintLast.wpAnyLast_ready (rs := [17]) (by kernel_rfl) (by simp) ?_
      refine PrintLast.AllReadyL.cons_last rfl (by decide) (fun K hK => ?_) PrintLast.AllReadyL.nil
      refine step_append_own rfl _ _ 84 rfl (T + 1) 87 i0 _ 5 80 Tryd.underlying84 hi hz0 hz1 hz2 rfl (by decide) _ k cs rfl HOU.out ⟨w6.heap.size + 1, 0, none⟩ 1 1 _ rfl rfl HNW.out (by intro u hu; simp at hu; rcases hu with rfl | rfl | rfl | rfl | rfl <;> rfl) hM hby hbs ?_
      intro v' W ho hg hx
      refine hK.out _ _ ?_
      clear hK K
      try simp only [List.getElem_toArray, List.getElem_cons_zero, List.getElem_cons_succ, Act.put, List.setIfInBounds_toArray, List.set_cons_zero, List.set_cons_succ]
      obtain ⟨A2, c2, rfl⟩ := own_sliceB ho
      have hTU : U.heap[T]? = some (.cells #[.int .i64 6, .int .i64 0, .string ⟨#[]⟩, .slice A' k c', .slice none 0 0] 87 (0, 0)) := (HU.out.block T hTr).trans HBK.out
      have hTn : some T ≠ (Value.slice A' k c').ownBlock := by intro e; have := (HOU.out.lt T e.symm).1; omega
      have hTW := (hg.block T (Array.getElem?_eq_some_iff.1 hTU).1 hTn).trans hTU
      have w3 : W.cell? ⟨T, 3, none⟩ = some (.slice A' k c') := by rw [Lib.cell_of_heap hTW]; rfl
      have f3 : W.frozen? ⟨T, 3, none⟩ = false := by simp [World.frozen?, hTW]
      have HG := Lib.hid hg; have HXX := Lib.hid hx; have HOO := Lib.hid ho; have HTW := Lib.hid hTW
      clear hg hx ho hTW hTU hTn
      refine PrintLast.wpAnyLast_any (i := 18) (v := ?_) rfl (Region.noSelect_spec (by kernel_rfl)) (fun _ _ _ h => h) _ _ _ _ (Region.free_spec rfl (by kernel_rfl)) (List.contains_iff_mem.1 (by kernel_rfl)) (Or.inl ⟨by kernel_rfl, ?_⟩) ?_
      rotate_left
      · (intro w; go_simp; try (with_reducible rfl))
      try simp only [List.getElem_toArray, List.getElem_cons_zero, List.getElem_cons_succ, Act.put, List.setIfInBounds_toArray, List.set_cons_zero, List.set_cons_succ]
      refine PrintLast.wpAnyLast_ready (rs := [19]) (by kernel_rfl) (by simp) ?_
      refine PrintLast.AllReadyL.cons_last rfl (by decide) (fun K hK => ?_) PrintLast.AllReadyL.nil
      rw [if_pos (by kernel_rfl)]
      go_simp
      refine hK.out _ _ ?_
      clear hK K
      try simp only [List.getElem_toArray, List.getElem_cons_zero, List.getElem_cons_succ, Act.put, List.setIfInBounds_toArray, List.set_cons_zero, List.set_cons_succ]
      refine PrintLast.wpAnyLast_done (by kernel_rfl) ?_ _
      have hst := PRel_stepR HO.out HC.out HB.out hTr HB1.out HU.out hz6 HG8.out HG.out HXX.out HOO.out HTW.out HX.out
      have HST := Lib.hid hst
      clear hst
      go_wp2_with fail
      go_roundg (n - (k + 1))
      case measure => omega
      case rel => exact ⟨k + 1, by omega, by omega, by go_num, HST.out⟩
    · have hltz : ¬ ((k : Int) < (n : Int)) := by omega
      obtain rfl : k = n := by omega
      have hjr : JR wr (fun _ => True) (marksV xs) [.int .i64 6, .int .i64 0, .string ⟨#[]⟩, .slice A' k c', .slice none 0 0] := by
        have hl := own_to_sl (T := jvTy) (xs := xs.map markV) (v := .slice A' k c') (cs := cs) (by rw [List.length_map, Hn.out]; exact HO.out) (by have := HC.out; rwa [List.take_of_length_le (by rw [Hn.out]; exact Nat.le_refl _)] at this)
        exact JR_iff.2 ⟨_, _, ⟨rfl, by simp [marksV, JV.s, ByteArray.size]⟩, hl.mono (fun _ _ => trivial), .inl ⟨rfl, none, 0, rfl⟩⟩
      have hw := HBw.out
      have HJ0 := Lib.hid hjr; have HBW := Lib.hid hw
      clear hjr hw
      go_wp2_with fail
      have hsl : Sl memTy (wr.alloc (Obj.cells #[.string ⟨#[109, 97, 114, 107, 115]⟩, .int .i64 6, .int .i64 0, .string ⟨#[]⟩, .slice A' k c', .slice none 0 0] 91)) (fun _ => True) (.slice (some ⟨wr.heap.size, 0, none⟩) 1 1) [(nmMarks, marksV xs)] :=
        mem_singleR wr nmMarks (marksV xs) _ (by decide +kernel) HJ0.out
      have hba := bel_trans HBW.out (bel_alloc (Below.refl _ wr) (Obj.cells #[.string ⟨#[109, 97, 114, 107, 115]⟩, .int .i64 6, .int .i64 0, .string ⟨#[]⟩, .slice A' k c', .slice none 0 0] 91))
      generalize wr.alloc (Obj.cells #[.string ⟨#[109, 97, 114, 107, 115]⟩, .int .i64 6, .int .i64 0, .string ⟨#[]⟩, .slice A' k c', .slice none 0 0] 91) = W at *
      refine Calls.mono (robject _ _ _ _) ?_
      rintro e w2 ⟨rfl, hb2⟩
      have HJ := Lib.hid (JR_later (obj_jr hsl) hb2)
      have HB2 := Lib.hid (bel_trans hba hb2)
      clear hsl hba hb2
      go_wp2_with fail
      refine Calls.mono (HMay.out w2 (show Below T w w2 by rw [← HTe.out]; exact HB2.out)) ?_
      rintro e w3 ⟨rfl, hb3⟩
      have HJ3 := Lib.hid (JR_later HJ.out hb3)
      have HB3 := Lib.hid (bel_trans HB2.out hb3)
      clear hb3
      go_wp2_with fail
      refine Calls.mono (HP0.out _ _ _ HJ3.out) ?_
      rintro e w5 ⟨rfl, hb5⟩
      have HB5 := Lib.hid (bel_trans HB3.out hb5)
      clear hb5
      go_wp2_with fail
      go_ret2
      exact ⟨rfl, HB5.out⟩
end Go.Proofs.YtjjgbgojlhaapaaDoor
namespace Go.Proofs.YtjjgbgojlhaapaaDoor
open Go.RowKit Go.Lib

theorem cap_le (s : ByteArray) : cap20 s ≤ (s.size : Int) := by unfold cap20; omega
theorem obj_len {d : Nat} {x : JV} (h : 0 < countB d x 1000000) (hm : mayJ 64 x = true) : (printB 64 x).length ≤ 1000000000 := by
  have := count_len d 64 x 1000000 hm h
  omega
theorem feed_len {n : Int} {t : ByteArray} (ht : t.size ≤ 20000) (hm : mayJ 64 (feedO n t) = true) : (printB 64 (feedO n t)).length ≤ 1000000000 := by
  refine obj_len (d := 2) ?_ hm
  have h1 := cap_le t
  have h2 := cap_le nmN
  have h3 := cap_le nmTitle
  have h4 := cap_le ⟨#[]⟩
  have e2 : nmN.size = 1 := by decide
  have e3 : nmTitle.size = 5 := by decide
  have e4 : (⟨#[]⟩ : ByteArray).size = 0 := rfl
  simp only [feedO, countB, cntL, JV.m, JV.l, JV.s, numV, wordV]
  (repeat' split) <;> omega
theorem state_len {r s : Int} (hm : mayJ 64 (stateO r s) = true) : (printB 64 (stateO r s)).length ≤ 1000000000 := by
  refine obj_len (d := 2) ?_ hm
  have h2 := cap_le nmRead
  have h3 := cap_le nmStar
  have h4 := cap_le ⟨#[]⟩
  have e2 : nmRead.size = 4 := by decide
  have e3 : nmStar.size = 4 := by decide
  have e4 : (⟨#[]⟩ : ByteArray).size = 0 := rfl
  simp only [stateO, countB, cntL, JV.m, JV.l, JV.s, numV]
  (repeat' split) <;> omega
theorem entry_len {g l t : ByteArray} {n : Int} (hg : g.size ≤ 20000) (hl : l.size ≤ 20000) (ht : t.size ≤ 20000) (hm : mayJ 64 (entryO g l t n) = true) : (printB 64 (entryO g l t n)).length ≤ 1000000000 := by
  refine obj_len (d := 2) ?_ hm
  have h1 := cap_le t
  have h5 := cap_le g
  have h6 := cap_le l
  have h2 := cap_le nmGuid
  have h3 := cap_le nmLink
  have h7 := cap_le nmTitle
  have h8 := cap_le nmWhen
  have h4 := cap_le ⟨#[]⟩
  have e2 : nmGuid.size = 4 := by decide
  have e3 : nmLink.size = 4 := by decide
  have e5 : nmTitle.size = 5 := by decide
  have e6 : nmWhen.size = 4 := by decide
  have e4 : (⟨#[]⟩ : ByteArray).size = 0 := rfl
  simp only [entryO, countB, cntL, JV.m, JV.l, JV.s, numV, wordV]
  (repeat' split) <;> omega
theorem feed_sm {n : Int} {t : ByteArray} (ht : t.size ≤ 20000) : SmJ (feedO n t) := by
  have e2 : nmN.size ≤ 1000000 := by decide
  have e3 : nmTitle.size ≤ 1000000 := by decide
  have e4 : (⟨#[]⟩ : ByteArray).size ≤ 1000000 := by decide
  simp only [feedO, SmJ, SmJs, SmJm, numV, wordV]
  exact ⟨e4, trivial, ⟨e2, e4, trivial, trivial⟩, ⟨e3, by omega, trivial, trivial⟩, trivial⟩
theorem state_sm {r s : Int} : SmJ (stateO r s) := by
  have e2 : nmRead.size ≤ 1000000 := by decide
  have e3 : nmStar.size ≤ 1000000 := by decide
  have e4 : (⟨#[]⟩ : ByteArray).size ≤ 1000000 := by decide
  simp only [stateO, SmJ, SmJs, SmJm, numV]
  exact ⟨e4, trivial, ⟨e2, e4, trivial, trivial⟩, ⟨e3, e4, trivial, trivial⟩, trivial⟩
theorem entry_sm {g l t : ByteArray} {n : Int} (hg : g.size ≤ 20000) (hl : l.size ≤ 20000) (ht : t.size ≤ 20000) : SmJ (entryO g l t n) := by
  have e2 : nmGuid.size ≤ 1000000 := by decide
  have e3 : nmLink.size ≤ 1000000 := by decide
  have e5 : nmTitle.size ≤ 1000000 := by decide
  have e6 : nmWhen.size ≤ 1000000 := by decide
  have e4 : (⟨#[]⟩ : ByteArray).size ≤ 1000000 := by decide
  simp only [entryO, SmJ, SmJs, SmJm, numV, wordV]
  exact ⟨e4, trivial, ⟨e2, by omega, trivial, trivial⟩, ⟨e3, by omega, trivial, trivial⟩, ⟨e5, by omega, trivial, trivial⟩, ⟨e6, e4, trivial, trivial⟩, trivial⟩
theorem mark_sms : ∀ xs : List Mk, SmJs (xs.map markV)
  | [] => trivial
  | m :: xs => by
    have e4 : (⟨#[]⟩ : ByteArray).size ≤ 1000000 := by decide
    simp only [List.map_cons, markV, SmJs, SmJ, numV, SmJm]
    exact ⟨⟨e4, ⟨⟨e4, trivial, trivial⟩, ⟨e4, trivial, trivial⟩, trivial⟩, trivial⟩, mark_sms xs⟩
theorem marks_sm (xs : List Mk) : SmJ (marksO xs) := by
  have e2 : nmMarks.size ≤ 1000000 := by decide
  have e4 : (⟨#[]⟩ : ByteArray).size ≤ 1000000 := by decide
  simp only [marksO, marksV, SmJ, SmJs, SmJm]
  exact ⟨e4, trivial, ⟨e2, e4, mark_sms xs, trivial⟩, trivial⟩
theorem cap_zero : cap20 ⟨#[]⟩ = 0 := cap_nil
theorem mark_cnt : ∀ (xs : List Mk) (n : Int), 3 * (xs.length : Int) < n → cntL (countB 2) (xs.map markV) n = n - 3 * (xs.length : Int)
  | [], n, _ => by simp [cntL]
  | m :: xs, n, h => by
    have h' : 3 * (xs.length : Int) + 3 < n := by simp only [List.length_cons] at h; omega
    have e : countB 2 (markV m) n = n - 3 := by
      simp only [markV, countB, cntL, JV.m, JV.l, JV.s, numV, cap_zero]
      (repeat' split) <;> omega
    simp only [List.map_cons, cntL, List.length_cons]
    rw [if_pos (by omega), e, mark_cnt xs (n - 3) (by omega)]
    omega
theorem marks_len {xs : List Mk} (h : xs.length ≤ 50) (hm : mayJ 64 (marksO xs) = true) : (printB 64 (marksO xs)).length ≤ 1000000000 := by
  refine obj_len (d := 4) ?_ hm
  have h3 := cap_le nmMarks
  have e3 : nmMarks.size = 5 := by decide
  have h0 := (cap_range nmMarks).1
  simp only [marksO, marksV]
  rw [countB]
  simp only [JV.m, JV.l, JV.s, cntL, cap_zero]
  rw [if_pos (by omega)]
  rw [countB]
  simp only [JV.m, JV.l, JV.s, cntL, cap_zero]
  rw [mark_cnt xs _ (by omega)]
  omega
end Go.Proofs.YtjjgbgojlhaapaaDoor
