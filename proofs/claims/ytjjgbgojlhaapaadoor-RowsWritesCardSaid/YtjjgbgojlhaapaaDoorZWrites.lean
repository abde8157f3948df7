/- RowsWrites: any rows, written as texts, are written as the document says, and the marks stay: for every input, taking that the library's listed tables lie as they are laid (tied). -/
import Derived.Test.YtjjgbgojlhaapaaDoorCards
import Derived.Test.YtjjgbgojlhaapaaDoorTie
import Derived.Test.YtjjgbgojlhaapaaDoorZWrites4
import Derived.SizedLaws
import Derived.Lib.SmallJoins
import Derived.Test.YtjjgbgojlhaapaaDoorZWrites36
namespace Go.Proofs.YtjjgbgojlhaapaaDoor
open Go.ChangeShapes Go.WideShapes Go.ChangeAt Go.RowKit

theorem array5 {α : Type} {cs : Array α} (h : cs.size = 5) : ∃ c0 c1 c2 c3 c4, cs = #[c0, c1, c2, c3, c4] := by
  obtain ⟨l⟩ := cs
  match l, h with
  | [c0, c1, c2, c3, c4], _ => exact ⟨c0, c1, c2, c3, c4, rfl⟩
section
variable {H : Type} {enc : TypeId × Value → H} {w : World} {base : Nat} {spare : Nat → Bool} {held : Bool} {v : Value} {d : DataW H} {p : List MemPlace}
set_option maxRecDepth 100000 in
theorem feed_agg (hok : Value.okWide Tryd.prog w .any base 37 v) (h : DataW.Trod enc Tryd.prog w 0 spare held 37 v d p) :
    ∃ (t : ByteArray) (n : Int) (y : DataW H), v = .agg #[.string t, .int .i64 n] ∧ d = .agg [.lit (.string t.data.toList), y] := by
  obtain ⟨a, b, y0, y1, mm, rfl, rfl, _, hy0, hy1⟩ := Joins.open_agg2 Tryd.underlying37 (by kernel_rfl) (by kernel_rfl) hok h
  obtain ⟨x0, e0, hx0, _⟩ := DataW.trod_string Tryd.underlying9 hy0
  obtain ⟨x1, e1, _, _⟩ := DataW.trod_int Tryd.underlying3 hy1
  simp at e0 e1
  subst e0; subst e1; subst hx0
  exact ⟨x0, x1, _, rfl, rfl⟩
set_option maxRecDepth 100000 in
theorem state_agg (hok : Value.okWide Tryd.prog w .any base 41 v) (h : DataW.Trod enc Tryd.prog w 0 spare held 41 v d p) :
    ∃ (r s : Int), v = .agg #[.int .i64 r, .int .i64 s] := by
  obtain ⟨a, b, y0, y1, mm, rfl, rfl, _, hy0, hy1⟩ := Joins.open_agg2 Tryd.underlying41 (by kernel_rfl) (by kernel_rfl) hok h
  obtain ⟨x0, e0, _, _⟩ := DataW.trod_int Tryd.underlying3 hy0
  obtain ⟨x1, e1, _, _⟩ := DataW.trod_int Tryd.underlying3 hy1
  simp at e0 e1
  subst e0; subst e1
  exact ⟨x0, x1, rfl⟩
set_option maxRecDepth 100000 in
theorem entry_agg (hok : Value.okWide Tryd.prog w .any base 39 v) (h : DataW.Trod enc Tryd.prog w 0 spare held 39 v d p) :
    ∃ (m : Int) (g e l : ByteArray) (wn : Int) (y y' : DataW H), v = .agg #[.int .i64 m, .string g, .string e, .string l, .int .i64 wn] ∧
      d = .agg [y, .lit (.string g.data.toList), .lit (.string e.data.toList), .lit (.string l.data.toList), y'] := by
  obtain ⟨cs, rfl, hsz⟩ := okWide_struct Tryd.underlying39 hok
  obtain ⟨c0, c1, c2, c3, c4, rfl⟩ := array5 (hsz.trans (by kernel_rfl))
  obtain ⟨fuel, hf⟩ := h
  obtain ⟨xs, n, _, hx, hl, hlen, hff⟩ := DataW.trod_struct Tryd.underlying39 hf
  obtain ⟨y0, y1, y2, y3, y4, rfl⟩ : ∃ y0 y1 y2 y3 y4, xs = [y0, y1, y2, y3, y4] := by
    match xs, hlen with
    | [y0, y1, y2, y3, y4], _ => exact ⟨y0, y1, y2, y3, y4, rfl⟩
  have e1 : Tryd.prog.cellsOf 3 = 1 := by kernel_rfl
  have e2 : Tryd.prog.cellsOf 9 = 1 := by kernel_rfl
  have g0 := hff 0 _ rfl
  have g1 := hff 1 _ rfl
  have g2 := hff 2 _ rfl
  have g3 := hff 3 _ rfl
  have g4 := hff 4 _ rfl
  simp [Value.cells, e1, e2] at g0 g1 g2 g3 g4
  obtain ⟨x0, q0, _, _⟩ := DataW.trod_int Tryd.underlying3 g0
  obtain ⟨x1, q1, r1, _⟩ := DataW.trod_string Tryd.underlying9 g1
  obtain ⟨x2, q2, r2, _⟩ := DataW.trod_string Tryd.underlying9 g2
  obtain ⟨x3, q3, r3, _⟩ := DataW.trod_string Tryd.underlying9 g3
  obtain ⟨x4, q4, _, _⟩ := DataW.trod_int Tryd.underlying3 g4
  simp at q0 q1 q2 q3 q4
  subst q0; subst q1; subst q2; subst q3; subst q4; subst r1; subst r2; subst r3
  simp only [Prod.mk.injEq] at hx
  exact ⟨x0, x1, x2, x3, x4, _, _, rfl, hx.1⟩
theorem feed_size {ts : List TypeId} {ds : List (DataW H)} {t : ByteArray} {y : DataW H} (h : (DataW.weightsEach Tryd.prog ts ds).all (· ≤ reachBytes) = true) (ht : ts[0]? = some 37) (hd : ds[0]? = some (.agg [.lit (.string t.data.toList), y])) : t.size ≤ 140737488355328 := by
  have := List.all_eq_true.1 h _ (DataW.weights_mem_each ht hd t.data.toList.length (by simp [DataW.weights, DataW.weightsEach, Tryd.underlying37]))
  have h2 : t.data.toList.length ≤ reachBytes := by simpa using this
  rw [Array.length_toList] at h2
  exact Nat.le_trans h2 (by decide)
theorem entry_size {ts : List TypeId} {ds : List (DataW H)} {g e l : ByteArray} {y y' : DataW H} (h : (DataW.weightsEach Tryd.prog ts ds).all (· ≤ reachBytes) = true) (ht : ts[1]? = some 39)
    (hd : ds[1]? = some (.agg [y, .lit (.string g.data.toList), .lit (.string e.data.toList), .lit (.string l.data.toList), y'])) : g.size ≤ 140737488355328 ∧ e.size ≤ 140737488355328 ∧ l.size ≤ 140737488355328 := by
  have K : ∀ k : Nat, k ∈ (DataW.agg [y, .lit (.string g.data.toList), .lit (.string e.data.toList), .lit (.string l.data.toList), y'] : DataW H).weights Tryd.prog 39 → k ≤ 140737488355328 := fun k hk => by
    have := List.all_eq_true.1 h _ (DataW.weights_mem_each ht hd k hk)
    have h2 : k ≤ reachBytes := by simpa using this
    exact Nat.le_trans h2 (by decide)
  have M : ∀ k, k = g.data.toList.length ∨ k = e.data.toList.length ∨ k = l.data.toList.length → k ≤ 140737488355328 := fun k hk => K k (by
    rcases hk with rfl | rfl | rfl <;> simp [DataW.weights, DataW.weightsEach, Tryd.underlying39])
  have a1 := M _ (.inl rfl)
  have a2 := M _ (.inr (.inl rfl))
  have a3 := M _ (.inr (.inr rfl))
  rw [Array.length_toList] at a1 a2 a3
  exact ⟨a1, a2, a3⟩
end
set_option maxRecDepth 100000 in
theorem writes_lifted (os : Os) (started : os.Started) (H : Type) (enc : TypeId × Value → H) :
    ReturnsInHanded {} Tryd.checked os 4 .any (fun w args => (Rows.rowsWritesSpec.pre enc Tryd.prog Tryd.f4 [] false w args ∧ laidMetH Tryd.prog Rows.rowsWritesRow.laid w) ∧ sizedMet enc Tryd.prog Tryd.f4 (OpenSpec.ofChange Rows.rowsWritesSpec) false w args)
      (Rows.rowsWritesSpec.post enc Tryd.prog Tryd.f4 false true false false) := by
  refine returnsInHanded_of_change_and (C := Tryd.checked) (X := fun w _ => laidMetH Tryd.prog Rows.rowsWritesRow.laid w) (fun _ _ _ hh h => h.of_heap hh) own started (by kernel_rfl) Tryd.func4
    (ChangeSpec.witness_shaped (enc := enc) (C := Tryd.checked) (os := os) (X := fun w _ => laidMetH Tryd.prog Rows.rowsWritesRow.laid w) false (World.laidAll Tryd.prog os Rows.rowsWritesRow.laid) #[.agg #[.string ⟨#[]⟩, .int .i64 0], .agg #[.int .i64 0, .string ⟨#[]⟩, .string ⟨#[]⟩, .string ⟨#[]⟩, .int .i64 0], .string ⟨#[]⟩, .agg #[.int .i64 0, .int .i64 0], .slice none 0 0] 8 (World.laidAll_os _ _ _)
      (World.shaped_of_ZipB (by kernel_rfl) (by kernel_rfl)) (by kernel_rfl) (by kernel_rfl) (by kernel_rfl)
      (by rw [MakeChecks.laidMetH_plain _ _ _ (by kernel_rfl)]; exact laidMet_laidAll _ (by kernel_rfl) (by kernel_rfl))) ?_
  intro W base args ds gs before hval0 hW hcnd hsz0 hL _
  have hval : ∀ (j : Nat) t v, Tryd.f4.params[j]? = some t → args[j]? = some v → Value.okWide Tryd.prog W .any base t v := hval0
  have hW' := hW
  obtain ⟨p, q, hA0, hV, rfl, hfz, hnd⟩ := hW
  have hA : DataW.TrodAll enc Tryd.prog W 0 (fun _ => true) true Tryd.f4.params.toList args.toList ds p := hA0
  rw [Tryd.params4] at hA hval
  obtain ⟨v0, vs0, d0, ds0, p0, q0, hargs, rfl, rfl, h0, r0⟩ := trodAll_cons hA
  obtain ⟨v1, vs1, d1, ds1, p1, q1, rfl, rfl, rfl, h1, r1⟩ := trodAll_cons r0
  obtain ⟨v2, vs2, d2, ds2, p2, q2, rfl, rfl, rfl, h2, r2⟩ := trodAll_cons r1
  obtain ⟨v3, vs3, d3, ds3, p3, q3, rfl, rfl, rfl, h3, r3⟩ := trodAll_cons r2
  obtain ⟨v4, vs4, d4, ds4, p4, q4, rfl, rfl, rfl, h4, r4⟩ := trodAll_cons r3
  obtain ⟨rfl, rfl, rfl⟩ := trodAll_nil r4
  obtain rfl : args = #[v0, v1, v2, v3, v4] := by cases args; simp_all
  obtain ⟨rfl, rfl⟩ := trodVars_none hV
  have k0 := h0
  have lt0 : ∀ x ∈ p0, x.block < W.heap.size := by obtain ⟨m, hm⟩ := k0; exact DataW.trod_lt m _ _ _ hm
  obtain ⟨t, n, y0, rfl, rfl⟩ := feed_agg (hval 0 37 v0 rfl rfl) h0
  have k1 := h1
  have lt1 : ∀ x ∈ p1, x.block < W.heap.size := by obtain ⟨m, hm⟩ := k1; exact DataW.trod_lt m _ _ _ hm
  obtain ⟨m, g, et, l, wn, y1, y2, rfl, rfl⟩ := entry_agg (hval 1 39 v1 rfl rfl) h1
  have k2 := h2
  have lt2 : ∀ x ∈ p2, x.block < W.heap.size := by obtain ⟨m, hm⟩ := k2; exact DataW.trod_lt m _ _ _ hm
  obtain ⟨fo, rfl, rfl, rfl, _⟩ := Go.ChangeMaps.open_string Tryd.underlying9 (hval 2 9 v2 rfl rfl) h2
  have k3 := h3
  have lt3 : ∀ x ∈ p3, x.block < W.heap.size := by obtain ⟨m, hm⟩ := k3; exact DataW.trod_lt m _ _ _ hm
  obtain ⟨r, st, rfl⟩ := state_agg (hval 3 41 v3 rfl rfl) h3
  obtain ⟨a0, len0, cap0, rfl⟩ := okWide_slice Tryd.underlying22 (hval 4 22 v4 rfl rfl)
  have k4 := h4
  have lt4 : ∀ x ∈ p4, x.block < W.heap.size := by obtain ⟨m, hm⟩ := k4; exact DataW.trod_lt m _ _ _ hm
  obtain ⟨xs, hxs⟩ : ∃ xs, Sl mkTy W (fun _ => True) (.slice a0 len0 cap0) xs := by
    obtain ⟨fuel, hf⟩ := h4
    obtain ⟨xs, h1, _⟩ := opens_slice (T := mkTy) Tryd.underlying22 (by kernel_rfl) (fun n cs y => mk_opens n cs y) hf
    exact ⟨xs, h1⟩
  rw [Tryd.params4] at hsz0
  have zt : t.size ≤ 140737488355328 := feed_size hsz0 rfl rfl
  have ze := entry_size hsz0 rfl rfl
  have zf : fo.size ≤ 140737488355328 := Nat.le_trans (sized_string hsz0 (j := 2) rfl rfl) (by decide)
  rw [MakeChecks.laidMetH_plain _ _ _ (by kernel_rfl)] at hL
  have hT : Tabs W := tabs_of_reads (Lib.laidMet.reads hL (by simp [Rows.rowsWritesRow, Rows.laid_unicode_utf8_first])) (Lib.laidMet.reads hL (by simp [Rows.rowsWritesRow])) (Lib.laidMet.reads hL (by simp [Rows.rowsWritesRow]))
  clear hA0 hval0 hsz0 hL
  refine (rowsWrites_any t g et l fo n m wn r st _ _ xs W hxs hT zt ze.1 ze.2.1 ze.2.2 zf).mono fun e W' ⟨he, bel⟩ => ?_
  subst he
  exact ⟨_, rfl, _, _, _, [], _, [], hW', trodAll_mk1 (shut_bool Tryd.underlying4 _), (trodAll_cons_mk (Below.trod laidOut (by kernel_rfl) (of_decide_eq_true (by kernel_rfl)) k0 bel lt0) (trodAll_cons_mk (Below.trod laidOut (by kernel_rfl) (of_decide_eq_true (by kernel_rfl)) k1 bel lt1) (trodAll_cons_mk (Below.trod laidOut (by kernel_rfl) (of_decide_eq_true (by kernel_rfl)) k2 bel lt2) (trodAll_cons_mk (Below.trod laidOut (by kernel_rfl) (of_decide_eq_true (by kernel_rfl)) k3 bel lt3) (trodAll_cons_mk (Below.trod laidOut (by kernel_rfl) (of_decide_eq_true (by kernel_rfl)) k4 bel lt4) trodAll_mk0))))), rfl, bel.frame _, fun h => by cases h⟩

theorem rowsWrites_row : Rows.RowsWritesSaid :=
  OpenClaim.holds_of_wide 4 Tryd.f4 rfl rfl rfl rfl rfl rfl rfl ⟨rfl, rfl, rfl, rfl, rfl⟩ rfl rfl rfl rfl rfl (by kernel_rfl) Tryd.func4 (by kernel_rfl)
    (of_decide_eq_true (by kernel_rfl)) (by unfold Func.isWrapper; first | (rw [if_pos (by decide +kernel)]; kernel_rfl) | (rw [if_neg (by decide +kernel)]; exact ⟨rfl, rfl⟩))
    (fun os started H enc _ => writes_lifted os started H enc)

/-- RowsWrites: for every input; the listed tables tied to the program's text. -/
theorem rowsWrites_holds : Rows.RowsWritesCardSaid :=
  Claim7.holds_tied_plain_at .later [] [.data, .data, .data, .data, .pinned] true Rows.rowsWritesCard.stood.harness false
    rowsWrites_row (fun _ h => by cases h) (by kernel_rfl) (fun _ h => by cases h) rowsWrites_row_tie rfl ⟨rfl, rfl⟩ (by kernel_rfl) rfl
    (fun f fn hf hfn => by
      obtain rfl : f = 4 := Option.some.inj ((show Tryd.prog.funcNamed "handbill/hbllaw15.RowsWrites" = some 4 by kernel_rfl).symm.trans hf) |>.symm
      obtain rfl : fn = Tryd.f4 := (Option.some.inj (Tryd.func4.symm.trans hfn)).symm
      exact ⟨by kernel_rfl, fun j t ht => by
        rw [Tryd.params4] at ht
        have hm : t ∈ [37, 39, 9, 41, 22] := by simpa using Array.mem_of_getElem? ht
        have hall : ([37, 39, 9, 41, 22].all fun u => !Tryd.prog.wantsStandIn u) = true := by kernel_rfl
        exact (show Tryd.prog.wantsStandIn t = false by simpa using List.all_eq_true.1 hall t hm)⟩)
    (by kernel_rfl)
#print axioms rowsWrites_holds
end Go.Proofs.YtjjgbgojlhaapaaDoor
