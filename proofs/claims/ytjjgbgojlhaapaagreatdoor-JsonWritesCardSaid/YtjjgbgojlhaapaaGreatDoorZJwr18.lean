/- Parts of the proof: Ep. -/
import Derived.Test.YtjjgbgojlhaapaaGreatDoorZJwr17
import Derived.Test.YtjjgbgojlhaapaaGreatDoorZJwr12
namespace Go.Proofs.YtjjgbgojlhaapaaGreatDoor
open Go.RowKit Go.Lib

def mk1 (x : JV) (v : Value) : Array Value := #[.int .i64 x.k, .int .i64 x.n, .string x.s, v, .slice none 0 0]
def mk2 (x : JV) (u v : Value) : Array Value := #[.int .i64 x.k, .int .i64 x.n, .string x.s, u, v]
theorem rvalInfo : (Tryz.prog.info? 35).map (fun i => (i.zero, i.size, i.bytes)) = some (some (.agg #[.int .i64 0, .int .i64 0, .string ⟨#[]⟩, .slice none 0 0, .slice none 0 0]), 5, 80) := by kernel_rfl
theorem rmemInfo : (Tryz.prog.info? 61).map (fun i => (i.zero, i.size, i.bytes)) = some (some (.agg #[.string ⟨#[]⟩, .int .i64 0, .int .i64 0, .string ⟨#[]⟩, .slice none 0 0, .slice none 0 0]), 6, 96) := by kernel_rfl
/-- what a call of Plain on a tree says -/
def PlRes (x : JV) (w : World) (z : Ending) (w' : World) : Prop := (∃ (A1 : Option Addr) (n1 c1 : Nat) (A2 : Option Addr) (n2 c2 : Nat),
  z = .returned (.agg #[.int .i64 x.k, .int .i64 x.n, .string x.s, .slice A1 n1 c1, .slice A2 n2 c2]) ∧ JR w' (fun b => w.heap.size ≤ b) x [.int .i64 x.k, .int .i64 x.n, .string x.s, .slice A1 n1 c1, .slice A2 n2 c2]) ∧ Below w.heap.size w w'
def PlAt (x : JV) : Prop := ∀ (cs : List Value) (F : Nat → Prop) (w : World), LnJ x → JR w F x cs → Calls Tryz.prog 11 #[.agg cs.toArray] w (PlRes x w)
def PlR1 (x : JV) (V : Nat) (W1 : World) (k : Nat) (wr : World) : Prop := ∃ (vs : List JV) (va : Value), vs = x.l.take k ∧ RowIn 35 35 jvTy V (mk1 x) va vs wr ∧ Below W1.heap.size W1 wr
def PlR2 (x : JV) (u : Value) (V Z : Nat) (W1 w2 : World) (k : Nat) (wr : World) : Prop := ∃ (ms : List (ByteArray × JV)) (va : Value), ms = x.m.take k ∧ RowIn 35 61 memTy V (mk2 x u) va ms wr ∧ Below W1.heap.size W1 wr ∧ (∀ j, va.ownBlock = some j → Z ≤ j) ∧ Z ≤ wr.heap.size ∧ ∀ b, V < b → b < Z → wr.heap[b]? = w2.heap[b]?
def PlS (V P i : Nat) (u pv : Value) (b o : Nat) (es : List Value) (w : World) : Prop := w.cell? ⟨V, i, none⟩ = some u ∧ w.cell? ⟨P, i, none⟩ = some pv ∧ ∀ j e, es[j]? = some e → w.cell? ⟨b, o + j, none⟩ = some e
theorem PlS.later {V P i : Nat} {u pv : Value} {b o : Nat} {es : List Value} {w W : World} (h : PlS V P i u pv b o es w) (hb : Below w.heap.size w W) : PlS V P i u pv b o es W :=
  ⟨cell_later' hb h.1, cell_later' hb h.2.1, fun j e he => cell_later' hb (h.2.2 j e he)⟩
theorem Below.at {w w' : World} {b : Nat} {o : Obj} (h : Below w.heap.size w w') (hb : w.heap[b]? = some o) : w'.heap[b]? = some o := (h.block b (Array.getElem?_eq_some_iff.1 hb).1).trans hb
set_option maxRecDepth 100000 in
set_option maxHeartbeats 16000000 in
theorem plain_step (x : JV) (ihl : ∀ q ∈ x.l, PlAt q) (ihm : ∀ q ∈ x.m, PlAt q.2) : PlAt x := by
  intro cs F w hln h
  obtain ⟨⟨hl6, hm6⟩, lnl, lnm⟩ := (LnJ_iff x).1 hln
  obtain ⟨vl, vm, ⟨rfl, hsz⟩, hl, hm⟩ := JR_iff.1 h
  obtain ⟨A1, c1, rfl, _, _⟩ := val_cells hl
  obtain ⟨A2, c2, rfl, _, _⟩ := mem_cells hm
  have hbA : Below w.heap.size w ((w.alloc (.cells #[.int .i64 x.k, .int .i64 x.n, .string x.s, .slice A1 x.l.length c1, .slice A2 x.m.length c2] 28)).alloc (.cells #[.int .i64 0, .int .i64 0, .string ⟨#[]⟩, .slice none 0 0, .slice none 0 0] 35)) := bel_alloc (bel_alloc (Below.refl _ _) _) _
  have hP := heap_alloc2_old w (.cells #[.int .i64 x.k, .int .i64 x.n, .string x.s, .slice A1 x.l.length c1, .slice A2 x.m.length c2] 28) (.cells #[.int .i64 0, .int .i64 0, .string ⟨#[]⟩, .slice none 0 0, .slice none 0 0] 35)
  have hB := heap_alloc2_new w (.cells #[.int .i64 x.k, .int .i64 x.n, .string x.s, .slice A1 x.l.length c1, .slice A2 x.m.length c2] 28) (.cells #[.int .i64 0, .int .i64 0, .string ⟨#[]⟩, .slice none 0 0, .slice none 0 0] 35)
  have hs1 : ((w.alloc (.cells #[.int .i64 x.k, .int .i64 x.n, .string x.s, .slice A1 x.l.length c1, .slice A2 x.m.length c2] 28)).alloc (.cells #[.int .i64 0, .int .i64 0, .string ⟨#[]⟩, .slice none 0 0, .slice none 0 0] 35)).heap.size = w.heap.size + 2 := by show ((w.heap.push _).push _).size = _; simp
  generalize hW : (w.alloc (.cells #[.int .i64 x.k, .int .i64 x.n, .string x.s, .slice A1 x.l.length c1, .slice A2 x.m.length c2] 28)).alloc (.cells #[.int .i64 0, .int .i64 0, .string ⟨#[]⟩, .slice none 0 0, .slice none 0 0] 35) = W1 at *
  obtain ⟨A1', c1', hA1, _, hel⟩ := val_cells (hl.below hbA)
  obtain ⟨rfl, rfl⟩ : A1 = A1' ∧ c1 = c1' := by simpa using hA1
  obtain ⟨A2', c2', hA2, _, hem⟩ := mem_cells (hm.below hbA)
  obtain ⟨rfl, rfl⟩ : A2 = A2' ∧ c2 = c2' := by simpa using hA2
  have HS1 := Lib.hid hs1
  have hW0 : 0 < W1.heap.size := by omega
  clear hs1
  have HL := Lib.hid hel; have HM := Lib.hid hem; have HW := Lib.hid hW; have HP := Lib.hid hP; have HB := Lib.hid hB; have HBA := Lib.hid hbA
  have IHL := Lib.hid ihl; have IHM := Lib.hid (show ∀ q ∈ x.m, PlAt q.2 from ihm); have LNL := Lib.hid lnl; have LNM := Lib.hid lnm
  obtain ⟨⟨p0, p1, p2, p3, p4⟩, _, hPw⟩ := cells5 hP
  have hx0 := heap_alloc_new W1 (.cells #[.int .i64 x.k, .int .i64 x.n, .string x.s, .slice none 0 0, .slice none 0 0] 35)
  have hbx := bel_alloc (Below.refl W1.heap.size W1) (.cells #[.int .i64 x.k, .int .i64 x.n, .string x.s, .slice none 0 0, .slice none 0 0] 35)
  have HX0 := Lib.hid hx0; have HBX := Lib.hid hbx; have HSZ0 := Lib.hid hsz
  clear hl hm h hel hem hW hP hB hbA ihl ihm lnl lnm hA1 hA2 hx0 hbx hln hsz
  obtain ⟨i0, hi, hz0, hz1, hz2⟩ := info_parts rvalInfo
  go_enter Tryz.func11, Tryz.ntmps11
  go_upto_region 1 with (fail)
  rw [HW.out]
  go_upto_region 2 with (fail)
  generalize W1.alloc (.cells #[.int .i64 x.k, .int .i64 x.n, .string x.s, .slice none 0 0, .slice none 0 0] 35) = W2 at *
  go_wp2_with fail
  go_loopg [4] x.l.length (fun gg s4 wr => ∃ k : Nat, k ≤ x.l.length ∧ x.l.length - k ≤ gg ∧ s4 = .int .i64 k ∧ Aside (PlR1 x W1.heap.size W1 k wr))
  case atStart => exact ⟨0, Nat.zero_le _, by omega, rfl, [], .slice none 0 0, rfl, RowIn.nil HX0.out, HBX.out⟩
  case round =>
    obtain ⟨k, hk, hgg, rfl, hrl⟩ := hrel
    obtain ⟨wa, rfl⟩ : ∃ wa, wa = wr := ⟨wr, rfl⟩
    obtain ⟨vs, va, hvs, hrow, hbw⟩ := hrl
    obtain ⟨A, c, rfl⟩ := hrow.form
    have hl8 : vs.length ≤ 1000000 := by rw [hvs, List.length_take]; omega
    have HROW := Lib.hid hrow; have HVS := Lib.hid hvs
    clear hvs
    obtain ⟨⟨v0, v1, v2, v3, v4⟩, _, hVw⟩ := cells5 (show wa.heap[W1.heap.size]? = some (.cells #[.int .i64 x.k, .int .i64 x.n, .string x.s, .slice A vs.length c, .slice none 0 0] 35 (0, 0)) from hrow.1)
    clear p0 p1 p2 p3 p4 hPw
    obtain ⟨⟨p0, p1, p2, p3, p4⟩, _, hPw⟩ := cells5 (Below.at hbw HP.out)
    clear hrow
    by_cases hlt : k < x.l.length
    · have hltz : (k : Int) < (x.l.length : Int) := by omega
      obtain ⟨q, hx⟩ : ∃ p, x.l[k]? = some p := get_ex (by omega)
      obtain ⟨b, o, C1, k1, f1, C2, k2, f2, rfl, e0, e1, e2, e3, e4, hjr⟩ := HL.out k q hx
      have hk0 : (0 : Int) ≤ (k : Int) := by omega
      have hpl : PlS W1.heap.size w.heap.size 3 (.slice A vs.length c) (.slice (some ⟨b, o, none⟩) x.l.length c1) b (o + k * 5) [.int .i64 q.k, .int .i64 q.n, .string q.s, .slice C1 k1 f1, .slice C2 k2 f2] wa := by
        refine ⟨v3, p3, fun j e he => ?_⟩
        have hj := lt_of_get he
        have hj5 : j < 5 := hj
        rcases (by omega : j = 0 ∨ j = 1 ∨ j = 2 ∨ j = 3 ∨ j = 4) with rfl | rfl | rfl | rfl | rfl
        · obtain rfl := Option.some.inj he
          exact cell_later' hbw e0
        · obtain rfl := Option.some.inj he
          exact cell_later' hbw e1
        · obtain rfl := Option.some.inj he
          exact cell_later' hbw e2
        · obtain rfl := Option.some.inj he
          exact cell_later' hbw e3
        · obtain rfl := Option.some.inj he
          exact cell_later' hbw e4
      have HS := Lib.hid hpl
      have hiv := IHL.out q (get_mem hx) _ F wa.drew (LNL.out q (get_mem hx)) (JR_later hjr (bel_drew hbw))
      have HIV := Lib.hid hiv
      have HROWD := Lib.hid (show RowIn 35 35 jvTy W1.heap.size (mk1 x) (.slice A vs.length c) vs wa.drew from HROW.out.kept (R := 0) ⟨rfl, rfl, rfl, Nat.le_refl _, fun _ _ _ => rfl⟩ (by omega))
      have HVD := Lib.hid (show wa.drew.heap[W1.heap.size]? = some (.cells ((mk1 x) (.slice A vs.length c)) 35 (0, 0)) from HROW.out.1)
      have HBD := Lib.hid (show Below W1.heap.size W1 wa.drew from bel_drew hbw)
      have HTK := Lib.hid (show x.l.take k ++ [q] = x.l.take (k + 1) from (take_snoc' hx).symm)
      have hszr : W1.heap.size < wa.heap.size := (Array.getElem?_eq_some_iff.1 HROW.out.1).1

      clear e0 e1 e2 e3 e4 hjr hiv hpl hx 
      go_wp2_with fail
      refine PrintLast.wp_region_last_drew (S := PlS W1.heap.size w.heap.size 3 (.slice A vs.length c) (.slice (some ⟨b, o, none⟩) x.l.length c1) b (o + k * 5) [.int .i64 q.k, .int .i64 q.n, .string q.s, .slice C1 k1 f1, .slice C2 k2 f2]) (ds := [9, 11]) (by kernel_rfl) HS.out (fun hHeld => ?_)
      refine PrintLast.wpAnyLast_take (i := 0) (v := ?_) rfl (by kernel_rfl) (by kernel_rfl) (by kernel_rfl) (by kernel_rfl) (by kernel_rfl) (fun _ _ _ h => h) (Or.inl ⟨by kernel_rfl, ?_⟩) (by assumption) ?_
      rotate_left
      · (intro w hSw; obtain ⟨s1, s2, s3⟩ := hSw; have t0 := s3 0 _ rfl; have t1 := s3 1 _ rfl; have t2 := s3 2 _ rfl; have t3 := s3 3 _ rfl; have t4 := s3 4 _ rfl; clear s3; (try simp only [Nat.add_zero] at t0); go_simp; try (with_reducible rfl))
      try simp only [List.getElem_toArray, List.getElem_cons_zero, List.getElem_cons_succ, Act.put, List.setIfInBounds_toArray, List.set_cons_zero, List.set_cons_succ]
      refine PrintLast.wpAnyLast_take (i := 1) (v := ?_) rfl (by kernel_rfl) (by kernel_rfl) (by kernel_rfl) (by kernel_rfl) (by kernel_rfl) (fun _ _ _ h => h) (Or.inl ⟨by kernel_rfl, ?_⟩) (by assumption) ?_
      rotate_left
      · (intro w hSw; obtain ⟨s1, s2, s3⟩ := hSw; have t0 := s3 0 _ rfl; have t1 := s3 1 _ rfl; have t2 := s3 2 _ rfl; have t3 := s3 3 _ rfl; have t4 := s3 4 _ rfl; clear s3; (try simp only [Nat.add_zero] at t0); go_simp; try (with_reducible rfl))
      try simp only [List.getElem_toArray, List.getElem_cons_zero, List.getElem_cons_succ, Act.put, List.setIfInBounds_toArray, List.set_cons_zero, List.set_cons_succ]
      refine PrintLast.wpAnyLast_take (i := 2) (v := ?_) rfl (by kernel_rfl) (by kernel_rfl) (by kernel_rfl) (by kernel_rfl) (by kernel_rfl) (fun _ _ _ h => h) (Or.inl ⟨by kernel_rfl, ?_⟩) (by assumption) ?_
      rotate_left
      · (intro w hSw; obtain ⟨s1, s2, s3⟩ := hSw; have t0 := s3 0 _ rfl; have t1 := s3 1 _ rfl; have t2 := s3 2 _ rfl; have t3 := s3 3 _ rfl; have t4 := s3 4 _ rfl; clear s3; (try simp only [Nat.add_zero] at t0); go_simp; try (with_reducible rfl))
      try simp only [List.getElem_toArray, List.getElem_cons_zero, List.getElem_cons_succ, Act.put, List.setIfInBounds_toArray, List.set_cons_zero, List.set_cons_succ]
      refine PrintLast.wpAnyLast_take (i := 3) (v := ?_) rfl (by kernel_rfl) (by kernel_rfl) (by kernel_rfl) (by kernel_rfl) (by kernel_rfl) (fun _ _ _ h => h) (Or.inl ⟨by kernel_rfl, ?_⟩) (by assumption) ?_
      rotate_left
      · (intro w hSw; obtain ⟨s1, s2, s3⟩ := hSw; have t0 := s3 0 _ rfl; have t1 := s3 1 _ rfl; have t2 := s3 2 _ rfl; have t3 := s3 3 _ rfl; have t4 := s3 4 _ rfl; clear s3; (try simp only [Nat.add_zero] at t0); go_simp; try (with_reducible rfl))
      try simp only [List.getElem_toArray, List.getElem_cons_zero, List.getElem_cons_succ, Act.put, List.setIfInBounds_toArray, List.set_cons_zero, List.set_cons_succ]
      refine PrintLast.wpAnyLast_take (i := 4) (v := ?_) rfl (by kernel_rfl) (by kernel_rfl) (by kernel_rfl) (by kernel_rfl) (by kernel_rfl) (fun _ _ _ h => h) (Or.inl ⟨by kernel_rfl, ?_⟩) (by assumption) ?_
      rotate_left
      · (intro w hSw; obtain ⟨s1, s2, s3⟩ := hSw; have t0 := s3 0 _ rfl; have t1 := s3 1 _ rfl; have t2 := s3 2 _ rfl; have t3 := s3 3 _ rfl; have t4 := s3 4 _ rfl; clear s3; (try simp only [Nat.add_zero] at t0); go_simp; try (with_reducible rfl))
      try simp only [List.getElem_toArray, List.getElem_cons_zero, List.getElem_cons_succ, Act.put, List.setIfInBounds_toArray, List.set_cons_zero, List.set_cons_succ]
      refine PrintLast.wpAnyLast_take (i := 5) (v := ?_) rfl (by kernel_rfl) (by kernel_rfl) (by kernel_rfl) (by kernel_rfl) (by kernel_rfl) (fun _ _ _ h => h) (Or.inl ⟨by kernel_rfl, ?_⟩) (by assumption) ?_
      rotate_left
      · (intro w hSw; obtain ⟨s1, s2, s3⟩ := hSw; have t0 := s3 0 _ rfl; have t1 := s3 1 _ rfl; have t2 := s3 2 _ rfl; have t3 := s3 3 _ rfl; have t4 := s3 4 _ rfl; clear s3; (try simp only [Nat.add_zero] at t0); go_simp; try (with_reducible rfl))
      try simp only [List.getElem_toArray, List.getElem_cons_zero, List.getElem_cons_succ, Act.put, List.setIfInBounds_toArray, List.set_cons_zero, List.set_cons_succ]
      refine PrintLast.wpAnyLast_take (i := 6) (v := ?_) rfl (by kernel_rfl) (by kernel_rfl) (by kernel_rfl) (by kernel_rfl) (by kernel_rfl) (fun _ _ _ h => h) (Or.inl ⟨by kernel_rfl, ?_⟩) (by assumption) ?_
      rotate_left
      · (intro w hSw; obtain ⟨s1, s2, s3⟩ := hSw; have t0 := s3 0 _ rfl; have t1 := s3 1 _ rfl; have t2 := s3 2 _ rfl; have t3 := s3 3 _ rfl; have t4 := s3 4 _ rfl; clear s3; (try simp only [Nat.add_zero] at t0); go_simp; try (with_reducible rfl))
      try simp only [List.getElem_toArray, List.getElem_cons_zero, List.getElem_cons_succ, Act.put, List.setIfInBounds_toArray, List.set_cons_zero, List.set_cons_succ]
      have HK := Lib.hid hHeld
      clear hHeld
      refine PrintLast.wpAnyLast_ready (rs := [7]) (by kernel_rfl) (by simp) ?_
      refine PrintLast.AllReadyL.cons rfl (by decide) (fun K hK => ?_) PrintLast.AllReadyL.nil
      rw [if_pos (by kernel_rfl)]
      go_simp
      go_at_call 11; refine (HIV.out).mono ?_; rintro e w5 ⟨⟨D1, j1, g1, D2, j2, g2, rfl, hjr⟩, hb5⟩
      have HJ := Lib.hid hjr; have HB5 := Lib.hid hb5
      clear hjr hb5
      go_wp2_with fail
      refine hK.out _ _ ?_ (fun hHeld => ?_)
      · exact PlS.later HK.out HB5.out
      clear hK K
      try simp only [List.getElem_toArray, List.getElem_cons_zero, List.getElem_cons_succ, Act.put, List.setIfInBounds_toArray, List.set_cons_zero, List.set_cons_succ]
      clear HK
      have HK := Lib.hid hHeld
      clear hHeld
      refine PrintLast.wpAnyLast_ready (rs := [8]) (by kernel_rfl) (by simp) ?_
      refine PrintLast.AllReadyL.cons rfl (by decide) (fun K hK => ?_) PrintLast.AllReadyL.nil
      rw [if_pos (by kernel_rfl)]
      go_simp
      try simp only [List.foldl_cons, List.foldl_nil, List.setIfInBounds_toArray, List.set_cons_zero, List.set_cons_succ, Nat.reduceAdd]
      refine hK.out _ _ ?_ (fun hHeld => ?_)
      · exact PlS.later HK.out (bel_alloc (Below.refl _ _) _)
      clear hK K
      try simp only [List.getElem_toArray, List.getElem_cons_zero, List.getElem_cons_succ, Act.put, List.setIfInBounds_toArray, List.set_cons_zero, List.set_cons_succ]
      clear HK
      refine PrintLast.wpAnyLast_ready (rs := [9]) (by kernel_rfl) (by simp) ?_
      refine PrintLast.AllReadyL.cons_last rfl (by decide) (fun K hK => ?_) PrintLast.AllReadyL.nil
      have hrow5 := HROWD.out.kept (grown_of_bel HB5.out (some 0)) (by omega)
      obtain ⟨hv5, cs, hown5, hch5⟩ := hrow5
      have hal := bel_alloc (Below.refl w5.heap.size w5) (.cells #[.int .i64 q.k, .int .i64 q.n, .string q.s, .slice D1 j1 g1, .slice D2 j2 g2] 35)
      have hownU := own_laterB hown5 hal
      have hnews : ∀ j u, [.int .i64 q.k, .int .i64 q.n, .string q.s, .slice D1 j1 g1, .slice D2 j2 g2][j]? = some u → (w5.alloc (.cells #[.int .i64 q.k, .int .i64 q.n, .string q.s, .slice D1 j1 g1, .slice D2 j2 g2] 35)).cell? ((⟨w5.heap.size, 0, none⟩ : Addr).add j) = some u := fun j u hj => by
        rw [Addr.add_lit, Nat.zero_add]; exact cell_newB w5 #[.int .i64 q.k, .int .i64 q.n, .string q.s, .slice D1 j1 g1, .slice D2 j2 g2] 35 j u (by simpa using hj)
      have HV5 := Lib.hid hv5; have HO5 := Lib.hid hown5; have HC5 := Lib.hid hch5; have HOU := Lib.hid hownU; have HNW := Lib.hid hnews; have HAL := Lib.hid hal
      clear hv5 hown5 hch5 hal hownU hnews
      have hM : vs.length + 1 ≤ maxLen := by simp only [maxLen]; omega
      have hby : (vs.length + 1) * 80 ≤ 140737488355328 := by omega
      have hlt5 : W1.heap.size < w5.heap.size := (Array.getElem?_eq_some_iff.1 HV5.out).1
      have hsz5 : (w5.alloc (.cells #[.int .i64 q.k, .int .i64 q.n, .string q.s, .slice D1 j1 g1, .slice D2 j2 g2] 35)).heap.size = w5.heap.size + 1 := by show (w5.heap.push _).size = _; simp
      have hbs : W1.heap.size + 1 ≤ (w5.alloc (.cells #[.int .i64 q.k, .int .i64 q.n, .string q.s, .slice D1 j1 g1, .slice D2 j2 g2] 35)).heap.size := by omega
      refine step_append_own rfl _ _ 32 rfl (W1.heap.size + 1) 35 i0 _ 5 80 Tryz.underlying32 hi hz0 hz1 hz2 rfl (by decide) _ vs.length cs rfl HOU.out ⟨w5.heap.size, 0, none⟩ 1 1 _ rfl rfl HNW.out (by intro u hu; simp at hu; rcases hu with rfl | rfl | rfl | rfl | rfl <;> rfl) hM hby hbs ?_
      intro v' W ho hg hxo
      refine hK.out _ _ ?_
      clear hK K
      try simp only [List.getElem_toArray, List.getElem_cons_zero, List.getElem_cons_succ, Act.put, List.setIfInBounds_toArray, List.set_cons_zero, List.set_cons_succ]
      obtain ⟨A7, c7, rfl⟩ := own_sliceB ho
      have hobj : ∀ k, (Value.slice A vs.length c).ownBlock = some k → W1.heap.size < k := fun k hk => by have := (HO5.out.lt k hk).1; omega
      have hpush := RowIn.push (T := 35) (E := 35) (Y := jvTy) (mk := (mk1 x)) (i := 3) (va' := .slice A7 (vs.length + 1) c7) rfl HV5.out HO5.out HC5.out (x := q) (N := wa.heap.size) HJ.out (by omega) (fun j hj => by obtain ⟨_, cs', ho', _⟩ := HROWD.out; exact (ho'.lt j hj).2) hg hxo ho
      have hVW : W.heap[W1.heap.size]? = some (.cells ((mk1 x) (.slice A vs.length c)) 35 (0, 0)) :=
        (hg.block _ (by omega) (fun e => by have := hobj _ e.symm; omega)).trans ((HAL.out.block _ hlt5).trans HV5.out)
      have w3 : W.cell? ⟨W1.heap.size, 3, none⟩ = some (.slice A vs.length c) := by rw [Lib.cell_of_heap hVW]; rfl
      have f3 : W.frozen? ⟨W1.heap.size, 3, none⟩ = false := by simp [World.frozen?, hVW]
      have hbF := bel_set (p := ⟨W1.heap.size, 3, none⟩) (bel_grown (bel_trans (bel_trans HBD.out HB5.out) HAL.out) hg (fun k hk => by have := hobj k hk; omega)) (Nat.le_refl _) (.slice A7 (vs.length + 1) c7)
      have HBF := Lib.hid hbF; have HRF := Lib.hid hpush
      clear hbF hpush hg hxo ho hVW hlt5 hobj
      refine PrintLast.wpAnyLast_any (i := 10) (v := ?_) rfl (Region.noSelect_spec (by kernel_rfl)) (fun _ _ _ h => h) _ _ _ _ (Region.free_spec rfl (by kernel_rfl)) (List.contains_iff_mem.1 (by kernel_rfl)) (Or.inl ⟨by kernel_rfl, ?_⟩) ?_
      rotate_left
      · (intro w; go_simp; try (with_reducible rfl))
      try simp only [List.getElem_toArray, List.getElem_cons_zero, List.getElem_cons_succ, Act.put, List.setIfInBounds_toArray, List.set_cons_zero, List.set_cons_succ]
      refine PrintLast.wpAnyLast_ready (rs := [11]) (by kernel_rfl) (by simp) ?_
      refine PrintLast.AllReadyL.cons_last rfl (by decide) (fun K hK => ?_) PrintLast.AllReadyL.nil
      rw [if_pos (by kernel_rfl)]
      go_simp
      refine hK.out _ _ ?_
      clear hK K
      try simp only [List.getElem_toArray, List.getElem_cons_zero, List.getElem_cons_succ, Act.put, List.setIfInBounds_toArray, List.set_cons_zero, List.set_cons_succ]
      refine PrintLast.wpAnyLast_done (by kernel_rfl) ?_ _
      generalize W.setCell ⟨W1.heap.size, 3, none⟩ (.slice A7 (vs.length + 1) c7) = WF at *
      go_wp2_with fail
      go_roundg (x.l.length - (k + 1))
      case measure => omega
      case rel => exact ⟨k + 1, by omega, by omega, by simp, vs ++ [q], .slice A7 (vs.length + 1) c7, by rw [HVS.out]; exact HTK.out, by have := HRF.out; simpa using this, HBF.out⟩
    · have hltz : ¬ (k : Int) < (x.l.length : Int) := by omega
      have hkl : k = x.l.length := by omega
      have hvx : vs = x.l := by rw [HVS.out]; exact List.take_of_length_le (by omega)
      clear HVS
      subst hvx
      have HSL := Lib.hid (HROW.out.sl.bound)
      have HN0 := Lib.hid (show wa.heap[W1.heap.size]? = some (.cells (mk2 x (.slice A x.l.length c) (.slice none 0 0)) 35 (0, 0)) from HROW.out.1)
      have HBW := Lib.hid hbw
      obtain ⟨i0, hi, hz0, hz1, hz2⟩ := info_parts rmemInfo
      go_wp2_with fail
      go_loopg [5] x.m.length (fun gg s5 wr => ∃ k : Nat, k ≤ x.m.length ∧ x.m.length - k ≤ gg ∧ s5 = .int .i64 k ∧ Aside (PlR2 x (.slice A x.l.length c) W1.heap.size wa.heap.size W1 wa k wr))
      case atStart => exact ⟨0, Nat.zero_le _, by omega, rfl, [], .slice none 0 0, rfl, RowIn.nil HN0.out, HBW.out, fun j hj => (by cases hj), Nat.le_refl _, fun _ _ _ => rfl⟩
      case round =>
        clear HROW hbw v0 v1 v2 v3 v4 hVw p0 p1 p2 p3 p4 hPw
        obtain ⟨k', hk', hgg', rfl, hrl'⟩ := hrel
        obtain ⟨ms, va, hvs, hrow, hbw, hob, hsq, hkp⟩ := hrl'
        obtain ⟨B, d, rfl⟩ := hrow.form
        have hl8' : ms.length ≤ 1000000 := by rw [hvs, List.length_take]; omega
        have HROW := Lib.hid hrow; have HVS := Lib.hid hvs; clear hvs; have HOB := Lib.hid hob; have HKP := Lib.hid hkp
        obtain ⟨⟨v0, v1, v2, v3, v4⟩, _, hVw⟩ := cells5 (show wr.heap[W1.heap.size]? = some (.cells #[.int .i64 x.k, .int .i64 x.n, .string x.s, .slice A x.l.length c, .slice B ms.length d] 35 (0, 0)) from hrow.1)
        obtain ⟨⟨p0, p1, p2, p3, p4⟩, _, hPw⟩ := cells5 (Below.at hbw HP.out)
        clear hrow hob hkp
        by_cases hlt' : k' < x.m.length
        · have hltz' : (k' : Int) < (x.m.length : Int) := by omega
          have HSZ := Lib.hid hsq
          obtain ⟨⟨nm, q⟩, hx⟩ : ∃ p, x.m[k']? = some p := get_ex (by omega)
          obtain ⟨b, o, C1, k1, f1, C2, k2, f2, rfl, hnz, e0, e1, e2, e3, e4, e5, hjr⟩ := HM.out k' nm q hx
          have hk0 : (0 : Int) ≤ (k' : Int) := by omega
          have hpl : PlS W1.heap.size w.heap.size 4 (.slice B ms.length d) (.slice (some ⟨b, o, none⟩) x.m.length c2) b (o + k' * 6) [.string nm, .int .i64 q.k, .int .i64 q.n, .string q.s, .slice C1 k1 f1, .slice C2 k2 f2] wr := by
            refine ⟨v4, p4, fun j e he => ?_⟩
            have hj := lt_of_get he
            have hj5 : j < 6 := hj
            rcases (by omega : j = 0 ∨ j = 1 ∨ j = 2 ∨ j = 3 ∨ j = 4 ∨ j = 5) with rfl | rfl | rfl | rfl | rfl | rfl
            · obtain rfl := Option.some.inj he
              exact cell_later' hbw e0
            · obtain rfl := Option.some.inj he
              exact cell_later' hbw e1
            · obtain rfl := Option.some.inj he
              exact cell_later' hbw e2
            · obtain rfl := Option.some.inj he
              exact cell_later' hbw e3
            · obtain rfl := Option.some.inj he
              exact cell_later' hbw e4
            · obtain rfl := Option.some.inj he
              exact cell_later' hbw e5
          have HS := Lib.hid hpl
          have hiv := IHM.out (nm, q) (get_mem hx) _ F wr.drew (LNM.out (nm, q) (get_mem hx)) (JR_later hjr (bel_drew hbw))
          have HIV := Lib.hid hiv
          have HROWD := Lib.hid (show RowIn 35 61 memTy W1.heap.size (mk2 x (.slice A x.l.length c)) (.slice B ms.length d) ms wr.drew from HROW.out.kept (R := 0) ⟨rfl, rfl, rfl, Nat.le_refl _, fun _ _ _ => rfl⟩ (by omega))
          have HVD := Lib.hid (show wr.drew.heap[W1.heap.size]? = some (.cells ((mk2 x (.slice A x.l.length c)) (.slice B ms.length d)) 35 (0, 0)) from HROW.out.1)
          have HBD := Lib.hid (show Below W1.heap.size W1 wr.drew from bel_drew hbw)
          have HTK := Lib.hid (show x.m.take k' ++ [(nm, q)] = x.m.take (k' + 1) from (take_snoc' hx).symm)
          have hszr : W1.heap.size < wr.heap.size := (Array.getElem?_eq_some_iff.1 HROW.out.1).1
          have HNZ := Lib.hid hnz
          clear e0 e1 e2 e3 e4 e5 hjr hiv hpl hx hnz
          go_wp2_with fail
          refine PrintLast.wp_region_last_drew (S := PlS W1.heap.size w.heap.size 4 (.slice B ms.length d) (.slice (some ⟨b, o, none⟩) x.m.length c2) b (o + k' * 6) [.string nm, .int .i64 q.k, .int .i64 q.n, .string q.s, .slice C1 k1 f1, .slice C2 k2 f2]) (ds := [17, 19]) (by kernel_rfl) HS.out (fun hHeld => ?_)
          refine PrintLast.wpAnyLast_take (i := 0) (v := ?_) rfl (by kernel_rfl) (by kernel_rfl) (by kernel_rfl) (by kernel_rfl) (by kernel_rfl) (fun _ _ _ h => h) (Or.inl ⟨by kernel_rfl, ?_⟩) (by assumption) ?_
          rotate_left
          · (intro w hSw; obtain ⟨s1, s2, s3⟩ := hSw; have t0 := s3 0 _ rfl; have t1 := s3 1 _ rfl; have t2 := s3 2 _ rfl; have t3 := s3 3 _ rfl; have t4 := s3 4 _ rfl; have t5 := s3 5 _ rfl; clear s3; (try simp only [Nat.add_zero] at t0); go_simp; try (with_reducible rfl))
          try simp only [List.getElem_toArray, List.getElem_cons_zero, List.getElem_cons_succ, Act.put, List.setIfInBounds_toArray, List.set_cons_zero, List.set_cons_succ]
          refine PrintLast.wpAnyLast_take (i := 1) (v := ?_) rfl (by kernel_rfl) (by kernel_rfl) (by kernel_rfl) (by kernel_rfl) (by kernel_rfl) (fun _ _ _ h => h) (Or.inl ⟨by kernel_rfl, ?_⟩) (by assumption) ?_
          rotate_left
          · (intro w hSw; obtain ⟨s1, s2, s3⟩ := hSw; have t0 := s3 0 _ rfl; have t1 := s3 1 _ rfl; have t2 := s3 2 _ rfl; have t3 := s3 3 _ rfl; have t4 := s3 4 _ rfl; have t5 := s3 5 _ rfl; clear s3; (try simp only [Nat.add_zero] at t0); go_simp; try (with_reducible rfl))
          try simp only [List.getElem_toArray, List.getElem_cons_zero, List.getElem_cons_succ, Act.put, List.setIfInBounds_toArray, List.set_cons_zero, List.set_cons_succ]
          refine PrintLast.wpAnyLast_take (i := 2) (v := ?_) rfl (by kernel_rfl) (by kernel_rfl) (by kernel_rfl) (by kernel_rfl) (by kernel_rfl) (fun _ _ _ h => h) (Or.inl ⟨by kernel_rfl, ?_⟩) (by assumption) ?_
          rotate_left
          · (intro w hSw; obtain ⟨s1, s2, s3⟩ := hSw; have t0 := s3 0 _ rfl; have t1 := s3 1 _ rfl; have t2 := s3 2 _ rfl; have t3 := s3 3 _ rfl; have t4 := s3 4 _ rfl; have t5 := s3 5 _ rfl; clear s3; (try simp only [Nat.add_zero] at t0); go_simp; try (with_reducible rfl))
          try simp only [List.getElem_toArray, List.getElem_cons_zero, List.getElem_cons_succ, Act.put, List.setIfInBounds_toArray, List.set_cons_zero, List.set_cons_succ]
          refine PrintLast.wpAnyLast_take (i := 3) (v := ?_) rfl (by kernel_rfl) (by kernel_rfl) (by kernel_rfl) (by kernel_rfl) (by kernel_rfl) (fun _ _ _ h => h) (Or.inl ⟨by kernel_rfl, ?_⟩) (by assumption) ?_
          rotate_left
          · (intro w hSw; obtain ⟨s1, s2, s3⟩ := hSw; have t0 := s3 0 _ rfl; have t1 := s3 1 _ rfl; have t2 := s3 2 _ rfl; have t3 := s3 3 _ rfl; have t4 := s3 4 _ rfl; have t5 := s3 5 _ rfl; clear s3; (try simp only [Nat.add_zero] at t0); go_simp; try (with_reducible rfl))
          try simp only [List.getElem_toArray, List.getElem_cons_zero, List.getElem_cons_succ, Act.put, List.setIfInBounds_toArray, List.set_cons_zero, List.set_cons_succ]
          refine PrintLast.wpAnyLast_take (i := 4) (v := ?_) rfl (by kernel_rfl) (by kernel_rfl) (by kernel_rfl) (by kernel_rfl) (by kernel_rfl) (fun _ _ _ h => h) (Or.inl ⟨by kernel_rfl, ?_⟩) (by assumption) ?_
          rotate_left
          · (intro w hSw; obtain ⟨s1, s2, s3⟩ := hSw; have t0 := s3 0 _ rfl; have t1 := s3 1 _ rfl; have t2 := s3 2 _ rfl; have t3 := s3 3 _ rfl; have t4 := s3 4 _ rfl; have t5 := s3 5 _ rfl; clear s3; (try simp only [Nat.add_zero] at t0); go_simp; try (with_reducible rfl))
          try simp only [List.getElem_toArray, List.getElem_cons_zero, List.getElem_cons_succ, Act.put, List.setIfInBounds_toArray, List.set_cons_zero, List.set_cons_succ]
          refine PrintLast.wpAnyLast_take (i := 5) (v := ?_) rfl (by kernel_rfl) (by kernel_rfl) (by kernel_rfl) (by kernel_rfl) (by kernel_rfl) (fun _ _ _ h => h) (Or.inl ⟨by kernel_rfl, ?_⟩) (by assumption) ?_
          rotate_left
          · (intro w hSw; obtain ⟨s1, s2, s3⟩ := hSw; have t0 := s3 0 _ rfl; have t1 := s3 1 _ rfl; have t2 := s3 2 _ rfl; have t3 := s3 3 _ rfl; have t4 := s3 4 _ rfl; have t5 := s3 5 _ rfl; clear s3; (try simp only [Nat.add_zero] at t0); go_simp; try (with_reducible rfl))
          try simp only [List.getElem_toArray, List.getElem_cons_zero, List.getElem_cons_succ, Act.put, List.setIfInBounds_toArray, List.set_cons_zero, List.set_cons_succ]
          refine PrintLast.wpAnyLast_take (i := 6) (v := ?_) rfl (by kernel_rfl) (by kernel_rfl) (by kernel_rfl) (by kernel_rfl) (by kernel_rfl) (fun _ _ _ h => h) (Or.inl ⟨by kernel_rfl, ?_⟩) (by assumption) ?_
          rotate_left
          · (intro w hSw; obtain ⟨s1, s2, s3⟩ := hSw; have t0 := s3 0 _ rfl; have t1 := s3 1 _ rfl; have t2 := s3 2 _ rfl; have t3 := s3 3 _ rfl; have t4 := s3 4 _ rfl; have t5 := s3 5 _ rfl; clear s3; (try simp only [Nat.add_zero] at t0); go_simp; try (with_reducible rfl))
          try simp only [List.getElem_toArray, List.getElem_cons_zero, List.getElem_cons_succ, Act.put, List.setIfInBounds_toArray, List.set_cons_zero, List.set_cons_succ]
          refine PrintLast.wpAnyLast_take (i := 7) (v := ?_) rfl (by kernel_rfl) (by kernel_rfl) (by kernel_rfl) (by kernel_rfl) (by kernel_rfl) (fun _ _ _ h => h) (Or.inl ⟨by kernel_rfl, ?_⟩) (by assumption) ?_
          rotate_left
          · (intro w hSw; obtain ⟨s1, s2, s3⟩ := hSw; have t0 := s3 0 _ rfl; have t1 := s3 1 _ rfl; have t2 := s3 2 _ rfl; have t3 := s3 3 _ rfl; have t4 := s3 4 _ rfl; have t5 := s3 5 _ rfl; clear s3; (try simp only [Nat.add_zero] at t0); go_simp; try (with_reducible rfl))
          try simp only [List.getElem_toArray, List.getElem_cons_zero, List.getElem_cons_succ, Act.put, List.setIfInBounds_toArray, List.set_cons_zero, List.set_cons_succ]
          refine PrintLast.wpAnyLast_take (i := 8) (v := ?_) rfl (by kernel_rfl) (by kernel_rfl) (by kernel_rfl) (by kernel_rfl) (by kernel_rfl) (fun _ _ _ h => h) (Or.inl ⟨by kernel_rfl, ?_⟩) (by assumption) ?_
          rotate_left
          · (intro w hSw; obtain ⟨s1, s2, s3⟩ := hSw; have t0 := s3 0 _ rfl; have t1 := s3 1 _ rfl; have t2 := s3 2 _ rfl; have t3 := s3 3 _ rfl; have t4 := s3 4 _ rfl; have t5 := s3 5 _ rfl; clear s3; (try simp only [Nat.add_zero] at t0); go_simp; try (with_reducible rfl))
          try simp only [List.getElem_toArray, List.getElem_cons_zero, List.getElem_cons_succ, Act.put, List.setIfInBounds_toArray, List.set_cons_zero, List.set_cons_succ]
          refine PrintLast.wpAnyLast_take (i := 9) (v := ?_) rfl (by kernel_rfl) (by kernel_rfl) (by kernel_rfl) (by kernel_rfl) (by kernel_rfl) (fun _ _ _ h => h) (Or.inl ⟨by kernel_rfl, ?_⟩) (by assumption) ?_
          rotate_left
          · (intro w hSw; obtain ⟨s1, s2, s3⟩ := hSw; have t0 := s3 0 _ rfl; have t1 := s3 1 _ rfl; have t2 := s3 2 _ rfl; have t3 := s3 3 _ rfl; have t4 := s3 4 _ rfl; have t5 := s3 5 _ rfl; clear s3; (try simp only [Nat.add_zero] at t0); go_simp; try (with_reducible rfl))
          try simp only [List.getElem_toArray, List.getElem_cons_zero, List.getElem_cons_succ, Act.put, List.setIfInBounds_toArray, List.set_cons_zero, List.set_cons_succ]
          refine PrintLast.wpAnyLast_take (i := 10) (v := ?_) rfl (by kernel_rfl) (by kernel_rfl) (by kernel_rfl) (by kernel_rfl) (by kernel_rfl) (fun _ _ _ h => h) (Or.inl ⟨by kernel_rfl, ?_⟩) (by assumption) ?_
          rotate_left
          · (intro w hSw; obtain ⟨s1, s2, s3⟩ := hSw; have t0 := s3 0 _ rfl; have t1 := s3 1 _ rfl; have t2 := s3 2 _ rfl; have t3 := s3 3 _ rfl; have t4 := s3 4 _ rfl; have t5 := s3 5 _ rfl; clear s3; (try simp only [Nat.add_zero] at t0); go_simp; try (with_reducible rfl))
          try simp only [List.getElem_toArray, List.getElem_cons_zero, List.getElem_cons_succ, Act.put, List.setIfInBounds_toArray, List.set_cons_zero, List.set_cons_succ]
          refine PrintLast.wpAnyLast_take (i := 11) (v := ?_) rfl (by kernel_rfl) (by kernel_rfl) (by kernel_rfl) (by kernel_rfl) (by kernel_rfl) (fun _ _ _ h => h) (Or.inl ⟨by kernel_rfl, ?_⟩) (by assumption) ?_
          rotate_left
          · (intro w hSw; obtain ⟨s1, s2, s3⟩ := hSw; have t0 := s3 0 _ rfl; have t1 := s3 1 _ rfl; have t2 := s3 2 _ rfl; have t3 := s3 3 _ rfl; have t4 := s3 4 _ rfl; have t5 := s3 5 _ rfl; clear s3; (try simp only [Nat.add_zero] at t0); go_simp; try (with_reducible rfl))
          try simp only [List.getElem_toArray, List.getElem_cons_zero, List.getElem_cons_succ, Act.put, List.setIfInBounds_toArray, List.set_cons_zero, List.set_cons_succ]
          refine PrintLast.wpAnyLast_take (i := 12) (v := ?_) rfl (by kernel_rfl) (by kernel_rfl) (by kernel_rfl) (by kernel_rfl) (by kernel_rfl) (fun _ _ _ h => h) (Or.inl ⟨by kernel_rfl, ?_⟩) (by assumption) ?_
          rotate_left
          · (intro w hSw; obtain ⟨s1, s2, s3⟩ := hSw; have t0 := s3 0 _ rfl; have t1 := s3 1 _ rfl; have t2 := s3 2 _ rfl; have t3 := s3 3 _ rfl; have t4 := s3 4 _ rfl; have t5 := s3 5 _ rfl; clear s3; (try simp only [Nat.add_zero] at t0); go_simp; try (with_reducible rfl))
          try simp only [List.getElem_toArray, List.getElem_cons_zero, List.getElem_cons_succ, Act.put, List.setIfInBounds_toArray, List.set_cons_zero, List.set_cons_succ]
          refine PrintLast.wpAnyLast_take (i := 13) (v := ?_) rfl (by kernel_rfl) (by kernel_rfl) (by kernel_rfl) (by kernel_rfl) (by kernel_rfl) (fun _ _ _ h => h) (Or.inl ⟨by kernel_rfl, ?_⟩) (by assumption) ?_
          rotate_left
          · (intro w hSw; obtain ⟨s1, s2, s3⟩ := hSw; have t0 := s3 0 _ rfl; have t1 := s3 1 _ rfl; have t2 := s3 2 _ rfl; have t3 := s3 3 _ rfl; have t4 := s3 4 _ rfl; have t5 := s3 5 _ rfl; clear s3; (try simp only [Nat.add_zero] at t0); go_simp; try (with_reducible rfl))
          try simp only [List.getElem_toArray, List.getElem_cons_zero, List.getElem_cons_succ, Act.put, List.setIfInBounds_toArray, List.set_cons_zero, List.set_cons_succ]
          have HK := Lib.hid hHeld
          clear hHeld
          refine PrintLast.wpAnyLast_ready (rs := [14]) (by kernel_rfl) (by simp) ?_
          refine PrintLast.AllReadyL.cons rfl (by decide) (fun K hK => ?_) PrintLast.AllReadyL.nil
          rw [if_pos (by kernel_rfl)]
          go_simp
          go_at_call 11; refine (HIV.out).mono ?_; rintro e w5 ⟨⟨D1, j1, g1, D2, j2, g2, rfl, hjr⟩, hb5⟩
          have HJ := Lib.hid hjr; have HB5 := Lib.hid hb5
          clear hjr hb5
          go_wp2_with fail
          refine hK.out _ _ ?_ (fun hHeld => ?_)
          · exact PlS.later HK.out HB5.out
          clear hK K
          try simp only [List.getElem_toArray, List.getElem_cons_zero, List.getElem_cons_succ, Act.put, List.setIfInBounds_toArray, List.set_cons_zero, List.set_cons_succ]
          clear HK
          have HK := Lib.hid hHeld
          clear hHeld
          refine PrintLast.wpAnyLast_ready (rs := [15]) (by kernel_rfl) (by simp) ?_
          refine PrintLast.AllReadyL.cons rfl (by decide) (fun K hK => ?_) PrintLast.AllReadyL.nil
          rw [if_pos (by kernel_rfl)]
          go_simp
          refine hK.out _ _ ?_ (fun hHeld => ?_)
          · exact HK.out
          clear hK K
          try simp only [List.getElem_toArray, List.getElem_cons_zero, List.getElem_cons_succ, Act.put, List.setIfInBounds_toArray, List.set_cons_zero, List.set_cons_succ]
          clear HK
          have HK := Lib.hid hHeld
          clear hHeld
          refine PrintLast.wpAnyLast_ready (rs := [16]) (by kernel_rfl) (by simp) ?_
          refine PrintLast.AllReadyL.cons rfl (by decide) (fun K hK => ?_) PrintLast.AllReadyL.nil
          rw [if_pos (by kernel_rfl)]
          go_simp
          try simp only [List.foldl_cons, List.foldl_nil, List.setIfInBounds_toArray, List.set_cons_zero, List.set_cons_succ, Nat.reduceAdd]
          refine hK.out _ _ ?_ (fun hHeld => ?_)
          · exact PlS.later HK.out (bel_alloc (Below.refl _ _) _)
          clear hK K
          try simp only [List.getElem_toArray, List.getElem_cons_zero, List.getElem_cons_succ, Act.put, List.setIfInBounds_toArray, List.set_cons_zero, List.set_cons_succ]
          clear HK
          refine PrintLast.wpAnyLast_ready (rs := [17]) (by kernel_rfl) (by simp) ?_
          refine PrintLast.AllReadyL.cons_last rfl (by decide) (fun K hK => ?_) PrintLast.AllReadyL.nil
          have hrow5 := HROWD.out.kept (grown_of_bel HB5.out (some 0)) (by omega)
          obtain ⟨hv5, cs, hown5, hch5⟩ := hrow5
          have hal := bel_alloc (Below.refl w5.heap.size w5) (.cells #[.string nm, .int .i64 q.k, .int .i64 q.n, .string q.s, .slice D1 j1 g1, .slice D2 j2 g2] 61)
          have hownU := own_laterB hown5 hal
          have hnews : ∀ j u, [.string nm, .int .i64 q.k, .int .i64 q.n, .string q.s, .slice D1 j1 g1, .slice D2 j2 g2][j]? = some u → (w5.alloc (.cells #[.string nm, .int .i64 q.k, .int .i64 q.n, .string q.s, .slice D1 j1 g1, .slice D2 j2 g2] 61)).cell? ((⟨w5.heap.size, 0, none⟩ : Addr).add j) = some u := fun j u hj => by
            rw [Addr.add_lit, Nat.zero_add]; exact cell_newB w5 #[.string nm, .int .i64 q.k, .int .i64 q.n, .string q.s, .slice D1 j1 g1, .slice D2 j2 g2] 61 j u (by simpa using hj)
          have HV5 := Lib.hid hv5; have HO5 := Lib.hid hown5; have HC5 := Lib.hid hch5; have HOU := Lib.hid hownU; have HNW := Lib.hid hnews; have HAL := Lib.hid hal
          clear hv5 hown5 hch5 hal hownU hnews
          have hM : ms.length + 1 ≤ maxLen := by simp only [maxLen]; omega
          have hby : (ms.length + 1) * 96 ≤ 140737488355328 := by omega
          have hlt5 : W1.heap.size < w5.heap.size := (Array.getElem?_eq_some_iff.1 HV5.out).1
          have hsz5 : (w5.alloc (.cells #[.string nm, .int .i64 q.k, .int .i64 q.n, .string q.s, .slice D1 j1 g1, .slice D2 j2 g2] 61)).heap.size = w5.heap.size + 1 := by show (w5.heap.push _).size = _; simp
          have hbs : W1.heap.size + 1 ≤ (w5.alloc (.cells #[.string nm, .int .i64 q.k, .int .i64 q.n, .string q.s, .slice D1 j1 g1, .slice D2 j2 g2] 61)).heap.size := by omega
          refine step_append_own rfl _ _ 33 rfl (W1.heap.size + 1) 61 i0 _ 6 96 Tryz.underlying33 hi hz0 hz1 hz2 rfl (by decide) _ ms.length cs rfl HOU.out ⟨w5.heap.size, 0, none⟩ 1 1 _ rfl rfl HNW.out (by intro u hu; simp at hu; rcases hu with rfl | rfl | rfl | rfl | rfl | rfl <;> rfl) hM hby hbs ?_
          intro v' W ho hg hxo
          refine hK.out _ _ ?_
          clear hK K
          try simp only [List.getElem_toArray, List.getElem_cons_zero, List.getElem_cons_succ, Act.put, List.setIfInBounds_toArray, List.set_cons_zero, List.set_cons_succ]
          obtain ⟨A7, c7, rfl⟩ := own_sliceB ho
          have hobj : ∀ k, (Value.slice B ms.length d).ownBlock = some k → W1.heap.size < k := fun k hk => by have := (HO5.out.lt k hk).1; omega
          have hpush := RowIn.push (T := 35) (E := 61) (Y := memTy) (mk := (mk2 x (.slice A x.l.length c))) (i := 4) (va' := .slice A7 (ms.length + 1) c7) rfl HV5.out HO5.out HC5.out (x := (nm, q)) (N := wr.heap.size) ⟨_, ⟨rfl, HNZ.out⟩, HJ.out⟩ (by omega) (fun j hj => by obtain ⟨_, cs', ho', _⟩ := HROWD.out; exact (ho'.lt j hj).2) hg hxo ho
          have hVW : W.heap[W1.heap.size]? = some (.cells ((mk2 x (.slice A x.l.length c)) (.slice B ms.length d)) 35 (0, 0)) :=
            (hg.block _ (by omega) (fun e => by have := hobj _ e.symm; omega)).trans ((HAL.out.block _ hlt5).trans HV5.out)
          have w4 : W.cell? ⟨W1.heap.size, 4, none⟩ = some (.slice B ms.length d) := by rw [Lib.cell_of_heap hVW]; rfl
          have f4 : W.frozen? ⟨W1.heap.size, 4, none⟩ = false := by simp [World.frozen?, hVW]
          have hbF := bel_set (p := ⟨W1.heap.size, 4, none⟩) (bel_grown (bel_trans (bel_trans HBD.out HB5.out) HAL.out) hg (fun k hk => by have := hobj k hk; omega)) (Nat.le_refl _) (.slice A7 (ms.length + 1) c7)
          have hob2 : ∀ j, (Value.slice A7 (ms.length + 1) c7).ownBlock = some j → wa.heap.size ≤ j := fun j hj => by
            rcases hxo with h | h
            · exact HOB.out j (h.symm.trans hj)
            · have : W.heap.size ≥ w5.heap.size := by have := hg.size; omega
              rw [h] at hj; have := Option.some.inj hj; have := HB5.out.size; have := HSZ.out; have e1 : wr.drew.heap.size = wr.heap.size := rfl; omega
          have hkp2 : ∀ b, W1.heap.size < b → b < wa.heap.size → (W.setCell ⟨W1.heap.size, 4, none⟩ (.slice A7 (ms.length + 1) c7)).heap[b]? = wa.heap[b]? := fun b h1 h2 => by
            have hs1 := HSZ.out
            have hs2 := HB5.out.size
            have e1 : wr.drew.heap.size = wr.heap.size := rfl
            refine (Below.heap_setCell _ _ _ _ (by show b ≠ W1.heap.size; omega)).trans ((hg.block b (by omega) (fun e => by have := HOB.out b e.symm; omega)).trans ((HAL.out.block b (by omega)).trans ((HB5.out.block b (by omega)).trans (HKP.out b h1 h2))))
          have HOB2 := Lib.hid hob2; have HKP2 := Lib.hid hkp2
          have HSF := Lib.hid (show wa.heap.size ≤ (W.setCell ⟨W1.heap.size, 4, none⟩ (.slice A7 (ms.length + 1) c7)).heap.size by
            have hs1 := HSZ.out
            have hs2 := HB5.out.size
            have hs3 := hg.size
            have e1 : wr.drew.heap.size = wr.heap.size := rfl
            have e2 : (W.setCell ⟨W1.heap.size, 4, none⟩ (.slice A7 (ms.length + 1) c7)).heap.size = W.heap.size := by simp [World.setCell]
            omega)
          clear hob2 hkp2
          have HBF := Lib.hid hbF; have HRF := Lib.hid hpush
          clear hbF hpush hg hxo ho hVW hlt5 hobj
          refine PrintLast.wpAnyLast_any (i := 18) (v := ?_) rfl (Region.noSelect_spec (by kernel_rfl)) (fun _ _ _ h => h) _ _ _ _ (Region.free_spec rfl (by kernel_rfl)) (List.contains_iff_mem.1 (by kernel_rfl)) (Or.inl ⟨by kernel_rfl, ?_⟩) ?_
          rotate_left
          · (intro w; go_simp; try (with_reducible rfl))
          try simp only [List.getElem_toArray, List.getElem_cons_zero, List.getElem_cons_succ, Act.put, List.setIfInBounds_toArray, List.set_cons_zero, List.set_cons_succ]
          refine PrintLast.wpAnyLast_ready (rs := [19]) (by kernel_rfl) (by simp) ?_
          refine PrintLast.AllReadyL.cons_last rfl (by decide) (fun K hK => ?_) PrintLast.AllReadyL.nil
          rw [if_pos (by kernel_rfl)]
          go_simp
          refine hK.out _ _ ?_
          clear hK K
          try simp only [List.getElem_toArray, List.getElem_cons_zero, List.getElem_cons_succ, Act.put, List.setIfInBounds_toArray, List.set_cons_zero, List.set_cons_succ]
          refine PrintLast.wpAnyLast_done (by kernel_rfl) ?_ _
          generalize W.setCell ⟨W1.heap.size, 4, none⟩ (.slice A7 (ms.length + 1) c7) = WF at *
          go_wp2_with fail
          go_roundg (x.m.length - (k' + 1))
          case measure => omega
          case rel => exact ⟨k' + 1, by omega, by omega, by simp, ms ++ [(nm, q)], .slice A7 (ms.length + 1) c7, by rw [HVS.out]; exact HTK.out, by have := HRF.out; simpa using this, HBF.out, HOB2.out, HSF.out, HKP2.out⟩
        · have hltz' : ¬ (k' : Int) < (x.m.length : Int) := by omega
          have hvx' : ms = x.m := by rw [HVS.out]; exact List.take_of_length_le (by omega)
          clear HVS
          subst hvx'
          have hBq := Below.at hbw HB.out
          have hs1 := HS1.out
          obtain ⟨⟨b0, b1, b2, b3, b4⟩, ⟨g0, g1, g2, g3, g4⟩, hBw⟩ := cells5 hBq
          have hf := set5 (.int .i64 x.k) (.int .i64 x.n) (.string x.s) (.slice A x.l.length c) (.slice B x.m.length d) hBq
          have hsl1 := HSL.out.frame (w' := (((((wr.setCell ⟨w.heap.size + 1, 0, none⟩ (.int .i64 x.k)).setCell ⟨w.heap.size + 1, 1, none⟩ (.int .i64 x.n)).setCell ⟨w.heap.size + 1, 2, none⟩ (.string x.s)).setCell ⟨w.heap.size + 1, 3, none⟩ (.slice A x.l.length c)).setCell ⟨w.heap.size + 1, 4, none⟩ (.slice B x.m.length d))) (fun b hb => (set5_other _ _ _ _ _ (by omega)).trans (HKP.out b hb.1 hb.2))
          have hsl2 := HROW.out.sl.frame (w' := (((((wr.setCell ⟨w.heap.size + 1, 0, none⟩ (.int .i64 x.k)).setCell ⟨w.heap.size + 1, 1, none⟩ (.int .i64 x.n)).setCell ⟨w.heap.size + 1, 2, none⟩ (.string x.s)).setCell ⟨w.heap.size + 1, 3, none⟩ (.slice A x.l.length c)).setCell ⟨w.heap.size + 1, 4, none⟩ (.slice B x.m.length d))) (fun b hb => set5_other _ _ _ _ _ (by omega))
          have hjj := JR_iff.2 ⟨.slice A x.l.length c, .slice B x.m.length d, ⟨rfl, HSZ0.out⟩, hsl1.mono (F' := fun b => w.heap.size ≤ b) (fun b hb => by omega), hsl2.mono (F' := fun b => w.heap.size ≤ b) (fun b hb => by omega)⟩
          have hb5 := bel_set (p := ⟨w.heap.size + 1, 4, none⟩) (bel_set (p := ⟨w.heap.size + 1, 3, none⟩) (bel_set (p := ⟨w.heap.size + 1, 2, none⟩) (bel_set (p := ⟨w.heap.size + 1, 1, none⟩) (bel_set (p := ⟨w.heap.size + 1, 0, none⟩) (bel_trans HBA.out hbw) (Nat.le_succ _) (.int .i64 x.k)) (Nat.le_succ _) (.int .i64 x.n)) (Nat.le_succ _) (.string x.s)) (Nat.le_succ _) (.slice A x.l.length c)) (Nat.le_succ _) (.slice B x.m.length d)
          have HF5 := Lib.hid hf; have HJJ := Lib.hid hjj; have HB5 := Lib.hid hb5
          clear hf hjj hb5 hsl1 hsl2 hBq hs1
          go_wp2_with fail
          exact bodyPost_ret (results_cell_row rfl _ _ (w.heap.size + 1) 35 #[.int .i64 x.k, .int .i64 x.n, .string x.s, .slice A x.l.length c, .slice B x.m.length d] (0, 0) _ rfl HF5.out Tryz.underlying35 rfl (by kernel_rfl)) rfl ⟨⟨A, _, c, B, _, d, rfl, HJJ.out⟩, HB5.out⟩
theorem plain_any (x : JV) : PlAt x := by
  have key : ∀ (n : Nat) (x : JV), SizeOf.sizeOf x < n → PlAt x := fun n => by
    induction n with
    | zero => intro x h; omega
    | succ n ih =>
      intro x h
      exact plain_step x (fun q hq => ih q (by have := val_size' hq; omega)) (fun q hq => ih q.2 (by have := mem_size hq; omega))
  exact key _ x (Nat.lt_succ_self _)
end Go.Proofs.YtjjgbgojlhaapaaGreatDoor
