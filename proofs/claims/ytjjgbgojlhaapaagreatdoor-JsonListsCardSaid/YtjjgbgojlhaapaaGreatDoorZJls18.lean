/- Parts of the proof: Ln, Sm, Ep. -/
import Derived.Test.YtjjgbgojlhaapaaGreatDoorZJls17
import Derived.Test.YtjjgbgojlhaapaaGreatDoorZJls6
import Derived.Test.YtjjgbgojlhaapaaGreatDoorZJls12
namespace Go.Proofs.YtjjgbgojlhaapaaGreatDoor
open Go.RowKit Go.Lib

theorem take_snoc' {α : Type} {l : List α} {k : Nat} {x : α} (h : l[k]? = some x) : l.take (k + 1) = l.take k ++ [x] := by
  rw [List.take_add_one, h]; rfl
mutual
def LnJ : JV → Prop
  | .mk _ _ _ l m => (l.length ≤ 1000000 ∧ m.length ≤ 1000000) ∧ LnJs l ∧ LnJm m
def LnJs : List JV → Prop
  | [] => True
  | x :: xs => LnJ x ∧ LnJs xs
def LnJm : List (ByteArray × JV) → Prop
  | [] => True
  | (_, x) :: xs => LnJ x ∧ LnJm xs
end
theorem LnJs_iff : ∀ l : List JV, LnJs l ↔ ∀ y ∈ l, LnJ y
  | [] => by simp [LnJs]
  | x :: xs => by simp [LnJs, LnJs_iff xs]
theorem LnJm_iff : ∀ l : List (ByteArray × JV), LnJm l ↔ ∀ q ∈ l, LnJ q.2
  | [] => by simp [LnJm]
  | (a, x) :: xs => by simp only [LnJm, LnJm_iff xs, List.forall_mem_cons]
theorem LnJ_iff (x : JV) : LnJ x ↔ (x.l.length ≤ 1000000 ∧ x.m.length ≤ 1000000) ∧ (∀ y ∈ x.l, LnJ y) ∧ ∀ q ∈ x.m, LnJ q.2 := by
  obtain ⟨k, n, s, l, m⟩ := x
  simp only [LnJ, LnJs_iff, LnJm_iff, JV.l, JV.m]
theorem join_ge {α : Type} (f : α → List UInt8) : ∀ (l : List α) (b : Bool), l.length ≤ (joinFrom f b l).length + (if b then 1 else 0) ∧ ∀ x ∈ l, (f x).length ≤ (joinFrom f b l).length
  | [], _ => by simp
  | x :: xs, b => by
    have ih := join_ge f xs false
    rw [join_cons]
    simp only [List.length_append, List.length_cons, List.mem_cons, Bool.false_eq_true, if_false, Nat.add_zero] at ih ⊢
    refine ⟨?_, ?_⟩
    · have := ih.1
      cases b <;> simp <;> omega
    · rintro y (rfl | hy)
      · omega
      · have := ih.2 y hy; omega
theorem print_ln : ∀ (d : Nat) (x : JV), mayJ d x = true → (printB d x).length ≤ 600000 → LnJ x
  | 0, _, h, _ => absurd h (by simp [mayJ])
  | d + 1, x, hm, h => by
    rw [printB.eq_2] at h
    cases shape_of hm with
    | word k hk => exact (LnJ_iff _).2 ⟨⟨by simp [JV.l], by simp [JV.m]⟩, by simp [JV.l], by simp [JV.m]⟩
    | num m hmr => exact (LnJ_iff _).2 ⟨⟨by simp [numV, JV.l], by simp [numV, JV.m]⟩, by simp [numV, JV.l], by simp [numV, JV.m]⟩
    | text u hu => exact (LnJ_iff _).2 ⟨⟨by simp [wordV, JV.l], by simp [wordV, JV.m]⟩, by simp [wordV, JV.l], by simp [wordV, JV.m]⟩
    | list l hl =>
      have h' : (91 :: (joinFrom (printB d) true l ++ [93])).length ≤ 600000 := h
      simp only [List.length_cons, List.length_append, List.length_nil] at h'
      have hj := join_ge (printB d) l true
      simp only [if_true] at hj
      refine (LnJ_iff _).2 ⟨⟨by simp only [listV, JV.l]; omega, by simp [listV, JV.m]⟩, fun y hy => ?_, by simp [listV, JV.m]⟩
      have hy' : y ∈ l := hy
      exact print_ln d y (hl y hy') (by have := hj.2 y hy'; omega)
    | obj m hmm hl =>
      have h' : (123 :: (joinFrom (prMem d) true m ++ [125])).length ≤ 600000 := h
      simp only [List.length_cons, List.length_append, List.length_nil] at h'
      have hj := join_ge (prMem d) m true
      simp only [if_true] at hj
      refine (LnJ_iff _).2 ⟨⟨by simp [objV, JV.l], by simp only [objV, JV.m]; omega⟩, by simp [objV, JV.l], fun q hq => ?_⟩
      have hq' : q ∈ m := hq
      have hp : (prMem d q).length = (quoteB q.1).length + ((printB d q.2).length + 1) := by unfold prMem; simp
      exact print_ln d q.2 (hl q hq') (by have := hj.2 q hq'; omega)
end Go.Proofs.YtjjgbgojlhaapaaGreatDoor
namespace Go.Proofs.YtjjgbgojlhaapaaGreatDoor
open Go.RowKit Go.Lib

mutual
def sameB : JV → JV → Bool
  | .mk k n s l m, .mk k' n' s' l' m' => k == k' && n == n' && s.toList == s'.toList && sameL l l' && sameM m m'
def sameL : List JV → List JV → Bool
  | [], [] => true
  | x :: xs, y :: ys => sameB x y && sameL xs ys
  | _, _ => false
def sameM : List (ByteArray × JV) → List (ByteArray × JV) → Bool
  | [], [] => true
  | (a, x) :: xs, (b, y) :: ys => (a.toList == b.toList && sameB x y) && sameM xs ys
  | _, _ => false
end
mutual
theorem same_refl : ∀ x : JV, sameB x x = true
  | .mk k n s l m => by simp [sameB, sameL_refl l, sameM_refl m]
theorem sameL_refl : ∀ l : List JV, sameL l l = true
  | [] => rfl
  | x :: xs => by simp [sameL, same_refl x, sameL_refl xs]
theorem sameM_refl : ∀ l : List (ByteArray × JV), sameM l l = true
  | [] => rfl
  | (a, x) :: xs => by simp [sameM, same_refl x, sameM_refl xs]
end
theorem sameB_eq (x y : JV) : sameB x y = (x.k == y.k && x.n == y.n && x.s.toList == y.s.toList && sameL x.l y.l && sameM x.m y.m) := by
  obtain ⟨k, n, s, l, m⟩ := x
  obtain ⟨k', n', s', l', m'⟩ := y
  rfl
theorem sameL_len : ∀ (l l' : List JV), l.length ≠ l'.length → sameL l l' = false
  | [], [], h => absurd rfl h
  | [], _ :: _, _ => rfl
  | _ :: _, [], _ => rfl
  | x :: xs, y :: ys, h => by simp only [sameL, sameL_len xs ys (by simpa using h), Bool.and_false]
theorem sameM_len : ∀ (l l' : List (ByteArray × JV)), l.length ≠ l'.length → sameM l l' = false
  | [], [], h => absurd rfl h
  | [], _ :: _, _ => rfl
  | _ :: _, [], _ => rfl
  | (a, x) :: xs, (b, y) :: ys, h => by simp only [sameM, sameM_len xs ys (by simpa using h), Bool.and_false]
theorem sameL_step {l l' : List JV} {k : Nat} {x y : JV} (h : sameL l l' = sameL (l.drop k) (l'.drop k)) (hx : l[k]? = some x) (hy : l'[k]? = some y) : sameL l l' = (sameB x y && sameL (l.drop (k + 1)) (l'.drop (k + 1))) := by
  rw [h, drop_of_get hx, drop_of_get hy]; rfl
theorem sameM_step {l l' : List (ByteArray × JV)} {k : Nat} {a b : ByteArray} {x y : JV} (h : sameM l l' = sameM (l.drop k) (l'.drop k)) (hx : l[k]? = some (a, x)) (hy : l'[k]? = some (b, y)) : sameM l l' = ((a.toList == b.toList && sameB x y) && sameM (l.drop (k + 1)) (l'.drop (k + 1))) := by
  rw [h, drop_of_get hx, drop_of_get hy]; rfl
theorem sameL_end {l l' : List JV} {k : Nat} (h : sameL l l' = sameL (l.drop k) (l'.drop k)) (h1 : l.length ≤ k) (h2 : l'.length ≤ k) : sameL l l' = true := by
  rw [h, List.drop_of_length_le h1, List.drop_of_length_le h2]; rfl
theorem sameM_end {l l' : List (ByteArray × JV)} {k : Nat} (h : sameM l l' = sameM (l.drop k) (l'.drop k)) (h1 : l.length ≤ k) (h2 : l'.length ≤ k) : sameM l l' = true := by
  rw [h, List.drop_of_length_le h1, List.drop_of_length_le h2]; rfl
theorem get_mem {α : Type} {l : List α} {k : Nat} {x : α} (h : l[k]? = some x) : x ∈ l := List.mem_of_getElem? h
/-- what a call of Same on a tree says -/
def SameAt (x : JV) : Prop := ∀ (y : JV) (cs cs' : List Value) (F F' : Nat → Prop) (w : World), JR w F x cs → JR w F' y cs' →
  Calls Tryz.prog 19 #[.agg cs.toArray, .agg cs'.toArray] w fun e w' => e = .returned (.bool (sameB x y)) ∧ Below w.heap.size w w'
set_option maxRecDepth 100000 in
set_option maxHeartbeats 4000000 in
theorem eqv_any (l l' : List JV) (ih : ∀ q ∈ l, SameAt q) (v v' : Value) (F F' : Nat → Prop) (w : World) (h : Sl jvTy w F v l) (h' : Sl jvTy w F' v' l') :
    Calls Tryz.prog 38 #[v, v', .func (.func 19) #[] #[]] w fun e w' => e = .returned (.bool (sameL l l')) ∧ Below w.heap.size w w' := by
  obtain ⟨A1, c1, rfl, hl63, hel⟩ := val_cells h
  obtain ⟨A2, c2, rfl, hm63, hem⟩ := val_cells h'
  have HL := Lib.hid hel; have HM := Lib.hid hem; have IH := Lib.hid ih
  clear h h' hel hem ih
  by_cases hlen : l.length = l'.length
  case neg =>
    have hd : ((l.length : Int) != (l'.length : Int)) = true := by simpa using (fun e => hlen (by exact_mod_cast e))
    have hn : ¬ ((l.length : Int) = (l'.length : Int)) := by omega
    rw [sameL_len l l' hlen]
    go_enter Tryz.func38, Tryz.ntmps38
    go_wp2_with fail
    go_ret
    exact ⟨rfl, Below.refl _ _⟩
  case pos =>
    have HN := Lib.hid hlen
    have hl2 : l'.length = l.length := hlen.symm
    rw [hl2] at hm63 ⊢
    generalize hn : l.length = n at *
    have Hn := Lib.hid hn; have Hm := Lib.hid hl2
    clear hlen hn hl2
    go_enter Tryz.func38, Tryz.ntmps38
    go_wp2_with fail
    go_loopg [17] n (fun gg s17 wr => ∃ k : Nat, k ≤ n ∧ n - k ≤ gg ∧ s17 = .int .i64 k ∧ Aside (Below w.heap.size w wr) ∧ Aside (sameL l l' = sameL (l.drop k) (l'.drop k)))
    case atStart => exact ⟨0, Nat.zero_le _, by omega, rfl, Below.refl _ _, rfl⟩
    case round =>
      obtain ⟨k, hk, hgg, rfl, HB, HA⟩ := hrel
      by_cases hlt : k < n
      · have hltz : (k : Int) < (n : Int) := by omega
        obtain ⟨x, hx⟩ : ∃ p, l[k]? = some p := get_ex (by have := Hn.out; omega)
        obtain ⟨y, hy⟩ : ∃ p, l'[k]? = some p := get_ex (by have := Hm.out; omega)
        obtain ⟨b, o, B1, k1, d1, B2, k2, d2, rfl, e0, e1, e2, e3, e4, hjr⟩ := HL.out k x hx
        obtain ⟨b', o', B1', k1', d1', B2', k2', d2', rfl, e0', e1', e2', e3', e4', hjr'⟩ := HM.out k y hy
        have r0 := cell_later' HB.out e0
        have r1 := cell_later' HB.out e1
        have r2 := cell_later' HB.out e2
        have r3 := cell_later' HB.out e3
        have r4 := cell_later' HB.out e4
        have r0' := cell_later' HB.out e0'
        have r1' := cell_later' HB.out e1'
        have r2' := cell_later' HB.out e2'
        have r3' := cell_later' HB.out e3'
        have r4' := cell_later' HB.out e4'
        have hbr : b < wr.heap.size := World.block_lt_of_cell? _ _ r0
        have hbr' : b' < wr.heap.size := World.block_lt_of_cell? _ _ r0'
        have hcall := fun V (hV : Below wr.heap.size wr V) => IH.out x (get_mem hx) y _ _ F F' V (JR_later hjr (bel_trans HB.out hV)) (JR_later hjr' (bel_trans HB.out hV))
        have hstep := sameL_step HA.out hx hy
        have HC := Lib.hid hcall; have HST := Lib.hid hstep
        clear hx hy hjr hjr' e0 e1 e2 e3 e4 e0' e1' e2' e3' e4' hcall hstep
        go_wp2_with fail
        refine (HC.out _ ?_).mono ?_
        · exact bel_alloc (bel_alloc (Below.refl _ _) _) _
        cases hsb : sameB x y with
        | false =>
          rintro e w5 ⟨rfl, hb5⟩
          have hR : sameL l l' = false := by rw [HST.out, hsb]; rfl
          have HR := Lib.hid hR
          clear hR hsb
          go_wp2_with fail
          go_ret
          exact ⟨ret_bool (by rw [HR.out]), bel_trans HB.out (bel_trans (bel_alloc (bel_alloc (Below.refl _ _) _) _) hb5)⟩
        | true =>
          rintro e w5 ⟨rfl, hb5⟩
          have hR : sameL l l' = sameL (l.drop (k + 1)) (l'.drop (k + 1)) := by rw [HST.out, hsb]; rfl
          have HR := Lib.hid hR
          clear hR hsb
          go_wp2_with fail
          go_roundg (n - (k + 1))
          case measure => omega
          case rel => exact ⟨k + 1, by omega, by omega, by simp, bel_trans HB.out (bel_trans (bel_alloc (bel_alloc (Below.refl _ _) _) _) hb5), HR.out⟩
      · have hltz : ¬ ((k : Int) < (n : Int)) := by omega
        have HE := Lib.hid (sameL_end HA.out (by have := Hn.out; omega) (by have := Hm.out; omega))
        go_wp2_with fail
        go_ret
        exact ⟨ret_bool (by rw [HE.out]), HB.out⟩
set_option maxRecDepth 100000 in
set_option maxHeartbeats 4000000 in
theorem same1_any (x : JV) (ih : SameAt x) (nm nm' : ByteArray) (y : JV) (cs cs' : List Value) (F F' : Nat → Prop) (w : World) (h : JR w F x cs) (h' : JR w F' y cs') :
    Calls Tryz.prog 40 #[.agg (Value.string nm :: cs).toArray, .agg (Value.string nm' :: cs').toArray] w fun e w' => e = .returned (.bool (nm.toList == nm'.toList && sameB x y)) ∧ Below w.heap.size w w' := by
  have hcall := fun V (hV : Below w.heap.size w V) => ih y cs cs' F F' V (JR_later h hV) (JR_later h' hV)
  obtain ⟨A1, n1, c1, A2, n2, c2, rfl⟩ := JR_form h
  obtain ⟨B1, k1, d1, B2, k2, d2, rfl⟩ := JR_form h'
  have HC := Lib.hid hcall
  clear hcall ih h h'
  cases he : (nm.toList == nm'.toList) with
  | false =>
    go_enter Tryz.func40, Tryz.ntmps40
    go_wp2_with fail
    go_ret
    exact ⟨rfl, bel_alloc (bel_alloc (Below.refl _ _) _) _⟩
  | true =>
    go_enter Tryz.func40, Tryz.ntmps40
    go_wp2_with fail
    refine (HC.out _ (bel_alloc (bel_alloc (Below.refl _ _) _) _)).mono ?_
    rintro e w5 ⟨rfl, hb5⟩
    go_wp2_with fail
    go_ret
    exact ⟨ret_bool (by simp), bel_trans (bel_alloc (bel_alloc (Below.refl _ _) _) _) hb5⟩
set_option maxRecDepth 100000 in
set_option maxHeartbeats 4000000 in
theorem eqm_any (l l' : List (ByteArray × JV)) (ih : ∀ q ∈ l, SameAt q.2) (v v' : Value) (F F' : Nat → Prop) (w : World) (h : Sl memTy w F v l) (h' : Sl memTy w F' v' l') :
    Calls Tryz.prog 39 #[v, v', .func (.func 40) #[] #[]] w fun e w' => e = .returned (.bool (sameM l l')) ∧ Below w.heap.size w w' := by
  obtain ⟨A1, c1, rfl, hl63, hel⟩ := mem_cells h
  obtain ⟨A2, c2, rfl, hm63, hem⟩ := mem_cells h'
  have HL := Lib.hid hel; have HM := Lib.hid hem; have IH := Lib.hid ih
  clear h h' hel hem ih
  by_cases hlen : l.length = l'.length
  case neg =>
    have hd : ((l.length : Int) != (l'.length : Int)) = true := by simpa using (fun e => hlen (by exact_mod_cast e))
    have hn : ¬ ((l.length : Int) = (l'.length : Int)) := by omega
    rw [sameM_len l l' hlen]
    go_enter Tryz.func39, Tryz.ntmps39
    go_wp2_with fail
    go_ret
    exact ⟨rfl, Below.refl _ _⟩
  case pos =>
    have HN := Lib.hid hlen
    have hl2 : l'.length = l.length := hlen.symm
    rw [hl2] at hm63 ⊢
    generalize hn : l.length = n at *
    have Hn := Lib.hid hn; have Hm := Lib.hid hl2
    clear hlen hn hl2
    go_enter Tryz.func39, Tryz.ntmps39
    go_wp2_with fail
    go_loopg [17] n (fun gg s17 wr => ∃ k : Nat, k ≤ n ∧ n - k ≤ gg ∧ s17 = .int .i64 k ∧ Aside (Below w.heap.size w wr) ∧ Aside (sameM l l' = sameM (l.drop k) (l'.drop k)))
    case atStart => exact ⟨0, Nat.zero_le _, by omega, rfl, Below.refl _ _, rfl⟩
    case round =>
      obtain ⟨k, hk, hgg, rfl, HB, HA⟩ := hrel
      by_cases hlt : k < n
      · have hltz : (k : Int) < (n : Int) := by omega
        obtain ⟨⟨nm, x⟩, hx⟩ : ∃ p, l[k]? = some p := get_ex (by have := Hn.out; omega)
        obtain ⟨⟨nm', y⟩, hy⟩ : ∃ p, l'[k]? = some p := get_ex (by have := Hm.out; omega)
        obtain ⟨b, o, B1, k1, d1, B2, k2, d2, rfl, hnz, e0, e1, e2, e3, e4, e5, hjr⟩ := HL.out k nm x hx
        obtain ⟨b', o', B1', k1', d1', B2', k2', d2', rfl, hnz', e0', e1', e2', e3', e4', e5', hjr'⟩ := HM.out k nm' y hy
        have r0 := cell_later' HB.out e0
        have r1 := cell_later' HB.out e1
        have r2 := cell_later' HB.out e2
        have r3 := cell_later' HB.out e3
        have r4 := cell_later' HB.out e4
        have r5 := cell_later' HB.out e5
        have r0' := cell_later' HB.out e0'
        have r1' := cell_later' HB.out e1'
        have r2' := cell_later' HB.out e2'
        have r3' := cell_later' HB.out e3'
        have r4' := cell_later' HB.out e4'
        have r5' := cell_later' HB.out e5'
        have hbr : b < wr.heap.size := World.block_lt_of_cell? _ _ r0
        have hbr' : b' < wr.heap.size := World.block_lt_of_cell? _ _ r0'
        have hcall := fun V (hV : Below wr.heap.size wr V) => same1_any x (IH.out _ (get_mem hx)) nm nm' y _ _ F F' V (JR_later hjr (bel_trans HB.out hV)) (JR_later hjr' (bel_trans HB.out hV))
        have hstep := sameM_step HA.out hx hy
        have HC := Lib.hid hcall; have HST := Lib.hid hstep
        clear hx hy hjr hjr' e0 e1 e2 e3 e4 e5 e0' e1' e2' e3' e4' e5' hcall hstep hnz hnz'
        go_wp2_with fail
        refine (HC.out _ ?_).mono ?_
        · exact bel_alloc (bel_alloc (Below.refl _ _) _) _
        cases hsb : (nm.toList == nm'.toList && sameB x y) with
        | false =>
          rintro e w5 ⟨rfl, hb5⟩
          have hR : sameM l l' = false := by rw [HST.out, hsb]; rfl
          have HR := Lib.hid hR
          clear hR hsb
          go_wp2_with fail
          go_ret
          exact ⟨ret_bool (by rw [HR.out]), bel_trans HB.out (bel_trans (bel_alloc (bel_alloc (Below.refl _ _) _) _) hb5)⟩
        | true =>
          rintro e w5 ⟨rfl, hb5⟩
          have hR : sameM l l' = sameM (l.drop (k + 1)) (l'.drop (k + 1)) := by rw [HST.out, hsb]; rfl
          have HR := Lib.hid hR
          clear hR hsb
          go_wp2_with fail
          go_roundg (n - (k + 1))
          case measure => omega
          case rel => exact ⟨k + 1, by omega, by omega, by simp, bel_trans HB.out (bel_trans (bel_alloc (bel_alloc (Below.refl _ _) _) _) hb5), HR.out⟩
      · have hltz : ¬ ((k : Int) < (n : Int)) := by omega
        have HE := Lib.hid (sameM_end HA.out (by have := Hn.out; omega) (by have := Hm.out; omega))
        go_wp2_with fail
        go_ret
        exact ⟨ret_bool (by rw [HE.out]), HB.out⟩
theorem mem_size {x : JV} {q : ByteArray × JV} (h : q ∈ x.m) : SizeOf.sizeOf q.2 < SizeOf.sizeOf x := by
  have hm := List.sizeOf_lt_of_mem h
  obtain ⟨a, b, s, l, m⟩ := x
  obtain ⟨nm, q⟩ := q
  simp only [JV.mk.sizeOf_spec, JV.m, Prod.mk.sizeOf_spec] at *
  omega
theorem val_size' {x q : JV} (h : q ∈ x.l) : SizeOf.sizeOf q < SizeOf.sizeOf x := by
  have hm := List.sizeOf_lt_of_mem h
  obtain ⟨a, b, s, l, m⟩ := x
  simp only [JV.mk.sizeOf_spec, JV.l] at *
  omega
set_option maxRecDepth 100000 in
set_option maxHeartbeats 8000000 in
theorem same_step (x : JV) (ihl : ∀ q ∈ x.l, SameAt q) (ihm : ∀ q ∈ x.m, SameAt q.2) : SameAt x := by
  intro y cs cs' F F' w h h'
  obtain ⟨vl, vm, ⟨rfl, hsz⟩, hl, hm⟩ := JR_iff.1 h
  obtain ⟨vl', vm', ⟨rfl, hsz'⟩, hl', hm'⟩ := JR_iff.1 h'
  have hcl := fun V (hV : Below w.heap.size w V) => eqv_any x.l y.l ihl vl vl' F F' V (hl.below hV) (hl'.below hV)
  have hcm := fun V (hV : Below w.heap.size w V) => eqm_any x.m y.m ihm vm vm' F F' V (hm.below hV) (hm'.below hV)
  obtain ⟨A1, c1, rfl⟩ := hl.form
  obtain ⟨A2, c2, rfl⟩ := hm.form
  obtain ⟨B1, d1, rfl⟩ := hl'.form
  obtain ⟨B2, d2, rfl⟩ := hm'.form
  have HCL := Lib.hid hcl; have HCM := Lib.hid hcm
  have hE := sameB_eq x y
  clear hcl hcm hl hm hl' hm' h h' hsz hsz' ihl ihm
  generalize sameB x y = R at *
  have HE := Lib.hid hE
  clear hE
  have hb2 : ∀ o1 o2, Below w.heap.size w ((w.alloc o1).alloc o2) := fun _ _ => bel_alloc (bel_alloc (Below.refl _ _) _) _
  have HB := Lib.hid hb2
  clear hb2
  cases e1 : (x.k == y.k) with
  | false =>
    have hR : R = false := by rw [HE.out, e1]; rfl
    subst hR
    clear HE HCL HCM
    go_enter Tryz.func19, Tryz.ntmps19
    go_wp2_with fail
    go_ret
    exact ⟨rfl, HB.out _ _⟩
  | true =>
    cases e2 : (x.n == y.n) with
    | false =>
      have hR : R = false := by rw [HE.out, e2]; simp
      subst hR
      clear HE HCL HCM
      go_enter Tryz.func19, Tryz.ntmps19
      go_wp2_with fail
      go_ret
      exact ⟨rfl, HB.out _ _⟩
    | true =>
      cases e3 : (x.s.toList == y.s.toList) with
      | false =>
        have hR : R = false := by rw [HE.out, e3]; simp
        subst hR
        clear HE HCL HCM
        go_enter Tryz.func19, Tryz.ntmps19
        go_wp2_with fail
        go_ret
        exact ⟨rfl, HB.out _ _⟩
      | true =>
        have hR : R = (sameL x.l y.l && sameM x.m y.m) := by rw [HE.out, e1, e2, e3]; simp
        have HR := Lib.hid hR
        clear HE hR
        go_enter Tryz.func19, Tryz.ntmps19
        go_wp2_with fail
        refine (HCL.out _ (HB.out _ _)).mono ?_
        cases hsl : sameL x.l y.l with
        | false =>
          have hR2 : R = false := by rw [HR.out, hsl]; rfl
          subst hR2
          clear HR hsl
          rintro e w5 ⟨rfl, hb5⟩
          go_wp2_with fail
          go_ret
          exact ⟨rfl, bel_trans (HB.out _ _) hb5⟩
        | true =>
          have hR2 : R = sameM x.m y.m := by rw [HR.out, hsl]; rfl
          have HR2 := Lib.hid hR2
          clear HR hsl hR2
          rintro e w5 ⟨rfl, hb5⟩
          have hbw := bel_trans (HB.out _ _) hb5
          have HBW := Lib.hid hbw
          have m4 : ((w.alloc (.cells #[.int .i64 x.k, .int .i64 x.n, .string x.s, .slice A1 x.l.length c1, .slice A2 x.m.length c2] 28)).alloc (.cells #[.int .i64 y.k, .int .i64 y.n, .string y.s, .slice B1 y.l.length d1, .slice B2 y.m.length d2] 28)).cell? ⟨w.heap.size, 4, none⟩ = some (.slice A2 x.m.length c2) := by rw [Lib.cell_of_heap (heap_alloc2_old w _ _)]; rfl
          have m5 : ((w.alloc (.cells #[.int .i64 x.k, .int .i64 x.n, .string x.s, .slice A1 x.l.length c1, .slice A2 x.m.length c2] 28)).alloc (.cells #[.int .i64 y.k, .int .i64 y.n, .string y.s, .slice B1 y.l.length d1, .slice B2 y.m.length d2] 28)).cell? ⟨w.heap.size + 1, 4, none⟩ = some (.slice B2 y.m.length d2) := by rw [Lib.cell_of_heap (heap_alloc2_new w _ _)]; rfl
          have p4 := cell_later' hb5 m4
          have p5 := cell_later' hb5 m5
          clear hbw m4 m5
          go_wp2_with fail
          refine (HCM.out _ HBW.out).mono ?_
          rintro e w6 ⟨rfl, hb6⟩
          go_wp2_with fail
          go_ret
          exact ⟨ret_bool (by rw [HR2.out]), bel_trans HBW.out hb6⟩
theorem same_any (x : JV) : SameAt x := by
  have key : ∀ (n : Nat) (x : JV), SizeOf.sizeOf x < n → SameAt x := fun n => by
    induction n with
    | zero => intro x h; omega
    | succ n ih =>
      intro x h
      exact same_step x (fun q hq => ih q (by have := val_size' hq; omega)) (fun q hq => ih q.2 (by have := mem_size hq; omega))
  exact key _ x (Nat.lt_succ_self _)
end Go.Proofs.YtjjgbgojlhaapaaGreatDoor
namespace Go.Proofs.YtjjgbgojlhaapaaGreatDoor
open Go.RowKit Go.Lib

/-- what a call of Plain on a tree says -/
def PlRes (x : JV) (w : World) (z : Ending) (w' : World) : Prop := (∃ (A1 : Option Addr) (n1 c1 : Nat) (A2 : Option Addr) (n2 c2 : Nat),
  z = .returned (.agg #[.int .i64 x.k, .int .i64 x.n, .string x.s, .slice A1 n1 c1, .slice A2 n2 c2]) ∧ JR w' (fun b => w.heap.size ≤ b) x [.int .i64 x.k, .int .i64 x.n, .string x.s, .slice A1 n1 c1, .slice A2 n2 c2]) ∧ Below w.heap.size w w'
def PlS (V P i : Nat) (u pv : Value) (b o : Nat) (es : List Value) (w : World) : Prop := w.cell? ⟨V, i, none⟩ = some u ∧ w.cell? ⟨P, i, none⟩ = some pv ∧ ∀ j e, es[j]? = some e → w.cell? ⟨b, o + j, none⟩ = some e
theorem PlS.later {V P i : Nat} {u pv : Value} {b o : Nat} {es : List Value} {w W : World} (h : PlS V P i u pv b o es w) (hb : Below w.heap.size w W) : PlS V P i u pv b o es W :=
  ⟨cell_later' hb h.1, cell_later' hb h.2.1, fun j e he => cell_later' hb (h.2.2 j e he)⟩
theorem Below.at {w w' : World} {b : Nat} {o : Obj} (h : Below w.heap.size w w') (hb : w.heap[b]? = some o) : w'.heap[b]? = some o := (h.block b (Array.getElem?_eq_some_iff.1 hb).1).trans hb
end Go.Proofs.YtjjgbgojlhaapaaGreatDoor
