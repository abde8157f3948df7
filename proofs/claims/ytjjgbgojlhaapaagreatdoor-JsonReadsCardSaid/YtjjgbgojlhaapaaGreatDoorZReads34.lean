/- Parts of the proof: Oi, Rz, Ou. -/
import Derived.Test.YtjjgbgojlhaapaaGreatDoorZReads33
import Derived.Test.YtjjgbgojlhaapaaGreatDoorZReads13
import Derived.Test.YtjjgbgojlhaapaaGreatDoorZReads21
import Derived.Test.YtjjgbgojlhaapaaGreatDoorZReads18
import Derived.Test.YtjjgbgojlhaapaaGreatDoorZReads26
namespace Go.Proofs.YtjjgbgojlhaapaaGreatDoor
open Go.RowKit Go.Lib

/-- append to a row of the call's own, the source perhaps nil -/
theorem step_append_opt {P : Program} {w : World} {ops : Array Oper} {o : Oper} {a : Act} {K : Act → World → Prop} {Q : Exit → Act → World → Prop} {E : Prop} (hgd : o.guard = none) (s x : Operand) (t : TypeId)
    (ho : o.op = .call { callee := .builtin .append, args := #[s, x], argTypes := #[t, t] })
    (base : Nat) (e : TypeId) (i : TypeInfo) (z : Value) (size bytes : Nat) (ht : P.underlying t = some (.slice e)) (hi : P.info? e = some i) (hz : i.zero = some z)
    (hsize : i.size = size) (hby : i.bytes = bytes) (hzs : z.cells.size = size) (hsz : 0 < size)
    (v : Value) (n : Nat) (xs : List Value) (hs : a.eval s = v) (hown : w.ownsRow base e size v n xs)
    (sv : Value) (m : Nat) (news : List Value) (hx : a.eval x = sv)
    (hsv : (∃ ad c, sv = .slice (some ad) m c ∧ ∀ j u, news[j]? = some u → w.cell? (ad.add j) = some u) ∨ ∃ c, sv = .slice none 0 c ∧ m = 0)
    (hl : news.length = m * size) (h1 : ∀ u ∈ news, u.oneCell' = true)
    (h63 : n + m ≤ maxLen) (hbytes : (n + m) * bytes ≤ 140737488355328) (hbase : base ≤ w.heap.size)
    (h : ∀ v' w', w'.ownsRow base e size v' (n + m) (xs ++ news) → w.grownBy w' v.ownBlock → (v'.ownBlock = v.ownBlock ∨ v'.ownBlock = some w.heap.size) → K (a.put o.dst v') w') :
    if Region.wanted o (yielded ops a.tmps) = true then Oper.wp P o a w K Q else E := by
  rcases hsv with ⟨ad, c, rfl, hc⟩ | ⟨c, rfl, rfl⟩
  · exact step_append_own hgd s x t ho base e i z size bytes ht hi hz hsize hby hzs hsz v n xs hs hown ad m c news hx hl hc h1 h63 hbytes hbase h
  · have hn : news = [] := List.eq_nil_of_length_eq_zero (by simpa using hl)
    subst hn
    have hrun := run_append_src_none (P := P) base t o.type e i size ht hi v n c xs hown
    have hw : Region.wanted o (yielded ops a.tmps) = true := by simp [Region.wanted, hgd]
    rw [if_pos hw]
    unfold Oper.wp
    simp [execOp, ho, resolve, invoke, builtin, hs, hx, hrun, Result.andThen]
    exact h v w (by simpa using hown) ⟨rfl, rfl, rfl, Nat.le_refl _, fun _ _ _ => rfl⟩ (.inl rfl)
/-- a new row of one -/
theorem own_new (w : World) (base : Nat) (e : TypeId) (cs : List Value) (size : Nat) (hl : cs.length = size) (hb : base ≤ w.heap.size) :
    (w.alloc (.cells cs.toArray e)).ownsRow base e size (.slice (some ⟨w.heap.size, 0, none⟩) 1 1) 1 cs := by
  refine ⟨by rw [hl, Nat.one_mul], .inr ⟨w.heap.size, 1, cs.toArray, rfl, hb, heap_alloc_new w _, Nat.le_refl _, by decide, by simp [hl], ?_⟩⟩
  rw [Nat.one_mul]
  exact List.take_of_length_le (by rw [hl]; exact Nat.le_refl _)
theorem own_pos {w : World} {base : Nat} {e : TypeId} {size n : Nat} {v : Value} {xs : List Value} (h : w.ownsRow base e size v n xs) (hn : 0 < n) : ∃ g cap, v = .slice (some ⟨g, 0, none⟩) n cap ∧ base ≤ g := by
  rcases h.2 with ⟨_, h0⟩ | ⟨g, cap, cur, rfl, hg, _⟩
  · omega
  · exact ⟨g, cap, rfl, hg⟩
/-- the cells behind place k -/
theorem own_drop {w : World} {base : Nat} {e : TypeId} {size n c g k : Nat} {xs : List Value} (h : w.ownsRow base e size (.slice (some ⟨g, 0, none⟩) n c) n xs) :
    ∀ j u, (xs.drop (k * size))[j]? = some u → w.cell? ((⟨g, k * size, none⟩ : Addr).add j) = some u := fun j u hj => by
  rw [List.getElem?_drop] at hj
  have := h.cells (g := g) rfl _ u hj
  rw [Addr.add_lit] at this ⊢
  rw [Nat.zero_add] at this
  exact this
/-- v[k:] of a row of the call's own, as a source of append -/
theorem own_src {w : World} {base : Nat} {e : TypeId} {size n c k : Nat} {A : Option Addr} {xs : List Value} (h : w.ownsRow base e size (.slice A n c) n xs) (hk : k ≤ n) :
    (∃ ad c', Value.slice (if c = k then A else Option.map (fun x => x.add (k * size)) A) (n - k) (c - k) = .slice (some ad) (n - k) c' ∧ ∀ j u, (xs.drop (k * size))[j]? = some u → w.cell? (ad.add j) = some u) ∨
    ∃ c', Value.slice (if c = k then A else Option.map (fun x => x.add (k * size)) A) (n - k) (c - k) = .slice none 0 c' ∧ n - k = 0 := by
  rcases h.2 with ⟨h0, hn⟩ | ⟨g, cap, cur, h0, hg, hh, hnc, hcm, hcs, ht⟩
  · injection h0 with hA _ hc
    subst hA
    have h1 : n - k = 0 := by omega
    exact .inr ⟨c - k, by rw [h1]; split <;> rfl, h1⟩
  · injection h0 with hA _ hc
    subst hA
    subst hc
    left
    by_cases hck : c = k
    · refine ⟨⟨g, 0, none⟩, c - k, by rw [if_pos hck], fun j u hj => ?_⟩
      have hnk : n = k := by omega
      rw [List.drop_of_length_le (by rw [h.1, hnk]; exact Nat.le_refl _)] at hj
      cases hj
    · refine ⟨⟨g, k * size, none⟩, c - k, by rw [if_neg hck, Option.map_some, Addr.add_lit, Nat.zero_add], own_drop h⟩
theorem RowIn.insert {α : Type} {T E : TypeId} {Y : Ty α} {V N i k c : Nat} {A : Option Addr} {mk : Value → Array Value} {v2 : Value} {vs : List α} {x : α} {c6 cs : List Value} {w6 W1 W2 : World} (hmk : (mk (.slice A vs.length c)).setIfInBounds i v2 = mk v2)
    (h1 : w6.heap[V]? = some (.cells (mk (.slice A vs.length c)) T (0, 0))) (h2 : w6.ownsRow (V + 1) E Y.sz (.slice A vs.length c) vs.length cs)
    (h3 : Chunks Y w6 (fun b => V < b ∧ b < w6.heap.size ∧ some b ≠ (Value.slice A vs.length c).ownBlock) vs cs)
    (hx : Y.R w6 (fun b => N ≤ b) x c6) (hVN : V < N) (hvN : ∀ j, (Value.slice A vs.length c).ownBlock = some j → j < N) (hk : k ≤ vs.length)
    (hb : Below w6.heap.size w6 W1) (hg : W1.grownBy W2 (Value.slice A k c).ownBlock) (hob : v2.ownBlock = (Value.slice A k c).ownBlock ∨ v2.ownBlock = some W1.heap.size)
    (ho : W2.ownsRow (V + 1) E Y.sz v2 (k + (1 + (vs.length - k))) (cs.take (k * Y.sz) ++ (c6 ++ cs.drop (k * Y.sz)))) :
    RowIn T E Y V mk v2 (vs.take k ++ x :: vs.drop k) (W2.setCell ⟨V, i, none⟩ v2) := by
  have hbk : (Value.slice A k c).ownBlock = (Value.slice A vs.length c).ownBlock := by cases A <;> rfl
  rw [hbk] at hg hob
  rw [show k + (1 + (vs.length - k)) = vs.length + 1 by omega] at ho
  have hV : V < w6.heap.size := (Array.getElem?_eq_some_iff.1 h1).1
  exact RowIn.ins (w5 := W1) hmk ((hb.block V hV).trans h1) (own_laterB h2 hb)
    ((h3.frame (w' := W1) (fun b hb' => hb.block b hb'.2.1)).mono (fun b h => ⟨h.1, Nat.lt_of_lt_of_le h.2.1 hb.size, h.2.2⟩))
    (Y.mono (fun b h => h.1) (Y.frame (w' := W1) (fun b hb' => hb.block b hb'.2) (Y.bound hx))) hVN hvN hk hg
    (hob.imp id fun h => ⟨_, h, Nat.le_refl _⟩) ho
end Go.Proofs.YtjjgbgojlhaapaaGreatDoor
namespace Go.Proofs.YtjjgbgojlhaapaaGreatDoor
open Go.RowKit Go.Lib

theorem see_ge (s : ByteArray) (x : St) : x.p ≤ (x.see s).2.p := by
  rw [see_p]
  exact (skip_le (s := s) (s.size - x.p) x.p).1
theorem wants_ge (s : ByteArray) (x : St) (c : UInt8) : x.p + 1 ≤ (x.wants s c).p := by
  have h := see_ge s x
  unfold St.wants
  simp only [St.step]
  split
  · rw [fail_p]; omega
  · omega
theorem number_len {s : ByteArray} {x : St} (h : (numberB s x).2.e = 0) (d : Nat) : (printB (d + 1) (numberB s x).1).length + 30 * x.p ≤ 30 * (numberB s x).2.p := by
  unfold numberB at h ⊢
  generalize anyB s [45] x.p = neg at *
  generalize hy : numStart s _ = y at *
  have hyp : x.p ≤ y.p := by
    rw [← hy]
    unfold numStart
    cases neg <;> simp only [St.step, Bool.false_eq_true, if_false, if_true] <;> split <;> (try rw [fail_p]) <;> simp
  have hr := numLoop_range s (anyB s [48] y.p) y.p (s.size - y.p) 0 y.p (by omega) (by omega)
  rw [numEnd_p]
  unfold numEnd at h ⊢
  simp only at h ⊢
  split at h
  · exact absurd h (fail_not ne4)
  · rename_i h1
    have hne : (numLoop s (anyB s [48] y.p) y.p (s.size - y.p) 0 y.p).2 ≠ y.p := fun e => h1 (.inl e)
    rw [print_numV]
    have := itoa_len ((if neg = true then -1 else 1) * (numLoop s (anyB s [48] y.p) y.p (s.size - y.p) 0 y.p).1) (by split <;> omega) (by split <;> omega)
    omega
theorem word_p (s : ByteArray) : ∀ (l : List UInt8) (x : St), (wordIn s l x).2.e = 0 → (wordIn s l x).1 = true ∧ (wordIn s l x).2.p = x.p + l.length
  | [], _, _ => ⟨rfl, rfl⟩
  | c :: l, x, h => by
    simp only [wordIn] at h ⊢
    split at h
    · exact absurd h (fail_not ne2)
    · rename_i h1
      rw [if_neg h1]
      split at h
      · exact absurd h (fail_not ne4)
      · rename_i h2
        rw [if_neg h2]
        have := word_p s l x.step h
        refine ⟨this.1, ?_⟩
        rw [this.2]
        simp only [St.step, List.length_cons]; omega
theorem word_len {s : ByteArray} {l : List UInt8} {k : Int} {x : St} (hk : (k = 1 ∨ k = 2 ∨ k = 3) ∧ 1 ≤ l.length) (h : (wordB s l k x).2.e = 0) (d : Nat) : (printB (d + 1) (wordB s l k x).1).length + 30 * x.p ≤ 30 * (wordB s l k x).2.p := by
  have hw := word_p s l x h
  unfold wordB
  simp only
  rw [if_pos hw.1, hw.2, printB.eq_2]
  rcases hk.1 with rfl | rfl | rfl <;> (simp [JV.k]; omega)
theorem unq_rel (s : ByteArray) : ∀ (f : Nat) (acc : List UInt8) (x : St), x.p ≤ s.size → (x.e = 0 → s.size + 1 - x.p ≤ f) → (unqLoop s f acc x).2.2 = 0 → (unqLoop s f acc x).1.length + 4 * x.p + 4 ≤ acc.length + 4 * (unqLoop s f acc x).2.1
  | 0, acc, x, hx, hf, h => by
    have : x.e = 0 := h
    have := hf this
    omega
  | f + 1, acc, x, hx, hf, h => by
    simp only [unqLoop] at h ⊢
    by_cases h0 : x.e ≠ 0
    · rw [if_pos h0] at h; exact absurd h h0
    · have h0' : x.e = 0 := Decidable.of_not_not h0
      have hf' := hf h0'
      rw [if_neg h0] at h ⊢
      by_cases h1 : (signB s x).2.e ≠ 0
      · rw [if_pos h1] at h; exact absurd h h1
      · have h1' : (signB s x).2.e = 0 := Decidable.of_not_not h1
        have hst := sign_step h0' h1'
        rw [if_neg h1] at h ⊢
        by_cases h2 : (signB s x).1 = 34
        · rw [if_pos h2]; simp only; omega
        · rw [if_neg h2] at h ⊢
          have hl : ∀ r : Int, (Lib.encodeRune r).length ≤ 4 := fun r => by
            unfold Lib.encodeRune; rw [List.length_map]; exact (encodeRuneZ_length r).2
          by_cases h3 : (signB s x).1 = 92
          · rw [if_pos h3] at h ⊢
            have hm := escape_mono s (signB s x).2
            have ih := unq_rel s f _ (escapeB s (signB s x).2).2 (hm.2 hst.2) (fun _ => by have := hm.1; omega) h
            rw [List.length_append] at ih
            have := hl (escapeB s (signB s x).2).1
            have := hm.1
            omega
          · rw [if_neg h3] at h ⊢
            have ih := unq_rel s f _ (signB s x).2 hst.2 (fun _ => by omega) h
            rw [List.length_append] at ih
            have := hl (signB s x).1
            omega
theorem text_len {s : ByteArray} {x : St} (hx : x.p ≤ s.size) (h : (textB s x).2.e = 0) : (quoteB ⟨(textB s x).1.toArray⟩).length + 24 * x.p + 4 ≤ 24 * (textB s x).2.p := by
  have hv := text_valid s x h
  have hq := (short_len hv).1
  have hz := list_size (textB s x).1
  unfold textB at h hq hz ⊢
  by_cases h0 : x.e ≠ 0
  · rw [if_pos h0] at h; exact absurd h h0
  · rw [if_neg h0] at h hq hz ⊢
    simp only at h hq hz ⊢
    have h1 : (unquoteB s x.p).2.2 = 0 := Decidable.of_not_not fun h1 => by rw [if_pos h1] at h; exact h1 h
    have htm := twants_mono s ⟨x.p, 0⟩ 34
    have htp : (St.twants s ⟨x.p, 0⟩ 34).p ≤ s.size := htm.2 hx
    have hr := unq_rel s (s.size + 1 - x.p) [] (St.twants s ⟨x.p, 0⟩ 34) htp (fun _ => by have := htm.1; simp only at this; omega) h1
    have hr' : (unquoteB s x.p).1.length + 4 * (St.twants s ⟨x.p, 0⟩ 34).p + 4 ≤ 0 + 4 * (unquoteB s x.p).2.1 := hr
    have h3 := htm.1
    simp only at h3
    omega
theorem sum_snoc {α : Type} (g : α → Nat) (l : List α) (x : α) : ((l ++ [x]).map g).sum = (l.map g).sum + g x := by simp
theorem list_size_le {s : ByteArray} {pv : St → JV × St} {g : JV → Nat} (hpv : ∀ x, x.e = 0 → x.p ≤ s.size → (pv x).2.e = 0 → g (pv x).1 + 30 * x.p ≤ 30 * (pv x).2.p ∧ (pv x).2.p ≤ s.size) : ∀ (f : Nat) (acc : List JV) (x : St), (x.e = 0 → x.p ≤ s.size) → (listLoop s pv f acc x).2.e = 0 →
    ((listLoop s pv f acc x).1.map fun y => g y + 1).sum + 30 * x.p ≤ (acc.map fun y => g y + 1).sum + 30 * (listLoop s pv f acc x).2.p
  | 0, acc, x, _, _ => Nat.le_refl _
  | f + 1, acc, x, hx, h => by
    have more : ((acc ++ [(pv x).1]).map fun y => g y + 1).sum = (acc.map fun y => g y + 1).sum + (g (pv x).1 + 1) := sum_snoc _ _ _
    simp only [listLoop] at h ⊢
    split at h
    · rename_i h1; exact absurd h h1
    · rename_i h1
      have h1' : x.e = 0 := Decidable.of_not_not h1
      rw [if_neg h1]
      split at h
      · rename_i h2; exact absurd h h2
      · rename_i h2
        have h2' : (pv x).2.e = 0 := Decidable.of_not_not h2
        have hp := hpv x h1' (hx h1') h2'
        have hs := see_ge s (pv x).2
        rw [if_neg h2]
        split at h
        · rename_i h3; rw [if_pos h3]; simp only [more, St.step]; omega
        · rename_i h3
          rw [if_neg h3]
          split at h
          · rename_i h4; exact absurd h h4
          · rename_i h4
            rw [if_neg h4]
            have hw := wants_ge s ((pv x).2.see s).2 44
            have hsb := see_bd (s := s) (x := (pv x).2) hp.2
            have hwg := wants_good (s := s) (x := ((pv x).2.see s).2) (c := 44) (by decide) hsb.2
            have ih := list_size_le hpv f _ _ (fun he => (hwg.1.1 he).2) h
            rw [more] at ih
            omega
theorem obj_size_le {s : ByteArray} {pv : St → JV × St} {g : JV → Nat} (hpv : ∀ x, x.e = 0 → x.p ≤ s.size → (pv x).2.e = 0 → g (pv x).1 + 30 * x.p ≤ 30 * (pv x).2.p ∧ (pv x).2.p ≤ s.size) {l : List (ByteArray × JV)} {x : St} (_hx0 : x.e = 0) (hx : x.p ≤ s.size) (h : (memberB s pv l x).2.e = 0) :
    (quoteB (memberB s pv l x).1.1).length + (g (memberB s pv l x).1.2 + 1) + 30 * x.p ≤ 30 * (memberB s pv l x).2.p ∧ (memberB s pv l x).2.p ≤ s.size := by
  have ht : (textB s (if (x.see s).1 ≠ 34 then (x.see s).2.fail 4 else (x.see s).2)).2.e = 0 := Decidable.of_not_not fun h1 => member_text h1 h
  have hs := see_bd (s := s) hx
  have hyp : (if (x.see s).1 ≠ 34 then (x.see s).2.fail 4 else (x.see s).2).p = (x.see s).2.p := by split <;> simp [fail_p]
  have htl := text_len (s := s) (x := if (x.see s).1 ≠ 34 then (x.see s).2.fail 4 else (x.see s).2) (by rw [hyp]; exact hs.2) ht
  have htg := (text_good (s := s) (x := if (x.see s).1 ≠ 34 then (x.see s).2.fail 4 else (x.see s).2) (by rw [hyp]; exact hs.2)).1 ht
  rw [hyp] at htl htg
  unfold memberB at h ⊢
  simp only at h ⊢
  generalize textB s (if (x.see s).1 ≠ 34 then (x.see s).2.fail 4 else (x.see s).2) = t at *
  cases ha : (l.any fun m => m.1.toList == (⟨t.1.toArray⟩ : ByteArray).toList) with
  | true =>
    rw [ha] at h
    simp only [if_true] at h
    have h4 : (t.2.fail 4).e ≠ 0 := fail_not ne4
    rw [if_neg h4, if_neg h4] at h
    exact absurd h h4
  | false =>
    rw [ha] at h
    simp only [Bool.false_eq_true, if_false] at h ⊢
    rw [if_pos ht] at h ⊢
    split at h
    · rename_i h1
      rw [if_pos h1]
      simp only
      have hw := wants_ge s t.2 58
      have hwg := (wants_good (s := s) (x := t.2) (c := 58) (by decide) htg.2).1.1 h1
      have hp := hpv _ h1 hwg.2 h
      omega
    · rename_i h1
      exact absurd h h1
theorem objs_size_le {s : ByteArray} {pv : St → JV × St} {g : JV → Nat} (hpv : ∀ x, x.e = 0 → x.p ≤ s.size → (pv x).2.e = 0 → g (pv x).1 + 30 * x.p ≤ 30 * (pv x).2.p ∧ (pv x).2.p ≤ s.size) : ∀ (f : Nat) (acc : List (ByteArray × JV)) (x : St), (x.e = 0 → x.p ≤ s.size) → (objLoop s pv f acc x).2.e = 0 →
    ((objLoop s pv f acc x).1.map fun y => (quoteB y.1).length + (g y.2 + 1) + 1).sum + 30 * x.p ≤ (acc.map fun y => (quoteB y.1).length + (g y.2 + 1) + 1).sum + 30 * (objLoop s pv f acc x).2.p
  | 0, acc, x, _, _ => Nat.le_refl _
  | f + 1, acc, x, hx, h => by
    have more : ((acc ++ [(memberB s pv acc x).1]).map fun y => (quoteB y.1).length + (g y.2 + 1) + 1).sum = (acc.map fun y => (quoteB y.1).length + (g y.2 + 1) + 1).sum + ((quoteB (memberB s pv acc x).1.1).length + (g (memberB s pv acc x).1.2 + 1) + 1) := sum_snoc _ _ _
    simp only [objLoop] at h ⊢
    split at h
    · rename_i h1; exact absurd h h1
    · rename_i h1
      have h1' : x.e = 0 := Decidable.of_not_not h1
      rw [if_neg h1]
      split at h
      · rename_i h2; exact absurd h h2
      · rename_i h2
        have h2' : (memberB s pv acc x).2.e = 0 := Decidable.of_not_not h2
        have hp := obj_size_le hpv h1' (hx h1') h2'
        have hs := see_ge s (memberB s pv acc x).2
        rw [if_neg h2]
        split at h
        · rename_i h3; rw [if_pos h3]; simp only [more, St.step]; omega
        · rename_i h3
          rw [if_neg h3]
          split at h
          · rename_i h4; exact absurd h h4
          · rename_i h4
            rw [if_neg h4]
            have hw := wants_ge s ((memberB s pv acc x).2.see s).2 44
            have hsb := see_bd (s := s) (x := (memberB s pv acc x).2) hp.2
            have hwg := wants_good (s := s) (x := ((memberB s pv acc x).2.see s).2) (c := 44) (by decide) hsb.2
            have ih := objs_size_le hpv f _ _ (fun he => (hwg.1.1 he).2) h
            rw [more] at ih
            omega
theorem ins_sum (g : ByteArray × JV → Nat) (m : ByteArray × JV) : ∀ l, ((insName m l).map g).sum = g m + (l.map g).sum
  | [] => by simp [insName]
  | x :: r => by
    simp only [insName]
    split
    · simp
    · simp only [List.map_cons, List.sum_cons, ins_sum g m r]; omega
theorem sort_sum (g : ByteArray × JV → Nat) : ∀ l, ((sortNames l).map g).sum = (l.map g).sum
  | [] => rfl
  | x :: r => by
    have ih := sort_sum g r
    unfold sortNames at ih ⊢
    rw [List.foldr_cons, ins_sum, ih, List.map_cons, List.sum_cons]
theorem value_len (s : ByteArray) : ∀ (d : Nat) (x : St), x.e = 0 → x.p ≤ s.size → (valueB s d x).2.e = 0 → (printB d (valueB s d x).1).length + 30 * x.p ≤ 30 * (valueB s d x).2.p
  | 0, x, _, _, h => absurd (value_may s 0 x h) (by simp [mayJ])
  | d + 1, x, hx0, hx, h => by
    have ih : ∀ x, x.e = 0 → x.p ≤ s.size → (valueB s d x).2.e = 0 → (printB d (valueB s d x).1).length + 30 * x.p ≤ 30 * (valueB s d x).2.p ∧ (valueB s d x).2.p ≤ s.size := fun x h0 hx h =>
      ⟨value_len s d x h0 hx h, ((value_good s d x h0 hx).1 h).2⟩
    have hs := see_bd (s := s) hx
    simp only [valueB] at h ⊢
    split at h
    · rename_i h1; exact absurd h h1
    · rename_i h1
      have h1' : (x.see s).2.e = 0 := Decidable.of_not_not h1
      have hlt := (see_good h1').1
      rw [if_neg h1]
      split at h
      · rename_i h2
        rw [if_pos h2]
        unfold listB at h ⊢
        simp only at h ⊢
        have hst : (x.see s).2.step.p = (x.see s).2.p + 1 := rfl
        generalize (x.see s).2.step = st at *
        have hs2 := see_bd (s := s) (x := st) (by omega)
        split at h
        · rename_i h3
          rw [if_pos h3]
          show (91 :: ([] ++ [93])).length + _ ≤ _
          simp only [St.step, List.length_cons, List.length_append, List.length_nil]; omega
        · rename_i h3
          rw [if_neg h3]
          have hl := list_size_le (g := fun y => (printB d y).length) ih _ [] _ (fun _ => hs2.2) h
          generalize listLoop s (valueB s d) (s.size + 1 - (st.see s).2.p) [] (st.see s).2 = R at *
          have hj := join_sum (printB d) R.1 true
          show (91 :: (joinFrom (printB d) true R.1 ++ [93])).length + _ ≤ _
          simp only [List.map_nil, List.sum_nil, List.length_cons, List.length_append, List.length_nil] at hl hj ⊢
          omega
      · rename_i h2
        rw [if_neg h2]
        split at h
        · rename_i h3
          rw [if_pos h3]
          unfold objectB at h ⊢
          simp only at h ⊢
          have hst : (x.see s).2.step.p = (x.see s).2.p + 1 := rfl
          generalize (x.see s).2.step = st at *
          have hs2 := see_bd (s := s) (x := st) (by omega)
          split at h
          · rename_i h4
            rw [if_pos h4]
            show (123 :: ([] ++ [125])).length + _ ≤ _
            simp only [St.step, List.length_cons, List.length_append, List.length_nil]; omega
          · rename_i h4
            rw [if_neg h4]
            have hl := objs_size_le (g := fun y => (printB d y).length) ih _ [] _ (fun _ => hs2.2) h
            generalize objLoop s (valueB s d) (s.size + 1 - (st.see s).2.p) [] (st.see s).2 = R at *
            have hso := sort_sum (fun y => (quoteB y.1).length + ((printB d y.2).length + 1) + 1) R.1
            have hj := join_sum (prMem d) (sortNames R.1) true
            have hpm : (fun q : ByteArray × JV => (prMem d q).length + 1) = fun y => (quoteB y.1).length + ((printB d y.2).length + 1) + 1 := by
              funext q; simp [prMem]
            rw [hpm, hso] at hj
            show (123 :: (joinFrom (prMem d) true (sortNames R.1) ++ [125])).length + _ ≤ _
            simp only [List.map_nil, List.sum_nil, List.length_cons, List.length_append, List.length_nil] at hl hj ⊢
            omega
        · rename_i h3
          rw [if_neg h3]
          split at h
          · rename_i h4
            rw [if_pos h4]
            have htl := text_len hs.2 h
            show (quoteB ⟨(textB s (x.see s).2).1.toArray⟩).length + _ ≤ _
            simp only
            omega
          · rename_i h4
            rw [if_neg h4]
            split at h
            · rename_i h5; rw [if_pos h5]
              have := word_len (by decide) h d
              omega
            · rename_i h5
              rw [if_neg h5]
              split at h
              · rename_i h6; rw [if_pos h6]
                have := word_len (by decide) h d
                omega
              · rename_i h6
                rw [if_neg h6]
                split at h
                · rename_i h7; rw [if_pos h7]
                  have := word_len (by decide) h d
                  omega
                · rename_i h7; rw [if_neg h7]
                  have := number_len h d
                  omega
/-- what Parse reads, printed -/
theorem parse_len {s : ByteArray} (h : (parseB s).2 = 0) : (printB 64 (parseB s).1).length ≤ 600000 := by
  unfold parseB at h ⊢
  split at h
  · exact absurd h (by decide)
  · rename_i h1
    rw [if_neg h1]
    split at h
    · rename_i h2; exact absurd h h2
    · rename_i h2
      rw [if_neg h2]
      have he := endB_zero (Decidable.of_not_not h2)
      have hl := value_len s 64 ⟨0, 0⟩ rfl (Nat.zero_le _) he
      have hg := ((value_good s 64 ⟨0, 0⟩ rfl (Nat.zero_le _)).1 he).2
      simp only at hl ⊢
      omega
end Go.Proofs.YtjjgbgojlhaapaaGreatDoor
namespace Go.Proofs.YtjjgbgojlhaapaaGreatDoor
open Go.RowKit Go.Lib

def Fwd (s : ByteArray) (x y : St) : Prop := x.p ≤ y.p ∧ y.p ≤ s.size
theorem Fwd.fail {s : ByteArray} {x y : St} (h : Fwd s x y) (e : Int) : Fwd s x (y.fail e) := by
  unfold Fwd
  rw [fail_p]
  exact h
theorem word_le (s : ByteArray) : ∀ (l : List UInt8) (x : St), (wordIn s l x).1 = true → x.p ≤ s.size → x.p + l.length ≤ s.size
  | [], x, _, h => by simpa using h
  | c :: l, x, h, hp => by
    simp only [wordIn] at h
    split at h
    · cases h
    · split at h
      · cases h
      · have := word_le s l x.step h (by simp only [St.step]; omega)
        simp only [St.step] at this
        rw [List.length_cons]
        omega
theorem word_fwd (s : ByteArray) (l : List UInt8) (k : Int) (x : St) (hp : x.p ≤ s.size) : Fwd s x (wordR s l k x).2 := by
  unfold wordR
  by_cases h : (wordIn s l x).1 = true
  · rw [if_pos h]
    exact ⟨Nat.le_add_right _ _, word_le s l x h hp⟩
  · rw [if_neg h]
    exact ⟨Nat.le_refl _, hp⟩
theorem digit_lt {s : ByteArray} {p : Nat} (h : digitB s p = true) : p < s.size := by
  unfold digitB at h
  simp at h
  exact h.1
theorem numLoop_fwd (s : ByteArray) (z : Bool) : ∀ (f k : Nat) (n : Int) (p : Nat), p ≤ s.size → p ≤ (numLoopR s z f k n p).2.2 ∧ (numLoopR s z f k n p).2.2 ≤ s.size
  | 0, _, _, p, hp => ⟨Nat.le_refl _, hp⟩
  | f + 1, k, n, p, hp => by
    simp only [numLoopR]
    split
    · rename_i hd
      have := digit_lt hd
      split
      · exact ⟨Nat.le_refl _, hp⟩
      · have ih := numLoop_fwd s z f (k + 1) (min (10 * n + ((byteAt s p).toNat - 48 : Int)) 288230376151711744) (p + 1) (by omega)
        exact ⟨by omega, ih.2⟩
    · exact ⟨Nat.le_refl _, hp⟩
theorem numAt_fwd (s : ByteArray) (neg : Bool) (x : St) (hp : x.p ≤ s.size) : Fwd s x (numAtR s neg x).2 := by
  have hl := numLoop_fwd s (byteAt s x.p == 48) (s.size - x.p) 0 0 x.p hp
  unfold numAtR numEndR
  split
  · exact Fwd.fail ⟨Nat.le_refl _, hp⟩ _
  · split
    · exact Fwd.fail ⟨Nat.le_refl _, hp⟩ _
    · split
      · exact Fwd.fail (y := ⟨_, _⟩) hl _
      · split
        · exact Fwd.fail (y := ⟨_, _⟩) hl _
        · split
          · exact Fwd.fail (y := ⟨_, _⟩) hl _
          · exact hl
theorem num_fwd (s : ByteArray) (x : St) (hp : x.p < s.size) : Fwd s x (numR s x).2 := by
  unfold numR
  split
  · have := numAt_fwd s true x.step (by simp only [St.step]; omega)
    unfold Fwd at this ⊢
    simp only [St.step] at this
    exact ⟨by have := this.1; simp only [St.step]; omega, this.2⟩
  · exact numAt_fwd s false x (by omega)
theorem next_ge (s : ByteArray) (c : UInt8) (x : St) (hp : x.p ≤ s.size) : Fwd s x (nextD s c x).2 := by
  have hb := blanks_le hp
  unfold nextD
  simp only
  split
  · exact hb
  · split
    · exact Fwd.fail hb _
    · split
      · exact Fwd.fail hb _
      · exact ⟨by simp only [St.step]; omega, by simp only [St.step]; omega⟩
theorem empty_fwd (s : ByteArray) (c : UInt8) (x : St) (hp : x.p < s.size) : Fwd s x (emptyD s c x).2 := by
  have hb := blanks_le (s := s) (x := x.step) (by simp only [St.step]; omega)
  simp only [St.step] at hb
  unfold emptyD
  simp only
  split
  · rename_i h
    exact ⟨by simp only [St.step]; simp only [St.step] at h; omega, by simp only [St.step]; simp only [St.step] at h; omega⟩
  · exact ⟨by simp only [St.step]; omega, by simp only [St.step]; omega⟩
theorem text_fwd (s : ByteArray) (x : St) (hp : x.p ≤ s.size) : Fwd s x (textD s x).2 := by
  unfold textD
  by_cases h1 : (unquoteB s x.p).2.2 = 0
  · rw [if_neg (show ¬ (unquoteB s x.p).2.2 ≠ 0 from fun h => h h1)]
    have htm := twants_mono s ⟨x.p, 0⟩ 34
    have htp : (St.twants s ⟨x.p, 0⟩ 34).p ≤ s.size := htm.2 hp
    have hr := unq_rel s (s.size + 1 - x.p) [] (St.twants s ⟨x.p, 0⟩ 34) htp (fun _ => by have := htm.1; simp only at this; omega) h1
    have hr' : (unquoteB s x.p).1.length + 4 * (St.twants s ⟨x.p, 0⟩ 34).p + 4 ≤ 0 + 4 * (unquoteB s x.p).2.1 := hr
    have h3 := htm.1
    simp only at h3
    have hle := unquote_le s x.p hp
    have hb : Fwd s x ⟨(unquoteB s x.p).2.1, x.e⟩ := ⟨by simp only; omega, hle⟩
    simp only
    split
    · exact hb.fail 3
    · exact hb
  · rw [if_pos h1]
    exact Fwd.fail ⟨Nat.le_refl _, hp⟩ _
/-- a parser of values goes forth -/
def FwdV (s : ByteArray) (pv : St → JV × St) : Prop := ∀ x : St, x.e = 0 → x.p ≤ s.size → x.p ≤ (pv x).2.p ∧ (pv x).2.p ≤ s.size
theorem list_fwd {s : ByteArray} {pv : St → JV × St} (h : FwdV s pv) : ∀ (f : Nat) (acc : List JV) (x : St), x.e = 0 → x.p ≤ s.size → Fwd s x (listLoopD s pv f acc x).2
  | 0, _, _, _, hp => ⟨Nat.le_refl _, hp⟩
  | f + 1, acc, x, h0, hp => by
    have hv := h x h0 hp
    have hn := next_ge s 93 (pv x).2 hv.2
    simp only [listLoopD]
    split
    · rename_i hb
      have he : (pv x).2.e = 0 := by
        by_cases hz : (pv x).2.e = 0
        · exact hz
        · rw [next_err hz] at hb; cases hb
      have ih := list_fwd h f (acc ++ [(pv x).1]) (nextD s 93 (pv x).2).2 (next_e he hb) hn.2
      exact ⟨Nat.le_trans hv.1 (Nat.le_trans hn.1 ih.1), ih.2⟩
    · exact ⟨Nat.le_trans hv.1 hn.1, hn.2⟩
theorem obj_fwd {s : ByteArray} {pv : St → JV × St} (h : FwdV s pv) : ∀ (f : Nat) (acc : List (ByteArray × JV)) (x : St), x.e = 0 → x.p ≤ s.size → Fwd s x (objLoopD s pv f acc x).2
  | 0, _, _, _, hp => ⟨Nat.le_refl _, hp⟩
  | f + 1, acc, x, h0, hp => by
    have hb := blanks_le hp
    have ht := text_fwd s (x.blanks s) hb.2
    have hz := blanks_le ht.2
    have hxz : Fwd s x ((textD s (x.blanks s)).2.blanks s) := ⟨Nat.le_trans hb.1 (Nat.le_trans ht.1 hz.1), hz.2⟩
    simp only [objLoopD]
    generalize textD s (x.blanks s) = t at *
    split
    · exact Fwd.fail (y := t.2) ⟨Nat.le_trans hb.1 ht.1, ht.2⟩ 4
    · split
      · exact hxz
      · rename_i he
        have he0 : (t.2.blanks s).e = 0 := Decidable.of_not_not he
        split
        · exact hxz.fail 2
        · rename_i hlt
          split
          · exact hxz.fail 4
          · have hsp : (t.2.blanks s).step.p ≤ s.size := by simp only [St.step]; omega
            have hv := h (t.2.blanks s).step he0 hsp
            have hst : x.p ≤ (t.2.blanks s).step.p := Nat.le_trans hxz.1 (Nat.le_succ _)
            generalize (t.2.blanks s).step = u at *
            have hn := next_ge s 125 (pv u).2 hv.2
            split
            · rename_i hbn
              have hve : (pv u).2.e = 0 := by
                by_cases hzz : (pv u).2.e = 0
                · exact hzz
                · rw [next_err hzz] at hbn; cases hbn
              have ih := obj_fwd h f (insR (⟨t.1.toArray⟩, (pv u).1) acc) (nextD s 125 (pv u).2).2 (next_e hve hbn) hn.2
              exact ⟨Nat.le_trans hst (Nat.le_trans hv.1 (Nat.le_trans hn.1 ih.1)), ih.2⟩
            · exact ⟨Nat.le_trans hst (Nat.le_trans hv.1 hn.1), hn.2⟩
theorem empty_e (s : ByteArray) (c : UInt8) (x : St) : (emptyD s c x).2.e = x.e := by
  unfold emptyD
  simp only
  split <;> rfl
theorem value_fwd (s : ByteArray) : ∀ d, FwdV s (valueD s d)
  | d, x, h0, hp => by
    have hb := blanks_le hp
    have hbe : (x.blanks s).e = 0 := h0
    unfold valueD
    simp only
    generalize x.blanks s = y at *
    have go : ∀ z : St, Fwd s y z → x.p ≤ z.p ∧ z.p ≤ s.size := fun z hz => ⟨Nat.le_trans hb.1 hz.1, hz.2⟩
    have rf : Fwd s y y := ⟨Nat.le_refl _, hb.2⟩
    split
    · exact go _ (rf.fail 2)
    · rename_i hlt
      split
      · exact go _ (rf.fail 4)
      · cases d with
        | zero => exact go _ (rf.fail 10)
        | succ d =>
          have ih := value_fwd s d
          have hy : y.p < s.size := by omega
          simp only
          split
          · exact go _ (word_fwd s _ _ y hb.2)
          · split
            · exact go _ (word_fwd s _ _ y hb.2)
            · split
              · exact go _ (word_fwd s _ _ y hb.2)
              · split
                · exact go _ (text_fwd s y hb.2)
                · split
                  · have he := empty_fwd s 93 y hy
                    have hee := (empty_e s 93 y).trans hbe
                    unfold listD
                    simp only
                    split
                    · exact go _ he
                    · have hl := list_fwd ih (s.size + 1 - (emptyD s 93 y).2.p) [] _ hee he.2
                      exact go _ ⟨Nat.le_trans he.1 hl.1, hl.2⟩
                  · split
                    · have he := empty_fwd s 125 y hy
                      have hee := (empty_e s 125 y).trans hbe
                      unfold objectD
                      simp only
                      split
                      · exact go _ he
                      · have hl := obj_fwd ih (s.size + 1 - (emptyD s 125 y).2.p) [] _ hee he.2
                        exact go _ ⟨Nat.le_trans he.1 hl.1, hl.2⟩
                    · exact go _ (num_fwd s y hy)
end Go.Proofs.YtjjgbgojlhaapaaGreatDoor
