/- json: sorted: slices.SortFunc on members, by their names. -/
import Derived.Test.YtjjgbgojlhaapaaDoorRe
import Derived.Test.YtjjgbgojlhaapaaDoorShelfS
import Derived.Sort.Walk0
import Derived.Laws.Cover1
namespace Go.Proofs.YtjjgbgojlhaapaaDoor
open Go.RowKit Go.Lib Go.Sort Go.Shelf

def cmpS (a b : ByteArray) : Int := if Op.bytesLess a.toList b.toList then -1 else if Op.bytesLess b.toList a.toList then 1 else 0
theorem less_not (a b : List UInt8) (h : Op.bytesLess a b = false) : (!(Op.bytesLess a b || a == b)) = Op.bytesLess b a := by
  rw [bytesLess_eq] at h ⊢
  rw [bytesLess_eq, h]
  have h1 : ¬ a < b := by simpa using h
  have h2 : b ≤ a := List.not_lt.1 h1
  by_cases he : a = b
  · subst he; simp
  · have e1 : (a == b) = false := by simpa using he
    rw [e1]
    have : b < a := by
      rcases List.le_iff_lt_or_eq.1 h2 with h | h
      · exact h
      · exact absurd h.symm he
    simpa using this
set_option maxHeartbeats 1000000 in
theorem isNaN_any (a : ByteArray) (w : World) : Calls Tryd.prog 119 #[.string a] w fun e w' => e = .returned (.bool false) ∧ w' = w := by
  have h : (a.toList != a.toList) = false := by simp
  go_enter Tryd.func119, Tryd.ntmps119
  go_wp2_with fail
  go_ret
  exact ⟨rfl, rfl⟩
set_option maxHeartbeats 1000000 in
theorem compare_any (a b : ByteArray) (w : World) : Calls Tryd.prog 107 #[.string a, .string b] w fun e w' => e = .returned (.int .i64 (cmpS a b)) ∧ w' = w := by
  unfold cmpS
  cases h1 : Op.bytesLess a.toList b.toList
  · have h2 := less_not _ _ h1
    have h3 : (a.toList == b.toList) = !Op.bytesLess b.toList a.toList := by rw [← h2, h1]; simp
    clear h2
    generalize Op.bytesLess b.toList a.toList = c at *
    cases c
    all_goals
      go_enter Tryd.func107, Tryd.ntmps107
      go_wp2_with fail
      refine Calls.mono (isNaN_any a _) ?_
      rintro e w1 ⟨rfl, rfl⟩
      go_wp2_with fail
      refine Calls.mono (isNaN_any b _) ?_
      rintro e w1 ⟨rfl, rfl⟩
      go_wp2_with fail
      go_ret
      exact ⟨rfl, rfl⟩
  · go_enter Tryd.func107, Tryd.ntmps107
    go_wp2_with fail
    refine Calls.mono (isNaN_any a _) ?_
    rintro e w1 ⟨rfl, rfl⟩
    go_wp2_with fail
    refine Calls.mono (isNaN_any b _) ?_
    rintro e w1 ⟨rfl, rfl⟩
    go_wp2_with fail
    go_ret
    exact ⟨rfl, rfl⟩
/-- a member's cells -/
structure MC where
  nm : ByteArray
  k : Int
  n : Int
  s : ByteArray
  a1 : Option Addr
  n1 : Nat
  c1 : Nat
  a2 : Option Addr
  n2 : Nat
  c2 : Nat
instance : Inhabited MC := ⟨⟨⟨#[]⟩, 0, 0, ⟨#[]⟩, none, 0, 0, none, 0, 0⟩⟩
def MC.cells (x : MC) : List Value := [.string x.nm, .int .i64 x.k, .int .i64 x.n, .string x.s, .slice x.a1 x.n1 x.c1, .slice x.a2 x.n2 x.c2]
theorem MC.len (x : MC) : x.cells.length = 6 := rfl
theorem MC.one (x : MC) : ∀ v ∈ x.cells, v.oneCell' = true := by
  intro v hv
  simp [MC.cells] at hv
  rcases hv with rfl | rfl | rfl | rfl | rfl | rfl <;> rfl
set_option maxHeartbeats 1000000 in
theorem sortBy_any (x y : MC) (W : World) : Calls Tryd.prog 106 #[.agg x.cells.toArray, .agg y.cells.toArray] W fun e w' => e = .returned (.int .i64 (cmpS x.nm y.nm)) ∧ ∃ q os', w' = grow (W.drewN q) os' := by
  have hc := fun W' => compare_any x.nm y.nm W'
  generalize cmpS x.nm y.nm = r at *
  go_enter Tryd.func106, Tryd.ntmps106
  simp only [MC.cells]
  go_wp2_with fail
  refine Calls.mono (hc _) ?_
  rintro e w1 ⟨rfl, rfl⟩
  go_wp2_with fail
  go_ret
  exact ⟨rfl, 0, _, by rw [alloc_eq_grow, alloc_eq_grow, grow_grow]; rfl⟩
def cfM (x y : MC) : Int := cmpS x.nm y.nm
theorem lt_cfM (x y : MC) : ltOf cfM x y = Op.bytesLess x.nm.toList y.nm.toList := by
  unfold ltOf cfM cmpS
  cases Op.bytesLess x.nm.toList y.nm.toList
  · cases Op.bytesLess y.nm.toList x.nm.toList <;> rfl
  · rfl
theorem swoM : SWO (ltOf cfM) where
  irrefl x := by rw [lt_cfM, bytesLess_eq]; simp [List.lt_irrefl]
  trans x y z h1 h2 := by rw [lt_cfM, bytesLess_eq] at *; simp at *; exact List.lt_trans h1 h2
  ntrans x y z h1 h2 := by rw [lt_cfM, bytesLess_eq] at *; simp at *; exact List.le_trans h2 h1
theorem cmpLays (blk off size : Nat) (w : World) : CmpLays Tryd.prog 106 #[] MC.cells 6 cfM blk off size w := fun _ _ _ _ x y => sortBy_any x y _

/-! the row of the members -/
def mcFlat (l : List MC) : List Value := l.flatMap MC.cells
theorem mcFlat_len (l : List MC) : (mcFlat l).length = l.length * 6 := by
  induction l with
  | nil => rfl
  | cons x l ih => simp only [mcFlat, List.flatMap_cons, List.length_append, List.length_cons] at *; rw [ih, MC.len]; omega
theorem mcFlat_get : ∀ (l : List MC) (t : Nat), t < l.length * 6 → (mcFlat l)[t]? = some ((l[t / 6]!).cells[t % 6]!)
  | [], t, h => by simp at h
  | x :: l, t, h => by
    simp only [mcFlat, List.flatMap_cons]
    by_cases h6 : t < 6
    · rw [List.getElem?_append_left (by rw [MC.len]; exact h6), Nat.div_eq_of_lt h6, Nat.mod_eq_of_lt h6]
      have : t < x.cells.length := by rw [MC.len]; exact h6
      simp [this]
    · have ih := mcFlat_get l (t - 6) (by simp only [List.length_cons] at h; omega)
      rw [List.getElem?_append_right (by rw [MC.len]; omega), MC.len]
      rw [mcFlat] at ih
      rw [ih]
      have e1 : t / 6 = (t - 6) / 6 + 1 := by omega
      have e2 : t % 6 = (t - 6) % 6 := by omega
      rw [e1, e2]; simp
theorem flatK_eq (d : Array MC) : flatK MC.cells 6 d = (mcFlat d.toList).toArray := by
  refine ext_get! (by simp [mcFlat_len]) fun t ht => ?_
  rw [size_flatK] at ht
  rw [get_flatK _ _ _ _ ht]
  have := mcFlat_get d.toList t (by simpa using ht)
  have h2 : t < (mcFlat d.toList).toArray.size := by simpa [mcFlat_len] using ht
  rw [getElem!_pos _ t h2]
  simp only [List.getElem_toArray]
  have h3 : t < (mcFlat d.toList).length := by simpa using h2
  rw [List.getElem?_eq_getElem h3] at this
  rw [Option.some.inj this]
  have hi : t / 6 < d.size := by omega
  rw [getElem!_pos d (t / 6) hi, getElem!_pos d.toList (t / 6) (by simpa using hi)]
  simp
theorem putCells_take (F cur : Array Value) (h : F.size ≤ cur.size) : (putCells id 0 F cur).toList.take F.size = F.toList := by
  apply List.ext_getElem?
  intro k
  by_cases hk : k < F.size
  · rw [List.getElem?_take_of_lt hk]
    simp [putCells, hk, Nat.lt_of_lt_of_le hk h]
  · rw [List.getElem?_eq_none (by simp [putCells]; omega), List.getElem?_eq_none (by simp; omega)]
set_option maxHeartbeats 2000000 in
theorem sorted_any (base : Nat) (v : Value) (ms : List MC) (w : World) (hown : w.ownsRow base 78 6 v ms.length (mcFlat ms)) (hn : ms.length < 4611686018427387904) :
    Calls Tryd.prog 90 #[v] w fun e w' => e = .returned v ∧ ∃ ms', ms'.Perm ms ∧ ms'.Pairwise (fun a b => Op.bytesLess b.nm.toList a.nm.toList = false) ∧ w'.ownsRow base 78 6 v ms'.length (mcFlat ms') ∧ w.grownBy w' v.ownBlock := by
  rcases hown.2 with ⟨rfl, h0⟩ | ⟨g, cap, cur, rfl, hb, hg, hnc, hcm, hcs, htake⟩
  · obtain rfl : ms = [] := List.eq_nil_of_length_eq_zero h0
    have hS := fun W => AnyF.slices_SortFunc_none (P := Tryd.prog) (ρ := Tryd.sortL_ren) { Tryd.sortL with } none 0 (.func (.func 106) #[] #[]) W
    change ∀ W, Calls Tryd.prog 105 _ _ _ at hS
    have HO := Lib.hid hown
    clear hown
    go_enter Tryd.func90, Tryd.ntmps90
    go_wp2_with fail
    refine Calls.mono (hS _) ?_
    rintro e w1 ⟨rfl, rfl⟩
    go_wp2_with fail
    go_ret
    exact ⟨rfl, [], List.Perm.nil, List.Pairwise.nil, HO.out, grown_refl _ _⟩
  · have eg : ∀ args w, (callFunc 106 args).run Tryd.prog w = .ok (.enter 106 args) w := enters_of Tryd.func106 (by kernel_rfl) rfl
    have hH : HoldsK MC.cells 6 w g 0 ms.toArray := by
      unfold HoldsK Holds
      rw [flatK_eq]
      intro j hj
      have hj' : j < (mcFlat ms).length := by simpa using hj
      refine ⟨?_, by simp [World.frozen?, hg]⟩
      have := hown.cells (g := g) rfl j (mcFlat ms)[j] (List.getElem?_eq_getElem hj')
      rw [Addr.add_lit] at this
      rw [this, getElem!_pos _ j hj]
      simp
    have hgw : g < w.heap.size := (Array.getElem?_eq_some_iff.1 hg).1
    have hcon := AnyQ.slices_SortFunc Tryd.sortL 6 Tryd.isAgg78 Tryd.sizeOf78 MC.cells MC.len MC.one cfM swoM 106 #[] g 0 cap ms.toArray w eg (cmpLays g 0 ms.toArray.size w) hH hgw (by simpa using hn)
    change Calls Tryd.prog 105 _ _ _ at hcon
    have hsz : ms.toArray.size = ms.length := by simp
    rw [hsz] at hcon
    have HC := Lib.hid hcon; have HG := Lib.hid hg; have HT := Lib.hid htake; have HCS := Lib.hid hcs
    clear hown hH hcon hsz hg htake hcs
    generalize hN : ms.length = N at *
    have HN := Lib.hid hN
    clear hN
    go_enter Tryd.func90, Tryd.ntmps90
    go_wp2_with fail
    refine Calls.mono HC.out ?_
    rintro e w1 ⟨rfl, d', n, os, hp, hs, hw1⟩
    have HP := Lib.hid hp; have HS := Lib.hid hs; have HW := Lib.hid hw1
    clear hp hs hw1
    go_wp2_with fail
    go_ret
    obtain ⟨hd1, _, hd3⟩ := HP.out
    have hdN : d'.size = N := by rw [hd1]; simpa using HN.out
    have hlN : d'.toList.length = N := by simpa using hdN
    have e1 : d'.extract 0 N = d' := by rw [← hdN]; simp
    have e2 : ms.toArray.extract 0 N = ms.toArray := by rw [← HN.out]; simp
    rw [e1, e2] at hd3
    have hheap : w1.heap[g]? = some (.cells (putCells id 0 (mcFlat d'.toList).toArray cur) 78 (0, 0)) := by
      rw [HW.out]
      unfold sortWorldK putRowK putRow mapBlock
      rw [flatK_eq]
      simp only [grow, heap_ahead]
      rw [Array.getElem?_append_left (by simpa using hgw)]
      rw [Array.getElem?_modify, if_pos rfl, HG.out]
      rfl
    refine ⟨rfl, d'.toList, by simpa using hd3, ?_, ⟨by rw [mcFlat_len], .inr ⟨g, cap, _, by rw [hlN], hb, hheap, by rw [hlN]; exact hnc, hcm, ?_, ?_⟩⟩, ?_⟩
    · rw [List.pairwise_iff_getElem]
      intro i j hi hj hij
      have := HS.out i j (Nat.zero_le _) hij (by rw [← hlN]; exact hj)
      rw [lt_cfM] at this
      rw [getElem!_pos d' j (by simpa using hj), getElem!_pos d' i (by simpa using hi)] at this
      simpa using this
    · simp [putCells]; exact HCS.out
    · have := putCells_take (mcFlat d'.toList).toArray cur (by simp only [List.size_toArray, mcFlat_len]; rw [HCS.out, hlN]; exact Nat.mul_le_mul_right _ hnc)
      simpa [mcFlat_len] using this
    · rw [HW.out]
      refine ⟨rfl, rfl, rfl, ?_, fun k hk hne => ?_⟩
      · simp [sortWorldK, grow, putRowK]
      · have hkg : ¬ g = k := by rintro rfl; exact hne rfl
        unfold sortWorldK putRowK putRow mapBlock
        simp only [grow, heap_ahead]
        rw [Array.getElem?_append_left (by simpa using hk)]
        simp [Array.getElem?_modify, hkg]
end Go.Proofs.YtjjgbgojlhaapaaDoor
