/- hblref.CopyBytes: the walk; slices of bytes that are a call's own. -/
import Derived.Test.YtjjgbgojlhaapaaDoorPs
namespace Go.Proofs.YtjjgbgojlhaapaaDoor
open Go.RowKit Go.Lib

theorem u8Info : (Tryd.prog.info? 5).map (fun i => (i.zero, i.size, i.bytes)) = some (some (.int .u8 0), 1, 1) := by kernel_rfl
theorem byteCells_one' (l : List UInt8) : ∀ v ∈ Lib.byteCells l, v.oneCell' = true := by
  intro v hv
  simp only [Lib.byteCells, List.mem_map] at hv
  obtain ⟨x, _, rfl⟩ := hv
  rfl
theorem byteCells_get (l : List UInt8) (j : Nat) (u : Value) (h : (Lib.byteCells l)[j]? = some u) : ∃ hj : j < l.length, u = .int .u8 (l[j].toNat : Int) := by
  have hj := lt_of_get h
  rw [show (Lib.byteCells l).length = l.length by simp [Lib.byteCells]] at hj
  refine ⟨hj, ?_⟩
  simp [Lib.byteCells, hj] at h
  exact h.symm
theorem own_bsl {w : World} {base : Nat} {v : Value} {l : List UInt8} (h : w.ownsRow base 5 1 v l.length (Lib.byteCells l)) : BSl w (fun b => base ≤ b) v ⟨l.toArray⟩ := by
  have hz : (⟨l.toArray⟩ : ByteArray).size = l.length := by simp [ByteArray.size]
  rcases h.2 with ⟨rfl, h0⟩ | ⟨g, cap, cur, rfl, hg, hh, h1, h2, h3, h4⟩
  · exact .inr ⟨by rw [hz]; exact h0, none, 0, rfl⟩
  · refine .inl ⟨g, 0, cap, by rw [hz], hg, fun i hi => ?_⟩
    rw [hz] at hi
    have := h.cells (g := g) rfl i (.int .u8 (l[i].toNat : Int)) (by simp [Lib.byteCells, hi])
    rw [Addr.add_lit] at this
    exact this
theorem bsl_cells {w : World} {b o : Nat} {s : ByteArray} (hc : Lib.Bytes w b o s) : ∀ j u, (Lib.byteCells s.data.toList)[j]? = some u → w.cell? ((⟨b, o, none⟩ : Addr).add j) = some u := fun j u hj => by
  obtain ⟨hl, rfl⟩ := byteCells_get _ _ _ hj
  rw [Addr.add_lit]
  exact hc j (by rw [Array.length_toList] at hl; exact hl)
/-- the head of a slice of bytes -/
theorem bsl_take {w : World} {F : Nat → Prop} {A : Option Addr} {n c k : Nat} {l : List UInt8} (h : BSl w F (.slice A n c) ⟨l.toArray⟩) (hk : k ≤ l.length) : BSl w F (.slice A k c) ⟨(l.take k).toArray⟩ := by
  have hz : (⟨l.toArray⟩ : ByteArray).size = l.length := by simp [ByteArray.size]
  have hzk : (⟨(l.take k).toArray⟩ : ByteArray).size = k := by simp [ByteArray.size]; omega
  rcases h with ⟨b, o, c', e, hF, hc⟩ | ⟨h0, A', c', e⟩
  · injection e with e1 e2 e3
    subst e1; subst e3
    refine .inl ⟨b, o, c, by rw [hzk], hF, fun i hi => ?_⟩
    rw [hzk] at hi
    have := hc i (by rw [hz]; omega)
    exact this.trans (by show some (Value.int .u8 (l[i].toNat : Int)) = some (Value.int .u8 ((l.take k)[i].toNat : Int)); rw [List.getElem_take])
  · injection e with e1 e2 e3
    subst e1; subst e3
    rw [hz] at h0
    obtain rfl : k = 0 := by omega
    exact .inr ⟨by rw [hzk], A, c, rfl⟩
theorem run_append_own_nil {P : Program} {w : World} (_base : Nat) (t ty e : TypeId) (i : TypeInfo) (ht : P.underlying t = some (.slice e)) (hi : P.info? e = some i) (g : Nat) (A : Option Addr) (c cc : Nat) :
    (Builtin.append_ #[t, t] ty #[.slice (some ⟨g, 0, none⟩) 0 cc, .slice A 0 c]).run P w = .ok (.slice (some ⟨g, 0, none⟩) 0 cc) w := by
  cases A with
  | none => simp [Builtin.append_, run_underlying ht, sizeOf, typeInfo, hi, Builtin.lenOf, Builtin.firstCells, storeCells]
  | some a => simp [Builtin.append_, run_underlying ht, sizeOf, typeInfo, hi, Builtin.lenOf, Builtin.firstCells, storeCells, loadCells, loadCellsFrom]
set_option maxRecDepth 100000 in
set_option maxHeartbeats 4000000 in
theorem copyBytes_any (v : Value) (l : List UInt8) (F : Nat → Prop) (w : World) (hb : BSl w F v ⟨l.toArray⟩) (hs : l.length ≤ 1000000) :
    Calls Tryd.prog 30 #[v] w fun e w' => (∃ v', e = .returned v' ∧ w'.ownsRow w.heap.size 5 1 v' l.length (Lib.byteCells l)) ∧ Below w.heap.size w w' := by
  have hz : (⟨l.toArray⟩ : ByteArray).size = l.length := by simp [ByteArray.size]
  obtain ⟨i0, hi, hz0, hz1, hz2⟩ := info_parts u8Info
  have hbA : Below w.heap.size w (w.alloc (.cells #[] 5)) := bel_alloc (Below.refl _ _) _
  have hown0 : (w.alloc (.cells #[] 5)).ownsRow w.heap.size 5 1 (.slice (some ⟨w.heap.size, 0, none⟩) 0 0) 0 [] := World.ownsRow_made w #[] 0 (Nat.le_refl _) (by decide) (by simp)
  rcases hb with ⟨b, o, c, rfl, hF, hc⟩ | ⟨h0, A, c, rfl⟩
  · have hsrc : ∀ j u, (Lib.byteCells l)[j]? = some u → (w.alloc (.cells #[] 5)).cell? ((⟨b, o, none⟩ : Addr).add j) = some u := fun j u hj => cell_later' hbA (bsl_cells hc j u hj)
    have hCl : (Lib.byteCells l).length = l.length * 1 := by simp [Lib.byteCells]
    have s1 : 0 + l.length ≤ maxLen := by simp only [maxLen]; omega
    have s2 : (0 + l.length) * 1 ≤ 140737488355328 := by omega
    have one1 := byteCells_one' l
    rw [hz]
    have SR := Lib.hid hsrc; have O0 := Lib.hid hown0; have CL := Lib.hid hCl; have S1 := Lib.hid s1; have S2 := Lib.hid s2; have S3 := Lib.hid hbA.size; have HBA := Lib.hid hbA; have ONE := Lib.hid one1
    clear hsrc hown0 hCl s1 s2 hc hbA one1 hz
    generalize Lib.byteCells l = C at *
    generalize l.length = n at *
    go_enter Tryd.func30, Tryd.ntmps30
    go_wp2_with (at_builtin; refine wpList_append_ownB rfl _ _ 58 rfl w.heap.size 5 i0 (.int .u8 0) 1 1 Tryd.underlying58 hi hz0 hz1 hz2 rfl (by decide) _ _ _ rfl O0.out ⟨b, o, none⟩ n c C rfl CL.out SR.out ONE.out S1.out S2.out S3.out ?_)
    intro v6 w6 ho6 hg6 hv6
    have Ho6 := Lib.hid ho6
    have hb6 : Below w.heap.size w w6 := bel_grown HBA.out hg6 (fun k hk => (O0.out.lt k hk).1)
    clear ho6 hv6 hg6
    go_wp2_with fail
    go_ret
    refine ⟨⟨_, rfl, ?_⟩, hb6⟩
    have := Ho6.out
    simpa using this
  · rw [hz] at h0
    obtain rfl := List.eq_nil_of_length_eq_zero h0
    have hr := run_append_own_nil (P := Tryd.prog) (w := w.alloc (.cells #[] 5)) w.heap.size 58 58 5 i0 Tryd.underlying58 hi w.heap.size A c 0
    have O0 := Lib.hid hown0; have HBA := Lib.hid hbA
    clear hown0 hbA
    go_enter Tryd.func30, Tryd.ntmps30
    go_wp2_with (at_builtin; refine wpList_append_runN rfl _ _ 58 58 rfl _ _ _ _ rfl rfl hr ?_)
    go_wp2_with fail
    go_ret
    exact ⟨⟨_, rfl, O0.out⟩, HBA.out⟩
end Go.Proofs.YtjjgbgojlhaapaaDoor
