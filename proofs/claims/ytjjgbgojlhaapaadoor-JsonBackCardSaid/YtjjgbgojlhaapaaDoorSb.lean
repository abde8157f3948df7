/- strings.Builder: what its writing methods do. -/
import Derived.Test.YtjjgbgojlhaapaaDoorJv
import Derived.Test.YtjjgbgojlhaapaaDoorProg
import Derived.Lib.Builder
import Derived.Lib.BufferKept
import Derived.Lib.OthersKept
import Derived.Lib.AppendStr
import Derived.Lib.RuneBytes
import Derived.Deep.RegionLaw
namespace Go.Proofs.YtjjgbgojlhaapaaDoor
open Go.RowKit Go.Lib

theorem own_laterB {w W : World} {base : Nat} {e : TypeId} {size n : Nat} {v : Value} {xs : List Value} (h : w.ownsRow base e size v n xs) (hb : Below w.heap.size w W) : W.ownsRow base e size v n xs := by
  obtain ⟨h1, h2⟩ := h
  refine ⟨h1, ?_⟩
  rcases h2 with h2 | ⟨g, cap, cur, e, hg, hh, r⟩
  · exact .inl h2
  · exact .inr ⟨g, cap, cur, e, hg, (hb.block g (Array.getElem?_eq_some_iff.1 hh).1).trans hh, r⟩
theorem own_sliceB {w : World} {base : Nat} {e : TypeId} {size n : Nat} {v : Value} {xs : List Value} (h : w.ownsRow base e size v n xs) : ∃ A c, v = .slice A n c := by
  rcases h.2 with ⟨rfl, rfl⟩ | ⟨g, cap, cur, rfl, _⟩
  · exact ⟨_, _, rfl⟩
  · exact ⟨_, _, rfl⟩
theorem sbSize : (Tryd.prog.info? 101).map (·.size) = some 2 := by kernel_rfl
theorem sbLies : liesAt Tryd.prog Tryd.prog.depth 101 (2 / Tryd.prog.cellsOf 101) 0 101 1 = true := by kernel_rfl

/-- a builder of the call's own -/
def Sb (B b : Nat) (bs : List Value) (w : World) : Prop := Lib.IsBuilder 101 5 B b bs w
/-- what a write leaves -/
def SbPost (B b : Nat) (bs : List Value) (w w' : World) : Prop := Sb B b bs w' ∧ Below B w w' ∧ Lib.OthersKept 5 (some b) w w'

set_option maxHeartbeats 1000000 in
set_option maxRecDepth 100000 in
theorem copyCheck_used (b : Nat) (w : World) (h0 : w.cell? ⟨b, 0, none⟩ = some (.pointer (some ⟨b, 0, none⟩))) :
    Calls Tryd.prog 95 #[.pointer (some ⟨b, 0, none⟩)] w fun e w' => e = .returned (.tuple #[]) ∧ w' = w := by
  obtain ⟨j, hj, _⟩ := Option.map_eq_some_iff.1 sbSize
  go_enter Tryd.func95, Tryd.ntmps95
  go_wp2
  rw [Lib.run_neq_ptr_same w _ Tryd.underlying99 hj]
  go_wp2
  go_end0
  exact ⟨rfl, rfl⟩

set_option maxHeartbeats 1000000 in
set_option maxRecDepth 100000 in
theorem copyCheck_fresh (b : Nat) (w : World) (h0 : w.cell? ⟨b, 0, none⟩ = some (.pointer none)) (hsh : w.shape? b = some (101, 2)) (hfz : w.frozen? ⟨b, 0, none⟩ = false) :
    Calls Tryd.prog 95 #[.pointer (some ⟨b, 0, none⟩)] w fun e w' => e = .returned (.tuple #[]) ∧ w' = w.setCell ⟨b, 0, none⟩ (.pointer (some ⟨b, 0, none⟩)) := by
  obtain ⟨j, hj, hjs⟩ := Option.map_eq_some_iff.1 sbSize
  go_enter Tryd.func95, Tryd.ntmps95
  go_wp2
  rw [Lib.run_to_unsafe w ⟨b, 0, none⟩ Tryd.underlying99 Tryd.underlying151 hj (by rw [hjs]; decide) hsh (Nat.zero_lt_succ 1)]
  simp only [Result.andThen]
  rw [Oper.upon_value]
  go_wp2
  rw [run_callFunc_extern Tryd.func112 (by kernel_rfl) (by kernel_rfl) (by kernel_rfl) (e := Extern.AbiNoEscape.same) (by kernel_rfl)]
  rw [Lib.run_noEscape]
  simp only [Result.andThen]
  rw [Oper.upon_value]
  go_wp2
  rw [Lib.run_from_unsafe w ⟨b, 0, none⟩ Tryd.underlying151 Tryd.underlying99 hj hsh sbLies]
  simp only [Result.andThen]
  rw [Oper.upon_value]
  go_wp2
  go_end0
  exact ⟨rfl, rfl⟩

theorem copyCheck_any (B b : Nat) (bs : List Value) (w : World) (h : Sb B b bs w) :
    Calls Tryd.prog 95 #[.pointer (some ⟨b, 0, none⟩)] w fun e w' => e = .returned (.tuple #[]) ∧ Lib.BuilderAt 101 5 B b (.pointer (some ⟨b, 0, none⟩)) bs w' ∧ Below B w w' ∧ Lib.OthersKept 5 (some b) w w' := by
  rcases h with h | h
  · refine (copyCheck_fresh b w h.cell0 h.shape h.frozen0).mono ?_
    rintro e w' ⟨rfl, rfl⟩
    exact ⟨rfl, h.used _, (Below.refl B w).setCell (p := ⟨b, 0, none⟩) h.1 _, (Lib.OthersKept.refl _ (some b) w).setCell ⟨b, 0, none⟩ rfl _⟩
  · refine (copyCheck_used b w h.cell0).mono ?_
    rintro e w' ⟨rfl, rfl⟩
    exact ⟨rfl, h, Below.refl B _, Lib.OthersKept.refl _ _ _⟩

theorem byteInfo : (Tryd.prog.info? 5).map (fun i => (i.zero, i.size, i.bytes)) = some (some (.int .u8 0), 1, 1) := by kernel_rfl

/-- behind an append to the buffer and its store -/
theorem sb_put {B b : Nat} {bs bs' : List Value} {w w1 w2 : World} {v v' : Value} (hB : B ≤ b) (hBw : B ≤ w.heap.size) (hb : w1.heap[b]? = some (.cells #[.pointer (some ⟨b, 0, none⟩), v] 101 (0, 0))) (ho : w1.ownsRow B 5 1 v bs.length bs) (hne : v.ownBlock ≠ some b)
    (hw1 : Below B w w1) (hk1 : Lib.OthersKept 5 (some b) w w1) (hg : w1.grownBy w2 v.ownBlock) (ho2 : w2.ownsRow B 5 1 v' bs'.length bs') :
    SbPost B b bs' w (w2.setCell ⟨b, 1, none⟩ v') := by
  have hb2 : w2.heap[b]? = some (.cells #[.pointer (some ⟨b, 0, none⟩), v] 101 (0, 0)) := (hg.block b (Array.getElem?_eq_some_iff.1 hb).1 (fun e => hne e.symm)).trans hb
  have hbl : Below B w w2 := hw1.grown hg (Nat.le_trans hBw hw1.size) (fun k hk => (ho.lt k hk).1)
  refine ⟨.inr (Lib.BuilderAt.put hB hb2 ho2 (by decide)), hbl.setCell (p := ⟨b, 1, none⟩) hB _, ?_⟩
  refine Lib.OthersKept.setCell ?_ ⟨b, 1, none⟩ rfl _
  refine hk1.grown hg ?_
  intro k hk
  rcases ho.2 with ⟨rfl, _⟩ | ⟨g, cap, cur, rfl, _, hh, _⟩
  · simp [Value.ownBlock] at hk
  · obtain rfl : g = k := by simpa [Value.ownBlock] using hk
    exact ⟨_, _, hh⟩

set_option maxHeartbeats 1000000 in
theorem writeString_any (B b : Nat) (bs : List Value) (s : ByteArray) (w : World) (h : Sb B b bs w) (hlen : bs.length + s.size ≤ 140737488355328) (hBw : B ≤ w.heap.size) :
    Calls Tryd.prog 77 #[.pointer (some ⟨b, 0, none⟩), .string s] w fun e w' => e = .returned (.tuple #[.int .i64 s.size, .nilIface]) ∧ SbPost B b (bs ++ Lib.strCells s) w w' := by
  obtain ⟨i0, hi, hz0, hz1, hz2⟩ := info_parts byteInfo
  have hcc := copyCheck_any B b bs w h
  go_enter Tryd.func77, Tryd.ntmps77
  go_wp2_with fail
  refine Calls.mono hcc ?_
  rintro e w1 ⟨rfl, ⟨hB, v, hbk, hown, hne⟩, hb1, hk1⟩
  obtain ⟨A, c, rfl⟩ : ∃ A c, v = .slice A bs.length c := by
    rcases hown.2 with ⟨rfl, h0⟩ | ⟨g, cap, cur, rfl, _⟩
    · exact ⟨none, 0, by rw [h0]⟩
    · exact ⟨_, _, rfl⟩
  have c1 : w1.cell? ⟨b, 1, none⟩ = some (.slice A bs.length c) := by rw [Lib.cell_of_heap hbk]; rfl
  have Hbk := Lib.hid hbk; have Ho := Lib.hid hown; have Hne := Lib.hid hne; have HBw := Lib.hid (Nat.le_trans hBw hb1.size); have HL := Lib.hid hlen
  have HK := Lib.hid hk1; have HB1 := Lib.hid hb1
  have hM : bs.length + s.size ≤ maxLen := by simp only [maxLen]; omega
  have HM := Lib.hid hM
  clear hM
  clear hbk hown hne hlen hk1 hb1 hcc h
  go_wp2_with (at_builtin; refine Lib.wpList_append_own_string _ rfl _ _ 58 9 rfl B 5 i0 Tryd.underlying58 Tryd.underlying9 hi hz0 hz1 hz2 _ _ _ rfl Ho.out s rfl HM.out HL.out HBw.out ?_)
  intro v' w2 ho2 hg2 hxx
  clear hxx
  obtain ⟨A', c', rfl⟩ := own_sliceB ho2
  have hb2 : w2.heap[b]? = some (.cells #[.pointer (some ⟨b, 0, none⟩), .slice A bs.length c] 101 (0, 0)) := (hg2.block b (Array.getElem?_eq_some_iff.1 Hbk.out).1 (fun e => Hne.out e.symm)).trans Hbk.out
  have d1 : w2.cell? ⟨b, 1, none⟩ = some (.slice A bs.length c) := by rw [Lib.cell_of_heap hb2]; rfl
  have f1 : w2.frozen? ⟨b, 1, none⟩ = false := by simp [World.frozen?, hb2]
  have Ho2 := Lib.hid ho2; have Hg2 := Lib.hid hg2
  clear ho2 hg2 hb2
  go_wp2_with fail
  go_ret2
  refine ⟨rfl, ?_⟩
  exact sb_put hB hBw Hbk.out Ho.out Hne.out HB1.out HK.out Hg2.out (by rw [List.length_append, Lib.strCells_length]; exact Ho2.out)

set_option maxHeartbeats 1000000 in
theorem writeByte_any (B b : Nat) (bs : List Value) (ch : Int) (w : World) (h : Sb B b bs w) (hlen : bs.length + 1 ≤ 140737488355328) (hBw : B ≤ w.heap.size) :
    Calls Tryd.prog 98 #[.pointer (some ⟨b, 0, none⟩), .int .u8 ch] w fun e w' => e = .returned .nilIface ∧ SbPost B b (bs ++ [.int .u8 ch]) w w' := by
  obtain ⟨i0, hi, hz0, hz1, hz2⟩ := info_parts byteInfo
  have hcc := copyCheck_any B b bs w h
  go_enter Tryd.func98, Tryd.ntmps98
  go_wp2_with fail
  refine Calls.mono hcc ?_
  rintro e w1 ⟨rfl, ⟨hB, v, hbk, hown, hne⟩, hb1, hk1⟩
  obtain ⟨A, c, rfl⟩ : ∃ A c, v = .slice A bs.length c := by
    rcases hown.2 with ⟨rfl, h0⟩ | ⟨g, cap, cur, rfl, _⟩
    · exact ⟨none, 0, by rw [h0]⟩
    · exact ⟨_, _, rfl⟩
  have c1 : w1.cell? ⟨b, 1, none⟩ = some (.slice A bs.length c) := by rw [Lib.cell_of_heap hbk]; rfl
  have hM : bs.length + 1 ≤ maxLen := by simp only [maxLen]; omega
  have hba : Below w1.heap.size w1 (w1.alloc (.cells #[.int .u8 ch] 5)) := bel_alloc (Below.refl _ _) _
  have hown' := own_laterB hown hba
  have hb1' : Below B w (w1.alloc (.cells #[.int .u8 ch] 5)) := hb1.alloc (Nat.le_trans hBw hb1.size) _
  have hk1' : Lib.OthersKept 5 (some b) w (w1.alloc (.cells #[.int .u8 ch] 5)) := hk1.alloc _
  have hbk' : (w1.alloc (.cells #[.int .u8 ch] 5)).heap[b]? = some (.cells #[.pointer (some ⟨b, 0, none⟩), .slice A bs.length c] 101 (0, 0)) := (hba.block b (Array.getElem?_eq_some_iff.1 hbk).1).trans hbk
  have hnw : ∀ j u, [Value.int .u8 ch][j]? = some u → (w1.alloc (.cells #[.int .u8 ch] 5)).cell? ((⟨w1.heap.size, 0, none⟩ : Addr).add j) = some u := by
    intro j u hj
    have := lt_of_get hj
    obtain rfl : j = 0 := by simp at this; omega
    rw [Addr.add_lit]
    exact cell_newB w1 _ _ 0 _ hj
  have one1 : ∀ u ∈ [Value.int .u8 ch], u.oneCell' = true := by intro u hu; rw [List.mem_singleton.1 hu]; rfl
  have hsz : B ≤ (w1.alloc (.cells #[.int .u8 ch] 5)).heap.size := Nat.le_trans (Nat.le_trans hBw hb1.size) hba.size
  have hby : (bs.length + 1) * 1 ≤ 140737488355328 := by omega
  have Hbk := Lib.hid hbk'; have Ho := Lib.hid hown'; have Hne := Lib.hid hne; have HM := Lib.hid hM; have HY := Lib.hid hby; have HS := Lib.hid hsz; have HN := Lib.hid hnw
  have HK := Lib.hid hk1'; have HB1 := Lib.hid hb1'
  clear hbk hown hne hlen hk1 hb1 hcc h hM hba hown' hb1' hk1' hbk' hnw hsz hby
  go_wp2_with (at_builtin; refine wpList_append_ownB rfl _ _ 58 rfl B 5 i0 (.int .u8 0) 1 1 Tryd.underlying58 hi hz0 hz1 hz2 rfl (by decide) _ _ _ rfl Ho.out ⟨w1.heap.size, 0, none⟩ 1 1 [.int .u8 ch] rfl rfl HN.out one1 HM.out HY.out HS.out ?_)
  intro v' w2 ho2 hg2 hxx
  clear hxx
  obtain ⟨A', c', rfl⟩ := own_sliceB ho2
  have hb2 : w2.heap[b]? = some (.cells #[.pointer (some ⟨b, 0, none⟩), .slice A bs.length c] 101 (0, 0)) := (hg2.block b (Array.getElem?_eq_some_iff.1 Hbk.out).1 (fun e => Hne.out e.symm)).trans Hbk.out
  have d1 : w2.cell? ⟨b, 1, none⟩ = some (.slice A bs.length c) := by rw [Lib.cell_of_heap hb2]; rfl
  have f1 : w2.frozen? ⟨b, 1, none⟩ = false := by simp [World.frozen?, hb2]
  have Ho2 := Lib.hid ho2; have Hg2 := Lib.hid hg2
  clear ho2 hg2 hb2
  go_wp2_with fail
  go_ret
  refine ⟨rfl, ?_⟩
  exact sb_put hB hBw Hbk.out Ho.out Hne.out HB1.out HK.out Hg2.out (by rw [List.length_append]; exact Ho2.out)
end Go.Proofs.YtjjgbgojlhaapaaDoor
