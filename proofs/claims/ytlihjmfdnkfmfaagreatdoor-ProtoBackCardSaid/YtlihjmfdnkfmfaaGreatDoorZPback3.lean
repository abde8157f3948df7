/- Parts of the proof: Sb, Rd, Sc. -/
import Derived.Test.YtlihjmfdnkfmfaaGreatDoorZPback0
import Derived.Test.YtlihjmfdnkfmfaaGreatDoorProg
import Derived.Lib.Builder
import Derived.Lib.BufferKept
import Derived.Lib.OthersKept
import Derived.Lib.AppendStr
import Derived.Lib.RuneBytes
import Derived.Deep.RegionLaw
import Derived.Test.YtlihjmfdnkfmfaaGreatDoorZPback1
namespace Go.Proofs.YtlihjmfdnkfmfaaGreatDoor
open Go.RowKit Go.Lib

theorem own_laterB {w W : World} {base : Nat} {e : TypeId} {size n : Nat} {v : Value} {xs : List Value} (h : w.ownsRow base e size v n xs) (hb : Below w.heap.size w W) : W.ownsRow base e size v n xs := by
  obtain ⟨h1, h2⟩ := h
  refine ⟨h1, ?_⟩
  rcases h2 with h2 | ⟨g, cap, cur, e, hg, hh, r⟩
  · exact .inl h2
  · exact .inr ⟨g, cap, cur, e, hg, (hb.block g (Array.getElem?_eq_some_iff.1 hh).1).trans hh, r⟩
theorem own_sliceB {w : World} {base : Nat} {e : TypeId} {size n : Nat} {v : Value} {xs : List Value} (h : w.ownsRow base e size v n xs) : ∃ A c, v = .slice A n c := by
  rcases h.2 with ⟨rfl, rfl⟩ | ⟨g, cap, cur, rfl, _⟩
  · exact ⟨_, _, rfl⟩
  · exact ⟨_, _, rfl⟩
theorem sbSize : (Tryz.prog.info? 154).map (·.size) = some 2 := by kernel_rfl
theorem sbLies : liesAt Tryz.prog Tryz.prog.depth 154 (2 / Tryz.prog.cellsOf 154) 0 154 1 = true := by kernel_rfl

/-- a builder of the call's own -/
def Sb (B b : Nat) (bs : List Value) (w : World) : Prop := Lib.IsBuilder 154 5 B b bs w
/-- what a write leaves -/
def SbPost (B b : Nat) (bs : List Value) (w w' : World) : Prop := Sb B b bs w' ∧ Below B w w' ∧ Lib.OthersKept 5 (some b) w w'

set_option maxHeartbeats 1000000 in
set_option maxRecDepth 100000 in
theorem copyCheck_used (b : Nat) (w : World) (h0 : w.cell? ⟨b, 0, none⟩ = some (.pointer (some ⟨b, 0, none⟩))) :
    Calls Tryz.prog 162 #[.pointer (some ⟨b, 0, none⟩)] w fun e w' => e = .returned (.tuple #[]) ∧ w' = w := by
  obtain ⟨j, hj, _⟩ := Option.map_eq_some_iff.1 sbSize
  go_enter Tryz.func162, Tryz.ntmps162
  go_wp2
  rw [Lib.run_neq_ptr_same w _ Tryz.underlying152 hj]
  go_wp2
  go_end0
  exact ⟨rfl, rfl⟩

set_option maxHeartbeats 1000000 in
set_option maxRecDepth 100000 in
theorem copyCheck_fresh (b : Nat) (w : World) (h0 : w.cell? ⟨b, 0, none⟩ = some (.pointer none)) (hsh : w.shape? b = some (154, 2)) (hfz : w.frozen? ⟨b, 0, none⟩ = false) :
    Calls Tryz.prog 162 #[.pointer (some ⟨b, 0, none⟩)] w fun e w' => e = .returned (.tuple #[]) ∧ w' = w.setCell ⟨b, 0, none⟩ (.pointer (some ⟨b, 0, none⟩)) := by
  obtain ⟨j, hj, hjs⟩ := Option.map_eq_some_iff.1 sbSize
  go_enter Tryz.func162, Tryz.ntmps162
  go_wp2
  rw [Lib.run_to_unsafe w ⟨b, 0, none⟩ Tryz.underlying152 Tryz.underlying255 hj (by rw [hjs]; decide) hsh (Nat.zero_lt_succ 1)]
  simp only [Result.andThen]
  rw [Oper.upon_value]
  go_wp2
  rw [run_callFunc_extern Tryz.func194 (by kernel_rfl) (by kernel_rfl) (by kernel_rfl) (e := Extern.AbiNoEscape.same) (by kernel_rfl)]
  rw [Lib.run_noEscape]
  simp only [Result.andThen]
  rw [Oper.upon_value]
  go_wp2
  rw [Lib.run_from_unsafe w ⟨b, 0, none⟩ Tryz.underlying255 Tryz.underlying152 hj hsh sbLies]
  simp only [Result.andThen]
  rw [Oper.upon_value]
  go_wp2
  go_end0
  exact ⟨rfl, rfl⟩

theorem copyCheck_any (B b : Nat) (bs : List Value) (w : World) (h : Sb B b bs w) :
    Calls Tryz.prog 162 #[.pointer (some ⟨b, 0, none⟩)] w fun e w' => e = .returned (.tuple #[]) ∧ Lib.BuilderAt 154 5 B b (.pointer (some ⟨b, 0, none⟩)) bs w' ∧ Below B w w' ∧ Lib.OthersKept 5 (some b) w w' := by
  rcases h with h | h
  · refine (copyCheck_fresh b w h.cell0 h.shape h.frozen0).mono ?_
    rintro e w' ⟨rfl, rfl⟩
    exact ⟨rfl, h.used _, (Below.refl B w).setCell (p := ⟨b, 0, none⟩) h.1 _, (Lib.OthersKept.refl _ (some b) w).setCell ⟨b, 0, none⟩ rfl _⟩
  · refine (copyCheck_used b w h.cell0).mono ?_
    rintro e w' ⟨rfl, rfl⟩
    exact ⟨rfl, h, Below.refl B _, Lib.OthersKept.refl _ _ _⟩

theorem byteInfo : (Tryz.prog.info? 5).map (fun i => (i.zero, i.size, i.bytes)) = some (some (.int .u8 0), 1, 1) := by kernel_rfl

/-- behind an append to the buffer and its store -/
theorem sb_put {B b : Nat} {bs bs' : List Value} {w w1 w2 : World} {v v' : Value} (hB : B ≤ b) (hBw : B ≤ w.heap.size) (hb : w1.heap[b]? = some (.cells #[.pointer (some ⟨b, 0, none⟩), v] 154 (0, 0))) (ho : w1.ownsRow B 5 1 v bs.length bs) (hne : v.ownBlock ≠ some b)
    (hw1 : Below B w w1) (hk1 : Lib.OthersKept 5 (some b) w w1) (hg : w1.grownBy w2 v.ownBlock) (ho2 : w2.ownsRow B 5 1 v' bs'.length bs') :
    SbPost B b bs' w (w2.setCell ⟨b, 1, none⟩ v') := by
  have hb2 : w2.heap[b]? = some (.cells #[.pointer (some ⟨b, 0, none⟩), v] 154 (0, 0)) := (hg.block b (Array.getElem?_eq_some_iff.1 hb).1 (fun e => hne e.symm)).trans hb
  have hbl : Below B w w2 := hw1.grown hg (Nat.le_trans hBw hw1.size) (fun k hk => (ho.lt k hk).1)
  refine ⟨.inr (Lib.BuilderAt.put hB hb2 ho2 (by decide)), hbl.setCell (p := ⟨b, 1, none⟩) hB _, ?_⟩
  refine Lib.OthersKept.setCell ?_ ⟨b, 1, none⟩ rfl _
  refine hk1.grown hg ?_
  intro k hk
  rcases ho.2 with ⟨rfl, _⟩ | ⟨g, cap, cur, rfl, _, hh, _⟩
  · simp [Value.ownBlock] at hk
  · obtain rfl : g = k := by simpa [Value.ownBlock] using hk
    exact ⟨_, _, hh⟩

set_option maxHeartbeats 1000000 in
theorem writeString_any (B b : Nat) (bs : List Value) (s : ByteArray) (w : World) (h : Sb B b bs w) (hlen : bs.length + s.size ≤ 140737488355328) (hBw : B ≤ w.heap.size) :
    Calls Tryz.prog 121 #[.pointer (some ⟨b, 0, none⟩), .string s] w fun e w' => e = .returned (.tuple #[.int .i64 s.size, .nilIface]) ∧ SbPost B b (bs ++ Lib.strCells s) w w' := by
  obtain ⟨i0, hi, hz0, hz1, hz2⟩ := info_parts byteInfo
  have hcc := copyCheck_any B b bs w h
  go_enter Tryz.func121, Tryz.ntmps121
  go_wp2_with fail
  refine Calls.mono hcc ?_
  rintro e w1 ⟨rfl, ⟨hB, v, hbk, hown, hne⟩, hb1, hk1⟩
  obtain ⟨A, c, rfl⟩ : ∃ A c, v = .slice A bs.length c := by
    rcases hown.2 with ⟨rfl, h0⟩ | ⟨g, cap, cur, rfl, _⟩
    · exact ⟨none, 0, by rw [h0]⟩
    · exact ⟨_, _, rfl⟩
  have c1 : w1.cell? ⟨b, 1, none⟩ = some (.slice A bs.length c) := by rw [Lib.cell_of_heap hbk]; rfl
  have Hbk := Lib.hid hbk; have Ho := Lib.hid hown; have Hne := Lib.hid hne; have HBw := Lib.hid (Nat.le_trans hBw hb1.size); have HL := Lib.hid hlen
  have HK := Lib.hid hk1; have HB1 := Lib.hid hb1
  have hM : bs.length + s.size ≤ maxLen := by simp only [maxLen]; omega
  have HM := Lib.hid hM
  clear hM
  clear hbk hown hne hlen hk1 hb1 hcc h
  go_wp2_with (at_builtin; refine Lib.wpList_append_own_string _ rfl _ _ 22 9 rfl B 5 i0 Tryz.underlying22 Tryz.underlying9 hi hz0 hz1 hz2 _ _ _ rfl Ho.out s rfl HM.out HL.out HBw.out ?_)
  intro v' w2 ho2 hg2 hxx
  clear hxx
  obtain ⟨A', c', rfl⟩ := own_sliceB ho2
  have hb2 : w2.heap[b]? = some (.cells #[.pointer (some ⟨b, 0, none⟩), .slice A bs.length c] 154 (0, 0)) := (hg2.block b (Array.getElem?_eq_some_iff.1 Hbk.out).1 (fun e => Hne.out e.symm)).trans Hbk.out
  have d1 : w2.cell? ⟨b, 1, none⟩ = some (.slice A bs.length c) := by rw [Lib.cell_of_heap hb2]; rfl
  have f1 : w2.frozen? ⟨b, 1, none⟩ = false := by simp [World.frozen?, hb2]
  have Ho2 := Lib.hid ho2; have Hg2 := Lib.hid hg2
  clear ho2 hg2 hb2
  go_wp2_with fail
  go_ret2
  refine ⟨rfl, ?_⟩
  exact sb_put hB hBw Hbk.out Ho.out Hne.out HB1.out HK.out Hg2.out (by rw [List.length_append, Lib.strCells_length]; exact Ho2.out)

set_option maxHeartbeats 1000000 in
theorem writeByte_any (B b : Nat) (bs : List Value) (ch : Int) (w : World) (h : Sb B b bs w) (hlen : bs.length + 1 ≤ 140737488355328) (hBw : B ≤ w.heap.size) :
    Calls Tryz.prog 165 #[.pointer (some ⟨b, 0, none⟩), .int .u8 ch] w fun e w' => e = .returned .nilIface ∧ SbPost B b (bs ++ [.int .u8 ch]) w w' := by
  obtain ⟨i0, hi, hz0, hz1, hz2⟩ := info_parts byteInfo
  have hcc := copyCheck_any B b bs w h
  go_enter Tryz.func165, Tryz.ntmps165
  go_wp2_with fail
  refine Calls.mono hcc ?_
  rintro e w1 ⟨rfl, ⟨hB, v, hbk, hown, hne⟩, hb1, hk1⟩
  obtain ⟨A, c, rfl⟩ : ∃ A c, v = .slice A bs.length c := by
    rcases hown.2 with ⟨rfl, h0⟩ | ⟨g, cap, cur, rfl, _⟩
    · exact ⟨none, 0, by rw [h0]⟩
    · exact ⟨_, _, rfl⟩
  have c1 : w1.cell? ⟨b, 1, none⟩ = some (.slice A bs.length c) := by rw [Lib.cell_of_heap hbk]; rfl
  have hM : bs.length + 1 ≤ maxLen := by simp only [maxLen]; omega
  have hba : Below w1.heap.size w1 (w1.alloc (.cells #[.int .u8 ch] 5)) := bel_alloc (Below.refl _ _) _
  have hown' := own_laterB hown hba
  have hb1' : Below B w (w1.alloc (.cells #[.int .u8 ch] 5)) := hb1.alloc (Nat.le_trans hBw hb1.size) _
  have hk1' : Lib.OthersKept 5 (some b) w (w1.alloc (.cells #[.int .u8 ch] 5)) := hk1.alloc _
  have hbk' : (w1.alloc (.cells #[.int .u8 ch] 5)).heap[b]? = some (.cells #[.pointer (some ⟨b, 0, none⟩), .slice A bs.length c] 154 (0, 0)) := (hba.block b (Array.getElem?_eq_some_iff.1 hbk).1).trans hbk
  have hnw : ∀ j u, [Value.int .u8 ch][j]? = some u → (w1.alloc (.cells #[.int .u8 ch] 5)).cell? ((⟨w1.heap.size, 0, none⟩ : Addr).add j) = some u := by
    intro j u hj
    have := lt_of_get hj
    obtain rfl : j = 0 := by simp at this; omega
    rw [Addr.add_lit]
    exact cell_newB w1 _ _ 0 _ hj
  have one1 : ∀ u ∈ [Value.int .u8 ch], u.oneCell' = true := by intro u hu; rw [List.mem_singleton.1 hu]; rfl
  have hsz : B ≤ (w1.alloc (.cells #[.int .u8 ch] 5)).heap.size := Nat.le_trans (Nat.le_trans hBw hb1.size) hba.size
  have hby : (bs.length + 1) * 1 ≤ 140737488355328 := by omega
  have Hbk := Lib.hid hbk'; have Ho := Lib.hid hown'; have Hne := Lib.hid hne; have HM := Lib.hid hM; have HY := Lib.hid hby; have HS := Lib.hid hsz; have HN := Lib.hid hnw
  have HK := Lib.hid hk1'; have HB1 := Lib.hid hb1'
  clear hbk hown hne hlen hk1 hb1 hcc h hM hba hown' hb1' hk1' hbk' hnw hsz hby
  go_wp2_with (at_builtin; refine wpList_append_ownB rfl _ _ 22 rfl B 5 i0 (.int .u8 0) 1 1 Tryz.underlying22 hi hz0 hz1 hz2 rfl (by decide) _ _ _ rfl Ho.out ⟨w1.heap.size, 0, none⟩ 1 1 [.int .u8 ch] rfl rfl HN.out one1 HM.out HY.out HS.out ?_)
  intro v' w2 ho2 hg2 hxx
  clear hxx
  obtain ⟨A', c', rfl⟩ := own_sliceB ho2
  have hb2 : w2.heap[b]? = some (.cells #[.pointer (some ⟨b, 0, none⟩), .slice A bs.length c] 154 (0, 0)) := (hg2.block b (Array.getElem?_eq_some_iff.1 Hbk.out).1 (fun e => Hne.out e.symm)).trans Hbk.out
  have d1 : w2.cell? ⟨b, 1, none⟩ = some (.slice A bs.length c) := by rw [Lib.cell_of_heap hb2]; rfl
  have f1 : w2.frozen? ⟨b, 1, none⟩ = false := by simp [World.frozen?, hb2]
  have Ho2 := Lib.hid ho2; have Hg2 := Lib.hid hg2
  clear ho2 hg2 hb2
  go_wp2_with fail
  go_ret
  refine ⟨rfl, ?_⟩
  exact sb_put hB hBw Hbk.out Ho.out Hne.out HB1.out HK.out Hg2.out (by rw [List.length_append]; exact Ho2.out)
end Go.Proofs.YtlihjmfdnkfmfaaGreatDoor
namespace Go.Proofs.YtlihjmfdnkfmfaaGreatDoor
open Go.RowKit Go.Lib

theorem heap_setCell_row {w : World} {g i : Nat} {cs : Array Value} {T : TypeId} {fz : Nat × Nat} {v : Value} (h : w.heap[g]? = some (.cells cs T fz)) : (w.setCell ⟨g, i, none⟩ v).heap[g]? = some (.cells (cs.setIfInBounds i v) T fz) := by
  simp [World.setCell, Array.getElem?_modify, h]

/-- a reader of type T lies in block R: its text, its place, its error -/
def RdAt (T : TypeId) (R : Nat) (s : ByteArray) (p : Nat) (e : Int) (w : World) : Prop :=
  w.heap[R]? = some (.cells #[.string s, .int .i64 p, .int .i64 e] T (0, 0))
/-- what a method leaves -/
def RdPost (T : TypeId) (R : Nat) (s : ByteArray) (p : Nat) (e : Int) (w w' : World) : Prop := RdAt T R s p e w' ∧ w.grownBy w' (some R)
section
variable {T : TypeId} {R p p' : Nat} {s : ByteArray} {e e' : Int} {w w' w1 w2 : World}
theorem RdAt.cells (h : RdAt T R s p e w) : w.cell? ⟨R, 0, none⟩ = some (.string s) ∧ w.cell? ⟨R, 1, none⟩ = some (.int .i64 p) ∧ w.cell? ⟨R, 2, none⟩ = some (.int .i64 e) ∧ w.frozen? ⟨R, 0, none⟩ = false ∧ w.frozen? ⟨R, 1, none⟩ = false ∧ w.frozen? ⟨R, 2, none⟩ = false ∧ R < w.heap.size := by
  have h' : w.heap[R]? = _ := h
  refine ⟨by rw [Lib.cell_of_heap h']; rfl, by rw [Lib.cell_of_heap h']; rfl, by rw [Lib.cell_of_heap h']; rfl, by simp [World.frozen?, h'], by simp [World.frozen?, h'], by simp [World.frozen?, h'], (Array.getElem?_eq_some_iff.1 h').1⟩
theorem RdAt.set1 (h : RdAt T R s p e w) (q : Nat) : RdAt T R s q e (w.setCell ⟨R, 1, none⟩ (.int .i64 q)) := by
  exact heap_setCell_row (i := 1) (v := .int .i64 q) h
theorem RdAt.set2 (h : RdAt T R s p e w) (q : Int) : RdAt T R s p q (w.setCell ⟨R, 2, none⟩ (.int .i64 q)) := by
  exact heap_setCell_row (i := 2) (v := .int .i64 q) h
theorem RdAt.below (h : RdAt T R s p e w) (hb : Below w.heap.size w w') : RdAt T R s p e w' := (hb.block R (Array.getElem?_eq_some_iff.1 h).1).trans h
theorem RdAt.drewN (h : RdAt T R s p e w) (n : Nat) : RdAt T R s p e (w.drewN n) := h
theorem RdAt.drew (h : RdAt T R s p e w) : RdAt T R s p e w.drew := h
theorem RdAt.post (h : RdAt T R s p e w) : RdPost T R s p e w w := ⟨h, grown_refl _ _⟩
theorem RdPost.trans (h : RdPost T R s p e w w1) (k : RdPost T R s p' e' w1 w2) : RdPost T R s p' e' w w2 := ⟨k.1, grown_trans h.2 k.2⟩
theorem RdPost.below (h : RdPost T R s p e w w1) (hb : Below w1.heap.size w1 w2) : RdPost T R s p e w w2 := ⟨h.1.below hb, grown_trans h.2 (grown_of_bel hb _)⟩
theorem RdPost.set1 (h : RdPost T R s p e w w1) (q : Nat) : RdPost T R s q e w (w1.setCell ⟨R, 1, none⟩ (.int .i64 q)) := ⟨h.1.set1 q, grown_trans h.2 (grown_set _)⟩
theorem RdPost.set2 (h : RdPost T R s p e w w1) (q : Int) : RdPost T R s p q w (w1.setCell ⟨R, 2, none⟩ (.int .i64 q)) := ⟨h.1.set2 q, grown_trans h.2 (grown_set _)⟩
theorem RdPost.drew (h : RdPost T R s p e w w1) : RdPost T R s p e w w1.drew := ⟨h.1, grown_trans h.2 ⟨rfl, rfl, rfl, Nat.le_refl _, fun _ _ _ => rfl⟩⟩
theorem RdPost.drewN (h : RdPost T R s p e w w1) (n : Nat) : RdPost T R s p e w (w1.drewN n) := ⟨h.1, grown_drewN h.2 n⟩
end

/-! the plain reader -/
/-- a state: the place, the error -/
structure St where
  p : Nat
  e : Int
def St.fail (x : St) (e : Int) : St := if x.e = 0 then ⟨x.p, e⟩ else x
def St.step (x : St) : St := ⟨x.p + 1, x.e⟩
def byteAt (s : ByteArray) (p : Nat) : UInt8 := s.data.toList.getD p 0
def isBlank (c : UInt8) : Bool := [32, 9, 10, 13].contains c
def skipB (s : ByteArray) : Nat → Nat → Nat
  | 0, p => p
  | fuel + 1, p => if p < s.size && isBlank (byteAt s p) then skipB s fuel (p + 1) else p
def St.blanks (s : ByteArray) (x : St) : St := ⟨skipB s (s.size - x.p) x.p, x.e⟩
def St.see (s : ByteArray) (x : St) : UInt8 × St :=
  let y := x.blanks s
  if s.size ≤ y.p then (0, y.fail 2) else (byteAt s y.p, y)
def St.wants (s : ByteArray) (x : St) (c : UInt8) : St :=
  let r := x.see s
  (if r.2.e = 0 ∧ r.1 ≠ c then r.2.fail 4 else r.2).step

set_option maxHeartbeats 1000000 in
theorem fail_any (R : Nat) (s : ByteArray) (x : St) (e' : Int) (w : World) (h : RdAt 148 R s x.p x.e w) :
    Calls Tryz.prog 69 #[.pointer (some ⟨R, 0, none⟩), .int .i64 e'] w fun z w' => z = .returned (.tuple #[]) ∧ RdPost 148 R s (x.fail e').p (x.fail e').e w w' := by
  obtain ⟨_, _, l2, _, _, f2, hR⟩ := h.cells
  obtain ⟨p, e⟩ := x
  unfold St.fail
  simp only at *
  by_cases h0 : e = 0
  · subst h0
    have hp := h.post.set2 e'
    have HP := Lib.hid hp
    clear hp h
    go_enter Tryz.func69, Tryz.ntmps69
    go_wp2
    go_end0
    exact ⟨rfl, HP.out⟩
  · have hne : (e == 0) = false := by simpa using h0
    rw [if_neg h0]
    have HP := Lib.hid h.post
    clear h
    go_enter Tryz.func69, Tryz.ntmps69
    go_wp2
    go_end0
    exact ⟨rfl, HP.out⟩

theorem skip_step {s : ByteArray} {q : Nat} (h : q < s.size) (hb : isBlank (byteAt s q) = true) : skipB s (s.size - q) q = skipB s (s.size - (q + 1)) (q + 1) := by
  have e : s.size - q = (s.size - (q + 1)) + 1 := by omega
  rw [e]; simp [skipB, h, hb]
theorem skip_stop {s : ByteArray} {q : Nat} (h : ¬ q < s.size ∨ isBlank (byteAt s q) = false) : skipB s (s.size - q) q = q := by
  cases hn : s.size - q with
  | zero => rfl
  | succ n =>
    rcases h with h | h
    · omega
    · simp [skipB, h]
theorem idx_blank (c : UInt8) (w : World) : Calls Tryz.prog 114 #[.string ⟨#[32, 9, 10, 13]⟩, .int .u8 (c.toNat : Int)] w fun e w' => e = .returned (.int .i64 (Lib.indexByte [32, 9, 10, 13] c)) ∧ w' = w := by
  have := Tryz.strings_IndexByte ⟨#[32, 9, 10, 13]⟩ (c.toNat : Int) w
  simpa using this
theorem idx_iff (l : List UInt8) (c : UInt8) : (0 ≤ Lib.indexByte l c) ↔ l.contains c = true := by
  induction l with
  | nil => simp [Lib.indexByte]
  | cons b l ih =>
    have hge := Lib.indexByte_ge l c
    simp only [Lib.indexByte, List.contains_cons, Bool.or_eq_true]
    by_cases h : b = c
    · subst h; simp
    · have h1 : (b == c) = false := by simpa using h
      have h2 : (c == b) = false := by simpa using fun e => h e.symm
      rw [h1, h2]
      simp only [Bool.false_eq_true, if_false, false_or]
      rw [← ih]
      by_cases h3 : Lib.indexByte l c = -1
      · rw [h3]; simp
      · have h4 : (Lib.indexByte l c == -1) = false := by simpa using h3
        rw [h4]; simp; omega
theorem idx_blank_iff (c : UInt8) : (0 ≤ Lib.indexByte [32, 9, 10, 13] c) ↔ isBlank c = true := idx_iff _ c
theorem get_byte {s : ByteArray} {q : Nat} (h : q < s.size) : s[q] = byteAt s q := by
  unfold byteAt
  rw [List.getD_eq_getElem?_getD, List.getElem?_eq_getElem (by simpa using h)]
  rfl

set_option maxHeartbeats 4000000 in
theorem blanks_any (R : Nat) (s : ByteArray) (x : St) (w : World) (hs : s.size ≤ 1000000) (h : RdAt 148 R s x.p x.e w) :
    Calls Tryz.prog 68 #[.pointer (some ⟨R, 0, none⟩)] w fun z w' => z = .returned (.tuple #[]) ∧ RdPost 148 R s (x.blanks s).p (x.blanks s).e w w' := by
  obtain ⟨p, e⟩ := x
  unfold St.blanks
  simp only at *
  have HP := Lib.hid h.post
  clear h
  generalize hfin : skipB s (s.size - p) p = fin at *
  have HFIN := Lib.hid hfin
  clear hfin
  go_enter Tryz.func68, Tryz.ntmps68
  go_wp2_with fail
  go_loopg [] (s.size - p) (fun gg wr => ∃ q : Nat, s.size - q ≤ gg ∧ Aside (skipB s (s.size - q) q = fin) ∧ Aside (RdPost 148 R s q e w wr))
  case atStart => exact ⟨p, Nat.le_refl _, HFIN.out, HP.out⟩
  case round =>
    obtain ⟨q, hgg, HF, HR⟩ := hrel
    obtain ⟨l0, l1, l2, f0, f1, f2, hRw⟩ := HR.out.1.cells
    by_cases hlt : q < s.size
    · have hltz : (q : Int) < (s.size : Int) := by omega
      have hd : decide ((q : Int) < (s.size : Int)) = true := by simpa using hltz
      have hq0 : (0 : Int) ≤ (q : Int) := by omega
      have hgb := get_byte hlt
      have hc := fun W => idx_blank (byteAt s q) W
      have hiff := idx_blank_iff (byteAt s q)
      generalize Lib.indexByte [32, 9, 10, 13] (byteAt s q) = k at *
      cases hb : isBlank (byteAt s q) with
      | true =>
        have hk : decide ((0 : Int) ≤ k) = true := by simpa using hiff.2 hb
        have HS := Lib.hid (skip_step hlt hb); have HC := Lib.hid hc
        clear hb hiff hc
        go_wp2_with fail
        go_quiet ((go_at_call 114; exact Calls.quiet_of_same (HC.out _)))
        go_wp2_with fail
        go_roundg (s.size - (q + 1))
        case measure => omega
        case rel => exact ⟨q + 1, Nat.le_refl _, by rw [← HS.out]; exact HF.out, RdPost.set1 (RdPost.drewN HR.out _) _⟩
      | false =>
        have hk : decide ((0 : Int) ≤ k) = false := by
          have : ¬ 0 ≤ k := fun h => by rw [hiff.1 h] at hb; cases hb
          simpa using this
        have HS := Lib.hid (skip_stop (s := s) (q := q) (.inr hb)); have HC := Lib.hid hc
        clear hb hiff hc
        go_wp2_with fail
        go_quiet ((go_at_call 114; exact Calls.quiet_of_same (HC.out _)))
        go_wp2_with fail
        go_end0
        exact ⟨rfl, by rw [← HF.out, HS.out]; exact RdPost.drewN HR.out _⟩
    · have hltz : ¬ (q : Int) < (s.size : Int) := by omega
      have hd : decide ((q : Int) < (s.size : Int)) = false := by simpa using hltz
      have HS := Lib.hid (skip_stop (s := s) (q := q) (.inl hlt))
      go_wp2_with fail
      go_quiet (fail)
      go_wp2_with fail
      go_end0
      exact ⟨rfl, by rw [← HF.out, HS.out]; exact RdPost.drewN HR.out _⟩

theorem skip_le {s : ByteArray} : ∀ (f p : Nat), p ≤ skipB s f p ∧ (p ≤ s.size → skipB s f p ≤ s.size)
  | 0, p => by simp [skipB]
  | f + 1, p => by
    simp only [skipB]
    split
    · rename_i h
      have := skip_le (s := s) f (p + 1)
      simp at h
      omega
    · omega
set_option maxHeartbeats 4000000 in
theorem see_any (R : Nat) (s : ByteArray) (x : St) (w : World) (hs : s.size ≤ 1000000) (h : RdAt 148 R s x.p x.e w) :
    Calls Tryz.prog 113 #[.pointer (some ⟨R, 0, none⟩)] w fun z w' => z = .returned (.int .u8 ((x.see s).1.toNat : Int)) ∧ RdPost 148 R s (x.see s).2.p (x.see s).2.e w w' := by
  have hb := blanks_any R s x w hs h
  have HB := Lib.hid hb
  unfold St.see
  clear hb h
  generalize x.blanks s = y at *
  obtain ⟨p, e⟩ := y
  simp only at *
  by_cases hlt : p < s.size
  · have hltz : (p : Int) < (s.size : Int) := by omega
    have hd : decide ((s.size : Int) ≤ (p : Int)) = false := by simpa using hltz
    have hd2 : decide ((p : Int) < (s.size : Int)) = true := by simpa using hltz
    have hq0 : (0 : Int) ≤ (p : Int) := by omega
    have hgb := get_byte hlt
    rw [if_neg (by omega)]
    go_enter Tryz.func113, Tryz.ntmps113
    go_wp2_with fail
    refine Calls.mono HB.out ?_
    rintro z w1 ⟨rfl, hp⟩
    obtain ⟨l0, l1, l2, _, _, _, hRw⟩ := hp.1.cells
    have HP := Lib.hid hp
    clear hp
    go_wp2_with fail
    go_quiet (fail)
    go_wp2_with fail
    go_quiet (fail)
    go_wp2_with fail
    go_ret
    exact ⟨rfl, RdPost.drewN (RdPost.drewN HP.out _) _⟩
  · have hltz : ¬ (p : Int) < (s.size : Int) := by omega
    have hd : decide ((s.size : Int) ≤ (p : Int)) = true := by simp; omega
    rw [if_pos (by omega)]
    go_enter Tryz.func113, Tryz.ntmps113
    go_wp2_with fail
    refine Calls.mono HB.out ?_
    rintro z w1 ⟨rfl, hp⟩
    obtain ⟨l0, l1, l2, _, _, _, hRw⟩ := hp.1.cells
    have hf := fun n => fail_any R s ⟨p, e⟩ 2 (w1.drewN n) (hp.1.drewN n)
    have HP := Lib.hid hp; have HF := Lib.hid hf
    clear hp hf
    go_wp2_with fail
    go_quiet (fail)
    go_wp2_with fail
    refine Calls.mono (HF.out _) ?_
    rintro z w2 ⟨rfl, hp2⟩
    go_wp2_with fail
    go_ret
    exact ⟨rfl, RdPost.trans (RdPost.drewN HP.out _) hp2⟩

theorem i64_step {p : Nat} (h : p ≤ 2000000) : IntKind.i64.wrap ((p : Int) + 1) = ((p + 1 : Nat) : Int) := by rw [IntWalk.i64_in _ (by omega)]; simp
set_option maxHeartbeats 4000000 in
theorem wants_any (R : Nat) (s : ByteArray) (x : St) (c : UInt8) (w : World) (hs : s.size ≤ 1000000) (hp1 : x.p ≤ 1000001) (h : RdAt 148 R s x.p x.e w) :
    Calls Tryz.prog 155 #[.pointer (some ⟨R, 0, none⟩), .int .u8 (c.toNat : Int)] w fun z w' => z = .returned (.tuple #[]) ∧ RdPost 148 R s (x.wants s c).p (x.wants s c).e w w' := by
  have hb := see_any R s x w hs h
  have HB := Lib.hid hb
  have hle : (x.see s).2.p ≤ 1000001 := by
    have := skip_le (s := s) (s.size - x.p) x.p
    have key : (x.see s).2.p = skipB s (s.size - x.p) x.p := by
      unfold St.see St.blanks St.fail
      simp only
      split <;> (try split) <;> rfl
    rw [key]
    by_cases h2 : x.p ≤ s.size
    · have := this.2 h2; omega
    · rw [skip_stop (.inl (by omega))]; omega
  unfold St.wants
  clear hb h
  generalize x.see s = r at *
  obtain ⟨b, ⟨p, e⟩⟩ := r
  simp only at *
  have hst := i64_step (p := p) (by omega)
  by_cases he : e = 0
  · subst he
    by_cases hbc : b = c
    · subst hbc
      have hne : (((b.toNat : Int)) != ((b.toNat : Int))) = false := by simp
      simp only [ne_eq, not_true_eq_false, and_false, if_false]
      go_enter Tryz.func155, Tryz.ntmps155
      go_wp2_with fail
      refine Calls.mono HB.out ?_
      rintro z w1 ⟨rfl, hp⟩
      obtain ⟨l0, l1, l2, _, f1, _, hRw⟩ := hp.1.cells
      have HP := Lib.hid hp
      clear hp
      go_wp2_with fail
      go_end0
      exact ⟨rfl, RdPost.set1 HP.out (p + 1)⟩
    · have hne : (((b.toNat : Int)) != ((c.toNat : Int))) = true := by
        have : b.toNat ≠ c.toNat := fun h => hbc (UInt8.toNat_inj.1 h)
        simp; omega
      simp only [ne_eq, hbc, not_false_eq_true, and_self, if_true]
      go_enter Tryz.func155, Tryz.ntmps155
      go_wp2_with fail
      refine Calls.mono HB.out ?_
      rintro z w1 ⟨rfl, hp⟩
      obtain ⟨l0, l1, l2, _, f1, _, hRw⟩ := hp.1.cells
      have hf := fail_any R s ⟨p, 0⟩ 4 w1 hp.1
      have HP := Lib.hid hp; have HF := Lib.hid hf
      clear hp hf
      go_wp2_with fail
      refine Calls.mono HF.out ?_
      rintro z w2 ⟨rfl, hp2⟩
      have hpp := RdPost.trans HP.out hp2
      simp only [St.fail, if_true] at hpp
      obtain ⟨l0, l1, l2, _, f1, _, hRw⟩ := hpp.1.cells
      have HPP := Lib.hid hpp
      clear hpp hp2
      go_wp2_with fail
      go_end0
      exact ⟨rfl, RdPost.set1 HPP.out (p + 1)⟩
  · have hne : (e == 0) = false := by simpa using he
    simp only [he, false_and, if_false]
    go_enter Tryz.func155, Tryz.ntmps155
    go_wp2_with fail
    refine Calls.mono HB.out ?_
    rintro z w1 ⟨rfl, hp⟩
    obtain ⟨l0, l1, l2, _, f1, _, hRw⟩ := hp.1.cells
    have HP := Lib.hid hp
    clear hp
    go_wp2_with fail
    go_end0
    exact ⟨rfl, RdPost.set1 HP.out (p + 1)⟩

def anyB (s : ByteArray) (l : List UInt8) (p : Nat) : Bool := decide (p < s.size) && l.contains (byteAt s p)
def isDigit (c : UInt8) : Bool := decide (48 ≤ c.toNat) && decide (c.toNat ≤ 57)
def digitB (s : ByteArray) (p : Nat) : Bool := decide (p < s.size) && isDigit (byteAt s p)
theorem idx_any (l : ByteArray) (c : UInt8) (w : World) : Calls Tryz.prog 114 #[.string l, .int .u8 (c.toNat : Int)] w fun e w' => e = .returned (.int .i64 (Lib.indexByte l.data.toList c)) ∧ w' = w := by
  have := Tryz.strings_IndexByte l (c.toNat : Int) w
  simpa using this
set_option maxHeartbeats 4000000 in
theorem any_any (R : Nat) (s l : ByteArray) (p : Nat) (e : Int) (w : World) (h : RdAt 148 R s p e w) :
    Calls Tryz.prog 159 #[.pointer (some ⟨R, 0, none⟩), .string l] w fun z w' => z = .returned (.bool (anyB s l.data.toList p)) ∧ RdPost 148 R s p e w w' := by
  obtain ⟨l0, l1, l2, _, _, _, hRw⟩ := h.cells
  have HP := Lib.hid h.post
  clear h
  unfold anyB
  by_cases hlt : p < s.size
  · have hltz : (p : Int) < (s.size : Int) := by omega
    have hd : decide ((p : Int) < (s.size : Int)) = true := by simpa using hltz
    have hq0 : (0 : Int) ≤ (p : Int) := by omega
    have hgb := get_byte hlt
    have hc := fun W => idx_any l (byteAt s p) W
    have hiff := idx_iff l.data.toList (byteAt s p)
    have hk : decide ((0 : Int) ≤ Lib.indexByte l.data.toList (byteAt s p)) = l.data.toList.contains (byteAt s p) := by
      rw [Bool.eq_iff_iff, ← hiff]; simp
    generalize Lib.indexByte l.data.toList (byteAt s p) = k at *
    generalize l.data.toList.contains (byteAt s p) = kb at *
    have HC := Lib.hid hc
    clear hiff hc
    rw [show decide (p < s.size) = true from by simpa using hlt, Bool.true_and]
    go_enter Tryz.func159, Tryz.ntmps159
    go_wp2_with fail
    go_quiet ((go_at_call 114; exact Calls.quiet_of_same (HC.out _)))
    go_wp2_with fail
    go_ret
    exact ⟨rfl, RdPost.drewN HP.out _⟩
  · have hltz : ¬ (p : Int) < (s.size : Int) := by omega
    have hd : decide ((p : Int) < (s.size : Int)) = false := by simpa using hltz
    rw [show decide (p < s.size) = false from by simpa using hlt, Bool.false_and]
    go_enter Tryz.func159, Tryz.ntmps159
    go_wp2_with fail
    go_quiet (fail)
    go_wp2_with fail
    go_ret
    exact ⟨rfl, RdPost.drewN HP.out _⟩
set_option maxHeartbeats 4000000 in
theorem digit_any (R : Nat) (s : ByteArray) (p : Nat) (e : Int) (w : World) (h : RdAt 148 R s p e w) :
    Calls Tryz.prog 160 #[.pointer (some ⟨R, 0, none⟩)] w fun z w' => z = .returned (.bool (digitB s p)) ∧ RdPost 148 R s p e w w' := by
  obtain ⟨l0, l1, l2, _, _, _, hRw⟩ := h.cells
  have HP := Lib.hid h.post
  clear h
  unfold digitB isDigit
  by_cases hlt : p < s.size
  · have hltz : (p : Int) < (s.size : Int) := by omega
    have hd : decide ((p : Int) < (s.size : Int)) = true := by simpa using hltz
    have hq0 : (0 : Int) ≤ (p : Int) := by omega
    have hgb := get_byte hlt
    rw [show decide (p < s.size) = true from by simpa using hlt, Bool.true_and]
    generalize byteAt s p = c at *
    by_cases h48 : 48 ≤ c.toNat
    · have d48 : decide ((48 : Int) ≤ (c.toNat : Int)) = true := by simp; omega
      rw [show decide (48 ≤ c.toNat) = true from by simpa using h48, Bool.true_and]
      have d57 : decide ((c.toNat : Int) ≤ (57 : Int)) = decide (c.toNat ≤ 57) := by rw [Bool.eq_iff_iff]; simp; omega
      generalize decide (c.toNat ≤ 57) = k at *
      go_enter Tryz.func160, Tryz.ntmps160
      go_wp2_with fail
      go_quiet (fail)
      go_wp2_with fail
      go_ret
      exact ⟨rfl, RdPost.drewN HP.out _⟩
    · have d48 : decide ((48 : Int) ≤ (c.toNat : Int)) = false := by simp; omega
      rw [show decide (48 ≤ c.toNat) = false from by simpa using h48, Bool.false_and]
      go_enter Tryz.func160, Tryz.ntmps160
      go_wp2_with fail
      go_quiet (fail)
      go_wp2_with fail
      go_ret
      exact ⟨rfl, RdPost.drewN HP.out _⟩
  · have hltz : ¬ (p : Int) < (s.size : Int) := by omega
    have hd : decide ((p : Int) < (s.size : Int)) = false := by simpa using hltz
    rw [show decide (p < s.size) = false from by simpa using hlt, Bool.false_and]
    go_enter Tryz.func160, Tryz.ntmps160
    go_wp2_with fail
    go_quiet (fail)
    go_wp2_with fail
    go_ret
    exact ⟨rfl, RdPost.drewN HP.out _⟩
end Go.Proofs.YtlihjmfdnkfmfaaGreatDoor
namespace Go.Proofs.YtlihjmfdnkfmfaaGreatDoor
open Go.RowKit Go.Lib

set_option maxHeartbeats 1000000 in
theorem writeRune_any (B b : Nat) (bs : List Value) (r : Int) (hr0 : -2147483648 ≤ r) (hr1 : r ≤ 2147483647) (w : World) (h : Sb B b bs w) (hlen : bs.length + 4 ≤ 140737488355328) (hBw : B ≤ w.heap.size) :
    Calls Tryz.prog 191 #[.pointer (some ⟨b, 0, none⟩), .int .i32 r] w fun e w' => (∃ n, e = .returned (.tuple #[.int .i64 n, .nilIface])) ∧ SbPost B b (bs ++ Lib.runeCells r) w w' := by
  have hcc := copyCheck_any B b bs w h
  go_enter Tryz.func191, Tryz.ntmps191
  go_wp2_with fail
  refine Calls.mono hcc ?_
  rintro e w1 ⟨rfl, ⟨hB, v, hbk, hown, hne⟩, hb1, hk1⟩
  obtain ⟨A, c, rfl⟩ : ∃ A c, v = .slice A bs.length c := by
    rcases hown.2 with ⟨rfl, h0⟩ | ⟨g, cap, cur, rfl, _⟩
    · exact ⟨none, 0, by rw [h0]⟩
    · exact ⟨_, _, rfl⟩
  have c1 : w1.cell? ⟨b, 1, none⟩ = some (.slice A bs.length c) := by rw [Lib.cell_of_heap hbk]; rfl
  have har := Tryz.utf8_AppendRune_plain B _ _ _ r hr0 hr1 w1 hown hlen (Nat.le_trans hBw hb1.size)
  have Hbk := Lib.hid hbk; have Ho := Lib.hid hown; have Hne := Lib.hid hne; have HBw := Lib.hid (Nat.le_trans hBw hb1.size); have HL := Lib.hid hlen
  have HK := Lib.hid hk1; have HB1 := Lib.hid hb1; have HAR := Lib.hid har
  clear hbk hown hne hlen hk1 hb1 hcc h har
  go_wp2_with fail
  refine Calls.mono HAR.out ?_
  rintro e w2 ⟨v', rfl, ho2, o, hg2⟩
  obtain ⟨A', c', rfl⟩ := own_sliceB ho2
  have hba : Below w1.heap.size w1 (w1.alloc o) := bel_alloc (Below.refl _ _) _
  have hown' := own_laterB Ho.out hba
  have hbk' : (w1.alloc o).heap[b]? = some (.cells #[.pointer (some ⟨b, 0, none⟩), .slice A bs.length c] 154 (0, 0)) := (hba.block b (Array.getElem?_eq_some_iff.1 Hbk.out).1).trans Hbk.out
  have hb1' : Below B w (w1.alloc o) := HB1.out.alloc HBw.out _
  have hk1' : Lib.OthersKept 5 (some b) w (w1.alloc o) := HK.out.alloc _
  have hb2 : w2.heap[b]? = some (.cells #[.pointer (some ⟨b, 0, none⟩), .slice A bs.length c] 154 (0, 0)) := (hg2.block b (Array.getElem?_eq_some_iff.1 hbk').1 (fun e => Hne.out e.symm)).trans hbk'
  have d1 : w2.cell? ⟨b, 1, none⟩ = some (.slice A bs.length c) := by rw [Lib.cell_of_heap hb2]; rfl
  have f1 : w2.frozen? ⟨b, 1, none⟩ = false := by simp [World.frozen?, hb2]
  have s1 : (w2.setCell ⟨b, 1, none⟩ (.slice A' (bs.length + (runeCells r).length) c')).cell? ⟨b, 1, none⟩ = some (.slice A' (bs.length + (runeCells r).length) c') := World.cell?_setCell_same (h := d1) ..
  have Ho2 := Lib.hid ho2; have Hg2 := Lib.hid hg2; have Ho1 := Lib.hid hown'; have Hbk' := Lib.hid hbk'; have Hb1' := Lib.hid hb1'; have Hk1' := Lib.hid hk1'
  clear ho2 hg2 hb2 hown' hbk' hb1' hk1' hba
  go_wp2_with fail
  go_ret2
  refine ⟨⟨_, rfl⟩, ?_⟩
  exact sb_put hB hBw Hbk'.out Ho1.out Hne.out Hb1'.out Hk1'.out Hg2.out (by rw [List.length_append]; exact Ho2.out)

def letterTab : List (Int × Int) := [(34, 34), (92, 92), (8, 98), (12, 102), (10, 110), (13, 114), (9, 116)]
def letterIn (l : List (Int × Int)) (r : Int) : Int := match l with | [] => 0 | (a, b) :: l => if a = r then b else letterIn l r
def letterB (r : Int) : Int := letterIn letterTab r
theorem letter_step {k : Nat} {r x a b : Int} (h : letterB r = letterIn (letterTab.drop k) r) (ht : letterTab[k]? = some (a, b)) (hx : (x == r) = false) (e : x = a) : letterB r = letterIn (letterTab.drop (k + 1)) r := by
  subst e
  rw [h, drop_of_get ht]; simp only [letterIn]; rw [if_neg (by simpa using hx)]
theorem letter_hit {k : Nat} {r x a b : Int} (h : letterB r = letterIn (letterTab.drop k) r) (ht : letterTab[k]? = some (a, b)) (hx : (x == r) = true) (e : x = a) : letterB r = b := by
  subst e
  rw [h, drop_of_get ht]; simp only [letterIn]; rw [if_pos (by simpa using hx)]
set_option maxHeartbeats 4000000 in
theorem letter_any (r : Int) (w : World) : Calls Tryz.prog 196 #[.int .i32 r] w fun e w' => e = .returned (.int .u8 (letterB r)) ∧ w' = w := by
  go_enter Tryz.func196, Tryz.ntmps196
  go_wp2_with fail
  go_loopg [3] 7 (fun gg s3 wr => ∃ k : Nat, k ≤ 7 ∧ 7 - k ≤ gg ∧ s3 = .int .i64 (2 * k) ∧ wr = w ∧ Aside (letterB r = letterIn (letterTab.drop k) r))
  case atStart => exact ⟨0, by omega, by omega, rfl, rfl, rfl⟩
  case round =>
    obtain ⟨k, hk, hgg, rfl, rfl, HA⟩ := hrel
    have hor : k = 0 ∨ k = 1 ∨ k = 2 ∨ k = 3 ∨ k = 4 ∨ k = 5 ∨ k = 6 ∨ k = 7 := by omega
    rcases hor with rfl | rfl | rfl | rfl | rfl | rfl | rfl | rfl
    case inr.inr.inr.inr.inr.inr.inr =>
      go_wp2_with fail
      go_ret
      exact ⟨by rw [HA.out]; rfl, rfl⟩
    case inl =>
      go_wp2_with fail
      · rename_i h
        have HH := Lib.hid h
        clear h
        go_ret
        exact ⟨by rw [letter_hit HA.out rfl HH.out (by kernel_rfl)]; rfl, rfl⟩
      · rename_i h
        have HH := Lib.hid h
        clear h
        go_roundg (7 - (0 + 1))
        case measure => omega
        case rel => exact ⟨0 + 1, by omega, by omega, rfl, rfl, letter_step HA.out rfl HH.out (by kernel_rfl)⟩
    case inr.inl =>
      go_wp2_with fail
      · rename_i h
        have HH := Lib.hid h
        clear h
        go_ret
        exact ⟨by rw [letter_hit HA.out rfl HH.out (by kernel_rfl)]; rfl, rfl⟩
      · rename_i h
        have HH := Lib.hid h
        clear h
        go_roundg (7 - (1 + 1))
        case measure => omega
        case rel => exact ⟨1 + 1, by omega, by omega, rfl, rfl, letter_step HA.out rfl HH.out (by kernel_rfl)⟩
    case inr.inr.inl =>
      go_wp2_with fail
      · rename_i h
        have HH := Lib.hid h
        clear h
        go_ret
        exact ⟨by rw [letter_hit HA.out rfl HH.out (by kernel_rfl)]; rfl, rfl⟩
      · rename_i h
        have HH := Lib.hid h
        clear h
        go_roundg (7 - (2 + 1))
        case measure => omega
        case rel => exact ⟨2 + 1, by omega, by omega, rfl, rfl, letter_step HA.out rfl HH.out (by kernel_rfl)⟩
    case inr.inr.inr.inl =>
      go_wp2_with fail
      · rename_i h
        have HH := Lib.hid h
        clear h
        go_ret
        exact ⟨by rw [letter_hit HA.out rfl HH.out (by kernel_rfl)]; rfl, rfl⟩
      · rename_i h
        have HH := Lib.hid h
        clear h
        go_roundg (7 - (3 + 1))
        case measure => omega
        case rel => exact ⟨3 + 1, by omega, by omega, rfl, rfl, letter_step HA.out rfl HH.out (by kernel_rfl)⟩
    case inr.inr.inr.inr.inl =>
      go_wp2_with fail
      · rename_i h
        have HH := Lib.hid h
        clear h
        go_ret
        exact ⟨by rw [letter_hit HA.out rfl HH.out (by kernel_rfl)]; rfl, rfl⟩
      · rename_i h
        have HH := Lib.hid h
        clear h
        go_roundg (7 - (4 + 1))
        case measure => omega
        case rel => exact ⟨4 + 1, by omega, by omega, rfl, rfl, letter_step HA.out rfl HH.out (by kernel_rfl)⟩
    case inr.inr.inr.inr.inr.inl =>
      go_wp2_with fail
      · rename_i h
        have HH := Lib.hid h
        clear h
        go_ret
        exact ⟨by rw [letter_hit HA.out rfl HH.out (by kernel_rfl)]; rfl, rfl⟩
      · rename_i h
        have HH := Lib.hid h
        clear h
        go_roundg (7 - (5 + 1))
        case measure => omega
        case rel => exact ⟨5 + 1, by omega, by omega, rfl, rfl, letter_step HA.out rfl HH.out (by kernel_rfl)⟩
    case inr.inr.inr.inr.inr.inr.inl =>
      go_wp2_with fail
      · rename_i h
        have HH := Lib.hid h
        clear h
        go_ret
        exact ⟨by rw [letter_hit HA.out rfl HH.out (by kernel_rfl)]; rfl, rfl⟩
      · rename_i h
        have HH := Lib.hid h
        clear h
        go_roundg (7 - (6 + 1))
        case measure => omega
        case rel => exact ⟨6 + 1, by omega, by omega, rfl, rfl, letter_step HA.out rfl HH.out (by kernel_rfl)⟩
end Go.Proofs.YtlihjmfdnkfmfaaGreatDoor
