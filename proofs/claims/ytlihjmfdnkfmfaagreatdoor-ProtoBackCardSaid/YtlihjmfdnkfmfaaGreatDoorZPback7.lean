/- Parts of the proof: P, Uq. -/
import Derived.Test.YtlihjmfdnkfmfaaGreatDoorZPback6
import Derived.Test.YtlihjmfdnkfmfaaGreatDoorZPback5
import Derived.Lib.TrimU
namespace Go.Proofs.YtlihjmfdnkfmfaaGreatDoor
open Go.RowKit Go.Lib

theorem sb_later {B b : Nat} {bs : List Value} {w w' : World} (h : Sb B b bs w) (hba : Below w.heap.size w w') : Sb B b bs w' := by
  have key : ∀ p, Lib.BuilderAt 154 5 B b p bs w → Lib.BuilderAt 154 5 B b p bs w' := by
    rintro p ⟨hB, v, hb, ho, hne⟩
    exact ⟨hB, v, (hba.block b (Array.getElem?_eq_some_iff.1 hb).1).trans hb, own_laterB ho hba, hne⟩
  exact h.imp (key _) (key _)
theorem kept_of_below {e : TypeId} {b : Option Nat} {w w' : World} (h : Below w.heap.size w w') : Lib.OthersKept e b w w' := fun k _ hk _ _ => (h.block k (Array.getElem?_eq_some_iff.1 hk).1).trans hk
theorem post_of_below {B b : Nat} {bs : List Value} {w w' : World} (h : Sb B b bs w) (hB : B ≤ w.heap.size) (hb : Below w.heap.size w w') : SbPost B b bs w w' := ⟨sb_later h hb, hb.mono hB, kept_of_below hb⟩
theorem post_trans {B b : Nat} {bs bs' : List Value} {w w1 w2 : World} (h : SbPost B b bs w w1) (k : SbPost B b bs' w1 w2) : SbPost B b bs' w w2 := ⟨k.1, h.2.1.trans k.2.1, h.2.2.trans k.2.2⟩
theorem post_block {B b : Nat} {bs : List Value} {w w' : World} (h : SbPost B b bs w w') {k : Nat} {c : Array Value} {t : TypeId} {fz : Nat × Nat} (hk : w.heap[k]? = some (.cells c t fz)) (hb : k ≠ b) (ht : t ≠ 5) : w'.heap[k]? = some (.cells c t fz) :=
  h.2.2 k _ hk (by simpa using hb) (by rintro c' fz' e; cases e; exact ht rfl)
/-- the builder's block is none of another type -/
theorem sb_ne {B b : Nat} {bs : List Value} {w : World} (h : Sb B b bs w) {k : Nat} {c : Array Value} {t : TypeId} {fz : Nat × Nat} (hk : w.heap[k]? = some (.cells c t fz)) (ht : t ≠ 154) : k ≠ b := by
  rintro rfl
  rcases h with ⟨_, v, hb, _⟩ | ⟨_, v, hb, _⟩ <;> (rw [hk] at hb; cases hb; exact ht rfl)

theorem jquote_any (B b : Nat) (bs : List Value) (s : ByteArray) (w : World) (hs : s.size ≤ 17592186044416) (hT : Tabs w) (hv : validB s = true) (h : Sb B b bs w) (hlen : bs.length + (quoteB s).length ≤ 140737488355328) (hBw : B ≤ w.heap.size) :
    Calls Tryz.prog 123 #[.pointer (some ⟨b, 0, none⟩), .string s] w fun e w' => e = .returned (.tuple #[]) ∧ SbPost B b (bs ++ Lib.byteCells (quoteB s)) w w' := by
  have hq := quote_good s w hs hT hv
  have HL := Lib.hid hlen
  clear hlen
  go_enter Tryz.func123, Tryz.ntmps123
  go_wp2_with fail
  refine Calls.mono hq ?_
  rintro e w1 ⟨rfl, hb1⟩
  clear hq
  go_wp2_with fail
  refine Calls.mono (writeString_any B b bs _ w1 (sb_later h hb1) (by have := HL.out; simpa [ByteArray.size] using this) (Nat.le_trans hBw hb1.size)) ?_
  rintro e w2 ⟨rfl, hp⟩
  go_wp2_with fail
  go_end0
  exact ⟨rfl, post_trans (post_of_below h hBw hb1) hp⟩

def joinFrom {α : Type} (f : α → List UInt8) : Bool → List α → List UInt8
  | _, [] => []
  | first, x :: xs => (if first then f x else 44 :: f x) ++ joinFrom f false xs
def printB : Nat → JV → List UInt8
  | 0, _ => []
  | d + 1, x => if x.k = 1 then [110, 117, 108, 108] else if x.k = 2 then [102, 97, 108, 115, 101] else if x.k = 3 then [116, 114, 117, 101] else if x.k = 4 then Lib.itoa x.n else if x.k = 5 then quoteB x.s
    else if x.k = 6 then 91 :: (joinFrom (printB d) true x.l ++ [93]) else 123 :: (joinFrom (fun p => quoteB p.1 ++ 58 :: printB d p.2) true x.m ++ [125])

/-- print's contract at a depth -/
def PrintAt (d : Nat) : Prop := ∀ (x : JV) (cs : List Value) (F : Nat → Prop) (w0 : World) (b : Nat) (bs : List Value) (w : World), mayJ d x = true → JR w0 F x cs → Tabs w0 → Below w0.heap.size w0 w → Sb w0.heap.size b bs w → bs.length + (printB d x).length ≤ 140737488355328 →
    Calls Tryz.prog 71 #[.pointer (some ⟨b, 0, none⟩), .agg cs.toArray] w fun e w' => e = .returned (.tuple #[]) ∧ SbPost w0.heap.size b (bs ++ Lib.byteCells (printB d x)) w w'
theorem join_step {α : Type} {f : α → List UInt8} {l : List α} {k : Nat} {x : α} (hx : l[k]? = some x) : joinFrom f (k == 0) (l.drop k) = (if k = 0 then f x else 44 :: f x) ++ joinFrom f false (l.drop (k + 1)) := by
  rw [drop_of_get hx]
  simp only [joinFrom]
  by_cases hk : k = 0 <;> simp [hk]

set_option maxHeartbeats 4000000 in
set_option maxRecDepth 100000 in
theorem list_any (d : Nat) (ih : PrintAt d) (l : List JV) (v : Value) (F : Nat → Prop) (w0 : World) (b : Nat) (bs : List Value) (w : World) (hm : l.all (mayJ d) = true) (hl : Sl jvTy w0 F v l) (hT : Tabs w0) (h0 : Below w0.heap.size w0 w) (h : Sb w0.heap.size b bs w)
    (hlen : bs.length + (91 :: (joinFrom (printB d) true l ++ [93])).length ≤ 140737488355328) :
    Calls Tryz.prog 124 #[.pointer (some ⟨b, 0, none⟩), v] w fun e w' => e = .returned (.tuple #[]) ∧ SbPost w0.heap.size b (bs ++ Lib.byteCells (91 :: (joinFrom (printB d) true l ++ [93]))) w w' := by
  obtain ⟨A, c, rfl, hn63, hel⟩ := val_cells hl
  have Hel := Lib.hid hel; have HM := Lib.hid hm; have HT := Lib.hid hT; have H0 := Lib.hid h0; have HL := Lib.hid hlen; have IH := Lib.hid ih
  have hw1 := writeByte_any w0.heap.size b bs 91 w h (by simp at hlen; omega) h0.size
  clear hl hel hm hT h0 hlen ih h
  generalize hn : l.length = n at *
  have Hn := Lib.hid hn
  clear hn
  go_enter Tryz.func124, Tryz.ntmps124
  go_wp2_with fail
  refine Calls.mono hw1 ?_
  rintro e w1 ⟨rfl, hp1⟩
  have HP1 := Lib.hid hp1
  clear hp1 hw1
  go_wp2_with fail
  go_loopg [4, 5, 10] n (fun gg _ _ s10 wr => ∃ (k : Nat) (acc : List UInt8), k ≤ n ∧ n - k ≤ gg ∧ s10 = .int .i64 k ∧ Aside (SbPost w0.heap.size b (bs ++ Lib.byteCells (91 :: acc)) w wr) ∧ Aside (joinFrom (printB d) true l = acc ++ joinFrom (printB d) (k == 0) (l.drop k)))
  case atStart => exact ⟨0, [], by omega, by omega, rfl, HP1.out, rfl⟩
  case round =>
    obtain ⟨k, acc, hk, hgg, rfl, HP, HA⟩ := hrel
    have hbw := H0.out.trans HP.out.2.1
    by_cases hlt : k < n
    · have hltz : (k : Int) < (n : Int) := by omega
      obtain ⟨y, hx⟩ : ∃ p, l[k]? = some p := get_ex (by have := Hn.out; omega)
      obtain ⟨o, q, B1, k1, d1, B2, k2, d2, rfl, e0, e1, e2, e3, e4, hjr⟩ := Hel.out k y hx
      have r0 := cell_later' hbw e0
      have r1 := cell_later' hbw e1
      have r2 := cell_later' hbw e2
      have r3 := cell_later' hbw e3
      have r4 := cell_later' hbw e4
      have hbr : o < wr.heap.size := World.block_lt_of_cell? _ _ r0
      have hmy : mayJ d y = true := List.all_eq_true.1 HM.out y (List.mem_of_getElem? hx)
      have hst := HA.out
      rw [join_step hx] at hst
      have HX := Lib.hid hx; have HY := Lib.hid hmy; have HJ := Lib.hid hjr; have HS := Lib.hid hst
      clear hx hjr e0 e1 e2 e3 e4 hmy hst
      have hbA : Below wr.heap.size wr (wr.alloc (.cells #[.int .i64 y.k, .int .i64 y.n, .string y.s, .slice B1 k1 d1, .slice B2 k2 d2] 43)) := bel_alloc (Below.refl _ _) _
      have hnew : (wr.alloc (.cells #[.int .i64 y.k, .int .i64 y.n, .string y.s, .slice B1 k1 d1, .slice B2 k2 d2] 43)).heap[wr.heap.size]? = some (.cells #[.int .i64 y.k, .int .i64 y.n, .string y.s, .slice B1 k1 d1, .slice B2 k2 d2] 43 (0, 0)) := heap_alloc_new wr _
      have hpa := post_trans HP.out (post_of_below HP.out.1 hbw.size hbA)
      have HPA := Lib.hid hpa; have HNW := Lib.hid hnew
      clear hpa hnew hbA
      by_cases hk0 : k = 0
      · have hz : decide (0 < k) = false := by simp [hk0]
        have hz2 : decide ((0 : Int) < (k : Int)) = false := by simp [hk0]
        have HK0 := Lib.hid hk0
        clear hk0
        go_wp2_with fail
        refine Calls.mono (IH.out y _ F w0 b (bs ++ Lib.byteCells (91 :: acc)) _ HY.out HJ.out HT.out (H0.out.trans HPA.out.2.1) HPA.out.1 (by have hl := HL.out; rw [HS.out, if_pos HK0.out] at hl; simp [Lib.byteCells] at hl ⊢; omega)) ?_
        rintro e w5 ⟨rfl, hp5⟩
        have hpost := post_trans HPA.out hp5
        have hcells : bs ++ Lib.byteCells (91 :: (acc ++ (printB d y))) = bs ++ Lib.byteCells (91 :: acc) ++ Lib.byteCells (printB d y) := by simp [Lib.byteCells]
        rw [← hcells] at hpost
        have hjoin : joinFrom (printB d) true l = (acc ++ (printB d y)) ++ joinFrom (printB d) (k + 1 == 0) (l.drop (k + 1)) := by rw [HS.out, if_pos HK0.out, List.append_assoc]; rfl
        have HF := Lib.hid hpost; have HG := Lib.hid hjoin
        clear hp5 hpost hcells hjoin
        go_wp2_with fail
        go_roundg (n - (k + 1))
        case measure => omega
        case rel => exact ⟨k + 1, acc ++ (printB d y), by omega, by omega, by simp, HF.out, HG.out⟩
      · have hk1 : (0 : Int) < (k : Int) := by omega
        have HK0 := Lib.hid hk0
        clear hk0
        go_wp2_with fail
        refine Calls.mono (writeByte_any w0.heap.size b _ 44 _ HPA.out.1 (by have hl := HL.out; rw [HS.out, if_neg HK0.out] at hl; simp [Lib.byteCells] at hl ⊢; omega) (H0.out.trans HPA.out.2.1).size) ?_
        rintro e w4 ⟨rfl, hp4⟩
        have hnw := post_block hp4 HNW.out (sb_ne HPA.out.1 HNW.out (by decide)) (by decide)
        have t0 : w4.cell? ⟨wr.heap.size, 0, none⟩ = some (.int .i64 y.k) := by rw [Lib.cell_of_heap hnw]; rfl
        have t1 : w4.cell? ⟨wr.heap.size, 1, none⟩ = some (.int .i64 y.n) := by rw [Lib.cell_of_heap hnw]; rfl
        have t2 : w4.cell? ⟨wr.heap.size, 2, none⟩ = some (.string y.s) := by rw [Lib.cell_of_heap hnw]; rfl
        have t3 : w4.cell? ⟨wr.heap.size, 3, none⟩ = some (.slice B1 k1 d1) := by rw [Lib.cell_of_heap hnw]; rfl
        have t4 : w4.cell? ⟨wr.heap.size, 4, none⟩ = some (.slice B2 k2 d2) := by rw [Lib.cell_of_heap hnw]; rfl
        have hp4' := post_trans HPA.out hp4
        have hc4 : bs ++ Lib.byteCells (91 :: (acc ++ [44])) = bs ++ Lib.byteCells (91 :: acc) ++ [.int .u8 44] := by simp [Lib.byteCells]
        rw [← hc4] at hp4'
        have HP4 := Lib.hid hp4'
        clear hp4 hp4' hc4 hnw
        go_wp2_with fail
        refine Calls.mono (IH.out y _ F w0 b (bs ++ Lib.byteCells (91 :: (acc ++ [44]))) _ HY.out HJ.out HT.out (H0.out.trans HP4.out.2.1) HP4.out.1 (by have hl := HL.out; rw [HS.out, if_neg HK0.out] at hl; simp [Lib.byteCells] at hl ⊢; omega)) ?_
        rintro e w5 ⟨rfl, hp5⟩
        have hpost := post_trans HP4.out hp5
        have hcells : bs ++ Lib.byteCells (91 :: (acc ++ (44 :: printB d y))) = bs ++ Lib.byteCells (91 :: (acc ++ [44])) ++ Lib.byteCells (printB d y) := by simp [Lib.byteCells]
        rw [← hcells] at hpost
        have hjoin : joinFrom (printB d) true l = (acc ++ (44 :: printB d y)) ++ joinFrom (printB d) (k + 1 == 0) (l.drop (k + 1)) := by rw [HS.out, if_neg HK0.out, List.append_assoc]; rfl
        have HF := Lib.hid hpost; have HG := Lib.hid hjoin
        clear hp5 hpost hcells hjoin
        go_wp2_with fail
        go_roundg (n - (k + 1))
        case measure => omega
        case rel => exact ⟨k + 1, acc ++ (44 :: printB d y), by omega, by omega, by simp, HF.out, HG.out⟩
    · have hltz : ¬ ((k : Int) < (n : Int)) := by omega
      have hd : l.drop k = [] := List.drop_eq_nil_of_le (by have := Hn.out; omega)
      have hacc := HA.out
      rw [hd] at hacc
      have hacc' : joinFrom (printB d) true l = acc := by rw [hacc]; simp [joinFrom]
      have HC := Lib.hid hacc'
      clear hd hacc hacc'
      go_wp2_with fail
      refine Calls.mono (writeByte_any w0.heap.size b _ 93 _ HP.out.1 (by have hl := HL.out; rw [HC.out] at hl; simp [Lib.byteCells] at hl ⊢; omega) hbw.size) ?_
      rintro e w4 ⟨rfl, hp4⟩
      have hp4' := post_trans HP.out hp4
      have hc4 : bs ++ Lib.byteCells (91 :: (acc ++ [93])) = bs ++ Lib.byteCells (91 :: acc) ++ [.int .u8 93] := by simp [Lib.byteCells]
      rw [← hc4] at hp4'
      have HP4 := Lib.hid hp4'
      clear hp4 hp4' hc4
      go_wp2_with fail
      go_end0
      exact ⟨rfl, by rw [HC.out]; exact HP4.out⟩

set_option maxHeartbeats 4000000 in
set_option maxRecDepth 100000 in
theorem object_any (d : Nat) (ih : PrintAt d) (l : List (ByteArray × JV)) (v : Value) (F : Nat → Prop) (w0 : World) (b : Nat) (bs : List Value) (w : World) (hm : (l.all fun p => mayJ d p.2) = true) (hns : ∀ p ∈ l, shortB p.1 = true) (hl : Sl memTy w0 F v l) (hT : Tabs w0) (h0 : Below w0.heap.size w0 w) (h : Sb w0.heap.size b bs w)
    (hlen : bs.length + (123 :: (joinFrom (fun p => quoteB p.1 ++ 58 :: printB d p.2) true l ++ [125])).length ≤ 140737488355328) :
    Calls Tryz.prog 125 #[.pointer (some ⟨b, 0, none⟩), v] w fun e w' => e = .returned (.tuple #[]) ∧ SbPost w0.heap.size b (bs ++ Lib.byteCells (123 :: (joinFrom (fun p => quoteB p.1 ++ 58 :: printB d p.2) true l ++ [125]))) w w' := by
  obtain ⟨A, c, rfl, hn63, hel⟩ := mem_cells hl
  have Hel := Lib.hid hel; have HM := Lib.hid hm; have HT := Lib.hid hT; have H0 := Lib.hid h0; have HL := Lib.hid hlen; have IH := Lib.hid ih; have HNS := Lib.hid hns
  have hw1 := writeByte_any w0.heap.size b bs 123 w h (by simp at hlen; omega) h0.size
  clear hl hel hm hT h0 hlen ih h hns
  generalize hn : l.length = n at *
  have Hn := Lib.hid hn
  clear hn
  go_enter Tryz.func125, Tryz.ntmps125
  go_wp2_with fail
  refine Calls.mono hw1 ?_
  rintro e w1 ⟨rfl, hp1⟩
  have HP1 := Lib.hid hp1
  clear hp1 hw1
  go_wp2_with fail
  go_loopg [4, 5, 10] n (fun gg _ _ s10 wr => ∃ (k : Nat) (acc : List UInt8), k ≤ n ∧ n - k ≤ gg ∧ s10 = .int .i64 k ∧ Aside (SbPost w0.heap.size b (bs ++ Lib.byteCells (123 :: acc)) w wr) ∧ Aside (joinFrom (fun p => quoteB p.1 ++ 58 :: printB d p.2) true l = acc ++ joinFrom (fun p => quoteB p.1 ++ 58 :: printB d p.2) (k == 0) (l.drop k)))
  case atStart => exact ⟨0, [], by omega, by omega, rfl, HP1.out, rfl⟩
  case round =>
    obtain ⟨k, acc, hk, hgg, rfl, HP, HA⟩ := hrel
    have hbw := H0.out.trans HP.out.2.1
    by_cases hlt : k < n
    · have hltz : (k : Int) < (n : Int) := by omega
      obtain ⟨⟨nm, y⟩, hx⟩ : ∃ p, l[k]? = some p := get_ex (by have := Hn.out; omega)
      obtain ⟨o, q, B1, k1, d1, B2, k2, d2, rfl, hnz, e0, e1, e2, e3, e4, e5, hjr⟩ := Hel.out k nm y hx
      have r0 := cell_later' hbw e0
      have r1 := cell_later' hbw e1
      have r2 := cell_later' hbw e2
      have r3 := cell_later' hbw e3
      have r4 := cell_later' hbw e4
      have r5 := cell_later' hbw e5
      have hbr : o < wr.heap.size := World.block_lt_of_cell? _ _ r0
      have hmy : mayJ d y = true := List.all_eq_true.1 HM.out (nm, y) (List.mem_of_getElem? hx)
      have hsh : shortB nm = true := HNS.out (nm, y) (List.mem_of_getElem? hx)
      have hsv : validB nm = true ∧ nm.size ≤ 8000 := by simpa [shortB] using hsh
      have hst := HA.out
      rw [join_step hx] at hst
      have HX := Lib.hid hx; have HY := Lib.hid hmy; have HJ := Lib.hid hjr; have HS := Lib.hid hst; have HV := Lib.hid hsv
      clear hx hjr e0 e1 e2 e3 e4 e5 hmy hst hsh hsv hnz
      have hbA : Below wr.heap.size wr (wr.alloc (.cells #[.string nm, .int .i64 y.k, .int .i64 y.n, .string y.s, .slice B1 k1 d1, .slice B2 k2 d2] 49)) := bel_alloc (Below.refl _ _) _
      have hnew : (wr.alloc (.cells #[.string nm, .int .i64 y.k, .int .i64 y.n, .string y.s, .slice B1 k1 d1, .slice B2 k2 d2] 49)).heap[wr.heap.size]? = some (.cells #[.string nm, .int .i64 y.k, .int .i64 y.n, .string y.s, .slice B1 k1 d1, .slice B2 k2 d2] 49 (0, 0)) := heap_alloc_new wr _
      have hpa := post_trans HP.out (post_of_below HP.out.1 hbw.size hbA)
      have HPA := Lib.hid hpa; have HNW := Lib.hid hnew
      clear hpa hnew hbA
      by_cases hk0 : k = 0
      · have hz : decide (0 < k) = false := by simp [hk0]
        have hz2 : decide ((0 : Int) < (k : Int)) = false := by simp [hk0]
        have HK0 := Lib.hid hk0
        clear hk0
        go_wp2_with fail
        refine Calls.mono (jquote_any w0.heap.size b _ nm _ (by have := HV.out.2; omega) (HT.out.below (H0.out.trans HPA.out.2.1)) HV.out.1 HPA.out.1 (by have hl := HL.out; rw [HS.out, if_pos HK0.out] at hl; simp [Lib.byteCells] at hl ⊢; omega) (H0.out.trans HPA.out.2.1).size) ?_
        rintro e w5 ⟨rfl, hp5⟩
        have hnw5 := post_block hp5 HNW.out (sb_ne HPA.out.1 HNW.out (by decide)) (by decide)
        have hp5' := post_trans HPA.out hp5
        have HP5 := Lib.hid hp5'; have HN5 := Lib.hid hnw5
        clear hp5 hp5' hnw5
        go_wp2_with fail
        refine Calls.mono (writeByte_any w0.heap.size b _ 58 _ HP5.out.1 (by have hl := HL.out; rw [HS.out, if_pos HK0.out] at hl; simp [Lib.byteCells] at hl ⊢; omega) (H0.out.trans HP5.out.2.1).size) ?_
        rintro e w6 ⟨rfl, hp6⟩
        have hnw6 := post_block hp6 HN5.out (sb_ne HP5.out.1 HN5.out (by decide)) (by decide)
        have u0 : w6.cell? ⟨wr.heap.size, 0, none⟩ = some (.string nm) := by rw [Lib.cell_of_heap hnw6]; rfl
        have u1 : w6.cell? ⟨wr.heap.size, 1, none⟩ = some (.int .i64 y.k) := by rw [Lib.cell_of_heap hnw6]; rfl
        have u2 : w6.cell? ⟨wr.heap.size, 2, none⟩ = some (.int .i64 y.n) := by rw [Lib.cell_of_heap hnw6]; rfl
        have u3 : w6.cell? ⟨wr.heap.size, 3, none⟩ = some (.string y.s) := by rw [Lib.cell_of_heap hnw6]; rfl
        have u4 : w6.cell? ⟨wr.heap.size, 4, none⟩ = some (.slice B1 k1 d1) := by rw [Lib.cell_of_heap hnw6]; rfl
        have u5 : w6.cell? ⟨wr.heap.size, 5, none⟩ = some (.slice B2 k2 d2) := by rw [Lib.cell_of_heap hnw6]; rfl
        have hp6' := post_trans HP5.out hp6
        have HP6 := Lib.hid hp6'
        clear hp6 hp6' hnw6
        go_wp2_with fail
        refine Calls.mono (IH.out y _ F w0 b _ _ HY.out HJ.out HT.out (H0.out.trans HP6.out.2.1) HP6.out.1 (by have hl := HL.out; rw [HS.out, if_pos HK0.out] at hl; simp [Lib.byteCells] at hl ⊢; omega)) ?_
        rintro e w7 ⟨rfl, hp7⟩
        have hpost := post_trans HP6.out hp7
        have hcells : bs ++ Lib.byteCells (123 :: (acc ++ (quoteB nm ++ 58 :: printB d y))) = _ := (show _ = bs ++ Lib.byteCells (123 :: acc) ++ Lib.byteCells (quoteB nm) ++ [.int .u8 58] ++ Lib.byteCells (printB d y) by simp [Lib.byteCells])
        rw [← hcells] at hpost
        have hjoin : joinFrom (fun p => quoteB p.1 ++ 58 :: printB d p.2) true l = (acc ++ (quoteB nm ++ 58 :: printB d y)) ++ joinFrom (fun p => quoteB p.1 ++ 58 :: printB d p.2) (k + 1 == 0) (l.drop (k + 1)) := by rw [HS.out, if_pos HK0.out]; simp [List.append_assoc]
        have HF := Lib.hid hpost; have HG := Lib.hid hjoin
        clear hp7 hpost hcells hjoin
        go_wp2_with fail
        go_roundg (n - (k + 1))
        case measure => omega
        case rel => exact ⟨k + 1, acc ++ (quoteB nm ++ 58 :: printB d y), by omega, by omega, by simp, HF.out, HG.out⟩
      · have hk1 : (0 : Int) < (k : Int) := by omega
        have HK0 := Lib.hid hk0
        clear hk0
        go_wp2_with fail
        refine Calls.mono (writeByte_any w0.heap.size b _ 44 _ HPA.out.1 (by have hl := HL.out; rw [HS.out, if_neg HK0.out] at hl; simp [Lib.byteCells] at hl ⊢; omega) (H0.out.trans HPA.out.2.1).size) ?_
        rintro e w4 ⟨rfl, hp4⟩
        have hnw := post_block hp4 HNW.out (sb_ne HPA.out.1 HNW.out (by decide)) (by decide)
        have t0 : w4.cell? ⟨wr.heap.size, 0, none⟩ = some (.string nm) := by rw [Lib.cell_of_heap hnw]; rfl
        have t1 : w4.cell? ⟨wr.heap.size, 1, none⟩ = some (.int .i64 y.k) := by rw [Lib.cell_of_heap hnw]; rfl
        have t2 : w4.cell? ⟨wr.heap.size, 2, none⟩ = some (.int .i64 y.n) := by rw [Lib.cell_of_heap hnw]; rfl
        have t3 : w4.cell? ⟨wr.heap.size, 3, none⟩ = some (.string y.s) := by rw [Lib.cell_of_heap hnw]; rfl
        have t4 : w4.cell? ⟨wr.heap.size, 4, none⟩ = some (.slice B1 k1 d1) := by rw [Lib.cell_of_heap hnw]; rfl
        have t5 : w4.cell? ⟨wr.heap.size, 5, none⟩ = some (.slice B2 k2 d2) := by rw [Lib.cell_of_heap hnw]; rfl
        have hp4' := post_trans HPA.out hp4
        have hc4 : bs ++ Lib.byteCells (123 :: (acc ++ [44])) = bs ++ Lib.byteCells (123 :: acc) ++ [.int .u8 44] := by simp [Lib.byteCells]
        rw [← hc4] at hp4'
        have HP4 := Lib.hid hp4'; have HN4 := Lib.hid hnw
        clear hp4 hp4' hc4 hnw
        go_wp2_with fail
        refine Calls.mono (jquote_any w0.heap.size b _ nm _ (by have := HV.out.2; omega) (HT.out.below (H0.out.trans HP4.out.2.1)) HV.out.1 HP4.out.1 (by have hl := HL.out; rw [HS.out, if_neg HK0.out] at hl; simp [Lib.byteCells] at hl ⊢; omega) (H0.out.trans HP4.out.2.1).size) ?_
        rintro e w5 ⟨rfl, hp5⟩
        have hnw5 := post_block hp5 HN4.out (sb_ne HP4.out.1 HN4.out (by decide)) (by decide)
        have hp5' := post_trans HP4.out hp5
        have HP5 := Lib.hid hp5'; have HN5 := Lib.hid hnw5
        clear hp5 hp5' hnw5
        go_wp2_with fail
        refine Calls.mono (writeByte_any w0.heap.size b _ 58 _ HP5.out.1 (by have hl := HL.out; rw [HS.out, if_neg HK0.out] at hl; simp [Lib.byteCells] at hl ⊢; omega) (H0.out.trans HP5.out.2.1).size) ?_
        rintro e w6 ⟨rfl, hp6⟩
        have hnw6 := post_block hp6 HN5.out (sb_ne HP5.out.1 HN5.out (by decide)) (by decide)
        have u0 : w6.cell? ⟨wr.heap.size, 0, none⟩ = some (.string nm) := by rw [Lib.cell_of_heap hnw6]; rfl
        have u1 : w6.cell? ⟨wr.heap.size, 1, none⟩ = some (.int .i64 y.k) := by rw [Lib.cell_of_heap hnw6]; rfl
        have u2 : w6.cell? ⟨wr.heap.size, 2, none⟩ = some (.int .i64 y.n) := by rw [Lib.cell_of_heap hnw6]; rfl
        have u3 : w6.cell? ⟨wr.heap.size, 3, none⟩ = some (.string y.s) := by rw [Lib.cell_of_heap hnw6]; rfl
        have u4 : w6.cell? ⟨wr.heap.size, 4, none⟩ = some (.slice B1 k1 d1) := by rw [Lib.cell_of_heap hnw6]; rfl
        have u5 : w6.cell? ⟨wr.heap.size, 5, none⟩ = some (.slice B2 k2 d2) := by rw [Lib.cell_of_heap hnw6]; rfl
        have hp6' := post_trans HP5.out hp6
        have HP6 := Lib.hid hp6'
        clear hp6 hp6' hnw6
        go_wp2_with fail
        refine Calls.mono (IH.out y _ F w0 b _ _ HY.out HJ.out HT.out (H0.out.trans HP6.out.2.1) HP6.out.1 (by have hl := HL.out; rw [HS.out, if_neg HK0.out] at hl; simp [Lib.byteCells] at hl ⊢; omega)) ?_
        rintro e w7 ⟨rfl, hp7⟩
        have hpost := post_trans HP6.out hp7
        have hcells : bs ++ Lib.byteCells (123 :: (acc ++ (44 :: (quoteB nm ++ 58 :: printB d y)))) = _ := (show _ = bs ++ Lib.byteCells (123 :: (acc ++ [44])) ++ Lib.byteCells (quoteB nm) ++ [.int .u8 58] ++ Lib.byteCells (printB d y) by simp [Lib.byteCells])
        rw [← hcells] at hpost
        have hjoin : joinFrom (fun p => quoteB p.1 ++ 58 :: printB d p.2) true l = (acc ++ (44 :: (quoteB nm ++ 58 :: printB d y))) ++ joinFrom (fun p => quoteB p.1 ++ 58 :: printB d p.2) (k + 1 == 0) (l.drop (k + 1)) := by rw [HS.out, if_neg HK0.out]; simp [List.append_assoc]
        have HF := Lib.hid hpost; have HG := Lib.hid hjoin
        clear hp7 hpost hcells hjoin
        go_wp2_with fail
        go_roundg (n - (k + 1))
        case measure => omega
        case rel => exact ⟨k + 1, acc ++ (44 :: (quoteB nm ++ 58 :: printB d y)), by omega, by omega, by simp, HF.out, HG.out⟩
    · have hltz : ¬ ((k : Int) < (n : Int)) := by omega
      have hd : l.drop k = [] := List.drop_eq_nil_of_le (by have := Hn.out; omega)
      have hacc := HA.out
      rw [hd] at hacc
      have hacc' : joinFrom (fun p => quoteB p.1 ++ 58 :: printB d p.2) true l = acc := by rw [hacc]; simp [joinFrom]
      have HC := Lib.hid hacc'
      clear hd hacc hacc'
      go_wp2_with fail
      refine Calls.mono (writeByte_any w0.heap.size b _ 125 _ HP.out.1 (by have hl := HL.out; rw [HC.out] at hl; simp [Lib.byteCells] at hl ⊢; omega) hbw.size) ?_
      rintro e w4 ⟨rfl, hp4⟩
      have hp4' := post_trans HP.out hp4
      have hc4 : bs ++ Lib.byteCells (123 :: (acc ++ [125])) = bs ++ Lib.byteCells (123 :: acc) ++ [.int .u8 125] := by simp [Lib.byteCells]
      rw [← hc4] at hp4'
      have HP4 := Lib.hid hp4'
      clear hp4 hp4' hc4
      go_wp2_with fail
      go_end0
      exact ⟨rfl, by rw [HC.out]; exact HP4.out⟩
end Go.Proofs.YtlihjmfdnkfmfaaGreatDoor
namespace Go.Proofs.YtlihjmfdnkfmfaaGreatDoor
open Go.RowKit Go.Lib

/-! what the reader's methods keep -/
def Mono (s : ByteArray) (x y : St) : Prop := x.p ≤ y.p ∧ (x.p ≤ s.size → y.p ≤ s.size)
theorem Mono.refl (s : ByteArray) (x : St) : Mono s x x := ⟨Nat.le_refl _, id⟩
theorem Mono.trans {s : ByteArray} {x y z : St} (h : Mono s x y) (k : Mono s y z) : Mono s x z := ⟨Nat.le_trans h.1 k.1, fun hx => k.2 (h.2 hx)⟩
theorem fail_p (x : St) (e : Int) : (x.fail e).p = x.p := by unfold St.fail; split <;> rfl
theorem Mono.fail {s : ByteArray} {x y : St} (h : Mono s x y) (e : Int) : Mono s x (y.fail e) := by
  have := fail_p y e
  unfold Mono at *; rw [this]; exact h
theorem next_mono (s : ByteArray) (x : St) : Mono s x (x.next s).2 := by
  unfold St.next
  split
  · exact Mono.refl _ _
  · split
    · exact (Mono.refl _ _).fail _
    · exact ⟨by simp [St.step], by simp [St.step]; omega⟩
theorem twants_mono (s : ByteArray) (x : St) (c : UInt8) : Mono s x (x.twants s c) := by
  unfold St.twants
  split
  · exact (next_mono s x).fail _
  · exact next_mono s x
theorem four_mono (s : ByteArray) : ∀ (k : Nat) (n : Int) (x : St), Mono s x (fourB s k n x).2
  | 0, _, x => Mono.refl s x
  | k + 1, n, x => by
    simp only [fourB]
    split
    · exact (next_mono s x).fail _
    · exact (next_mono s x).trans (four_mono s k _ _)
theorem unit_mono (s : ByteArray) (x : St) : Mono s x (unitB s x).2 := by
  unfold unitB
  simp only
  have h1 := four_mono s 4 0 x
  generalize fourB s 4 0 x = r at *
  split
  · exact h1
  · split
    · exact h1.fail _
    · have h2 := (h1.trans (twants_mono s r.2 92)).trans (twants_mono s _ 117)
      have h3 := h2.trans (four_mono s 4 0 _)
      split
      · exact h3.fail _
      · exact h3
theorem escape_mono (s : ByteArray) (x : St) : Mono s x (escapeB s x).2 := by
  unfold escapeB
  simp only
  have h1 := next_mono s x
  generalize x.next s = r at *
  split
  · exact h1
  · split
    · exact h1.trans (unit_mono s _)
    · split
      · exact h1
      · split
        · exact h1.fail _
        · exact h1
theorem sign_mono (s : ByteArray) (x : St) : Mono s x (signB s x).2 := by
  unfold signB
  split
  · exact (Mono.refl _ _).fail _
  · rename_i h
    have := dec_w s x.p (by omega)
    split
    · exact (Mono.refl _ _).fail _
    · exact ⟨by simp, fun _ => by simp; omega⟩
theorem sign_step {s : ByteArray} {x : St} (h0 : x.e = 0) (h : (signB s x).2.e = 0) : x.p + 1 ≤ (signB s x).2.p ∧ (signB s x).2.p ≤ s.size := by
  unfold signB at *
  split at h
  · simp [St.fail, h0] at h
  · rename_i h1
    have := dec_w s x.p (by omega)
    split at h
    · simp [St.fail, h0] at h
    · rename_i h2
      rw [if_neg h1, if_neg h2]
      simp only; omega

def unqLoop (s : ByteArray) : Nat → List UInt8 → St → List UInt8 × Nat × Int
  | 0, _, x => ([], 0, x.e)
  | f + 1, acc, x =>
    if x.e ≠ 0 then ([], 0, x.e)
    else if (signB s x).2.e ≠ 0 then ([], 0, (signB s x).2.e)
    else if (signB s x).1 = 34 then (acc, (signB s x).2.p, 0)
    else if (signB s x).1 = 92 then unqLoop s f (acc ++ Lib.encodeRune (escapeB s (signB s x).2).1) (escapeB s (signB s x).2).2
    else unqLoop s f (acc ++ Lib.encodeRune (signB s x).1) (signB s x).2
/-- Unquote, at a place of the text -/
def unquoteB (s : ByteArray) (at' : Nat) : List UInt8 × Nat × Int := unqLoop s (s.size + 1 - at') [] (St.twants s ⟨at', 0⟩ 34)

theorem rd_base {T : TypeId} {R p b : Nat} {s : ByteArray} {e : Int} {w w' : World} (h : RdAt T R s p e w) (hb : Below b w w') (hR : R < b) : RdAt T R s p e w' := (hb.block R hR).trans h
theorem sb_grown {B b R : Nat} {bs : List Value} {w w' : World} (h : Sb B b bs w) (hg : w.grownBy w' (some R)) (hR : R < B) : Sb B b bs w' := by
  have key : ∀ p, Lib.BuilderAt 154 5 B b p bs w → Lib.BuilderAt 154 5 B b p bs w' := by
    rintro p ⟨hB, v, hb, ho, hne⟩
    refine ⟨hB, v, (hg.block b (Array.getElem?_eq_some_iff.1 hb).1 (by intro e; have := Option.some.inj e; omega)).trans hb, World.ownsRow.kept ho hg ?_, hne⟩
    rcases hv : v.ownBlock with _ | j
    · exact .inl rfl
    · right; intro e; have := (ho.lt j hv).1; have := Option.some.inj e; omega
  exact h.imp (key _) (key _)
theorem dec_rune (s : ByteArray) (p : Nat) : (dec s p).1 ≤ 1114111 := by
  unfold dec Lib.decodeGo
  split
  · decide
  · exact Lib.rune_le _ _
theorem rune_bounds (s : ByteArray) (x : St) : ((signB s x).1 : Int) ≤ 1114111 := by
  have := dec_rune s x.p
  unfold signB
  split
  · show ((0 : Nat) : Int) ≤ 1114111; decide
  · split
    · show ((0 : Nat) : Int) ≤ 1114111; decide
    · simp only; omega
theorem escIn_bounds (c : Int) : ∀ l : List (Int × Int), (∀ q ∈ l, 0 ≤ q.1 ∧ q.1 ≤ 127) → 0 ≤ escIn l c ∧ escIn l c ≤ 127
  | [], _ => by simp [escIn]
  | (a, b) :: l, h => by
    have h1 := h (a, b) (List.mem_cons_self)
    have h2 := escIn_bounds c l (fun q hq => h q (List.mem_cons_of_mem _ hq))
    simp only [escIn]
    split
    · exact h1
    · exact h2
theorem unit_bounds (s : ByteArray) (x : St) : 0 ≤ (unitB s x).1 ∧ (unitB s x).1 ≤ 2147483647 := by
  unfold unitB
  simp only
  have h1 := fourB_range s 4 0 x (by omega) (by omega) (by decide)
  generalize fourB s 4 0 x = r at *
  split
  · omega
  · split
    · exact ⟨Int.le_refl 0, by show (0 : Int) ≤ _; decide⟩
    · have h2 := fourB_range s 4 0 ((r.2.twants s 92).twants s 117) (by omega) (by omega) (by decide)
      simp only
      omega
theorem esc_bounds (s : ByteArray) (x : St) : 0 ≤ (escapeB s x).1 ∧ (escapeB s x).1 ≤ 2147483647 := by
  unfold escapeB
  simp only
  generalize x.next s = r at *
  split
  · exact ⟨Int.le_refl 0, by show (0 : Int) ≤ _; decide⟩
  · split
    · exact unit_bounds _ _
    · split
      · exact ⟨by show (0 : Int) ≤ 47; decide, by show (47 : Int) ≤ _; decide⟩
      · split
        · exact ⟨Int.le_refl 0, by show (0 : Int) ≤ _; decide⟩
        · have := escIn_bounds (r.1.toNat : Int) letterTab (by decide)
          unfold escV
          simp only
          omega
theorem bel_drewN' {B : Nat} {w W : World} (h : Below B w W) (n : Nat) : Below B w (W.drewN n) := ⟨h.os, h.tape, h.output, h.size, h.block⟩
/-- what stands at a round's head -/
def URel (Q b : Nat) (s : ByteArray) (w : World) (fin : List UInt8 × Nat × Int) (gg : Nat) (wr : World) : Prop := ∃ (f : Nat) (acc : List UInt8) (x : St),
  f ≤ gg ∧ (x.e = 0 → s.size + 1 - x.p ≤ f) ∧ x.p ≤ s.size ∧ acc.length ≤ 4 * x.p ∧ RdAt 252 Q s x.p x.e wr ∧ Sb b b (Lib.byteCells acc) wr ∧ Below Q w wr ∧ b ≤ wr.heap.size ∧ unqLoop s f acc x = fin
theorem URel.write {Q b : Nat} {s : ByteArray} {w w1 w2 : World} {fin : List UInt8 × Nat × Int} {gg f : Nat} {acc : List UInt8} {x : St} {r : Int} (hQb : Q < b)
    (hf : f ≤ gg) (h1 : s.size + 1 - x.p ≤ f) (h2 : x.p ≤ s.size) (h3 : acc.length + 4 ≤ 4 * x.p) (h4 : RdAt 252 Q s x.p x.e w1) (h5 : Below Q w w1) (h6 : b ≤ w1.heap.size) (h7 : unqLoop s f (acc ++ Lib.encodeRune r) x = fin)
    (hp : SbPost b b (Lib.byteCells acc ++ Lib.runeCells r) w1 w2) : URel Q b s w fin gg w2 := by
  have hl := Lib.runeCells_le r
  rw [Lib.runeCells_length] at hl
  refine ⟨f, _, x, hf, fun _ => h1, h2, by rw [List.length_append]; omega, rd_base h4 hp.2.1 hQb, ?_, h5.trans (hp.2.1.mono (Nat.le_of_lt hQb)), Nat.le_trans h6 hp.2.1.size, h7⟩
  have e : Lib.byteCells (acc ++ Lib.encodeRune r) = Lib.byteCells acc ++ Lib.runeCells r := by rw [← Lib.byteCells_encodeRune]; simp [Lib.byteCells]
  rw [e]; exact hp.1
set_option maxRecDepth 100000 in
set_option maxHeartbeats 4000000 in
theorem unquote_any (s : ByteArray) (at' : Nat) (w : World) (hs : s.size ≤ 1000000) (hat : at' ≤ s.size) (hT : Lib.Utf8Tabs 0 1 w) :
    Calls Tryz.prog 158 #[.string s, .int .i64 at'] w fun z w' => z = .returned (.tuple #[.string ⟨(unquoteB s at').1.toArray⟩, .int .i64 (unquoteB s at').2.1, .int .i64 (unquoteB s at').2.2]) ∧ Below w.heap.size w w' := by
  generalize hfin : unquoteB s at' = fin at *
  have HFIN := Lib.hid hfin
  clear hfin
  have d1 : decide ((at' : Int) < 0) = false := by simp
  have d2 : decide ((s.size : Int) < (at' : Int)) = false := by simp; omega
  have hA : Below w.heap.size w (w.alloc (.cells #[.string s, .int .i64 at', .int .i64 0] 252)) := bel_alloc (Below.refl _ _) _
  have hrd : RdAt 252 w.heap.size s at' 0 (w.alloc (.cells #[.string s, .int .i64 at', .int .i64 0] 252)) := heap_alloc_new w _
  have htw := twants_any w.heap.size s ⟨at', 0⟩ 34 _ hs hrd
  rw [show ((34 : UInt8).toNat : Int) = 34 from rfl] at htw
  have HA := Lib.hid hA; have HTW := Lib.hid htw; have HT := Lib.hid hT
  clear hA hrd htw hT
  go_enter Tryz.func158, Tryz.ntmps158
  go_wp2_with fail
  refine Calls.mono HTW.out ?_
  rintro e w1 ⟨rfl, hp1⟩
  generalize hQ : w.heap.size = Q at *
  have HQ := Lib.hid hQ
  clear hQ
  have hmono := twants_mono s ⟨at', 0⟩ 34
  have hQ1 : Q < w1.heap.size := hp1.1.cells.2.2.2.2.2.2
  have hB1 : Below Q w w1 := by
    have h1 : Below Q w (w.alloc (.cells #[.string s, .int .i64 at', .int .i64 0] 252)) := HA.out
    exact h1.grown hp1.2 (by rw [← HQ.out]; exact h1.size) (fun j hj => by have := Option.some.inj hj; omega)
  unfold unquoteB at HFIN
  generalize St.twants s ⟨at', 0⟩ 34 = x1 at *
  have hbW : Below w1.heap.size w1 (w1.alloc (.cells #[.pointer none, .slice none 0 0] 154)) := bel_alloc (Below.refl _ _) _
  have hfr : Sb w1.heap.size w1.heap.size [] (w1.alloc (.cells #[.pointer none, .slice none 0 0] 154)) := Lib.fresh_isBuilder _ _ w1
  have hU : URel Q w1.heap.size s w fin (s.size + 1 - at') (w1.alloc (.cells #[.pointer none, .slice none 0 0] 154)) :=
    ⟨s.size + 1 - at', [], x1, Nat.le_refl _, fun _ => by have := hmono.1; simp only at this; omega, hmono.2 hat, by simp, hp1.1.below hbW, hfr, hB1.trans (hbW.mono (Nat.le_of_lt hQ1)), hbW.size, HFIN.out⟩
  have HU := Lib.hid hU; have HQB := Lib.hid hQ1
  have hT0 : Lib.Utf8Tabs 0 1 w := HT.out
  have htabs : ∀ W, Below Q w W → Lib.Utf8Tabs 0 1 W := fun W hW => Utf8Tabs_below hT0 (by rw [HQ.out]; exact hW)
  have HTB := Lib.hid htabs
  clear hU hfr hbW hB1 hp1 hmono hT0 htabs
  clear hQ1
  go_wp2_with fail
  generalize hb : w1.heap.size = b at *
  clear hb
  go_loopg [] (s.size + 1 - at') (fun gg wr => Aside (URel Q b s w fin gg wr))
  case atStart => exact HU.out
  case round =>
    have HQW : ∀ W : World, Below Q w W → Q ≤ W.heap.size := fun W h => by have := h.size; rw [HQ.out] at this; exact this
    obtain ⟨f, acc, x, hfg, hfs, hxs, hacc, hR, hSb, hB, hbw, hfin⟩ := hrel
    obtain ⟨l0, l1, l2, _, _, _, hRw⟩ := hR.cells
    have HR := Lib.hid hR; have HSB := Lib.hid hSb; have HB := Lib.hid hB; have HBW := Lib.hid hbw; have HF := Lib.hid hfin
    clear hR hSb hB hbw hfin
    by_cases he : x.e = 0
    · have d3 : (x.e == 0) = true := by simpa using he
      have hfs := hfs he
      obtain ⟨g, rfl⟩ : ∃ g, f = g + 1 := ⟨f - 1, by omega⟩
      have hsg := sign_any Q s x wr hs (HTB.out _ HB.out) HR.out
      have hstep := fun h => sign_step (s := s) (x := x) he h
      have hr0 := rune_bounds s x
      have hsm := sign_mono s x
      have heq : unqLoop s (g + 1) acc x = (if x.e ≠ 0 then ([], 0, x.e)
        else if (signB s x).2.e ≠ 0 then ([], 0, (signB s x).2.e)
        else if (signB s x).1 = 34 then (acc, (signB s x).2.p, 0)
        else if (signB s x).1 = 92 then unqLoop s g (acc ++ Lib.encodeRune (escapeB s (signB s x).2).1) (escapeB s (signB s x).2).2
        else unqLoop s g (acc ++ Lib.encodeRune (signB s x).1) (signB s x).2) := rfl
      rw [if_neg (by simpa using he)] at heq
      have HSG := Lib.hid hsg; have HEQ := Lib.hid heq
      clear hsg heq he
      generalize signB s x = r at *
      obtain ⟨c, z⟩ := r
      simp only at HSG HEQ hstep hr0 hsm
      go_wp2_with fail
      refine Calls.mono HSG.out ?_
      rintro e w2 ⟨rfl, hp2⟩
      have hB2 : Below Q w w2 := HB.out.grown hp2.2 (HQW _ HB.out) (fun j hj => by have := Option.some.inj hj; omega)
      have hS2 := sb_grown HSB.out hp2.2 HQB.out
      have hW2 : b ≤ w2.heap.size := Nat.le_trans HBW.out hp2.2.size
      obtain ⟨l0, l1, l2, _, _, _, hRw2⟩ := hp2.1.cells
      have HR2 := Lib.hid hp2.1; have HB2 := Lib.hid hB2; have HSB2 := Lib.hid hS2; have HW2 := Lib.hid hW2
      clear hp2 hB2 hS2 hW2
      by_cases he2 : z.e = 0
      · have d4 : (z.e != 0) = false := by simpa using he2
        have hst := hstep he2
        have heq := HEQ.out
        rw [if_neg (by simpa using he2)] at heq
        by_cases h34 : c = 34
        · subst h34
          rw [if_pos rfl] at heq
          have hq : fin = (acc, z.p, 0) := by rw [← HF.out]; exact heq
          have HEQ2 := Lib.hid hq
          clear heq he2 HEQ hq
          go_wp2_with fail
          refine PrintLast.wp_region_last_drew (S := fun w' => (RdAt 252 Q s z.p z.e w' ∧ Below Q w w') ∧ w'.cell? ⟨Q, 1, none⟩ = some (.int .i64 z.p)) (ds := []) (by kernel_rfl) ?_ (fun hHeld => ?_)
          · exact ⟨⟨HR2.out, HB2.out.drew⟩, by simpa using l1⟩
          refine PrintLast.tk 1 (v := ?_) rfl (by assumption) ?_ ?_
          rotate_left
          · (intro w hSw; (try dsimp only at hSw); go_simp; try (with_reducible rfl))
          try simp only [lay]
          refine PrintLast.tk 2 (v := ?_) rfl (by assumption) ?_ ?_
          rotate_left
          · (intro w hSw; (try dsimp only at hSw); go_simp; try (with_reducible rfl))
          try simp only [lay]
          refine PrintLast.tk 3 (v := ?_) rfl (by assumption) ?_ ?_
          rotate_left
          · (intro w hSw; (try dsimp only at hSw); go_simp; try (with_reducible rfl))
          try simp only [lay]
          refine PrintLast.tk 4 (v := ?_) rfl (by assumption) ?_ ?_
          rotate_left
          · (intro w hSw; (try dsimp only at hSw); go_simp; try (with_reducible rfl))
          try simp only [lay]
          have HK := Lib.hid hHeld
          clear hHeld
          refine PrintLast.wpAnyLast_ready (rs := [0]) (by kernel_rfl) (by simp) ?_
          refine PrintLast.AllReadyL.cons rfl (by decide) (fun K hK => ?_) PrintLast.AllReadyL.nil
          rw [if_pos (by kernel_rfl)]
          go_simp
          go_at_call 72; refine (Tryz.Builder_String_any b b acc w2.drew (show Sb b b (Lib.byteCells acc) w2.drew from HSB2.out) (show b ≤ w2.drew.heap.size from HW2.out)).mono ?_; rintro e w5 ⟨rfl, hbw5⟩
          go_wp2_with fail
          refine hK.out _ _ ?_ (fun hHeld => ?_)
          · exact ⟨⟨rd_base HK.out.1.1 hbw5 HQB.out, HK.out.1.2.trans (hbw5.mono (Nat.le_of_lt HQB.out))⟩, (rd_base HK.out.1.1 hbw5 HQB.out).cells.2.1⟩
          clear hK K
          try simp only [lay]
          clear HK
          refine PrintLast.tk 5 (v := ?_) rfl (by assumption) ?_ ?_
          rotate_left
          · (intro w hSw; (try dsimp only at hSw); go_simp; try (with_reducible rfl))
          try simp only [lay]
          refine PrintLast.tk 6 (v := ?_) rfl (by assumption) ?_ ?_
          rotate_left
          · (intro w hSw; (try dsimp only at hSw); go_simp; try (with_reducible rfl))
          try simp only [lay]
          refine PrintLast.tk 7 (v := ?_) rfl (by assumption) ?_ ?_
          rotate_left
          · (intro w hSw; (try dsimp only at hSw); go_simp; try (with_reducible rfl))
          try simp only [lay]
          refine PrintLast.wpAnyLast_done (by kernel_rfl) ?_ _
          obtain ⟨⟨hR5, hB5⟩, _⟩ := hHeld
          go_wp2_with fail
          go_ret3
          rw [HEQ2.out, HQ.out]
          exact ⟨rfl, hB5⟩
        · have d5 : ((c : Int) == 34) = false := by simp; omega
          rw [if_neg h34] at heq
          by_cases h92 : c = 92
          · subst h92
            rw [if_pos rfl] at heq
            have hes := escape_any Q s z w2 hs HR2.out
            have hem := escape_mono s z
            have heb := esc_bounds s z
            have hq : unqLoop s g (acc ++ Lib.encodeRune (escapeB s z).1) (escapeB s z).2 = fin := by rw [← HF.out]; exact heq.symm
            have HEQ2 := Lib.hid hq; have HES := Lib.hid hes
            clear heq hes he2 h34 hq HEQ
            generalize escapeB s z = q at *
            obtain ⟨r, y⟩ := q
            simp only at *
            go_wp2_with fail
            refine Calls.mono HES.out ?_
            rintro e w3 ⟨rfl, hp3⟩
            have hB3 : Below Q w w3 := HB2.out.grown hp3.2 (HQW _ HB2.out) (fun j hj => by have := Option.some.inj hj; omega)
            have hS3 := sb_grown HSB2.out hp3.2 HQB.out
            have hW3 : b ≤ w3.heap.size := Nat.le_trans HW2.out hp3.2.size
            have hwr := writeRune_any b b _ r (by omega) heb.2 w3 hS3 (by rw [Lib.byteCells_length]; omega) hW3
            have HR3 := Lib.hid hp3.1; have HB3 := Lib.hid hB3; have HW3 := Lib.hid hW3; have HWR := Lib.hid hwr
            clear hp3 hB3 hS3 hW3 hwr
            go_wp2_with fail
            refine Calls.mono HWR.out ?_
            rintro e w4 ⟨⟨n4, rfl⟩, hp4⟩
            have hUU := URel.write (gg := g) HQB.out (Nat.le_refl g) (by have := hem.1; omega) (hem.2 hst.2) (by have := hem.1; omega) HR3.out HB3.out HW3.out HEQ2.out hp4
            have HUU := Lib.hid hUU
            clear hUU hp4
            go_wp2_with fail
            go_roundg g
            case measure => omega
            case rel => exact HUU.out
          · have d6 : ((c : Int) == 92) = false := by simp; omega
            rw [if_neg h92] at heq
            have hwr := writeRune_any b b _ (c : Int) (by omega) (by omega) w2 HSB2.out (by rw [Lib.byteCells_length]; omega) HW2.out
            have hq : unqLoop s g (acc ++ Lib.encodeRune (c : Int)) z = fin := by rw [← HF.out]; exact heq.symm
            have HEQ2 := Lib.hid hq; have HWR := Lib.hid hwr
            clear heq he2 h34 h92 hwr hq HEQ
            go_wp2_with fail
            refine Calls.mono HWR.out ?_
            rintro e w4 ⟨⟨n4, rfl⟩, hp4⟩
            have hUU := URel.write (gg := g) HQB.out (Nat.le_refl g) (by omega) hst.2 (by omega) HR2.out HB2.out HW2.out HEQ2.out hp4
            have HUU := Lib.hid hUU
            clear hUU hp4
            go_wp2_with fail
            go_roundg g
            case measure => omega
            case rel => exact HUU.out
      · have d4 : (z.e != 0) = true := by simpa using he2
        have heq := HEQ.out
        rw [if_pos (by simpa using he2)] at heq
        have HEQ := Lib.hid heq
        clear heq
        have hfin2 : ∀ g', unqLoop s g' acc z = fin := by
          intro g'
          rw [← HF.out, HEQ.out]
          cases g' with
          | zero => rfl
          | succ g' => simp only [unqLoop]; rw [if_pos (by simpa using he2)]
        have HF2 := Lib.hid hfin2; have HNE := Lib.hid he2
        clear hfin2 he2
        go_wp2_with fail
        go_roundg g
        case measure => omega
        case rel => exact ⟨g, acc, z, Nat.le_refl _, fun h => absurd h HNE.out, hsm.2 hxs, by have := hsm.1; omega, HR2.out, HSB2.out, HB2.out, HW2.out, HF2.out _⟩
    · have d3 : (x.e == 0) = false := by simpa using he
      have hfx : fin = ([], 0, x.e) := by
        rw [← HF.out]
        cases f with
        | zero => rfl
        | succ f => simp only [unqLoop]; rw [if_pos (by simpa using he)]
      subst hfx
      clear he
      go_wp2_with fail
      go_quiet (fail)
      go_wp2_with fail
      go_ret3
      rw [HQ.out]
      exact ⟨rfl, bel_drewN' HB.out _⟩
end Go.Proofs.YtlihjmfdnkfmfaaGreatDoor
