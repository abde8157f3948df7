/- Parts of the proof: P. -/
import Derived.Test.YtjjgbgojlhaapaaGreatDoorZJls6
namespace Go.Proofs.YtjjgbgojlhaapaaGreatDoor
open Go.RowKit Go.Lib

theorem sb_later {B b : Nat} {bs : List Value} {w w' : World} (h : Sb B b bs w) (hba : Below w.heap.size w w') : Sb B b bs w' := by
  have key : ∀ p, Lib.BuilderAt 80 5 B b p bs w → Lib.BuilderAt 80 5 B b p bs w' := by
    rintro p ⟨hB, v, hb, ho, hne⟩
    exact ⟨hB, v, (hba.block b (Array.getElem?_eq_some_iff.1 hb).1).trans hb, own_laterB ho hba, hne⟩
  exact h.imp (key _) (key _)
theorem kept_of_below {e : TypeId} {b : Option Nat} {w w' : World} (h : Below w.heap.size w w') : Lib.OthersKept e b w w' := fun k _ hk _ _ => (h.block k (Array.getElem?_eq_some_iff.1 hk).1).trans hk
theorem post_of_below {B b : Nat} {bs : List Value} {w w' : World} (h : Sb B b bs w) (hB : B ≤ w.heap.size) (hb : Below w.heap.size w w') : SbPost B b bs w w' := ⟨sb_later h hb, hb.mono hB, kept_of_below hb⟩
theorem post_trans {B b : Nat} {bs bs' : List Value} {w w1 w2 : World} (h : SbPost B b bs w w1) (k : SbPost B b bs' w1 w2) : SbPost B b bs' w w2 := ⟨k.1, h.2.1.trans k.2.1, h.2.2.trans k.2.2⟩
theorem post_block {B b : Nat} {bs : List Value} {w w' : World} (h : SbPost B b bs w w') {k : Nat} {c : Array Value} {t : TypeId} {fz : Nat × Nat} (hk : w.heap[k]? = some (.cells c t fz)) (hb : k ≠ b) (ht : t ≠ 5) : w'.heap[k]? = some (.cells c t fz) :=
  h.2.2 k _ hk (by simpa using hb) (by rintro c' fz' e; cases e; exact ht rfl)
/-- the builder's block is none of another type -/
theorem sb_ne {B b : Nat} {bs : List Value} {w : World} (h : Sb B b bs w) {k : Nat} {c : Array Value} {t : TypeId} {fz : Nat × Nat} (hk : w.heap[k]? = some (.cells c t fz)) (ht : t ≠ 80) : k ≠ b := by
  rintro rfl
  rcases h with ⟨_, v, hb, _⟩ | ⟨_, v, hb, _⟩ <;> (rw [hk] at hb; cases hb; exact ht rfl)

theorem jquote_any (B b : Nat) (bs : List Value) (s : ByteArray) (w : World) (hs : s.size ≤ 17592186044416) (hT : Tabs w) (hv : validB s = true) (h : Sb B b bs w) (hlen : bs.length + (quoteB s).length ≤ 140737488355328) (hBw : B ≤ w.heap.size) :
    Calls Tryz.prog 59 #[.pointer (some ⟨b, 0, none⟩), .string s] w fun e w' => e = .returned (.tuple #[]) ∧ SbPost B b (bs ++ Lib.byteCells (quoteB s)) w w' := by
  have hq := quote_good s w hs hT hv
  have HL := Lib.hid hlen
  clear hlen
  go_enter Tryz.func59, Tryz.ntmps59
  go_wp2_with fail
  refine Calls.mono hq ?_
  rintro e w1 ⟨rfl, hb1⟩
  clear hq
  go_wp2_with fail
  refine Calls.mono (writeString_any B b bs _ w1 (sb_later h hb1) (by have := HL.out; simpa [ByteArray.size] using this) (Nat.le_trans hBw hb1.size)) ?_
  rintro e w2 ⟨rfl, hp⟩
  go_wp2_with fail
  go_end0
  exact ⟨rfl, post_trans (post_of_below h hBw hb1) hp⟩

def joinFrom {α : Type} (f : α → List UInt8) : Bool → List α → List UInt8
  | _, [] => []
  | first, x :: xs => (if first then f x else 44 :: f x) ++ joinFrom f false xs
def printB : Nat → JV → List UInt8
  | 0, _ => []
  | d + 1, x => if x.k = 1 then [110, 117, 108, 108] else if x.k = 2 then [102, 97, 108, 115, 101] else if x.k = 3 then [116, 114, 117, 101] else if x.k = 4 then Lib.itoa x.n else if x.k = 5 then quoteB x.s
    else if x.k = 6 then 91 :: (joinFrom (printB d) true x.l ++ [93]) else 123 :: (joinFrom (fun p => quoteB p.1 ++ 58 :: printB d p.2) true x.m ++ [125])

/-- print's contract at a depth -/
def PrintAt (d : Nat) : Prop := ∀ (x : JV) (cs : List Value) (F : Nat → Prop) (w0 : World) (b : Nat) (bs : List Value) (w : World), mayJ d x = true → JR w0 F x cs → Tabs w0 → Below w0.heap.size w0 w → Sb w0.heap.size b bs w → bs.length + (printB d x).length ≤ 140737488355328 →
    Calls Tryz.prog 33 #[.pointer (some ⟨b, 0, none⟩), .agg cs.toArray] w fun e w' => e = .returned (.tuple #[]) ∧ SbPost w0.heap.size b (bs ++ Lib.byteCells (printB d x)) w w'
theorem join_step {α : Type} {f : α → List UInt8} {l : List α} {k : Nat} {x : α} (hx : l[k]? = some x) : joinFrom f (k == 0) (l.drop k) = (if k = 0 then f x else 44 :: f x) ++ joinFrom f false (l.drop (k + 1)) := by
  rw [drop_of_get hx]
  simp only [joinFrom]
  by_cases hk : k = 0 <;> simp [hk]

set_option maxHeartbeats 4000000 in
set_option maxRecDepth 100000 in
theorem list_any (d : Nat) (ih : PrintAt d) (l : List JV) (v : Value) (F : Nat → Prop) (w0 : World) (b : Nat) (bs : List Value) (w : World) (hm : l.all (mayJ d) = true) (hl : Sl jvTy w0 F v l) (hT : Tabs w0) (h0 : Below w0.heap.size w0 w) (h : Sb w0.heap.size b bs w)
    (hlen : bs.length + (91 :: (joinFrom (printB d) true l ++ [93])).length ≤ 140737488355328) :
    Calls Tryz.prog 60 #[.pointer (some ⟨b, 0, none⟩), v] w fun e w' => e = .returned (.tuple #[]) ∧ SbPost w0.heap.size b (bs ++ Lib.byteCells (91 :: (joinFrom (printB d) true l ++ [93]))) w w' := by
  obtain ⟨A, c, rfl, hn63, hel⟩ := val_cells hl
  have Hel := Lib.hid hel; have HM := Lib.hid hm; have HT := Lib.hid hT; have H0 := Lib.hid h0; have HL := Lib.hid hlen; have IH := Lib.hid ih
  have hw1 := writeByte_any w0.heap.size b bs 91 w h (by simp at hlen; omega) h0.size
  clear hl hel hm hT h0 hlen ih h
  generalize hn : l.length = n at *
  have Hn := Lib.hid hn
  clear hn
  go_enter Tryz.func60, Tryz.ntmps60
  go_wp2_with fail
  refine Calls.mono hw1 ?_
  rintro e w1 ⟨rfl, hp1⟩
  have HP1 := Lib.hid hp1
  clear hp1 hw1
  go_wp2_with fail
  go_loopg [4, 5, 10] n (fun gg _ _ s10 wr => ∃ (k : Nat) (acc : List UInt8), k ≤ n ∧ n - k ≤ gg ∧ s10 = .int .i64 k ∧ Aside (SbPost w0.heap.size b (bs ++ Lib.byteCells (91 :: acc)) w wr) ∧ Aside (joinFrom (printB d) true l = acc ++ joinFrom (printB d) (k == 0) (l.drop k)))
  case atStart => exact ⟨0, [], by omega, by omega, rfl, HP1.out, rfl⟩
  case round =>
    obtain ⟨k, acc, hk, hgg, rfl, HP, HA⟩ := hrel
    have hbw := H0.out.trans HP.out.2.1
    by_cases hlt : k < n
    · have hltz : (k : Int) < (n : Int) := by omega
      obtain ⟨y, hx⟩ : ∃ p, l[k]? = some p := get_ex (by have := Hn.out; omega)
      obtain ⟨o, q, B1, k1, d1, B2, k2, d2, rfl, e0, e1, e2, e3, e4, hjr⟩ := Hel.out k y hx
      have r0 := cell_later' hbw e0
      have r1 := cell_later' hbw e1
      have r2 := cell_later' hbw e2
      have r3 := cell_later' hbw e3
      have r4 := cell_later' hbw e4
      have hbr : o < wr.heap.size := World.block_lt_of_cell? _ _ r0
      have hmy : mayJ d y = true := List.all_eq_true.1 HM.out y (List.mem_of_getElem? hx)
      have hst := HA.out
      rw [join_step hx] at hst
      have HX := Lib.hid hx; have HY := Lib.hid hmy; have HJ := Lib.hid hjr; have HS := Lib.hid hst
      clear hx hjr e0 e1 e2 e3 e4 hmy hst
      have hbA : Below wr.heap.size wr (wr.alloc (.cells #[.int .i64 y.k, .int .i64 y.n, .string y.s, .slice B1 k1 d1, .slice B2 k2 d2] 28)) := bel_alloc (Below.refl _ _) _
      have hnew : (wr.alloc (.cells #[.int .i64 y.k, .int .i64 y.n, .string y.s, .slice B1 k1 d1, .slice B2 k2 d2] 28)).heap[wr.heap.size]? = some (.cells #[.int .i64 y.k, .int .i64 y.n, .string y.s, .slice B1 k1 d1, .slice B2 k2 d2] 28 (0, 0)) := heap_alloc_new wr _
      have hpa := post_trans HP.out (post_of_below HP.out.1 hbw.size hbA)
      have HPA := Lib.hid hpa; have HNW := Lib.hid hnew
      clear hpa hnew hbA
      by_cases hk0 : k = 0
      · have hz : decide (0 < k) = false := by simp [hk0]
        have hz2 : decide ((0 : Int) < (k : Int)) = false := by simp [hk0]
        have HK0 := Lib.hid hk0
        clear hk0
        go_wp2_with fail
        refine Calls.mono (IH.out y _ F w0 b (bs ++ Lib.byteCells (91 :: acc)) _ HY.out HJ.out HT.out (H0.out.trans HPA.out.2.1) HPA.out.1 (by have hl := HL.out; rw [HS.out, if_pos HK0.out] at hl; simp [Lib.byteCells] at hl ⊢; omega)) ?_
        rintro e w5 ⟨rfl, hp5⟩
        have hpost := post_trans HPA.out hp5
        have hcells : bs ++ Lib.byteCells (91 :: (acc ++ (printB d y))) = bs ++ Lib.byteCells (91 :: acc) ++ Lib.byteCells (printB d y) := by simp [Lib.byteCells]
        rw [← hcells] at hpost
        have hjoin : joinFrom (printB d) true l = (acc ++ (printB d y)) ++ joinFrom (printB d) (k + 1 == 0) (l.drop (k + 1)) := by rw [HS.out, if_pos HK0.out, List.append_assoc]; rfl
        have HF := Lib.hid hpost; have HG := Lib.hid hjoin
        clear hp5 hpost hcells hjoin
        go_wp2_with fail
        go_roundg (n - (k + 1))
        case measure => omega
        case rel => exact ⟨k + 1, acc ++ (printB d y), by omega, by omega, by simp, HF.out, HG.out⟩
      · have hk1 : (0 : Int) < (k : Int) := by omega
        have HK0 := Lib.hid hk0
        clear hk0
        go_wp2_with fail
        refine Calls.mono (writeByte_any w0.heap.size b _ 44 _ HPA.out.1 (by have hl := HL.out; rw [HS.out, if_neg HK0.out] at hl; simp [Lib.byteCells] at hl ⊢; omega) (H0.out.trans HPA.out.2.1).size) ?_
        rintro e w4 ⟨rfl, hp4⟩
        have hnw := post_block hp4 HNW.out (sb_ne HPA.out.1 HNW.out (by decide)) (by decide)
        have t0 : w4.cell? ⟨wr.heap.size, 0, none⟩ = some (.int .i64 y.k) := by rw [Lib.cell_of_heap hnw]; rfl
        have t1 : w4.cell? ⟨wr.heap.size, 1, none⟩ = some (.int .i64 y.n) := by rw [Lib.cell_of_heap hnw]; rfl
        have t2 : w4.cell? ⟨wr.heap.size, 2, none⟩ = some (.string y.s) := by rw [Lib.cell_of_heap hnw]; rfl
        have t3 : w4.cell? ⟨wr.heap.size, 3, none⟩ = some (.slice B1 k1 d1) := by rw [Lib.cell_of_heap hnw]; rfl
        have t4 : w4.cell? ⟨wr.heap.size, 4, none⟩ = some (.slice B2 k2 d2) := by rw [Lib.cell_of_heap hnw]; rfl
        have hp4' := post_trans HPA.out hp4
        have hc4 : bs ++ Lib.byteCells (91 :: (acc ++ [44])) = bs ++ Lib.byteCells (91 :: acc) ++ [.int .u8 44] := by simp [Lib.byteCells]
        rw [← hc4] at hp4'
        have HP4 := Lib.hid hp4'
        clear hp4 hp4' hc4 hnw
        go_wp2_with fail
        refine Calls.mono (IH.out y _ F w0 b (bs ++ Lib.byteCells (91 :: (acc ++ [44]))) _ HY.out HJ.out HT.out (H0.out.trans HP4.out.2.1) HP4.out.1 (by have hl := HL.out; rw [HS.out, if_neg HK0.out] at hl; simp [Lib.byteCells] at hl ⊢; omega)) ?_
        rintro e w5 ⟨rfl, hp5⟩
        have hpost := post_trans HP4.out hp5
        have hcells : bs ++ Lib.byteCells (91 :: (acc ++ (44 :: printB d y))) = bs ++ Lib.byteCells (91 :: (acc ++ [44])) ++ Lib.byteCells (printB d y) := by simp [Lib.byteCells]
        rw [← hcells] at hpost
        have hjoin : joinFrom (printB d) true l = (acc ++ (44 :: printB d y)) ++ joinFrom (printB d) (k + 1 == 0) (l.drop (k + 1)) := by rw [HS.out, if_neg HK0.out, List.append_assoc]; rfl
        have HF := Lib.hid hpost; have HG := Lib.hid hjoin
        clear hp5 hpost hcells hjoin
        go_wp2_with fail
        go_roundg (n - (k + 1))
        case measure => omega
        case rel => exact ⟨k + 1, acc ++ (44 :: printB d y), by omega, by omega, by simp, HF.out, HG.out⟩
    · have hltz : ¬ ((k : Int) < (n : Int)) := by omega
      have hd : l.drop k = [] := List.drop_eq_nil_of_le (by have := Hn.out; omega)
      have hacc := HA.out
      rw [hd] at hacc
      have hacc' : joinFrom (printB d) true l = acc := by rw [hacc]; simp [joinFrom]
      have HC := Lib.hid hacc'
      clear hd hacc hacc'
      go_wp2_with fail
      refine Calls.mono (writeByte_any w0.heap.size b _ 93 _ HP.out.1 (by have hl := HL.out; rw [HC.out] at hl; simp [Lib.byteCells] at hl ⊢; omega) hbw.size) ?_
      rintro e w4 ⟨rfl, hp4⟩
      have hp4' := post_trans HP.out hp4
      have hc4 : bs ++ Lib.byteCells (91 :: (acc ++ [93])) = bs ++ Lib.byteCells (91 :: acc) ++ [.int .u8 93] := by simp [Lib.byteCells]
      rw [← hc4] at hp4'
      have HP4 := Lib.hid hp4'
      clear hp4 hp4' hc4
      go_wp2_with fail
      go_end0
      exact ⟨rfl, by rw [HC.out]; exact HP4.out⟩

set_option maxHeartbeats 4000000 in
set_option maxRecDepth 100000 in
theorem object_any (d : Nat) (ih : PrintAt d) (l : List (ByteArray × JV)) (v : Value) (F : Nat → Prop) (w0 : World) (b : Nat) (bs : List Value) (w : World) (hm : (l.all fun p => mayJ d p.2) = true) (hns : ∀ p ∈ l, shortB p.1 = true) (hl : Sl memTy w0 F v l) (hT : Tabs w0) (h0 : Below w0.heap.size w0 w) (h : Sb w0.heap.size b bs w)
    (hlen : bs.length + (123 :: (joinFrom (fun p => quoteB p.1 ++ 58 :: printB d p.2) true l ++ [125])).length ≤ 140737488355328) :
    Calls Tryz.prog 61 #[.pointer (some ⟨b, 0, none⟩), v] w fun e w' => e = .returned (.tuple #[]) ∧ SbPost w0.heap.size b (bs ++ Lib.byteCells (123 :: (joinFrom (fun p => quoteB p.1 ++ 58 :: printB d p.2) true l ++ [125]))) w w' := by
  obtain ⟨A, c, rfl, hn63, hel⟩ := mem_cells hl
  have Hel := Lib.hid hel; have HM := Lib.hid hm; have HT := Lib.hid hT; have H0 := Lib.hid h0; have HL := Lib.hid hlen; have IH := Lib.hid ih; have HNS := Lib.hid hns
  have hw1 := writeByte_any w0.heap.size b bs 123 w h (by simp at hlen; omega) h0.size
  clear hl hel hm hT h0 hlen ih h hns
  generalize hn : l.length = n at *
  have Hn := Lib.hid hn
  clear hn
  go_enter Tryz.func61, Tryz.ntmps61
  go_wp2_with fail
  refine Calls.mono hw1 ?_
  rintro e w1 ⟨rfl, hp1⟩
  have HP1 := Lib.hid hp1
  clear hp1 hw1
  go_wp2_with fail
  go_loopg [4, 5, 10] n (fun gg _ _ s10 wr => ∃ (k : Nat) (acc : List UInt8), k ≤ n ∧ n - k ≤ gg ∧ s10 = .int .i64 k ∧ Aside (SbPost w0.heap.size b (bs ++ Lib.byteCells (123 :: acc)) w wr) ∧ Aside (joinFrom (fun p => quoteB p.1 ++ 58 :: printB d p.2) true l = acc ++ joinFrom (fun p => quoteB p.1 ++ 58 :: printB d p.2) (k == 0) (l.drop k)))
  case atStart => exact ⟨0, [], by omega, by omega, rfl, HP1.out, rfl⟩
  case round =>
    obtain ⟨k, acc, hk, hgg, rfl, HP, HA⟩ := hrel
    have hbw := H0.out.trans HP.out.2.1
    by_cases hlt : k < n
    · have hltz : (k : Int) < (n : Int) := by omega
      obtain ⟨⟨nm, y⟩, hx⟩ : ∃ p, l[k]? = some p := get_ex (by have := Hn.out; omega)
      obtain ⟨o, q, B1, k1, d1, B2, k2, d2, rfl, hnz, e0, e1, e2, e3, e4, e5, hjr⟩ := Hel.out k nm y hx
      have r0 := cell_later' hbw e0
      have r1 := cell_later' hbw e1
      have r2 := cell_later' hbw e2
      have r3 := cell_later' hbw e3
      have r4 := cell_later' hbw e4
      have r5 := cell_later' hbw e5
      have hbr : o < wr.heap.size := World.block_lt_of_cell? _ _ r0
      have hmy : mayJ d y = true := List.all_eq_true.1 HM.out (nm, y) (List.mem_of_getElem? hx)
      have hsh : shortB nm = true := HNS.out (nm, y) (List.mem_of_getElem? hx)
      have hsv : validB nm = true ∧ nm.size ≤ 8000 := by simpa [shortB] using hsh
      have hst := HA.out
      rw [join_step hx] at hst
      have HX := Lib.hid hx; have HY := Lib.hid hmy; have HJ := Lib.hid hjr; have HS := Lib.hid hst; have HV := Lib.hid hsv
      clear hx hjr e0 e1 e2 e3 e4 e5 hmy hst hsh hsv hnz
      have hbA : Below wr.heap.size wr (wr.alloc (.cells #[.string nm, .int .i64 y.k, .int .i64 y.n, .string y.s, .slice B1 k1 d1, .slice B2 k2 d2] 53)) := bel_alloc (Below.refl _ _) _
      have hnew : (wr.alloc (.cells #[.string nm, .int .i64 y.k, .int .i64 y.n, .string y.s, .slice B1 k1 d1, .slice B2 k2 d2] 53)).heap[wr.heap.size]? = some (.cells #[.string nm, .int .i64 y.k, .int .i64 y.n, .string y.s, .slice B1 k1 d1, .slice B2 k2 d2] 53 (0, 0)) := heap_alloc_new wr _
      have hpa := post_trans HP.out (post_of_below HP.out.1 hbw.size hbA)
      have HPA := Lib.hid hpa; have HNW := Lib.hid hnew
      clear hpa hnew hbA
      by_cases hk0 : k = 0
      · have hz : decide (0 < k) = false := by simp [hk0]
        have hz2 : decide ((0 : Int) < (k : Int)) = false := by simp [hk0]
        have HK0 := Lib.hid hk0
        clear hk0
        go_wp2_with fail
        refine Calls.mono (jquote_any w0.heap.size b _ nm _ (by have := HV.out.2; omega) (HT.out.below (H0.out.trans HPA.out.2.1)) HV.out.1 HPA.out.1 (by have hl := HL.out; rw [HS.out, if_pos HK0.out] at hl; simp [Lib.byteCells] at hl ⊢; omega) (H0.out.trans HPA.out.2.1).size) ?_
        rintro e w5 ⟨rfl, hp5⟩
        have hnw5 := post_block hp5 HNW.out (sb_ne HPA.out.1 HNW.out (by decide)) (by decide)
        have hp5' := post_trans HPA.out hp5
        have HP5 := Lib.hid hp5'; have HN5 := Lib.hid hnw5
        clear hp5 hp5' hnw5
        go_wp2_with fail
        refine Calls.mono (writeByte_any w0.heap.size b _ 58 _ HP5.out.1 (by have hl := HL.out; rw [HS.out, if_pos HK0.out] at hl; simp [Lib.byteCells] at hl ⊢; omega) (H0.out.trans HP5.out.2.1).size) ?_
        rintro e w6 ⟨rfl, hp6⟩
        have hnw6 := post_block hp6 HN5.out (sb_ne HP5.out.1 HN5.out (by decide)) (by decide)
        have u0 : w6.cell? ⟨wr.heap.size, 0, none⟩ = some (.string nm) := by rw [Lib.cell_of_heap hnw6]; rfl
        have u1 : w6.cell? ⟨wr.heap.size, 1, none⟩ = some (.int .i64 y.k) := by rw [Lib.cell_of_heap hnw6]; rfl
        have u2 : w6.cell? ⟨wr.heap.size, 2, none⟩ = some (.int .i64 y.n) := by rw [Lib.cell_of_heap hnw6]; rfl
        have u3 : w6.cell? ⟨wr.heap.size, 3, none⟩ = some (.string y.s) := by rw [Lib.cell_of_heap hnw6]; rfl
        have u4 : w6.cell? ⟨wr.heap.size, 4, none⟩ = some (.slice B1 k1 d1) := by rw [Lib.cell_of_heap hnw6]; rfl
        have u5 : w6.cell? ⟨wr.heap.size, 5, none⟩ = some (.slice B2 k2 d2) := by rw [Lib.cell_of_heap hnw6]; rfl
        have hp6' := post_trans HP5.out hp6
        have HP6 := Lib.hid hp6'
        clear hp6 hp6' hnw6
        go_wp2_with fail
        refine Calls.mono (IH.out y _ F w0 b _ _ HY.out HJ.out HT.out (H0.out.trans HP6.out.2.1) HP6.out.1 (by have hl := HL.out; rw [HS.out, if_pos HK0.out] at hl; simp [Lib.byteCells] at hl ⊢; omega)) ?_
        rintro e w7 ⟨rfl, hp7⟩
        have hpost := post_trans HP6.out hp7
        have hcells : bs ++ Lib.byteCells (123 :: (acc ++ (quoteB nm ++ 58 :: printB d y))) = _ := (show _ = bs ++ Lib.byteCells (123 :: acc) ++ Lib.byteCells (quoteB nm) ++ [.int .u8 58] ++ Lib.byteCells (printB d y) by simp [Lib.byteCells])
        rw [← hcells] at hpost
        have hjoin : joinFrom (fun p => quoteB p.1 ++ 58 :: printB d p.2) true l = (acc ++ (quoteB nm ++ 58 :: printB d y)) ++ joinFrom (fun p => quoteB p.1 ++ 58 :: printB d p.2) (k + 1 == 0) (l.drop (k + 1)) := by rw [HS.out, if_pos HK0.out]; simp [List.append_assoc]
        have HF := Lib.hid hpost; have HG := Lib.hid hjoin
        clear hp7 hpost hcells hjoin
        go_wp2_with fail
        go_roundg (n - (k + 1))
        case measure => omega
        case rel => exact ⟨k + 1, acc ++ (quoteB nm ++ 58 :: printB d y), by omega, by omega, by simp, HF.out, HG.out⟩
      · have hk1 : (0 : Int) < (k : Int) := by omega
        have HK0 := Lib.hid hk0
        clear hk0
        go_wp2_with fail
        refine Calls.mono (writeByte_any w0.heap.size b _ 44 _ HPA.out.1 (by have hl := HL.out; rw [HS.out, if_neg HK0.out] at hl; simp [Lib.byteCells] at hl ⊢; omega) (H0.out.trans HPA.out.2.1).size) ?_
        rintro e w4 ⟨rfl, hp4⟩
        have hnw := post_block hp4 HNW.out (sb_ne HPA.out.1 HNW.out (by decide)) (by decide)
        have t0 : w4.cell? ⟨wr.heap.size, 0, none⟩ = some (.string nm) := by rw [Lib.cell_of_heap hnw]; rfl
        have t1 : w4.cell? ⟨wr.heap.size, 1, none⟩ = some (.int .i64 y.k) := by rw [Lib.cell_of_heap hnw]; rfl
        have t2 : w4.cell? ⟨wr.heap.size, 2, none⟩ = some (.int .i64 y.n) := by rw [Lib.cell_of_heap hnw]; rfl
        have t3 : w4.cell? ⟨wr.heap.size, 3, none⟩ = some (.string y.s) := by rw [Lib.cell_of_heap hnw]; rfl
        have t4 : w4.cell? ⟨wr.heap.size, 4, none⟩ = some (.slice B1 k1 d1) := by rw [Lib.cell_of_heap hnw]; rfl
        have t5 : w4.cell? ⟨wr.heap.size, 5, none⟩ = some (.slice B2 k2 d2) := by rw [Lib.cell_of_heap hnw]; rfl
        have hp4' := post_trans HPA.out hp4
        have hc4 : bs ++ Lib.byteCells (123 :: (acc ++ [44])) = bs ++ Lib.byteCells (123 :: acc) ++ [.int .u8 44] := by simp [Lib.byteCells]
        rw [← hc4] at hp4'
        have HP4 := Lib.hid hp4'; have HN4 := Lib.hid hnw
        clear hp4 hp4' hc4 hnw
        go_wp2_with fail
        refine Calls.mono (jquote_any w0.heap.size b _ nm _ (by have := HV.out.2; omega) (HT.out.below (H0.out.trans HP4.out.2.1)) HV.out.1 HP4.out.1 (by have hl := HL.out; rw [HS.out, if_neg HK0.out] at hl; simp [Lib.byteCells] at hl ⊢; omega) (H0.out.trans HP4.out.2.1).size) ?_
        rintro e w5 ⟨rfl, hp5⟩
        have hnw5 := post_block hp5 HN4.out (sb_ne HP4.out.1 HN4.out (by decide)) (by decide)
        have hp5' := post_trans HP4.out hp5
        have HP5 := Lib.hid hp5'; have HN5 := Lib.hid hnw5
        clear hp5 hp5' hnw5
        go_wp2_with fail
        refine Calls.mono (writeByte_any w0.heap.size b _ 58 _ HP5.out.1 (by have hl := HL.out; rw [HS.out, if_neg HK0.out] at hl; simp [Lib.byteCells] at hl ⊢; omega) (H0.out.trans HP5.out.2.1).size) ?_
        rintro e w6 ⟨rfl, hp6⟩
        have hnw6 := post_block hp6 HN5.out (sb_ne HP5.out.1 HN5.out (by decide)) (by decide)
        have u0 : w6.cell? ⟨wr.heap.size, 0, none⟩ = some (.string nm) := by rw [Lib.cell_of_heap hnw6]; rfl
        have u1 : w6.cell? ⟨wr.heap.size, 1, none⟩ = some (.int .i64 y.k) := by rw [Lib.cell_of_heap hnw6]; rfl
        have u2 : w6.cell? ⟨wr.heap.size, 2, none⟩ = some (.int .i64 y.n) := by rw [Lib.cell_of_heap hnw6]; rfl
        have u3 : w6.cell? ⟨wr.heap.size, 3, none⟩ = some (.string y.s) := by rw [Lib.cell_of_heap hnw6]; rfl
        have u4 : w6.cell? ⟨wr.heap.size, 4, none⟩ = some (.slice B1 k1 d1) := by rw [Lib.cell_of_heap hnw6]; rfl
        have u5 : w6.cell? ⟨wr.heap.size, 5, none⟩ = some (.slice B2 k2 d2) := by rw [Lib.cell_of_heap hnw6]; rfl
        have hp6' := post_trans HP5.out hp6
        have HP6 := Lib.hid hp6'
        clear hp6 hp6' hnw6
        go_wp2_with fail
        refine Calls.mono (IH.out y _ F w0 b _ _ HY.out HJ.out HT.out (H0.out.trans HP6.out.2.1) HP6.out.1 (by have hl := HL.out; rw [HS.out, if_neg HK0.out] at hl; simp [Lib.byteCells] at hl ⊢; omega)) ?_
        rintro e w7 ⟨rfl, hp7⟩
        have hpost := post_trans HP6.out hp7
        have hcells : bs ++ Lib.byteCells (123 :: (acc ++ (44 :: (quoteB nm ++ 58 :: printB d y)))) = _ := (show _ = bs ++ Lib.byteCells (123 :: (acc ++ [44])) ++ Lib.byteCells (quoteB nm) ++ [.int .u8 58] ++ Lib.byteCells (printB d y) by simp [Lib.byteCells])
        rw [← hcells] at hpost
        have hjoin : joinFrom (fun p => quoteB p.1 ++ 58 :: printB d p.2) true l = (acc ++ (44 :: (quoteB nm ++ 58 :: printB d y))) ++ joinFrom (fun p => quoteB p.1 ++ 58 :: printB d p.2) (k + 1 == 0) (l.drop (k + 1)) := by rw [HS.out, if_neg HK0.out]; simp [List.append_assoc]
        have HF := Lib.hid hpost; have HG := Lib.hid hjoin
        clear hp7 hpost hcells hjoin
        go_wp2_with fail
        go_roundg (n - (k + 1))
        case measure => omega
        case rel => exact ⟨k + 1, acc ++ (44 :: (quoteB nm ++ 58 :: printB d y)), by omega, by omega, by simp, HF.out, HG.out⟩
    · have hltz : ¬ ((k : Int) < (n : Int)) := by omega
      have hd : l.drop k = [] := List.drop_eq_nil_of_le (by have := Hn.out; omega)
      have hacc := HA.out
      rw [hd] at hacc
      have hacc' : joinFrom (fun p => quoteB p.1 ++ 58 :: printB d p.2) true l = acc := by rw [hacc]; simp [joinFrom]
      have HC := Lib.hid hacc'
      clear hd hacc hacc'
      go_wp2_with fail
      refine Calls.mono (writeByte_any w0.heap.size b _ 125 _ HP.out.1 (by have hl := HL.out; rw [HC.out] at hl; simp [Lib.byteCells] at hl ⊢; omega) hbw.size) ?_
      rintro e w4 ⟨rfl, hp4⟩
      have hp4' := post_trans HP.out hp4
      have hc4 : bs ++ Lib.byteCells (123 :: (acc ++ [125])) = bs ++ Lib.byteCells (123 :: acc) ++ [.int .u8 125] := by simp [Lib.byteCells]
      rw [← hc4] at hp4'
      have HP4 := Lib.hid hp4'
      clear hp4 hp4' hc4
      go_wp2_with fail
      go_end0
      exact ⟨rfl, by rw [HC.out]; exact HP4.out⟩
end Go.Proofs.YtjjgbgojlhaapaaGreatDoor
