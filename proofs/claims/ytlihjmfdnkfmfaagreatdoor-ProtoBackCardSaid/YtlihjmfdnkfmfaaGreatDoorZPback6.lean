/- Parts of the proof: Q, Jb. -/
import Derived.Test.YtlihjmfdnkfmfaaGreatDoorZPback3
import Derived.Test.YtlihjmfdnkfmfaaGreatDoorZPback2
import Derived.BigCall
namespace Go.Proofs.YtlihjmfdnkfmfaaGreatDoor
open Go.RowKit Go.Lib

theorem row_iterAt {w : World} {B e size n : Nat} {v : Value} {xs : List Value} (h : w.ownsRow B e size v n xs) {k : Nat} {s : ByteArray} {pos : Nat} (hk : w.heap[k]? = some (.stringIter s pos)) (pos' : Nat) : (w.iterAt k s pos').ownsRow B e size v n xs := by
  obtain ⟨h1, h2⟩ := h
  refine ⟨h1, h2.imp id ?_⟩
  rintro ⟨g, cap, cur, hv, hb, hg, r⟩
  have hne : g ≠ k := by rintro rfl; rw [hk] at hg; cases hg
  exact ⟨g, cap, cur, hv, hb, (Lib.iterAt_other _ _ _ _ _ hne).trans hg, r⟩
theorem sb_iterAt {B b : Nat} {bs : List Value} {w : World} (h : Sb B b bs w) {k : Nat} {s : ByteArray} {pos : Nat} (hk : w.heap[k]? = some (.stringIter s pos)) (pos' : Nat) : Sb B b bs (w.iterAt k s pos') := by
  have key : ∀ p, Lib.BuilderAt 154 5 B b p bs w → Lib.BuilderAt 154 5 B b p bs (w.iterAt k s pos') := by
    rintro p ⟨hB, v, hb, ho, hne⟩
    refine ⟨hB, v, ?_, row_iterAt ho hk pos', hne⟩
    rw [Lib.iterAt_other _ _ _ _ _ (fun e => by subst e; rw [hk] at hb; cases hb)]
    exact hb
  exact h.imp (key _) (key _)
theorem sb_alloc {B b : Nat} {bs : List Value} {w : World} (h : Sb B b bs w) (o : Obj) : Sb B b bs (w.alloc o) := by
  have hba : Below w.heap.size w (w.alloc o) := bel_alloc (Below.refl _ _) _
  have key : ∀ p, Lib.BuilderAt 154 5 B b p bs w → Lib.BuilderAt 154 5 B b p bs (w.alloc o) := by
    rintro p ⟨hB, v, hb, ho, hne⟩
    exact ⟨hB, v, (hba.block b (Array.getElem?_eq_some_iff.1 hb).1).trans hb, own_laterB ho hba, hne⟩
  exact h.imp (key _) (key _)

def hexAt (i : Nat) : UInt8 := ([48, 49, 50, 51, 52, 53, 54, 55, 56, 57, 97, 98, 99, 100, 101, 102] : List UInt8).getD i 0
def quoteOne (r : Nat) : List UInt8 :=
  if letterB r ≠ 0 then [92, (letterB r).toNat.toUInt8] else if r < 32 then [92, 117, 48, 48, hexAt (r / 16), hexAt (r % 16)] else Lib.encodeRune r
def quoteFrom (s : ByteArray) : Nat → Nat → List UInt8
  | 0, _ => []
  | fuel + 1, pos => if pos < s.size then quoteOne (Utf8.decode s pos).1 ++ quoteFrom s fuel (pos + (Utf8.decode s pos).2) else []
def quoteB (s : ByteArray) : List UInt8 := 34 :: (quoteFrom s s.size 0 ++ [34])
theorem width_pos (s : ByteArray) (pos : Nat) (h : pos < s.size) : 1 ≤ (Utf8.decode s pos).2 := by
  by_cases ha : (s[pos]'h).toNat < 128
  · rw [decode_ascii s pos h ha]
    exact Nat.le_refl _
  · exact (decode_high s pos h (by omega)).2
theorem quoteFrom_end (s : ByteArray) (fuel pos : Nat) (h : ¬ pos < s.size) : quoteFrom s fuel pos = [] := by
  cases fuel with
  | zero => rfl
  | succ f => simp [quoteFrom, h]
theorem quoteFrom_step {s : ByteArray} {fuel pos : Nat} (h : pos < s.size) : quoteFrom s (fuel + 1) pos = quoteOne (Utf8.decode s pos).1 ++ quoteFrom s fuel (pos + (Utf8.decode s pos).2) := by simp [quoteFrom, h]

theorem letter_range (r : Int) : 0 ≤ letterB r ∧ letterB r < 256 := by
  simp only [letterB, letterTab, letterIn]
  repeat' split
  all_goals omega
theorem byteCell_toNat {ch : Int} (h0 : 0 ≤ ch) (h1 : ch < 256) : Lib.byteCells [ch.toNat.toUInt8] = [Value.int .u8 ch] := by
  simp [Lib.byteCells]; omega
theorem hex_val : ∀ (i : Nat) (h : i < (⟨#[48, 49, 50, 51, 52, 53, 54, 55, 56, 57, 97, 98, 99, 100, 101, 102]⟩ : ByteArray).size), (⟨#[48, 49, 50, 51, 52, 53, 54, 55, 56, 57, 97, 98, 99, 100, 101, 102]⟩ : ByteArray)[i] = hexAt i
  | 0, _ => rfl | 1, _ => rfl | 2, _ => rfl | 3, _ => rfl | 4, _ => rfl | 5, _ => rfl | 6, _ => rfl | 7, _ => rfl
  | 8, _ => rfl | 9, _ => rfl | 10, _ => rfl | 11, _ => rfl | 12, _ => rfl | 13, _ => rfl | 14, _ => rfl | 15, _ => rfl
  | n + 16, h => absurd h (by show ¬ (n + 16 < 16); omega)
theorem and15 : ∀ r : Nat, r < 32 → bits BinOp.and IntKind.i32 (r : Int) 15 = ((r % 16 : Nat) : Int) := by decide
def QRel (s : ByteArray) (w1 : World) (K gg : Nat) (wr : World) : Prop := ∃ (pos fuel : Nat) (acc : List UInt8), s.size - pos ≤ gg ∧ Sb w1.heap.size w1.heap.size (Lib.byteCells acc) wr ∧ wr.heap[K]? = some (.stringIter s pos) ∧ Below w1.heap.size w1 wr ∧ 34 :: quoteFrom s s.size 0 = acc ++ quoteFrom s fuel pos ∧ s.size ≤ pos + fuel ∧ acc.length + 6 * fuel ≤ 1 + 6 * s.size
set_option maxHeartbeats 4000000 in
set_option maxRecDepth 100000 in
theorem quote_good (s : ByteArray) (w : World) (hs : s.size ≤ 17592186044416) (hT : Tabs w) (hv : validB s = true) :
    Calls Tryz.prog 164 #[.string s] w fun e w' => e = .returned (.tuple #[.string ⟨(quoteB s).toArray⟩, .int .i64 0]) ∧ Below w.heap.size w w' := by
  have hc := valid_any s w (by omega) hT
  rw [hv] at hc
  clear hv
  go_enter Tryz.func164, Tryz.ntmps164
  go_wp2_with fail
  refine Calls.mono hc ?_
  rintro e w1 ⟨rfl, hb1⟩
  clear hc
  go_wp2_with fail
  have hfr : Sb w1.heap.size w1.heap.size [] (w1.alloc (.cells #[.pointer none, .slice none 0 0] 154)) := Lib.fresh_isBuilder _ _ w1
  refine Calls.mono (writeByte_any w1.heap.size w1.heap.size [] 34 _ hfr (by simp) (by simp)) ?_
  rintro e w2 ⟨rfl, hs2, hb2, hk2⟩
  have hb2' : Below w1.heap.size w1 w2 := (bel_alloc (Below.refl _ _) _).trans hb2
  have hz2 : w1.heap.size < w2.heap.size := by
    rcases hs2 with ⟨_, v, hb, _⟩ | ⟨_, v, hb, _⟩ <;> exact (Array.getElem?_eq_some_iff.1 hb).1
  clear hfr hb2 hk2 hT
  go_wp2_with fail
  generalize hK : w2.heap.size = K at *
  have HK := Lib.hid hK
  have hit0 : (w2.alloc (.stringIter s 0)).heap[K]? = some (.stringIter s 0) := by rw [← hK]; exact heap_alloc_new w2 _
  have hs2' := sb_alloc hs2 (.stringIter s 0)
  have hb2a : Below w1.heap.size w1 (w2.alloc (.stringIter s 0)) := hb2'.alloc (by omega) _
  have HS0 := Lib.hid hs2'; have HI0 := Lib.hid hit0; have HB0 := Lib.hid hb2a
  clear hs2 hb2' hs2' hit0 hb2a hK
  go_loopg [6, 7] s.size (fun gg _ _ wr => QRel s w1 K gg wr)
  case atStart => exact ⟨0, s.size, [34], by omega, HS0.out, HI0.out, HB0.out, rfl, by omega, by simp⟩
  case round =>
    obtain ⟨pos, fuel, acc, hgg, hS, hit, hbw, hacc, hfu, hal⟩ := hrel
    have hsz : K < wr.heap.size := (Array.getElem?_eq_some_iff.1 hit).1
    by_cases hp : pos < s.size
    · have hnx : ∀ ty, (Instr.next (.pointer (some ⟨K, 0, none⟩)) true ty).run Tryz.prog wr = _ := fun ty => Lib.run_next_any_at wr K s pos ty hit hp
      have hwd := width_pos s pos hp
      have hd1 := decode_le s pos
      obtain ⟨f, rfl⟩ : ∃ f, fuel = f + 1 := ⟨fuel - 1, by omega⟩
      rw [quoteFrom_step hp] at hacc
      have hS2 := sb_iterAt hS hit (pos + (Utf8.decode s pos).2)
      have hit2 := Lib.iterAt_heap wr K s pos (pos + (Utf8.decode s pos).2) hit
      have hbw2 := Lib.below_iterAt hbw (k := K) (by omega) s (pos + (Utf8.decode s pos).2)
      have hsz2 : w1.heap.size ≤ (wr.iterAt K s (pos + (Utf8.decode s pos).2)).heap.size := by rw [Lib.iterAt_size]; omega
      generalize (Utf8.decode s pos).1 = r at *
      generalize (Utf8.decode s pos).2 = wd at *
      have HS2 := Lib.hid hS2; have HI2 := Lib.hid hit2; have HB2 := Lib.hid hbw2; have HZ2 := Lib.hid hsz2; have HA := Lib.hid hacc
      have HF := Lib.hid hfu; have HL := Lib.hid hal; have HG := Lib.hid hgg; have HD := Lib.hid hd1; have HW := Lib.hid hwd
      clear hS hS2 hit hit2 hbw hbw2 hsz2 hacc hfu hal hgg hd1 hwd
      go_wp2_with fail
      refine Calls.mono (letter_any _ _) ?_
      rintro e w3 ⟨rfl, rfl⟩
      have hpk : K ≠ w1.heap.size := by omega
      have hlen : (Lib.byteCells acc).length + 6 ≤ 140737488355328 := by rw [Lib.byteCells_length]; have := HL.out; omega
      have HP := Lib.hid hp; have HN := Lib.hid hlen; have HKK := Lib.hid hpk; have Hs := Lib.hid hs
      clear hp hlen hpk hnx hs
      by_cases hl : letterB (r : Int) = 0
      · have hq : quoteOne r = if r < 32 then [92, 117, 48, 48, hexAt (r / 16), hexAt (r % 16)] else Lib.encodeRune r := by simp [quoteOne, hl]
        have HQ := Lib.hid hq
        rw [hl]
        clear hq hl
        by_cases hr : r < 32
        · have hr1 : (r : Int) < 32 := by omega
          go_wp2_with fail
          refine Calls.mono (writeString_any w1.heap.size w1.heap.size _ _ _ HS2.out (by have := HN.out; simp [ByteArray.size]; omega) HZ2.out) ?_
          rintro e w4 ⟨rfl, hs4, hb4, hk4⟩
          have hz4 := Nat.le_trans HZ2.out hb4.size
          have hi4 := hk4.iter HI2.out HKK.out
          have HS4 := Lib.hid hs4; have HZ4 := Lib.hid hz4; have HI4 := Lib.hid hi4; have HB4 := Lib.hid hb4
          clear hs4 hz4 hi4 hb4 hk4
          go_wp2_with fail
          rw [hex_val]
          refine Calls.mono (writeByte_any w1.heap.size w1.heap.size _ _ _ HS4.out (by have := HN.out; simp [Lib.strCells_length, ByteArray.size]; omega) HZ4.out) ?_
          rintro e w5 ⟨rfl, hs5, hb5, hk5⟩
          have hz5 := Nat.le_trans HZ4.out hb5.size
          have hi5 := hk5.iter HI4.out HKK.out
          have HS5 := Lib.hid hs5; have HZ5 := Lib.hid hz5; have HI5 := Lib.hid hi5; have HB5 := Lib.hid hb5
          clear hs5 hz5 hi5 hb5 hk5
          have h15 := and15 r hr
          have h16 : r % 16 < 16 := by omega
          generalize hm16 : r % 16 = q at *
          have HM := Lib.hid hm16
          clear hm16
          go_wp2_with fail
          rw [hex_val]
          refine Calls.mono (writeByte_any w1.heap.size w1.heap.size _ _ _ HS5.out (by have := HN.out; simp [Lib.strCells_length, ByteArray.size]; omega) HZ5.out) ?_
          rintro e w6 ⟨rfl, hs6, hb6, hk6⟩
          have hi6 := hk6.iter HI5.out HKK.out
          have HS6 := Lib.hid hs6; have HI6 := Lib.hid hi6; have HB6 := Lib.hid hb6
          clear hs6 hi6 hb6 hk6
          go_wp2_with fail
          have hq6 : quoteOne r = [92, 117, 48, 48] ++ [hexAt (r / 16)] ++ [hexAt q] := by rw [HQ.out, if_pos hr]; rfl
          go_roundg (s.size - (pos + wd))
          case measure => have := HG.out; have := HW.out; have := HP.out; omega
          case rel =>
            refine ⟨pos + wd, f, acc ++ quoteOne r, by omega, ?_, HI6.out, ((HB2.out.trans HB4.out).trans HB5.out).trans HB6.out, ?_, by have := HF.out; have := HW.out; omega, by rw [hq6]; have := HL.out; have := HW.out; simp; omega⟩
            · rw [hq6]
              simp only [Lib.byteCells_append, ← List.append_assoc]
              exact HS6.out
            · rw [HA.out, List.append_assoc]
        · have hr1 : ¬ ((r : Int) < 32) := by omega
          go_wp2_with fail
          refine Calls.mono (writeRune_any w1.heap.size w1.heap.size _ r (by omega) (by have := HD.out; omega) _ HS2.out (by have := HN.out; omega) HZ2.out) ?_
          rintro e w4 ⟨⟨m, rfl⟩, hs4, hb4, hk4⟩
          have hi4 := hk4.iter HI2.out HKK.out
          have HS4 := Lib.hid hs4; have HI4 := Lib.hid hi4; have HB4 := Lib.hid hb4
          clear hs4 hi4 hb4 hk4
          go_wp2_with fail
          have hq6 : quoteOne r = Lib.encodeRune r := by rw [HQ.out, if_neg hr]
          have hl4 := Lib.runeCells_le (r : Int)
          rw [Lib.runeCells_length] at hl4
          go_roundg (s.size - (pos + wd))
          case measure => have := HG.out; have := HW.out; have := HP.out; omega
          case rel =>
            refine ⟨pos + wd, f, acc ++ quoteOne r, by omega, ?_, HI4.out, HB2.out.trans HB4.out, ?_, by have := HF.out; have := HW.out; omega, by rw [hq6]; have := HL.out; have := HW.out; simp; omega⟩
            · rw [hq6, Lib.byteCells_append, Lib.byteCells_encodeRune]
              exact HS4.out
            · rw [HA.out, List.append_assoc]
      · have hlb : (letterB (r : Int) != 0) = true := by simpa using hl
        obtain ⟨hg0, hg1⟩ := letter_range r
        have hq : quoteOne r = [92, (letterB r).toNat.toUInt8] := by simp [quoteOne, hl]
        have hq2 := byteCell_toNat hg0 hg1
        generalize letterB (r : Int) = L at *
        have HQ := Lib.hid hq; have HQ2 := Lib.hid hq2
        clear hq hq2 hl hg0 hg1
        go_wp2_with fail
        refine Calls.mono (writeByte_any w1.heap.size w1.heap.size _ 92 _ HS2.out (by have := HN.out; omega) HZ2.out) ?_
        rintro e w4 ⟨rfl, hs4, hb4, hk4⟩
        have hz4 := Nat.le_trans HZ2.out hb4.size
        have hi4 := hk4.iter HI2.out HKK.out
        have HS4 := Lib.hid hs4; have HZ4 := Lib.hid hz4; have HI4 := Lib.hid hi4; have HB4 := Lib.hid hb4
        clear hs4 hz4 hi4 hb4 hk4
        go_wp2_with fail
        refine Calls.mono (writeByte_any w1.heap.size w1.heap.size _ L _ HS4.out (by have := HN.out; simp; omega) HZ4.out) ?_
        rintro e w5 ⟨rfl, hs5, hb5, hk5⟩
        have hi5 := hk5.iter HI4.out HKK.out
        have HS5 := Lib.hid hs5; have HI5 := Lib.hid hi5; have HB5 := Lib.hid hb5
        clear hs5 hi5 hb5 hk5
        go_wp2_with fail
        go_roundg (s.size - (pos + wd))
        case measure => have := HG.out; have := HW.out; have := HP.out; omega
        case rel =>
          refine ⟨pos + wd, f, acc ++ quoteOne r, by omega, ?_, HI5.out, (HB2.out.trans HB4.out).trans HB5.out, ?_, by have := HF.out; have := HW.out; omega, by rw [HQ.out]; have := HL.out; have := HW.out; simp; omega⟩
          · rw [Lib.byteCells_append, HQ.out]
            have := HS5.out
            rw [← HQ2.out, List.append_assoc] at this
            exact this
          · rw [HA.out, List.append_assoc]
    · have hnx : ∀ ty, (Instr.next (.pointer (some ⟨K, 0, none⟩)) true ty).run Tryz.prog wr = _ := fun ty => Lib.run_next_end_at wr K s pos ty hit hp
      rw [quoteFrom_end s fuel pos hp, List.append_nil] at hacc
      have hlen : (Lib.byteCells acc).length + 1 ≤ 140737488355328 := by
        rw [Lib.byteCells_length]
        omega
      have hz3 : w1.heap.size ≤ wr.heap.size := hbw.size
      have HS := Lib.hid hS; have HA := Lib.hid hacc; have HB := Lib.hid hbw; have HZ := Lib.hid hz3; have HN := Lib.hid hlen
      clear hS hacc hbw hz3 hlen hs hal hfu hgg
      go_wp2_with fail
      refine Calls.mono (writeByte_any w1.heap.size w1.heap.size _ 34 _ HS.out HN.out HZ.out) ?_
      rintro e w5 ⟨rfl, hs5, hb5, hk5⟩
      have hs6 : Sb w1.heap.size w1.heap.size (Lib.byteCells (acc ++ [34])) w5 := by rw [Lib.byteCells_append]; exact hs5
      have hstr := Tryz.Builder_String_any w1.heap.size w1.heap.size (acc ++ [34]) w5 hs6 (Nat.le_trans HZ.out hb5.size)
      have HX := Lib.hid hstr; have HB5 := Lib.hid hb5
      clear hs5 hs6 hk5 hstr hb5
      go_wp2_with fail
      refine Calls.mono HX.out ?_
      rintro e w6 ⟨rfl, hb6⟩
      go_wp2_with fail
      go_ret2
      refine ⟨?_, bel_trans hb1 ((HB.out.trans HB5.out).trans hb6)⟩
      rw [show quoteB s = acc ++ [34] from by rw [← HA.out]; rfl]
      rfl
end Go.Proofs.YtlihjmfdnkfmfaaGreatDoor
namespace Go.Proofs.YtlihjmfdnkfmfaaGreatDoor
open Go.RowKit

theorem JR_later {w w' : World} {F : Nat → Prop} {x : JV} {cs : List Value} (h : JR w F x cs) (hb : Below w.heap.size w w') : JR w' F x cs :=
  JR_mono (fun _ h => h.1) _ _ (JR_frame (fun k hk => hb.block k hk.2) _ _ (JR_bound _ _ h))

def mayJ : Nat → JV → Bool
  | 0, _ => false
  | d + 1, x => oneB x && x.l.all (mayJ d) && x.m.all fun p => mayJ d p.2

theorem all_step {α : Type} {f : α → Bool} {l : List α} {k : Nat} {x : α} (h : l.all f = (l.drop k).all f) (hx : l[k]? = some x) (hf : f x = true) : l.all f = (l.drop (k + 1)).all f := by
  rw [h, drop_of_get hx]; simp [hf]
theorem all_fail {α : Type} {f : α → Bool} {l : List α} {k : Nat} {x : α} (h : l.all f = (l.drop k).all f) (hx : l[k]? = some x) (hf : f x = false) : l.all f = false := by
  rw [h, drop_of_get hx]; simp [hf]
theorem all_end {α : Type} {f : α → Bool} {l : List α} {k : Nat} (h : l.all f = (l.drop k).all f) (hx : l.length = k) : l.all f = true := by
  subst hx
  rw [h]; simp

set_option maxRecDepth 100000 in
set_option maxHeartbeats 4000000 in
theorem jmay_any : ∀ (d : Nat), d ≤ 9223372036854775807 → ∀ (x : JV) (cs : List Value) (F : Nat → Prop) (w : World), JR w F x cs → Tabs w →
    Calls Tryz.prog 120 #[.agg cs.toArray, .int .i64 d] w fun e w' => e = .returned (.bool (mayJ d x)) ∧ Below w.heap.size w w' := by
  intro d
  induction d with
  | zero =>
    intro hd x cs F w h hT
    obtain ⟨A1, n1, c1, A2, n2, c2, rfl⟩ := JR_form h
    clear h hT
    go_enter Tryz.func120, Tryz.ntmps120
    go_wp2_with fail
    go_ret
    exact ⟨rfl, bel_alloc (Below.refl _ _) _⟩
  | succ d ih =>
    intro hd x cs F w h hT
    have IH := Lib.hid (ih (by omega))
    have h0 := h
    obtain ⟨vl, vm, ⟨rfl, hsz⟩, hl, hm⟩ := JR_iff.1 h
    obtain ⟨A1, c1, rfl, hl63, hel⟩ := val_cells hl
    obtain ⟨A2, c2, rfl, hm63, hem⟩ := mem_cells hm
    have hone := fun V hV => one_any x _ F V (JR_later h0 (w' := V) hV) (hT.below hV)
    have HT := Lib.hid hT; have HL := Lib.hid hel; have HM := Lib.hid hem; have HO := Lib.hid hone
    have HD := Lib.hid hd
    have hd1 : ¬ ((d : Int) + 1 < 1) := by omega
    have hd2 : decide ((d : Int) + 1 < 1) = false := by simpa using hd1
    clear hl hm h hT hsz hel hem hone h0 ih hd
    go_enter Tryz.func120, Tryz.ntmps120
    go_wp2_with fail
    have hbA : Below w.heap.size w (w.alloc (.cells #[.int .i64 x.k, .int .i64 x.n, .string x.s, .slice A1 x.l.length c1, .slice A2 x.m.length c2] 43)) := bel_alloc (Below.refl _ _) _
    have l0 := cell_newB w #[.int .i64 x.k, .int .i64 x.n, .string x.s, .slice A1 x.l.length c1, .slice A2 x.m.length c2] 43 3 _ rfl
    have m0 := cell_newB w #[.int .i64 x.k, .int .i64 x.n, .string x.s, .slice A1 x.l.length c1, .slice A2 x.m.length c2] 43 4 _ rfl
    generalize w.alloc (.cells #[.int .i64 x.k, .int .i64 x.n, .string x.s, .slice A1 x.l.length c1, .slice A2 x.m.length c2] 43) = W at *
    cases hon : oneB x with
    | false =>
      have HN := Lib.hid hon
      clear hon
      refine (HO.out _ hbA).mono ?_
      rw [HN.out]
      rintro e w1 ⟨rfl, hb1⟩
      go_wp2_with fail
      go_ret
      exact ⟨ret_bool (by simp [mayJ, HN.out]), bel_trans hbA hb1⟩
    | true =>
      have HN := Lib.hid hon
      clear hon
      refine (HO.out _ hbA).mono ?_
      rw [HN.out]
      rintro e w1 ⟨rfl, hb1⟩
      have l1 := cell_later' hb1 l0
      have m1 := cell_later' hb1 m0
      have hbB := bel_trans hbA hb1
      have HR := Lib.hid (show mayJ (d + 1) x = (x.l.all (mayJ d) && x.m.all fun p => mayJ d p.2) by simp [mayJ, HN.out])
      have hzw : w.heap.size < w1.heap.size := World.block_lt_of_cell? _ _ l1
      clear l0 m0 hb1 HN HO
      generalize hn : x.l.length = n at *
      generalize hnm : x.m.length = m at *
      have Hn := Lib.hid hn; have Hm := Lib.hid hnm
      clear hn hnm
      have hw : wrap64 (d : Int) = (d : Int) := by have := HD.out; simp only [wrap64]; omega
      have HW := Lib.hid hw
      clear hw
      go_wp2_with fail
      go_loopg [6, 19] n (fun gg _ s19 wr => ∃ k : Nat, k ≤ n ∧ n - k ≤ gg ∧ s19 = .int .i64 k ∧ Aside (Below w1.heap.size w1 wr) ∧ Aside (x.l.all (mayJ d) = (x.l.drop k).all (mayJ d)))
      case atStart => exact ⟨0, Nat.zero_le _, by omega, rfl, Below.refl _ _, rfl⟩
      case round =>
        obtain ⟨k, hk, hgg, rfl, HB, HA⟩ := hrel
        have hbw := bel_trans hbB HB.out
        have l2 := cell_later' HB.out l1
        have m2 := cell_later' HB.out m1
        have hzr : w.heap.size < wr.heap.size := World.block_lt_of_cell? _ _ l2
        by_cases hlt : k < n
        · have hltz : (k : Int) < (n : Int) := by omega
          obtain ⟨y, hx⟩ : ∃ p, x.l[k]? = some p := get_ex (by have := Hn.out; omega)
          obtain ⟨b, o, B1, k1, d1, B2, k2, d2, rfl, e0, e1, e2, e3, e4, hjr⟩ := HL.out k y hx
          have r0 := cell_later' hbw e0
          have r1 := cell_later' hbw e1
          have r2 := cell_later' hbw e2
          have r3 := cell_later' hbw e3
          have r4 := cell_later' hbw e4
          have hbr : b < wr.heap.size := World.block_lt_of_cell? _ _ r0
          have hcall := fun V (hV : Below wr.heap.size wr V) => IH.out y _ F V (JR_later hjr (bel_trans hbw hV)) (HT.out.below (bel_trans hbw hV))
          have HX := Lib.hid hx; have HC := Lib.hid hcall
          clear hx hjr e0 e1 e2 e3 e4 hcall
          go_wp2_with fail
          rw [HW.out]
          cases hmy : mayJ d y with
          | false =>
            have HY := Lib.hid hmy
            clear hmy
            refine (HC.out _ (bel_alloc (Below.refl _ _) _)).mono ?_
            rw [HY.out]
            rintro e w5 ⟨rfl, hb5⟩
            go_wp2_with fail
            go_ret
            exact ⟨ret_bool (by rw [HR.out, all_fail HA HX.out HY.out]; rfl), bel_trans hbw (bel_trans (bel_alloc (Below.refl _ _) _) hb5)⟩
          | true =>
            have HY := Lib.hid hmy
            clear hmy
            refine (HC.out _ (bel_alloc (Below.refl _ _) _)).mono ?_
            rw [HY.out]
            rintro e w5 ⟨rfl, hb5⟩
            go_wp2_with fail
            go_roundg (n - (k + 1))
            case measure => omega
            case rel => exact ⟨k + 1, by omega, by omega, by simp, bel_trans HB.out (bel_trans (bel_alloc (Below.refl _ _) _) hb5), all_step HA HX.out HY.out⟩
        · have hmem := all_end HA.out (by have := Hn.out; omega : x.l.length = k)
          have hltz : ¬ ((k : Int) < (n : Int)) := by omega
          have HM1 := Lib.hid hmem
          clear hmem
          go_wp2_with fail
          go_loopg [8, 32] m (fun gg _ s32 wq => ∃ k : Nat, k ≤ m ∧ m - k ≤ gg ∧ s32 = .int .i64 k ∧ Aside (Below wr.heap.size wr wq) ∧ Aside (x.m.all (fun p => mayJ d p.2) = (x.m.drop k).all fun p => mayJ d p.2))
          case atStart => exact ⟨0, Nat.zero_le _, by omega, rfl, Below.refl _ _, rfl⟩
          case round =>
            obtain ⟨k', hk', hgg', rfl, HB', HA'⟩ := hrel
            have hbq := bel_trans hbw HB'.out
            have l3 := cell_later' HB'.out l2
            have m3 := cell_later' HB'.out m2
            have hzq : w.heap.size < wr.heap.size := World.block_lt_of_cell? _ _ l3
            by_cases hlt' : k' < m
            · have hltz' : (k' : Int) < (m : Int) := by omega
              obtain ⟨⟨nm, y⟩, hx⟩ : ∃ p, x.m[k']? = some p := get_ex (by have := Hm.out; omega)
              obtain ⟨b, o, B1, k1, d1, B2, k2, d2, rfl, hnz, e0, e1, e2, e3, e4, e5, hjr⟩ := HM.out k' nm y hx
              have r0 := cell_later' hbq e0
              have r1 := cell_later' hbq e1
              have r2 := cell_later' hbq e2
              have r3 := cell_later' hbq e3
              have r4 := cell_later' hbq e4
              have r5 := cell_later' hbq e5
              have hbr : b < wr.heap.size := World.block_lt_of_cell? _ _ r0
              have hcall := fun V (hV : Below wr.heap.size wr V) => IH.out y _ F V (JR_later hjr (bel_trans hbq hV)) (HT.out.below (bel_trans hbq hV))
              have HX := Lib.hid hx; have HC := Lib.hid hcall
              clear hx hjr e0 e1 e2 e3 e4 e5 hcall hnz
              go_wp2_with fail
              rw [HW.out]
              cases hmy : mayJ d y with
              | false =>
                have HY := Lib.hid hmy
                clear hmy
                refine (HC.out _ (bel_alloc (Below.refl _ _) _)).mono ?_
                rw [HY.out]
                rintro e w5 ⟨rfl, hb5⟩
                go_wp2_with fail
                go_ret
                exact ⟨ret_bool (by rw [HR.out, HM1.out, all_fail HA' HX.out HY.out]; rfl), bel_trans hbq (bel_trans (bel_alloc (Below.refl _ _) _) hb5)⟩
              | true =>
                have HY := Lib.hid hmy
                clear hmy
                refine (HC.out _ (bel_alloc (Below.refl _ _) _)).mono ?_
                rw [HY.out]
                rintro e w5 ⟨rfl, hb5⟩
                go_wp2_with fail
                go_roundg (m - (k' + 1))
                case measure => omega
                case rel => exact ⟨k' + 1, by omega, by omega, by simp, bel_trans HB'.out (bel_trans (bel_alloc (Below.refl _ _) _) hb5), all_step HA' HX.out HY.out⟩
            · have hmem := all_end HA'.out (by have := Hm.out; omega : x.m.length = k')
              have hltz' : ¬ ((k' : Int) < (m : Int)) := by omega
              have HM2 := Lib.hid hmem
              clear hmem
              go_wp2_with fail
              go_ret
              exact ⟨ret_bool (by rw [HR.out, HM1.out, HM2.out]; rfl), hbq⟩

theorem May_any (x : JV) (cs : List Value) (F : Nat → Prop) (w : World) (h : JR w F x cs) (hT : Tabs w) :
    Calls Tryz.prog 70 #[.agg cs.toArray] w fun e w' => e = .returned (.bool (mayJ 64 x)) ∧ Below w.heap.size w w' := by
  obtain ⟨A1, n1, c1, A2, n2, c2, rfl⟩ := JR_form h
  have hc := fun V hV => jmay_any 64 (by omega) x _ F V (JR_later h (w' := V) hV) (hT.below hV)
  have HC := Lib.hid hc
  clear hc h hT
  go_enter Tryz.func70, Tryz.ntmps70
  go_wp2_with fail
  refine (HC.out _ (bel_alloc (Below.refl _ _) _)).mono ?_
  rintro e w5 ⟨rfl, hb5⟩
  go_wp2_with fail
  go_ret
  exact ⟨rfl, bel_trans (bel_alloc (Below.refl _ _) _) hb5⟩
end Go.Proofs.YtlihjmfdnkfmfaaGreatDoor
