/- strings.Builder: WriteRune; text: letter. -/
import Derived.Test.YtjjgbgojlhaapaaDoorSb
import Derived.Test.YtjjgbgojlhaapaaDoorShelf
namespace Go.Proofs.YtjjgbgojlhaapaaDoor
open Go.RowKit Go.Lib

set_option maxHeartbeats 1000000 in
theorem writeRune_any (B b : Nat) (bs : List Value) (r : Int) (hr0 : -2147483648 ≤ r) (hr1 : r ≤ 2147483647) (w : World) (h : Sb B b bs w) (hlen : bs.length + 4 ≤ 140737488355328) (hBw : B ≤ w.heap.size) :
    Calls Tryd.prog 110 #[.pointer (some ⟨b, 0, none⟩), .int .i32 r] w fun e w' => (∃ n, e = .returned (.tuple #[.int .i64 n, .nilIface])) ∧ SbPost B b (bs ++ Lib.runeCells r) w w' := by
  have hcc := copyCheck_any B b bs w h
  go_enter Tryd.func110, Tryd.ntmps110
  go_wp2_with fail
  refine Calls.mono hcc ?_
  rintro e w1 ⟨rfl, ⟨hB, v, hbk, hown, hne⟩, hb1, hk1⟩
  obtain ⟨A, c, rfl⟩ : ∃ A c, v = .slice A bs.length c := by
    rcases hown.2 with ⟨rfl, h0⟩ | ⟨g, cap, cur, rfl, _⟩
    · exact ⟨none, 0, by rw [h0]⟩
    · exact ⟨_, _, rfl⟩
  have c1 : w1.cell? ⟨b, 1, none⟩ = some (.slice A bs.length c) := by rw [Lib.cell_of_heap hbk]; rfl
  have har := Tryd.utf8_AppendRune_plain B _ _ _ r hr0 hr1 w1 hown hlen (Nat.le_trans hBw hb1.size)
  have Hbk := Lib.hid hbk; have Ho := Lib.hid hown; have Hne := Lib.hid hne; have HBw := Lib.hid (Nat.le_trans hBw hb1.size); have HL := Lib.hid hlen
  have HK := Lib.hid hk1; have HB1 := Lib.hid hb1; have HAR := Lib.hid har
  clear hbk hown hne hlen hk1 hb1 hcc h har
  go_wp2_with fail
  refine Calls.mono HAR.out ?_
  rintro e w2 ⟨v', rfl, ho2, o, hg2⟩
  obtain ⟨A', c', rfl⟩ := own_sliceB ho2
  have hba : Below w1.heap.size w1 (w1.alloc o) := bel_alloc (Below.refl _ _) _
  have hown' := own_laterB Ho.out hba
  have hbk' : (w1.alloc o).heap[b]? = some (.cells #[.pointer (some ⟨b, 0, none⟩), .slice A bs.length c] 101 (0, 0)) := (hba.block b (Array.getElem?_eq_some_iff.1 Hbk.out).1).trans Hbk.out
  have hb1' : Below B w (w1.alloc o) := HB1.out.alloc HBw.out _
  have hk1' : Lib.OthersKept 5 (some b) w (w1.alloc o) := HK.out.alloc _
  have hb2 : w2.heap[b]? = some (.cells #[.pointer (some ⟨b, 0, none⟩), .slice A bs.length c] 101 (0, 0)) := (hg2.block b (Array.getElem?_eq_some_iff.1 hbk').1 (fun e => Hne.out e.symm)).trans hbk'
  have d1 : w2.cell? ⟨b, 1, none⟩ = some (.slice A bs.length c) := by rw [Lib.cell_of_heap hb2]; rfl
  have f1 : w2.frozen? ⟨b, 1, none⟩ = false := by simp [World.frozen?, hb2]
  have s1 : (w2.setCell ⟨b, 1, none⟩ (.slice A' (bs.length + (runeCells r).length) c')).cell? ⟨b, 1, none⟩ = some (.slice A' (bs.length + (runeCells r).length) c') := World.cell?_setCell_same (h := d1) ..
  have Ho2 := Lib.hid ho2; have Hg2 := Lib.hid hg2; have Ho1 := Lib.hid hown'; have Hbk' := Lib.hid hbk'; have Hb1' := Lib.hid hb1'; have Hk1' := Lib.hid hk1'
  clear ho2 hg2 hb2 hown' hbk' hb1' hk1' hba
  go_wp2_with fail
  go_ret2
  refine ⟨⟨_, rfl⟩, ?_⟩
  exact sb_put hB hBw Hbk'.out Ho1.out Hne.out Hb1'.out Hk1'.out Hg2.out (by rw [List.length_append]; exact Ho2.out)

def letterTab : List (Int × Int) := [(34, 34), (92, 92), (8, 98), (12, 102), (10, 110), (13, 114), (9, 116)]
def letterIn (l : List (Int × Int)) (r : Int) : Int := match l with | [] => 0 | (a, b) :: l => if a = r then b else letterIn l r
def letterB (r : Int) : Int := letterIn letterTab r
theorem letter_step {k : Nat} {r x a b : Int} (h : letterB r = letterIn (letterTab.drop k) r) (ht : letterTab[k]? = some (a, b)) (hx : (x == r) = false) (e : x = a) : letterB r = letterIn (letterTab.drop (k + 1)) r := by
  subst e
  rw [h, drop_of_get ht]; simp only [letterIn]; rw [if_neg (by simpa using hx)]
theorem letter_hit {k : Nat} {r x a b : Int} (h : letterB r = letterIn (letterTab.drop k) r) (ht : letterTab[k]? = some (a, b)) (hx : (x == r) = true) (e : x = a) : letterB r = b := by
  subst e
  rw [h, drop_of_get ht]; simp only [letterIn]; rw [if_pos (by simpa using hx)]
set_option maxHeartbeats 4000000 in
theorem letter_any (r : Int) (w : World) : Calls Tryd.prog 114 #[.int .i32 r] w fun e w' => e = .returned (.int .u8 (letterB r)) ∧ w' = w := by
  go_enter Tryd.func114, Tryd.ntmps114
  go_wp2_with fail
  go_loopg [3] 7 (fun gg s3 wr => ∃ k : Nat, k ≤ 7 ∧ 7 - k ≤ gg ∧ s3 = .int .i64 (2 * k) ∧ wr = w ∧ Aside (letterB r = letterIn (letterTab.drop k) r))
  case atStart => exact ⟨0, by omega, by omega, rfl, rfl, rfl⟩
  case round =>
    obtain ⟨k, hk, hgg, rfl, rfl, HA⟩ := hrel
    have hor : k = 0 ∨ k = 1 ∨ k = 2 ∨ k = 3 ∨ k = 4 ∨ k = 5 ∨ k = 6 ∨ k = 7 := by omega
    rcases hor with rfl | rfl | rfl | rfl | rfl | rfl | rfl | rfl
    case inr.inr.inr.inr.inr.inr.inr =>
      go_wp2_with fail
      go_ret
      exact ⟨by rw [HA.out]; rfl, rfl⟩
    case inl =>
      go_wp2_with fail
      · rename_i h
        have HH := Lib.hid h
        clear h
        go_ret
        exact ⟨by rw [letter_hit HA.out rfl HH.out (by kernel_rfl)]; rfl, rfl⟩
      · rename_i h
        have HH := Lib.hid h
        clear h
        go_roundg (7 - (0 + 1))
        case measure => omega
        case rel => exact ⟨0 + 1, by omega, by omega, rfl, rfl, letter_step HA.out rfl HH.out (by kernel_rfl)⟩
    case inr.inl =>
      go_wp2_with fail
      · rename_i h
        have HH := Lib.hid h
        clear h
        go_ret
        exact ⟨by rw [letter_hit HA.out rfl HH.out (by kernel_rfl)]; rfl, rfl⟩
      · rename_i h
        have HH := Lib.hid h
        clear h
        go_roundg (7 - (1 + 1))
        case measure => omega
        case rel => exact ⟨1 + 1, by omega, by omega, rfl, rfl, letter_step HA.out rfl HH.out (by kernel_rfl)⟩
    case inr.inr.inl =>
      go_wp2_with fail
      · rename_i h
        have HH := Lib.hid h
        clear h
        go_ret
        exact ⟨by rw [letter_hit HA.out rfl HH.out (by kernel_rfl)]; rfl, rfl⟩
      · rename_i h
        have HH := Lib.hid h
        clear h
        go_roundg (7 - (2 + 1))
        case measure => omega
        case rel => exact ⟨2 + 1, by omega, by omega, rfl, rfl, letter_step HA.out rfl HH.out (by kernel_rfl)⟩
    case inr.inr.inr.inl =>
      go_wp2_with fail
      · rename_i h
        have HH := Lib.hid h
        clear h
        go_ret
        exact ⟨by rw [letter_hit HA.out rfl HH.out (by kernel_rfl)]; rfl, rfl⟩
      · rename_i h
        have HH := Lib.hid h
        clear h
        go_roundg (7 - (3 + 1))
        case measure => omega
        case rel => exact ⟨3 + 1, by omega, by omega, rfl, rfl, letter_step HA.out rfl HH.out (by kernel_rfl)⟩
    case inr.inr.inr.inr.inl =>
      go_wp2_with fail
      · rename_i h
        have HH := Lib.hid h
        clear h
        go_ret
        exact ⟨by rw [letter_hit HA.out rfl HH.out (by kernel_rfl)]; rfl, rfl⟩
      · rename_i h
        have HH := Lib.hid h
        clear h
        go_roundg (7 - (4 + 1))
        case measure => omega
        case rel => exact ⟨4 + 1, by omega, by omega, rfl, rfl, letter_step HA.out rfl HH.out (by kernel_rfl)⟩
    case inr.inr.inr.inr.inr.inl =>
      go_wp2_with fail
      · rename_i h
        have HH := Lib.hid h
        clear h
        go_ret
        exact ⟨by rw [letter_hit HA.out rfl HH.out (by kernel_rfl)]; rfl, rfl⟩
      · rename_i h
        have HH := Lib.hid h
        clear h
        go_roundg (7 - (5 + 1))
        case measure => omega
        case rel => exact ⟨5 + 1, by omega, by omega, rfl, rfl, letter_step HA.out rfl HH.out (by kernel_rfl)⟩
    case inr.inr.inr.inr.inr.inr.inl =>
      go_wp2_with fail
      · rename_i h
        have HH := Lib.hid h
        clear h
        go_ret
        exact ⟨by rw [letter_hit HA.out rfl HH.out (by kernel_rfl)]; rfl, rfl⟩
      · rename_i h
        have HH := Lib.hid h
        clear h
        go_roundg (7 - (6 + 1))
        case measure => omega
        case rel => exact ⟨6 + 1, by omega, by omega, rfl, rfl, letter_step HA.out rfl HH.out (by kernel_rfl)⟩
end Go.Proofs.YtjjgbgojlhaapaaDoor
