/- Parts of the proof: Ur. -/
import Derived.Test.YtlihjmfdnkfmfaaGreatDoorZPback3
import Derived.Test.YtlihjmfdnkfmfaaGreatDoorZPback4
import Derived.Laws.BitsLemmas
import Derived.StillTailTactics
namespace Go.Proofs.YtlihjmfdnkfmfaaGreatDoor
open Go.RowKit Go.Lib

def St.next (s : ByteArray) (x : St) : UInt8 × St := if x.e ≠ 0 then (0, x) else if s.size ≤ x.p then (0, x.fail 2) else (byteAt s x.p, x.step)
def St.twants (s : ByteArray) (x : St) (c : UInt8) : St := if (x.next s).2.e = 0 ∧ (x.next s).1 ≠ c then (x.next s).2.fail 4 else (x.next s).2
def hexDigits : List UInt8 := [48, 49, 50, 51, 52, 53, 54, 55, 56, 57, 97, 98, 99, 100, 101, 102]
def lowerB (c : UInt8) : UInt8 := if 65 ≤ c.toNat ∧ c.toNat ≤ 70 then c + 32 else c
def hexIdx (c : UInt8) : Int := Lib.indexByte hexDigits (lowerB c)
def fourB (s : ByteArray) : Nat → Int → St → Int × St
  | 0, n, x => (n, x)
  | k + 1, n, x => if hexIdx (x.next s).1 < 0 then (0, (x.next s).2.fail 4) else fourB s k (n * 16 + hexIdx (x.next s).1) (x.next s).2

set_option maxHeartbeats 1000000 in
theorem tfail_any (R : Nat) (s : ByteArray) (x : St) (e' : Int) (w : World) (h : RdAt 252 R s x.p x.e w) :
    Calls Tryz.prog 208 #[.pointer (some ⟨R, 0, none⟩), .int .i64 e'] w fun z w' => z = .returned (.tuple #[]) ∧ RdPost 252 R s (x.fail e').p (x.fail e').e w w' := by
  obtain ⟨_, _, l2, _, _, f2, hR⟩ := h.cells
  obtain ⟨p, e⟩ := x
  unfold St.fail
  simp only at *
  by_cases h0 : e = 0
  · subst h0
    have hp := h.post.set2 e'
    have HP := Lib.hid hp
    clear hp h
    go_enter Tryz.func208, Tryz.ntmps208
    go_wp2
    go_end0
    exact ⟨rfl, HP.out⟩
  · have hne : (e == 0) = false := by simpa using h0
    rw [if_neg h0]
    have HP := Lib.hid h.post
    clear h
    go_enter Tryz.func208, Tryz.ntmps208
    go_wp2
    go_end0
    exact ⟨rfl, HP.out⟩

set_option maxHeartbeats 4000000 in
theorem next_any (R : Nat) (s : ByteArray) (x : St) (w : World) (hs : s.size ≤ 1000000) (h : RdAt 252 R s x.p x.e w) :
    Calls Tryz.prog 207 #[.pointer (some ⟨R, 0, none⟩)] w fun z w' => z = .returned (.int .u8 ((x.next s).1.toNat : Int)) ∧ RdPost 252 R s (x.next s).2.p (x.next s).2.e w w' := by
  obtain ⟨l0, l1, l2, _, f1, f2, hR⟩ := h.cells
  obtain ⟨p, e⟩ := x
  unfold St.next
  simp only at *
  by_cases h0 : e = 0
  · subst h0
    have HP := Lib.hid h.post
    simp only [ne_eq, not_true_eq_false, if_false]
    by_cases hlt : p < s.size
    · rw [if_neg (by omega)]
      have hltz : (p : Int) < (s.size : Int) := by omega
      have hd : decide ((s.size : Int) ≤ (p : Int)) = false := by simpa using hltz
      have hq0 : (0 : Int) ≤ (p : Int) := by omega
      have hgb := get_byte hlt
      have hst := i64_step (p := p) (by omega)
      have hp1 := fun n => RdPost.set1 (RdPost.drewN h.post n) (p + 1)
      have HP1 := Lib.hid hp1
      clear h
      go_enter Tryz.func207, Tryz.ntmps207
      go_wp2_with fail
      go_quiet (fail)
      go_wp2_with fail
      have hp1 := HP1.out nq
      obtain ⟨m0, m1, _, _, _, _, hR1⟩ := hp1.1.cells
      have HPP := Lib.hid hp1
      clear hp1 HP1 l0 l1 l2 f1 f2 hst
      have e1 : ((p + 1 : Nat) : Int) = (p : Int) + 1 := by simp
      rw [e1] at m0 m1 hR1 HPP
      clear e1
      generalize (w.drewN nq).setCell ⟨R, 1, none⟩ (.int .i64 ((p : Int) + 1)) = W at *
      have hw1 : IntKind.i64.wrap ((p : Int) + 1 - 1) = (p : Int) := by rw [IntWalk.i64_in _ (by omega)]; omega
      go_quiet (fail)
      go_wp2_with fail
      go_ret
      exact ⟨rfl, RdPost.drewN HPP.out _⟩
    · rw [if_pos (by omega)]
      have hltz : ¬ (p : Int) < (s.size : Int) := by omega
      have hd : decide ((s.size : Int) ≤ (p : Int)) = true := by simp; omega
      have hf := fun n => tfail_any R s ⟨p, 0⟩ 2 (w.drewN n) (h.drewN n)
      have HF := Lib.hid hf
      clear h hf
      go_enter Tryz.func207, Tryz.ntmps207
      go_wp2_with fail
      go_quiet (fail)
      go_wp2_with fail
      refine Calls.mono (HF.out _) ?_
      rintro z w2 ⟨rfl, hp2⟩
      go_wp2_with fail
      go_ret
      exact ⟨rfl, RdPost.trans (RdPost.drewN HP.out _) hp2⟩
  · have hne : (e != 0) = true := by simpa using h0
    have HP := Lib.hid h.post
    simp only [ne_eq, h0, not_false_eq_true, if_true]
    clear h
    go_enter Tryz.func207, Tryz.ntmps207
    go_wp2_with fail
    go_ret
    exact ⟨rfl, HP.out⟩

set_option maxHeartbeats 4000000 in
theorem twants_any (R : Nat) (s : ByteArray) (x : St) (c : UInt8) (w : World) (hs : s.size ≤ 1000000) (h : RdAt 252 R s x.p x.e w) :
    Calls Tryz.prog 189 #[.pointer (some ⟨R, 0, none⟩), .int .u8 (c.toNat : Int)] w fun z w' => z = .returned (.tuple #[]) ∧ RdPost 252 R s (x.twants s c).p (x.twants s c).e w w' := by
  have hb := next_any R s x w hs h
  have HB := Lib.hid hb
  unfold St.twants
  clear hb h
  generalize x.next s = r at *
  obtain ⟨b, ⟨p, e⟩⟩ := r
  simp only at *
  by_cases he : e = 0
  · subst he
    by_cases hbc : b = c
    · subst hbc
      have hne : (((b.toNat : Int)) != ((b.toNat : Int))) = false := by simp
      simp only [ne_eq, not_true_eq_false, and_false, if_false]
      go_enter Tryz.func189, Tryz.ntmps189
      go_wp2_with fail
      refine Calls.mono HB.out ?_
      rintro z w1 ⟨rfl, hp⟩
      obtain ⟨l0, l1, l2, _, f1, _, hRw⟩ := hp.1.cells
      have HP := Lib.hid hp
      clear hp
      go_wp2_with fail
      go_end0
      exact ⟨rfl, HP.out⟩
    · have hne : (((b.toNat : Int)) != ((c.toNat : Int))) = true := by
        have : b.toNat ≠ c.toNat := fun h => hbc (UInt8.toNat_inj.1 h)
        simp; omega
      simp only [ne_eq, hbc, not_false_eq_true, and_self, if_true]
      go_enter Tryz.func189, Tryz.ntmps189
      go_wp2_with fail
      refine Calls.mono HB.out ?_
      rintro z w1 ⟨rfl, hp⟩
      obtain ⟨l0, l1, l2, _, f1, _, hRw⟩ := hp.1.cells
      have hf := tfail_any R s ⟨p, 0⟩ 4 w1 hp.1
      have HP := Lib.hid hp; have HF := Lib.hid hf
      clear hp hf
      go_wp2_with fail
      refine Calls.mono HF.out ?_
      rintro z w2 ⟨rfl, hp2⟩
      go_wp2_with fail
      go_end0
      exact ⟨rfl, RdPost.trans HP.out hp2⟩
  · have hne : (e == 0) = false := by simpa using he
    simp only [he, false_and, if_false]
    go_enter Tryz.func189, Tryz.ntmps189
    go_wp2_with fail
    refine Calls.mono HB.out ?_
    rintro z w1 ⟨rfl, hp⟩
    obtain ⟨l0, l1, l2, _, f1, _, hRw⟩ := hp.1.cells
    have HP := Lib.hid hp
    clear hp
    go_wp2_with fail
    go_end0
    exact ⟨rfl, HP.out⟩

theorem hexIdx_range (c : UInt8) : hexIdx c < 16 := by
  have key : ∀ (l : List UInt8) (c : UInt8), Lib.indexByte l c < l.length ∨ l = [] := by
    intro l c
    induction l with
    | nil => exact .inr rfl
    | cons b l ih =>
      left
      simp only [Lib.indexByte, List.length_cons]
      split
      · omega
      · split
        · omega
        · rcases ih with h | rfl
          · omega
          · rename_i h; exact absurd rfl h
  have := key hexDigits (lowerB c)
  simp [hexDigits] at this
  exact this
theorem four_bd {k : Nat} {n i : Int} (hk : k < 4) (hn : n < (16 : Int) ^ k) (hi : i < 16) : n * 16 + i < (16 : Int) ^ (k + 1) ∧ n * 16 + i < 65536 := by
  have hor : k = 0 ∨ k = 1 ∨ k = 2 ∨ k = 3 := by omega
  rcases hor with rfl | rfl | rfl | rfl
  all_goals
    have e0 : (16 : Int) ^ 0 = 1 := rfl
    have e1 : (16 : Int) ^ 1 = 16 := rfl
    have e2 : (16 : Int) ^ 2 = 256 := rfl
    have e3 : (16 : Int) ^ 3 = 4096 := rfl
    have e4 : (16 : Int) ^ 4 = 65536 := rfl
    simp only [e0, e1, e2, e3, Nat.zero_add, Nat.reduceAdd, e4] at *
    omega
theorem or_hex (n i : Int) (h0 : 0 ≤ n) (h1 : n < 65536) (h2 : 0 ≤ i) (h3 : i < 16) : bits .or .i32 (n * 16) i = n * 16 + i :=
  bits_join .i32 31 (by decide) wraps_i32 4 (n * 16) i (by omega) (by omega) (by omega) h2 h3 (by omega)
theorem idx_hex (c : UInt8) (v : Int) (hv : v = ((lowerB c).toNat : Int)) (w : World) : Calls Tryz.prog 114 #[.string ⟨#[48, 49, 50, 51, 52, 53, 54, 55, 56, 57, 97, 98, 99, 100, 101, 102]⟩, .int .u8 v] w fun e w' => e = .returned (.int .i64 (hexIdx c)) ∧ w' = w := by
  subst hv
  have := idx_any ⟨#[48, 49, 50, 51, 52, 53, 54, 55, 56, 57, 97, 98, 99, 100, 101, 102]⟩ (lowerB c) w
  simpa [hexIdx, hexDigits] using this
set_option maxRecDepth 100000 in
set_option maxHeartbeats 4000000 in
theorem four_any (R : Nat) (s : ByteArray) (x : St) (w : World) (hs : s.size ≤ 1000000) (h : RdAt 252 R s x.p x.e w) :
    Calls Tryz.prog 222 #[.pointer (some ⟨R, 0, none⟩)] w fun z w' => z = .returned (.int .i32 (fourB s 4 0 x).1) ∧ RdPost 252 R s (fourB s 4 0 x).2.p (fourB s 4 0 x).2.e w w' := by
  have HP := Lib.hid h.post
  clear h
  generalize hfin : fourB s 4 0 x = fin at *
  have HFIN := Lib.hid hfin
  clear hfin
  go_enter Tryz.func222, Tryz.ntmps222
  go_wp2_with fail
  go_loopg [3, 6] 4 (fun gg s3 s6 wr => ∃ (k : Nat) (n : Int) (y : St), k ≤ 4 ∧ 4 - k ≤ gg ∧ s6 = .int .i64 k ∧ s3 = .int .i32 n ∧ 0 ≤ n ∧ n < 65536 ∧ Aside (n < (16 : Int) ^ k) ∧ Aside (fourB s (4 - k) n y = fin) ∧ Aside (RdPost 252 R s y.p y.e w wr))
  case atStart => exact ⟨0, 0, x, by omega, by omega, rfl, rfl, by omega, by omega, (by decide : (0 : Int) < 16 ^ 0), HFIN.out, HP.out⟩
  case round =>
    obtain ⟨k, n, y, hk, hgg, rfl, rfl, hn0, hn1, HN, HF, HR⟩ := hrel
    by_cases hlt : k < 4
    · have hltz : (k : Int) < (4 : Int) := by omega
      have hnx := next_any R s y wr hs HR.out.1
      have HNX := Lib.hid hnx
      have hstep : fourB s (4 - k) n y = if hexIdx (y.next s).1 < 0 then (0, (y.next s).2.fail 4) else fourB s (4 - (k + 1)) (n * 16 + hexIdx (y.next s).1) (y.next s).2 := by
        rw [show 4 - k = (4 - (k + 1)) + 1 by omega]; rfl
      have HS := Lib.hid hstep
      clear hnx hstep
      generalize y.next s = r at *
      obtain ⟨c, z⟩ := r
      go_wp2_with fail
      refine Calls.mono HNX.out ?_
      rintro e w1 ⟨rfl, hp⟩
      have HR1 := Lib.hid (RdPost.trans HR.out hp)
      clear hp
      simp only at *
      have hcase : (decide ((65 : Int) ≤ (c.toNat : Int)) = true ∧ decide ((c.toNat : Int) ≤ 70) = true ∧ c.toNat ≤ 70 ∧ ((c.toNat : Int) + 32) = ((lowerB c).toNat : Int)) ∨
          (decide ((65 : Int) ≤ (c.toNat : Int)) = false ∧ (c.toNat : Int) = ((lowerB c).toNat : Int)) ∨
          (decide ((65 : Int) ≤ (c.toNat : Int)) = true ∧ decide ((c.toNat : Int) ≤ 70) = false ∧ (c.toNat : Int) = ((lowerB c).toNat : Int)) := by
        unfold lowerB
        by_cases hc : 65 ≤ c.toNat ∧ c.toNat ≤ 70
        · left
          rw [if_pos hc, UInt8.toNat_add]
          have : (32 : UInt8).toNat = 32 := rfl
          refine ⟨by simp; omega, by simp; omega, hc.2, by omega⟩
        · right
          rw [if_neg hc]
          by_cases h6 : 65 ≤ c.toNat
          · right; exact ⟨by simp; omega, by simp; omega, rfl⟩
          · left; exact ⟨by simp; omega, rfl⟩
      have hi16 := hexIdx_range c
      have hidx := fun v hv W => idx_hex c v hv W
      generalize hexIdx c = i at *
      have HID := Lib.hid hidx
      clear hidx
      rcases hcase with ⟨d1, d2, h70, hlo⟩ | ⟨d1, hlo⟩ | ⟨d1, d2, hlo⟩
      all_goals
        have HLO := Lib.hid hlo
        clear hlo
        go_wp2_with fail
        refine Calls.mono (HID.out _ HLO.out _) ?_
        rintro e w2 ⟨rfl, rfl⟩
        by_cases hi : i < 0
        · have hid : decide (i < 0) = true := by simpa using hi
          have hsf := HS.out
          rw [if_pos hi] at hsf
          have hf := tfail_any R s z 4 _ HR1.out.1
          have HSF := Lib.hid hsf; have HFF := Lib.hid hf
          clear hsf hf HS
          go_wp2_with fail
          refine Calls.mono HFF.out ?_
          rintro e w2 ⟨rfl, hp2⟩
          go_wp2_with fail
          go_ret
          rw [← HF.out, HSF.out]
          exact ⟨rfl, RdPost.trans HR1.out hp2⟩
        · have hid : decide (i < 0) = false := by simpa using hi
          have hsf := HS.out
          rw [if_neg hi] at hsf
          have HSF := Lib.hid hsf
          clear hsf HS
          have hor := or_hex n i hn0 hn1 (by omega) hi16
          have hbd := four_bd hlt HN.out hi16
          have HBD := Lib.hid hbd.1
          have hb2 := hbd.2
          clear hbd
          go_wp2_with fail
          go_roundg (4 - (k + 1))
          case measure => omega
          case rel => exact ⟨k + 1, n * 16 + i, z, by omega, by omega, by go_num, rfl, by omega, hb2, HBD.out, by rw [← HSF.out]; exact HF.out, HR1.out⟩
    · have hltz : ¬ (k : Int) < (4 : Int) := by omega
      obtain rfl : k = 4 := by omega
      have hff := HF.out
      simp only [Nat.sub_self, fourB] at hff
      have HFF := Lib.hid hff
      clear hff HF
      go_wp2_with fail
      go_ret
      rw [← HFF.out]
      exact ⟨rfl, HR.out⟩

theorem fourB_range (s : ByteArray) : ∀ (k : Nat) (n : Int) (x : St), k ≤ 4 → 0 ≤ n → n < (16 : Int) ^ (4 - k) → 0 ≤ (fourB s k n x).1 ∧ (fourB s k n x).1 < 65536
  | 0, n, x, _, h0, h1 => ⟨h0, h1⟩
  | k + 1, n, x, hk, h0, h1 => by
    simp only [fourB]
    split
    · exact ⟨Int.le_refl 0, by show (0 : Int) < 65536; decide⟩
    · rename_i hi
      have h16 := hexIdx_range (x.next s).1
      have hb := four_bd (k := 4 - (k + 1)) (by omega) h1 h16
      rw [show 4 - (k + 1) + 1 = 4 - k by omega] at hb
      exact fourB_range s k _ _ (by omega) (by omega) hb.1
/-- what stands behind a \u -/
def unitB (s : ByteArray) (x : St) : Int × St :=
  let r := fourB s 4 0 x
  if r.2.e ≠ 0 ∨ r.1 < 55296 ∨ 57343 < r.1 then r
  else if 56320 ≤ r.1 then (0, r.2.fail 4)
  else
    let d := fourB s 4 0 ((r.2.twants s 92).twants s 117)
    (65536 + (r.1 - 55296) * 1024 + d.1 - 56320, if d.1 < 56320 ∨ 57343 < d.1 then d.2.fail 4 else d.2)
set_option maxRecDepth 100000 in
set_option maxHeartbeats 4000000 in
theorem unit_any (R : Nat) (s : ByteArray) (x : St) (w : World) (hs : s.size ≤ 1000000) (h : RdAt 252 R s x.p x.e w) :
    Calls Tryz.prog 211 #[.pointer (some ⟨R, 0, none⟩)] w fun z w' => z = .returned (.int .i32 (unitB s x).1) ∧ RdPost 252 R s (unitB s x).2.p (unitB s x).2.e w w' := by
  have hf := four_any R s x w hs h
  have hr := fourB_range s 4 0 x (by omega) (by omega) (by decide)
  have HF := Lib.hid hf
  unfold unitB
  clear hf h
  generalize fourB s 4 0 x = r at *
  obtain ⟨c, y⟩ := r
  simp only at *
  obtain ⟨hc0, hc1⟩ := hr
  by_cases h1 : y.e ≠ 0 ∨ c < 55296 ∨ 57343 < c
  · rw [if_pos h1]
    have hcase : (y.e != 0) = true ∨ ((y.e != 0) = false ∧ decide (c < 55296) = true) ∨ ((y.e != 0) = false ∧ decide (c < 55296) = false ∧ decide (57343 < c) = true) := by
      by_cases h2 : y.e = 0
      · have h2' : (y.e != 0) = false := by simpa using h2
        by_cases h3 : c < 55296
        · exact .inr (.inl ⟨h2', by simpa using h3⟩)
        · exact .inr (.inr ⟨h2', by simpa using h3, by simp; omega⟩)
      · exact .inl (by simpa using h2)
    clear h1
    rcases hcase with d1 | ⟨d1, d2⟩ | ⟨d1, d2, d3⟩
    all_goals
      go_enter Tryz.func211, Tryz.ntmps211
      go_wp2_with fail
      refine Calls.mono HF.out ?_
      rintro e w1 ⟨rfl, hp⟩
      obtain ⟨l0, l1, l2, _, _, _, hRw⟩ := hp.1.cells
      have HP := Lib.hid hp
      clear hp
      go_wp2_with fail
      go_ret
      exact ⟨rfl, HP.out⟩
  · rw [if_neg h1]
    have d1 : (y.e != 0) = false := by simp; omega
    have d2 : decide (c < 55296) = false := by simp; omega
    have d3 : decide (57343 < c) = false := by simp; omega
    have hca : 55296 ≤ c := by omega
    have hcb : c ≤ 57343 := by omega
    have he0 : y.e = 0 := by omega
    clear h1
    by_cases h2 : 56320 ≤ c
    · rw [if_pos h2]
      have d4 : decide (56320 ≤ c) = true := by simpa using h2
      have hff := fun w1 h => tfail_any R s y 4 w1 h
      have HFF := Lib.hid hff
      clear hff he0
      go_enter Tryz.func211, Tryz.ntmps211
      go_wp2_with fail
      refine Calls.mono HF.out ?_
      rintro e w1 ⟨rfl, hp⟩
      obtain ⟨l0, l1, l2, _, _, _, hRw⟩ := hp.1.cells
      have HP := Lib.hid hp
      clear hp
      go_wp2_with fail
      refine Calls.mono (HFF.out _ HP.out.1) ?_
      rintro e w2 ⟨rfl, hp2⟩
      go_wp2_with fail
      go_ret
      exact ⟨rfl, RdPost.trans HP.out hp2⟩
    · rw [if_neg h2]
      have d4 : decide (56320 ≤ c) = false := by simpa using h2
      have hw1 := fun w1 h => twants_any R s y 92 w1 hs h
      have hw2 := fun w1 h => twants_any R s (y.twants s 92) 117 w1 hs h
      have hd := fun w1 h => four_any R s ((y.twants s 92).twants s 117) w1 hs h
      have hdr := fourB_range s 4 0 ((y.twants s 92).twants s 117) (by omega) (by omega) (by decide)
      have hff := fun w1 h => tfail_any R s (fourB s 4 0 ((y.twants s 92).twants s 117)).2 4 w1 h
      have HW1 := Lib.hid hw1; have HW2 := Lib.hid hw2; have HD := Lib.hid hd; have HFF := Lib.hid hff
      clear hw1 hw2 hd hff he0
      generalize fourB s 4 0 ((y.twants s 92).twants s 117) = q at *
      obtain ⟨d, z⟩ := q
      simp only at *
      obtain ⟨hd0, hd1⟩ := hdr
      have hcase : (decide (d < 56320) = true ∧ (if d < 56320 ∨ 57343 < d then z.fail 4 else z) = z.fail 4) ∨ (decide (d < 56320) = false ∧ decide (57343 < d) = true ∧ (if d < 56320 ∨ 57343 < d then z.fail 4 else z) = z.fail 4) ∨ (decide (d < 56320) = false ∧ decide (57343 < d) = false ∧ (if d < 56320 ∨ 57343 < d then z.fail 4 else z) = z) := by
        by_cases h3 : d < 56320
        · exact .inl ⟨by simpa using h3, if_pos (.inl h3)⟩
        · by_cases h4 : 57343 < d
          · exact .inr (.inl ⟨by simpa using h3, by simpa using h4, if_pos (.inr h4)⟩)
          · exact .inr (.inr ⟨by simpa using h3, by simpa using h4, if_neg (by omega)⟩)
      generalize (if d < 56320 ∨ 57343 < d then z.fail 4 else z) = zz at *
      rcases hcase with ⟨d5, rfl⟩ | ⟨d5, d6, rfl⟩ | ⟨d5, d6, rfl⟩
      case inr.inr =>
        go_enter Tryz.func211, Tryz.ntmps211
        go_wp2_with fail
        refine Calls.mono HF.out ?_
        rintro e w1 ⟨rfl, hp⟩
        obtain ⟨l0, l1, l2, _, _, _, hRw⟩ := hp.1.cells
        have HP := Lib.hid hp
        clear hp
        go_wp2_with fail
        refine Calls.mono (HW1.out _ HP.out.1) ?_
        rintro e w2 ⟨rfl, hp2⟩
        have HP2 := Lib.hid (RdPost.trans HP.out hp2)
        clear hp2 l0 l1 l2
        go_wp2_with fail
        refine Calls.mono (HW2.out _ HP2.out.1) ?_
        rintro e w3 ⟨rfl, hp3⟩
        have HP3 := Lib.hid (RdPost.trans HP2.out hp3)
        clear hp3
        go_wp2_with fail
        refine Calls.mono (HD.out _ HP3.out.1) ?_
        rintro e w4 ⟨rfl, hp4⟩
        have HP4 := Lib.hid (RdPost.trans HP3.out hp4)
        clear hp4
        go_wp2_with fail
        go_ret
        exact ⟨rfl, HP4.out⟩
      all_goals
        go_enter Tryz.func211, Tryz.ntmps211
        go_wp2_with fail
        refine Calls.mono HF.out ?_
        rintro e w1 ⟨rfl, hp⟩
        obtain ⟨l0, l1, l2, _, _, _, hRw⟩ := hp.1.cells
        have HP := Lib.hid hp
        clear hp
        go_wp2_with fail
        refine Calls.mono (HW1.out _ HP.out.1) ?_
        rintro e w2 ⟨rfl, hp2⟩
        have HP2 := Lib.hid (RdPost.trans HP.out hp2)
        clear hp2 l0 l1 l2
        go_wp2_with fail
        refine Calls.mono (HW2.out _ HP2.out.1) ?_
        rintro e w3 ⟨rfl, hp3⟩
        have HP3 := Lib.hid (RdPost.trans HP2.out hp3)
        clear hp3
        go_wp2_with fail
        refine Calls.mono (HD.out _ HP3.out.1) ?_
        rintro e w4 ⟨rfl, hp4⟩
        have HP4 := Lib.hid (RdPost.trans HP3.out hp4)
        clear hp4
        go_wp2_with fail
        refine Calls.mono (HFF.out _ HP4.out.1) ?_
        rintro e w5 ⟨rfl, hp5⟩
        go_wp2_with fail
        go_ret
        exact ⟨rfl, RdPost.trans HP4.out hp5⟩

theorem ret_i32 {a b : Int} (h : a = b) : Ending.returned (.int .i32 a) = .returned (.int .i32 b) := by rw [h]
def escIn (l : List (Int × Int)) (c : Int) : Int := match l with | [] => 0 | (a, b) :: l => if b = c then a else escIn l c
def escV (c : UInt8) : Int := escIn letterTab (c.toNat : Int)
theorem esc_step {k : Nat} {c x a b : Int} (h : escIn letterTab c = escIn (letterTab.drop k) c) (ht : letterTab[k]? = some (a, b)) (hx : (x == c) = false) (e : x = b) : escIn letterTab c = escIn (letterTab.drop (k + 1)) c := by
  subst e
  rw [h, drop_of_get ht]; simp only [escIn]; rw [if_neg (by simpa using hx)]
theorem esc_hit {k : Nat} {c x a b : Int} (h : escIn letterTab c = escIn (letterTab.drop k) c) (ht : letterTab[k]? = some (a, b)) (hx : (x == c) = true) (e : x = b) : escIn letterTab c = a := by
  subst e
  rw [h, drop_of_get ht]; simp only [escIn]; rw [if_pos (by simpa using hx)]
def escapeB (s : ByteArray) (x : St) : Int × St :=
  let r := x.next s
  if r.2.e ≠ 0 then (0, r.2)
  else if r.1 = 117 then unitB s r.2
  else if r.1 = 47 then (47, r.2)
  else if escV r.1 = 0 then (0, r.2.fail 4) else (escV r.1, r.2)
set_option maxRecDepth 100000 in
set_option maxHeartbeats 4000000 in
theorem escape_any (R : Nat) (s : ByteArray) (x : St) (w : World) (hs : s.size ≤ 1000000) (h : RdAt 252 R s x.p x.e w) :
    Calls Tryz.prog 192 #[.pointer (some ⟨R, 0, none⟩)] w fun z w' => z = .returned (.int .i32 (escapeB s x).1) ∧ RdPost 252 R s (escapeB s x).2.p (escapeB s x).2.e w w' := by
  have hf := next_any R s x w hs h
  have HF := Lib.hid hf
  have hE : escapeB s x = (if (x.next s).2.e ≠ 0 then (0, (x.next s).2) else if (x.next s).1 = 117 then unitB s (x.next s).2 else if (x.next s).1 = 47 then (47, (x.next s).2) else if escV (x.next s).1 = 0 then (0, (x.next s).2.fail 4) else (escV (x.next s).1, (x.next s).2)) := rfl
  clear hf h
  generalize x.next s = r at *
  generalize escapeB s x = er at *
  obtain ⟨c, y⟩ := r
  simp only at *
  by_cases h1 : y.e = 0
  · have d1 : (y.e != 0) = false := by simpa using h1
    rw [if_neg (by simpa using h1)] at hE
    by_cases h2 : c = 117
    · have d2 : ((c.toNat : Int) == 117) = true := by subst h2; rfl
      rw [if_pos h2] at hE
      subst hE
      have hu := fun w1 h => unit_any R s y w1 hs h
      have HU := Lib.hid hu
      clear h1 h2 hu
      go_enter Tryz.func192, Tryz.ntmps192
      go_wp2_with fail
      refine Calls.mono HF.out ?_
      rintro e w1 ⟨rfl, hp⟩
      obtain ⟨l0, l1, l2, _, _, _, hRw⟩ := hp.1.cells
      have HP := Lib.hid hp
      clear hp
      go_wp2_with fail
      refine Calls.mono (HU.out _ HP.out.1) ?_
      rintro e w2 ⟨rfl, hp2⟩
      go_wp2_with fail
      go_ret
      exact ⟨rfl, RdPost.trans HP.out hp2⟩
    · have d2 : ((c.toNat : Int) == 117) = false := by
        have : c.toNat ≠ 117 := fun h => h2 (UInt8.toNat_inj.1 h)
        simp; omega
      rw [if_neg h2] at hE
      by_cases h3 : c = 47
      · have d3 : ((c.toNat : Int) == 47) = true := by subst h3; rfl
        rw [if_pos h3] at hE
        subst hE
        clear h1 h2 h3
        go_enter Tryz.func192, Tryz.ntmps192
        go_wp2_with fail
        refine Calls.mono HF.out ?_
        rintro e w1 ⟨rfl, hp⟩
        obtain ⟨l0, l1, l2, _, _, _, hRw⟩ := hp.1.cells
        have HP := Lib.hid hp
        clear hp
        go_wp2_with fail
        go_ret
        exact ⟨rfl, HP.out⟩
      · have d3 : ((c.toNat : Int) == 47) = false := by
          have : c.toNat ≠ 47 := fun h => h3 (UInt8.toNat_inj.1 h)
          simp; omega
        rw [if_neg h3] at hE
        have hff := fun w1 h => tfail_any R s y 4 w1 h
        have HFF := Lib.hid hff
        clear h1 h2 h3 hff
        unfold escV at hE
        generalize (c.toNat : Int) = cc at *
        have HE := Lib.hid hE
        clear hE
        go_enter Tryz.func192, Tryz.ntmps192
        go_wp2_with fail
        refine Calls.mono HF.out ?_
        rintro e w1 ⟨rfl, hp⟩
        obtain ⟨l0, l1, l2, _, _, _, hRw⟩ := hp.1.cells
        have HP := Lib.hid hp
        clear hp
        go_wp2_with fail
        go_loopg [4] 7 (fun gg s4 wr => ∃ k : Nat, k ≤ 7 ∧ 7 - k ≤ gg ∧ s4 = .int .i64 (2 * k) ∧ wr = w1 ∧ Aside (escIn letterTab cc = escIn (letterTab.drop k) cc))
        case atStart => exact ⟨0, by omega, by omega, rfl, rfl, rfl⟩
        case round =>
          obtain ⟨k, hk, hgg, rfl, rfl, HA⟩ := hrel
          have hor : k = 0 ∨ k = 1 ∨ k = 2 ∨ k = 3 ∨ k = 4 ∨ k = 5 ∨ k = 6 ∨ k = 7 := by omega
          rcases hor with rfl | rfl | rfl | rfl | rfl | rfl | rfl | rfl
          case inr.inr.inr.inr.inr.inr.inr =>
            have ha := HA.out
            have hz : escIn letterTab cc = 0 := ha.trans rfl
            have HZ := Lib.hid hz
            clear ha hz
            go_wp2_with fail
            refine Calls.mono (HFF.out _ HP.out.1) ?_
            rintro e w2 ⟨rfl, hp2⟩
            go_wp2_with fail
            go_ret
            rw [HE.out, HZ.out, if_pos rfl]
            exact ⟨rfl, RdPost.trans HP.out hp2⟩
          case inl =>
            go_wp2_with fail
            · rename_i h
              have HH := Lib.hid h
              clear h
              go_ret
              rw [HE.out, esc_hit HA.out rfl HH.out (by kernel_rfl), if_neg (by decide)]
              exact ⟨ret_i32 (by kernel_rfl), HP.out⟩
            · rename_i h
              have HH := Lib.hid h
              clear h
              go_roundg (7 - (0 + 1))
              case measure => omega
              case rel => exact ⟨0 + 1, by omega, by omega, rfl, rfl, esc_step HA.out rfl HH.out (by kernel_rfl)⟩
          case inr.inl =>
            go_wp2_with fail
            · rename_i h
              have HH := Lib.hid h
              clear h
              go_ret
              rw [HE.out, esc_hit HA.out rfl HH.out (by kernel_rfl), if_neg (by decide)]
              exact ⟨ret_i32 (by kernel_rfl), HP.out⟩
            · rename_i h
              have HH := Lib.hid h
              clear h
              go_roundg (7 - (1 + 1))
              case measure => omega
              case rel => exact ⟨1 + 1, by omega, by omega, rfl, rfl, esc_step HA.out rfl HH.out (by kernel_rfl)⟩
          case inr.inr.inl =>
            go_wp2_with fail
            · rename_i h
              have HH := Lib.hid h
              clear h
              go_ret
              rw [HE.out, esc_hit HA.out rfl HH.out (by kernel_rfl), if_neg (by decide)]
              exact ⟨ret_i32 (by kernel_rfl), HP.out⟩
            · rename_i h
              have HH := Lib.hid h
              clear h
              go_roundg (7 - (2 + 1))
              case measure => omega
              case rel => exact ⟨2 + 1, by omega, by omega, rfl, rfl, esc_step HA.out rfl HH.out (by kernel_rfl)⟩
          case inr.inr.inr.inl =>
            go_wp2_with fail
            · rename_i h
              have HH := Lib.hid h
              clear h
              go_ret
              rw [HE.out, esc_hit HA.out rfl HH.out (by kernel_rfl), if_neg (by decide)]
              exact ⟨ret_i32 (by kernel_rfl), HP.out⟩
            · rename_i h
              have HH := Lib.hid h
              clear h
              go_roundg (7 - (3 + 1))
              case measure => omega
              case rel => exact ⟨3 + 1, by omega, by omega, rfl, rfl, esc_step HA.out rfl HH.out (by kernel_rfl)⟩
          case inr.inr.inr.inr.inl =>
            go_wp2_with fail
            · rename_i h
              have HH := Lib.hid h
              clear h
              go_ret
              rw [HE.out, esc_hit HA.out rfl HH.out (by kernel_rfl), if_neg (by decide)]
              exact ⟨ret_i32 (by kernel_rfl), HP.out⟩
            · rename_i h
              have HH := Lib.hid h
              clear h
              go_roundg (7 - (4 + 1))
              case measure => omega
              case rel => exact ⟨4 + 1, by omega, by omega, rfl, rfl, esc_step HA.out rfl HH.out (by kernel_rfl)⟩
          case inr.inr.inr.inr.inr.inl =>
            go_wp2_with fail
            · rename_i h
              have HH := Lib.hid h
              clear h
              go_ret
              rw [HE.out, esc_hit HA.out rfl HH.out (by kernel_rfl), if_neg (by decide)]
              exact ⟨ret_i32 (by kernel_rfl), HP.out⟩
            · rename_i h
              have HH := Lib.hid h
              clear h
              go_roundg (7 - (5 + 1))
              case measure => omega
              case rel => exact ⟨5 + 1, by omega, by omega, rfl, rfl, esc_step HA.out rfl HH.out (by kernel_rfl)⟩
          case inr.inr.inr.inr.inr.inr.inl =>
            go_wp2_with fail
            · rename_i h
              have HH := Lib.hid h
              clear h
              go_ret
              rw [HE.out, esc_hit HA.out rfl HH.out (by kernel_rfl), if_neg (by decide)]
              exact ⟨ret_i32 (by kernel_rfl), HP.out⟩
            · rename_i h
              have HH := Lib.hid h
              clear h
              go_roundg (7 - (6 + 1))
              case measure => omega
              case rel => exact ⟨6 + 1, by omega, by omega, rfl, rfl, esc_step HA.out rfl HH.out (by kernel_rfl)⟩
  · have d1 : (y.e != 0) = true := by simpa using h1
    rw [if_pos h1] at hE
    subst hE
    go_enter Tryz.func192, Tryz.ntmps192
    go_wp2_with fail
    refine Calls.mono HF.out ?_
    rintro e w1 ⟨rfl, hp⟩
    obtain ⟨l0, l1, l2, _, _, _, hRw⟩ := hp.1.cells
    have HP := Lib.hid hp
    clear hp
    go_wp2_with fail
    go_ret
    exact ⟨rfl, HP.out⟩

def dec (s : ByteArray) (p : Nat) : Nat × Nat := Lib.decodeGo (s.extract p s.size)
theorem decN_w (n b0 b1 b2 b3 : Nat) (h : 0 < n) : 1 ≤ (Lib.decodeN n b0 b1 b2 b3).2 ∧ (Lib.decodeN n b0 b1 b2 b3).2 ≤ 4 ∧ (Lib.decodeN n b0 b1 b2 b3).2 ≤ n := by
  unfold Lib.decodeN
  repeat' split
  all_goals
    refine ⟨by simp, by simp, ?_⟩
    simp only
    omega
theorem dec_w (s : ByteArray) (p : Nat) (h : p < s.size) : 1 ≤ (dec s p).2 ∧ (dec s p).2 ≤ 4 ∧ p + (dec s p).2 ≤ s.size := by
  have hz : (s.extract p s.size).size = s.size - p := by simp
  unfold dec Lib.decodeGo
  rw [if_neg (by omega), Lib.decode_at]
  have := decN_w ((s.extract p s.size).size - 0) ((s.extract p s.size).get! 0).toNat ((s.extract p s.size).get! (0 + 1)).toNat ((s.extract p s.size).get! (0 + 2)).toNat ((s.extract p s.size).get! (0 + 3)).toNat (by omega)
  omega
/-- a sign as it stands -/
def signB (s : ByteArray) (x : St) : Nat × St :=
  if s.size ≤ x.p then (0, x.fail 2)
  else if (dec s x.p).1 < 32 ∨ ((dec s x.p).1 = 65533 ∧ (dec s x.p).2 < 2) then (0, x.fail 4)
  else ((dec s x.p).1, ⟨x.p + (dec s x.p).2, x.e⟩)
set_option maxRecDepth 100000 in
set_option maxHeartbeats 4000000 in
theorem sign_any (R : Nat) (s : ByteArray) (x : St) (w : World) (hs : s.size ≤ 1000000) (hT : Lib.Utf8Tabs 0 1 w) (h : RdAt 252 R s x.p x.e w) :
    Calls Tryz.prog 190 #[.pointer (some ⟨R, 0, none⟩)] w fun z w' => z = .returned (.int .i32 (signB s x).1) ∧ RdPost 252 R s (signB s x).2.p (signB s x).2.e w w' := by
  obtain ⟨l0, l1, l2, _, f1, _, hR⟩ := h.cells
  have HP := Lib.hid h.post
  unfold signB
  by_cases hlt : x.p < s.size
  · have hltz : (x.p : Int) < (s.size : Int) := by omega
    have hd : decide ((s.size : Int) ≤ (x.p : Int)) = false := by simpa using hltz
    have hq0 : (0 : Int) ≤ (x.p : Int) := by omega
    have hdec := fun W hW => Tryz.utf8_DecodeRuneInString (s.extract x.p s.size) W hW
    have hle : x.p ≤ s.size := by omega
    rw [if_neg (by omega)]
    have hw := dec_w s x.p hlt
    have hcase : (decide (((dec s x.p).1 : Int) < 32) = true ∧ (if (dec s x.p).1 < 32 ∨ ((dec s x.p).1 = 65533 ∧ (dec s x.p).2 < 2) then ((0 : Nat), x.fail 4) else ((dec s x.p).1, ⟨x.p + (dec s x.p).2, x.e⟩)) = (0, x.fail 4)) ∨
        (decide (((dec s x.p).1 : Int) < 32) = false ∧ (((dec s x.p).1 : Int) == 65533) = true ∧ decide (((dec s x.p).2 : Int) < 2) = true ∧ (if (dec s x.p).1 < 32 ∨ ((dec s x.p).1 = 65533 ∧ (dec s x.p).2 < 2) then ((0 : Nat), x.fail 4) else ((dec s x.p).1, ⟨x.p + (dec s x.p).2, x.e⟩)) = (0, x.fail 4)) ∨
        (decide (((dec s x.p).1 : Int) < 32) = false ∧ (((dec s x.p).1 : Int) == 65533) = true ∧ decide (((dec s x.p).2 : Int) < 2) = false ∧ (if (dec s x.p).1 < 32 ∨ ((dec s x.p).1 = 65533 ∧ (dec s x.p).2 < 2) then ((0 : Nat), x.fail 4) else ((dec s x.p).1, ⟨x.p + (dec s x.p).2, x.e⟩)) = ((dec s x.p).1, ⟨x.p + (dec s x.p).2, x.e⟩)) ∨
        (decide (((dec s x.p).1 : Int) < 32) = false ∧ (((dec s x.p).1 : Int) == 65533) = false ∧ (if (dec s x.p).1 < 32 ∨ ((dec s x.p).1 = 65533 ∧ (dec s x.p).2 < 2) then ((0 : Nat), x.fail 4) else ((dec s x.p).1, ⟨x.p + (dec s x.p).2, x.e⟩)) = ((dec s x.p).1, ⟨x.p + (dec s x.p).2, x.e⟩)) := by
      generalize dec s x.p = de
      obtain ⟨c, n⟩ := de
      simp only
      by_cases h1 : c < 32
      · left; exact ⟨by simp; omega, if_pos (.inl h1)⟩
      · right
        have e1 : decide ((c : Int) < 32) = false := by simp; omega
        by_cases h2 : c = 65533
        · subst h2
          by_cases h3 : n < 2
          · left; exact ⟨e1, rfl, by simp; omega, if_pos (.inr ⟨rfl, h3⟩)⟩
          · right; left; exact ⟨e1, rfl, by simp; omega, if_neg (by omega)⟩
        · right; right; exact ⟨e1, by simp; omega, if_neg (by omega)⟩
    have hfl := fun w1 h => tfail_any R s x 4 w1 h
    have HFL := Lib.hid hfl
    have HD := Lib.hid hdec; have HTT := Lib.hid hT
    clear hdec h hfl
    generalize (if (dec s x.p).1 < 32 ∨ ((dec s x.p).1 = 65533 ∧ (dec s x.p).2 < 2) then ((0 : Nat), x.fail 4) else ((dec s x.p).1, ⟨x.p + (dec s x.p).2, x.e⟩)) = res at *
    unfold dec at *
    generalize hde : Lib.decodeGo (s.extract x.p s.size) = de at *
    clear hde
    obtain ⟨c, n⟩ := de
    simp only at hcase hw
    obtain ⟨hw1, hw4, hwp⟩ := hw
    have HRES := Lib.hid hcase
    clear hcase
    go_enter Tryz.func190, Tryz.ntmps190
    go_wp2_with fail
    go_quiet (fail)
    go_wp2_with fail
    refine PrintLast.wp_region_last_drew (S := fun w' => (RdPost 252 R s x.p x.e w w' ∧ Lib.Utf8Tabs 0 1 w') ∧ w'.cell? ⟨R, 0, none⟩ = some (.string s) ∧ w'.cell? ⟨R, 1, none⟩ = some (.int .i64 x.p)) (ds := []) (by kernel_rfl) ?_ (fun hHeld => ?_)
    · exact ⟨⟨RdPost.drew (RdPost.drewN HP.out _), HTT.out⟩, l0, l1⟩
    refine PrintLast.tk 0 (v := ?_) rfl (by assumption) ?_ ?_
    rotate_left
    · (intro w hSw; (try dsimp only at hSw); go_simp; try (with_reducible rfl))
    try simp only [lay]
    refine PrintLast.tk 1 (v := ?_) rfl (by assumption) ?_ ?_
    rotate_left
    · (intro w hSw; (try dsimp only at hSw); go_simp; try (with_reducible rfl))
    try simp only [lay]
    refine PrintLast.tk 2 (v := ?_) rfl (by assumption) ?_ ?_
    rotate_left
    · (intro w hSw; (try dsimp only at hSw); go_simp; try (with_reducible rfl))
    try simp only [lay]
    refine PrintLast.tk 3 (v := ?_) rfl (by assumption) ?_ ?_
    rotate_left
    · (intro w hSw; (try dsimp only at hSw); go_simp; try (with_reducible rfl))
    try simp only [lay]
    refine PrintLast.tk 4 (v := ?_) rfl (by assumption) ?_ ?_
    rotate_left
    · (intro w hSw; (try dsimp only at hSw); go_simp; try (with_reducible rfl))
    try simp only [lay]
    refine PrintLast.tk 5 (v := ?_) rfl (by assumption) ?_ ?_
    rotate_left
    · (intro w hSw; (try dsimp only at hSw); go_simp; try (with_reducible rfl))
    try simp only [lay]
    refine PrintLast.tk 6 (v := ?_) rfl (by assumption) ?_ ?_
    rotate_left
    · (intro w hSw; (try dsimp only at hSw); go_simp; try (with_reducible rfl))
    try simp only [lay]
    refine PrintLast.tk 7 (v := ?_) rfl (by assumption) ?_ ?_
    rotate_left
    · (intro w hSw; (try dsimp only at hSw); go_simp; try (with_reducible rfl))
    try simp only [lay]
    refine PrintLast.tk 8 (v := ?_) rfl (by assumption) ?_ ?_
    rotate_left
    · (intro w hSw; (try dsimp only at hSw); go_simp; try (with_reducible rfl))
    try simp only [lay]
    have HK := Lib.hid hHeld
    clear hHeld
    refine PrintLast.wpAnyLast_ready (rs := [9]) (by kernel_rfl) (by simp) ?_
    refine PrintLast.AllReadyL.cons rfl (by decide) (fun K hK => ?_) PrintLast.AllReadyL.nil
    rw [if_pos (by kernel_rfl)]
    go_simp
    go_at_call 209; refine (HD.out _ HK.out.1.2).mono ?_; rintro e w5 ⟨rfl, hbw5⟩
    go_wp2_with fail
    refine hK.out _ _ ?_ (fun hHeld => ?_)
    · exact ⟨⟨RdPost.below HK.out.1.1 hbw5, Utf8Tabs_below HK.out.1.2 hbw5⟩, cell_later' hbw5 HK.out.2.1, cell_later' hbw5 HK.out.2.2⟩
    clear hK K
    try simp only [lay]
    clear HK
    refine PrintLast.tk 10 (v := ?_) rfl (by assumption) ?_ ?_
    rotate_left
    · (intro w hSw; (try dsimp only at hSw); go_simp; try (with_reducible rfl))
    try simp only [lay]
    refine PrintLast.tk 11 (v := ?_) rfl (by assumption) ?_ ?_
    rotate_left
    · (intro w hSw; (try dsimp only at hSw); go_simp; try (with_reducible rfl))
    try simp only [lay]
    refine PrintLast.tk 12 (v := ?_) rfl (by assumption) ?_ ?_
    rotate_left
    · (intro w hSw; (try dsimp only at hSw); go_simp; try (with_reducible rfl))
    try simp only [lay]
    refine PrintLast.tk 13 (v := ?_) rfl (by assumption) ?_ ?_
    rotate_left
    · (intro w hSw; (try dsimp only at hSw); go_simp; try (with_reducible rfl))
    try simp only [lay]
    refine PrintLast.tk 14 (v := ?_) rfl (by assumption) ?_ ?_
    rotate_left
    · (intro w hSw; (try dsimp only at hSw); go_simp; try (with_reducible rfl))
    try simp only [lay]
    refine PrintLast.wpAnyLast_done (by kernel_rfl) ?_ _
    obtain ⟨⟨hp5, _⟩, l0, l1⟩ := hHeld
    obtain ⟨_, _, _, _, f1, _, hR⟩ := hp5.1.cells
    have HP5 := Lib.hid hp5
    clear hp5
    rcases HRES.out with ⟨e1, hr⟩ | ⟨e1, e2, e3, hr⟩ | ⟨e1, e2, e3, hr⟩ | ⟨e1, e2, hr⟩
    · subst hr
      go_wp2_with fail
      refine Calls.mono (HFL.out _ HP5.out.1) ?_
      rintro e w6 ⟨rfl, hp6⟩
      go_wp2_with fail
      go_ret
      exact ⟨rfl, RdPost.trans HP5.out hp6⟩
    · subst hr
      go_wp2_with fail
      refine Calls.mono (HFL.out _ HP5.out.1) ?_
      rintro e w6 ⟨rfl, hp6⟩
      go_wp2_with fail
      go_ret
      exact ⟨rfl, RdPost.trans HP5.out hp6⟩
    all_goals
      subst hr
      have hst : IntKind.i64.wrap ((x.p : Int) + (n : Int)) = ((x.p + n : Nat) : Int) := by rw [IntWalk.i64_in _ (by omega)]; simp
      have HPF := Lib.hid (RdPost.set1 HP5.out (x.p + n))
      go_wp2_with fail
      go_ret
      exact ⟨rfl, HPF.out⟩
  · have hltz : ¬ (x.p : Int) < (s.size : Int) := by omega
    have hd : decide ((s.size : Int) ≤ (x.p : Int)) = true := by simp; omega
    rw [if_pos (by omega)]
    have hf := fun n => tfail_any R s x 2 (w.drewN n) (h.drewN n)
    have HF := Lib.hid hf
    clear h hf
    go_enter Tryz.func190, Tryz.ntmps190
    go_wp2_with fail
    go_quiet (fail)
    go_wp2_with fail
    refine Calls.mono (HF.out _) ?_
    rintro z w2 ⟨rfl, hp2⟩
    go_wp2_with fail
    go_ret
    exact ⟨rfl, RdPost.trans (RdPost.drewN HP.out _) hp2⟩
end Go.Proofs.YtlihjmfdnkfmfaaGreatDoor
