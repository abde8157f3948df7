/- Parts of the proof: Pa, Pb, R. -/
import Derived.Test.YtlihjmfdnkfmfaaGreatDoorZPback7
import Derived.Laws.IdiomStrings
import Derived.Test.YtlihjmfdnkfmfaaGreatDoorZPback8
import Derived.Lib.BufferRead
import Derived.Laws.Rows
namespace Go.Proofs.YtlihjmfdnkfmfaaGreatDoor
open Go.RowKit Go.Lib

theorem one_k {x : JV} (h : oneB x = true) : 1 ≤ x.k ∧ x.k ≤ 7 := by
  have : badK x = false := by
    cases hb : badK x with
    | false => rfl
    | true => simp [oneB, hb] at h
  simp only [badK, Bool.or_eq_false_iff, decide_eq_false_iff_not] at this
  omega
theorem one_range {x : JV} (h : oneB x = true) : -9007199254740991 ≤ x.n ∧ x.n ≤ 9007199254740991 ∧ validB x.s = true ∧ x.s.size ≤ 8000 := by
  have : rangeB x = true := by
    cases hb : rangeB x with
    | true => rfl
    | false => simp [oneB, hb] at h
  simp only [rangeB, shortB, Bool.and_eq_true, decide_eq_true_eq] at this
  exact ⟨this.1.1, this.1.2, this.2⟩
theorem members_short : ∀ (p : Option ByteArray) (l : List (ByteArray × JV)), membersB p l = true → ∀ q ∈ l, shortB q.1 = true
  | _, [], _, q, hq => by simp at hq
  | p, (nm, y) :: r, h, q, hq => by
    simp only [membersB, Bool.and_eq_true] at h
    rcases List.mem_cons.1 hq with rfl | hq
    · exact h.1.1
    · exact members_short (some nm) r h.2 q hq
theorem one_members {x : JV} (h : oneB x = true) : ∀ q ∈ x.m, shortB q.1 = true := by
  have : membersB none x.m = true := by
    cases hb : membersB none x.m with
    | true => rfl
    | false => simp [oneB, hb] at h
  exact members_short none x.m this

set_option maxHeartbeats 4000000 in
set_option maxRecDepth 100000 in
theorem print_at : ∀ d, PrintAt d := by
  intro d
  induction d with
  | zero => intro x cs F w0 b bs w hm; simp [mayJ] at hm
  | succ d ih =>
    intro x cs F w0 b bs w hm h hT h0 hs hlen
    obtain ⟨vl, vm, ⟨rfl, hsz⟩, hl, hmm⟩ := JR_iff.1 h
    obtain ⟨A1, c1, rfl⟩ := hl.form
    obtain ⟨A2, c2, rfl⟩ := hmm.form
    simp only [mayJ, Bool.and_eq_true] at hm
    obtain ⟨⟨hone, hml⟩, hmo⟩ := hm
    obtain ⟨hk1, hk7⟩ := one_k hone
    obtain ⟨hn1, hn2, hv, hs8⟩ := one_range hone
    have hns := one_members hone
    have hlist := fun (W : World) (hW : Below w0.heap.size w0 W) (hS : Sb w0.heap.size b bs W) (hL : bs.length + (91 :: (joinFrom (printB d) true x.l ++ [93])).length ≤ 140737488355328) => list_any d ih x.l _ F w0 b bs W hml hl hT hW hS hL
    have hobj := fun (W : World) (hW : Below w0.heap.size w0 W) (hS : Sb w0.heap.size b bs W) (hL : bs.length + (123 :: (joinFrom (fun p => quoteB p.1 ++ 58 :: printB d p.2) true x.m ++ [125])).length ≤ 140737488355328) => object_any d ih x.m _ F w0 b bs W hmo hns hmm hT hW hS hL
    have hbA : Below w.heap.size w (w.alloc (.cells #[.int .i64 x.k, .int .i64 x.n, .string x.s, .slice A1 x.l.length c1, .slice A2 x.m.length c2] 43)) := bel_alloc (Below.refl _ _) _
    have hpa := post_of_below hs h0.size hbA
    have HPA := Lib.hid hpa; have HL := Lib.hid hlist; have HO := Lib.hid hobj; have HLen := Lib.hid hlen; have HT := Lib.hid hT; have H0 := Lib.hid h0; have HV := Lib.hid hv
    have HA := Lib.hid (H0.out.trans hpa.2.1)
    have hz : w.heap.size < (w.alloc (.cells #[.int .i64 x.k, .int .i64 x.n, .string x.s, .slice A1 x.l.length c1, .slice A2 x.m.length c2] 43)).heap.size := World.block_lt_of_cell? _ ⟨w.heap.size, 0, none⟩ (cell_newB w _ _ 0 _ rfl)
    clear h hl hmm hone hml hmo hns hlist hobj hbA hpa hlen hT h0 hs hv hz ih
    have hor : x.k = 1 ∨ x.k = 2 ∨ x.k = 3 ∨ x.k = 4 ∨ x.k = 5 ∨ x.k = 6 ∨ x.k = 7 := by omega
    have HP := Lib.hid (show printB (d + 1) x = _ from printB.eq_2 x d)
    generalize hP : printB (d + 1) x = P at *
    clear hP
    generalize x.k = kk at *
    go_enter Tryz.func71, Tryz.ntmps71
    rcases hor with rfl | rfl | rfl | rfl | rfl | rfl | rfl
    · have hp' : P = [110, 117, 108, 108] := by rw [HP.out]; simp
      have HPP := Lib.hid hp'
      clear hk1 hk7 hp'
      go_wp2_with fail
      refine Calls.mono (writeString_any w0.heap.size b bs _ _ HPA.out.1 (by have := HLen.out; rw [HPP.out] at this; simpa [ByteArray.size] using this) HA.out.size) ?_
      rintro e w2 ⟨rfl, hp⟩
      go_wp2_with fail
      go_end0
      exact ⟨rfl, by rw [HPP.out]; exact post_trans HPA.out hp⟩
    · have hp' : P = [102, 97, 108, 115, 101] := by rw [HP.out]; simp
      have HPP := Lib.hid hp'
      clear hk1 hk7 hp'
      go_wp2_with fail
      refine Calls.mono (writeString_any w0.heap.size b bs _ _ HPA.out.1 (by have := HLen.out; rw [HPP.out] at this; simpa [ByteArray.size] using this) HA.out.size) ?_
      rintro e w2 ⟨rfl, hp⟩
      go_wp2_with fail
      go_end0
      exact ⟨rfl, by rw [HPP.out]; exact post_trans HPA.out hp⟩
    · have hp' : P = [116, 114, 117, 101] := by rw [HP.out]; simp
      have HPP := Lib.hid hp'
      clear hk1 hk7 hp'
      go_wp2_with fail
      refine Calls.mono (writeString_any w0.heap.size b bs _ _ HPA.out.1 (by have := HLen.out; rw [HPP.out] at this; simpa [ByteArray.size] using this) HA.out.size) ?_
      rintro e w2 ⟨rfl, hp⟩
      go_wp2_with fail
      go_end0
      exact ⟨rfl, by rw [HPP.out]; exact post_trans HPA.out hp⟩
    · have hp' : P = Lib.itoa x.n := by rw [HP.out]; simp
      have HPP := Lib.hid hp'
      clear hk1 hk7 hp'
      have hit := Tryz.strconv_Itoa x.n (by omega) (by omega) _ (HT.out.below HA.out).pow
      have HI := Lib.hid hit
      clear hit
      go_wp2_with fail
      refine Calls.mono HI.out ?_
      rintro e w2 ⟨rfl, k, os, hw2⟩
      have hbg := Lib.below_grow _ (w.alloc (.cells #[.int .i64 4, .int .i64 x.n, .string x.s, .slice A1 x.l.length c1, .slice A2 x.m.length c2] 43)) (Nat.le_refl _) k os
      rw [← hw2] at hbg
      have hpg := post_trans HPA.out (post_of_below HPA.out.1 HA.out.size hbg)
      have HPG := Lib.hid hpg
      clear hpg hbg hw2
      go_wp2_with fail
      refine Calls.mono (writeString_any w0.heap.size b bs _ _ HPG.out.1 (by have := HLen.out; rw [HPP.out] at this; simpa [ByteArray.size] using this) (H0.out.trans HPG.out.2.1).size) ?_
      rintro e w3 ⟨rfl, hp⟩
      go_wp2_with fail
      go_end0
      exact ⟨rfl, by rw [HPP.out]; exact post_trans HPG.out hp⟩
    · have hp' : P = quoteB x.s := by rw [HP.out]; simp
      have HPP := Lib.hid hp'
      clear hk1 hk7 hp'
      go_wp2_with fail
      refine Calls.mono (jquote_any w0.heap.size b bs x.s _ (by omega) (HT.out.below HA.out) HV.out HPA.out.1 (by have := HLen.out; rw [HPP.out] at this; exact this) HA.out.size) ?_
      rintro e w2 ⟨rfl, hp⟩
      go_wp2_with fail
      go_end0
      exact ⟨rfl, by rw [HPP.out]; exact post_trans HPA.out hp⟩
    · have hp' : P = 91 :: (joinFrom (printB d) true x.l ++ [93]) := by rw [HP.out]; simp
      have HPP := Lib.hid hp'
      clear hk1 hk7 hp'
      go_wp2_with fail
      refine Calls.mono (HL.out _ HA.out HPA.out.1 (by have := HLen.out; rw [HPP.out] at this; exact this)) ?_
      rintro e w2 ⟨rfl, hp⟩
      go_wp2_with fail
      go_end0
      exact ⟨rfl, by rw [HPP.out]; exact post_trans HPA.out hp⟩
    · have hp' : P = 123 :: (joinFrom (fun p => quoteB p.1 ++ 58 :: printB d p.2) true x.m ++ [125]) := by rw [HP.out]; simp
      have HPP := Lib.hid hp'
      clear hk1 hk7 hp'
      go_wp2_with fail
      refine Calls.mono (HO.out _ HA.out HPA.out.1 (by have := HLen.out; rw [HPP.out] at this; exact this)) ?_
      rintro e w2 ⟨rfl, hp⟩
      go_wp2_with fail
      go_end0
      exact ⟨rfl, by rw [HPP.out]; exact post_trans HPA.out hp⟩
end Go.Proofs.YtlihjmfdnkfmfaaGreatDoor
namespace Go.Proofs.YtlihjmfdnkfmfaaGreatDoor
open Go.RowKit Go.Lib

theorem bytesRow_cell (w : World) (l : List UInt8) (cap : Nat) (e : TypeId) (fz : Nat × Nat) (j : Nat) (hj : j < l.length) : (w.drew.alloc (.cells (bytesRow ⟨l.toArray⟩ cap) e fz)).cell? ((⟨w.heap.size, 0, none⟩ : Addr).add j) = some (.int .u8 (l[j].toNat : Int)) := by
  rw [Addr.add_lit]
  have : (w.drew.alloc (.cells (bytesRow ⟨l.toArray⟩ cap) e fz)).heap[w.heap.size]? = some (.cells (bytesRow ⟨l.toArray⟩ cap) e fz) := heap_alloc_new w.drew (.cells (bytesRow ⟨l.toArray⟩ cap) e fz)
  rw [Lib.cell_of_heap this]
  simp only [bytesRow, Nat.zero_add]
  rw [Array.getElem?_append_left (by simpa using hj)]
  simp [hj]
set_option maxRecDepth 100000 in
set_option maxHeartbeats 4000000 in
theorem Print_bad (x : JV) (cs : List Value) (F : Nat → Prop) (w : World) (h : JR w F x cs) (hT : Tabs w) (hm : mayJ 64 x = false) :
    Calls Tryz.prog 21 #[.agg cs.toArray] w fun e w' => e = .returned (.tuple #[.slice none 0 0, .int .i64 4]) ∧ Below w.heap.size w w' := by
  have hbA : Below w.heap.size w (w.alloc (.cells cs.toArray 43)) := bel_alloc (Below.refl _ _) _
  have hc := May_any x cs F _ (JR_later h hbA) (hT.below hbA)
  rw [hm] at hc
  obtain ⟨A1, n1, c1, A2, n2, c2, rfl⟩ := JR_form h
  have HC := Lib.hid hc; have HB := Lib.hid hbA
  clear hc h hT hbA
  go_enter Tryz.func21, Tryz.ntmps21
  go_wp2_with fail
  refine Calls.mono HC.out ?_
  rintro e w2 ⟨rfl, hb⟩
  go_wp2_with fail
  go_ret2
  exact ⟨rfl, bel_trans HB.out hb⟩

set_option maxRecDepth 100000 in
set_option maxHeartbeats 4000000 in
theorem Print_full (x : JV) (cs : List Value) (F : Nat → Prop) (w : World) (h : JR w F x cs) (hT : Tabs w) (hm : mayJ 64 x = true) (hlen : (printB 64 x).length ≤ 140737488355328) :
    Calls Tryz.prog 21 #[.agg cs.toArray] w fun e w' => (∃ g c, e = .returned (.tuple #[.slice (some ⟨g, 0, none⟩) (printB 64 x).length c, .int .i64 0]) ∧ ((printB 64 x).length ≤ c ∧ c ≤ 9223372036854775807) ∧ ∀ j (hj : j < (printB 64 x).length), w'.cell? ((⟨g, 0, none⟩ : Addr).add j) = some (.int .u8 ((printB 64 x)[j].toNat : Int))) ∧ Below w.heap.size w w' := by
  have hbA : Below w.heap.size w (w.alloc (.cells cs.toArray 43)) := bel_alloc (Below.refl _ _) _
  have hc := May_any x cs F _ (JR_later h hbA) (hT.below hbA)
  rw [hm] at hc
  have hp := fun w0 (h0 : Below w.heap.size w w0) b W => print_at 64 x cs F w0 b [] W hm (JR_later h h0) (hT.below h0)
  obtain ⟨A1, n1, c1, A2, n2, c2, rfl⟩ := JR_form h
  have n0 := cell_newB w #[.int .i64 x.k, .int .i64 x.n, .string x.s, .slice A1 n1 c1, .slice A2 n2 c2] 43 0 _ rfl
  have m1 := cell_newB w #[.int .i64 x.k, .int .i64 x.n, .string x.s, .slice A1 n1 c1, .slice A2 n2 c2] 43 1 _ rfl
  have m2 := cell_newB w #[.int .i64 x.k, .int .i64 x.n, .string x.s, .slice A1 n1 c1, .slice A2 n2 c2] 43 2 _ rfl
  have m3 := cell_newB w #[.int .i64 x.k, .int .i64 x.n, .string x.s, .slice A1 n1 c1, .slice A2 n2 c2] 43 3 _ rfl
  have m4 := cell_newB w #[.int .i64 x.k, .int .i64 x.n, .string x.s, .slice A1 n1 c1, .slice A2 n2 c2] 43 4 _ rfl
  have HC := Lib.hid hc; have HB := Lib.hid hbA; have HP := Lib.hid hp; have HL := Lib.hid hlen
  clear hc h hT hbA hp hlen hm
  generalize printB 64 x = P at *
  go_enter Tryz.func21, Tryz.ntmps21
  go_wp2_with fail
  refine Calls.mono HC.out ?_
  rintro e w2 ⟨rfl, hb⟩
  have l0 := cell_later' hb n0
  have l1 := cell_later' hb m1
  have l2 := cell_later' hb m2
  have l3 := cell_later' hb m3
  have l4 := cell_later' hb m4
  have hz : w.heap.size < w2.heap.size := World.block_lt_of_cell? _ _ l0
  have HB2 := Lib.hid (bel_trans HB.out hb)
  have hbW : Below w2.heap.size w2 (w2.alloc (.cells #[.pointer none, .slice none 0 0] 154)) := bel_alloc (Below.refl _ _) _
  have hfr : Sb w2.heap.size w2.heap.size [] (w2.alloc (.cells #[.pointer none, .slice none 0 0] 154)) := Lib.fresh_isBuilder _ _ w2
  have HW := Lib.hid hbW; have HF := Lib.hid hfr
  clear n0 m1 m2 m3 m4 hb hbW hfr
  go_wp2_with fail
  refine Calls.mono (HP.out w2 HB2.out w2.heap.size _ HW.out HF.out (by simpa using HL.out)) ?_
  rintro e w3 ⟨rfl, hp⟩
  have hsb : Sb w2.heap.size w2.heap.size (Lib.byteCells (P)) w3 := by simpa using hp.1
  have hstr := Tryz.Builder_String_any w2.heap.size w2.heap.size (P) w3 hsb (Nat.le_trans HW.out.size hp.2.1.size)
  have HS := Lib.hid hstr; have HP3 := Lib.hid hp.2.1
  clear hp hsb hstr
  go_wp2_with fail
  refine Calls.mono HS.out ?_
  rintro e w4 ⟨rfl, hb4⟩
  have HB4 := Lib.hid (HB2.out.trans ((HW.out.trans (HP3.out.trans hb4)).mono HB2.out.size))
  clear hb4
  go_wp2_with fail
  rw [run_bytes_of_string w4 _ _ 5 _ Tryz.underlying9 Tryz.underlying22 Tryz.underlying5]
  simp only [Result.andThen]
  rw [Oper.upon_value]
  have hcc := bytesRow_cell w4 P
  have hb5 := fun o => (bel_drew HB4.out).alloc (B := w.heap.size) (by have := HB4.out.size; exact this) o
  have HC5 := Lib.hid hcc; have HB5 := Lib.hid hb5
  clear hcc hb5
  go_wp2_with fail
  go_ret2
  exact ⟨⟨w4.heap.size, grownCap w4 P.length 0 5, rfl, ⟨grownCap_ge _ _ _ _, by have := grownCap_le_maxLen w4 P.length 0 5 (by have := HL.out; simp only [maxLen]; omega); simpa [maxLen] using this⟩, fun j hj => HC5.out _ _ _ j hj⟩, HB5.out _⟩
theorem Print_good (x : JV) (cs : List Value) (F : Nat → Prop) (w : World) (h : JR w F x cs) (hT : Tabs w) (hm : mayJ 64 x = true) (hlen : (printB 64 x).length ≤ 140737488355328) :
    Calls Tryz.prog 21 #[.agg cs.toArray] w fun e w' => (∃ g c, e = .returned (.tuple #[.slice (some ⟨g, 0, none⟩) (printB 64 x).length c, .int .i64 0]) ∧ ∀ j (hj : j < (printB 64 x).length), w'.cell? ((⟨g, 0, none⟩ : Addr).add j) = some (.int .u8 ((printB 64 x)[j].toNat : Int))) ∧ Below w.heap.size w w' :=
  (Print_full x cs F w h hT hm hlen).mono fun _ _ ⟨⟨g, c, e1, _, h2⟩, hb⟩ => ⟨⟨g, c, e1, h2⟩, hb⟩
end Go.Proofs.YtlihjmfdnkfmfaaGreatDoor
namespace Go.Proofs.YtlihjmfdnkfmfaaGreatDoor
open Go.RowKit Go.Lib

end Go.Proofs.YtlihjmfdnkfmfaaGreatDoor
