/- Parts of the proof: Tu. -/
import Derived.Test.YtjjgbgojlhaapaaGreatDoorZReads24
namespace Go.Proofs.YtjjgbgojlhaapaaGreatDoor
open Go.RowKit Go.Lib

theorem esc_facts {s : ByteArray} {p : Nat} (hp : p < s.size) (h : (escR s p).2.2 = 0) : p + 1 ≤ (escR s p).2.1 ∧ (escR s p).2.1 ≤ s.size ∧ (escR s p).1.length ≤ 4 := by
  obtain ⟨_, k2⟩ := esc_R s p
  obtain ⟨k3, k4⟩ := k2 h
  have hm := escape_mono s ⟨p + 1, 0⟩
  have h1 := hm.1
  have h2 := hm.2 (by simp only; omega)
  rw [k4] at h1 h2
  refine ⟨h1, h2, ?_⟩
  rw [← k3]
  have := (Lib.encodeRuneZ_length (escapeB s ⟨p + 1, 0⟩).1).2
  simpa [Lib.encodeRune] using this
theorem sign_facts {s : ByteArray} {p : Nat} (hp : p < s.size) (h : (signR s p).2.2 = true) : 1 ≤ (signR s p).2.1 ∧ p + (signR s p).2.1 ≤ s.size ∧ (signR s p).2.1 ≤ 4 := by
  have hsd := sign_dec (s := s) (p := p)
  rw [← dec_L hp] at hsd
  have hw := dec_w s p hp
  by_cases hb : (dec s p).1 = 65533 ∧ (dec s p).2 = 1
  · rw [if_pos hb] at hsd
    rw [hsd] at h
    cases h
  · rw [if_neg hb] at hsd
    rw [hsd]
    exact ⟨hw.1, hw.2.2, hw.2.1⟩
theorem extract_rest (s : ByteArray) (p n : Nat) : s.extract p (p + n) = ⟨((rest s p).take n).toArray⟩ := by
  apply ByteArray.ext
  simp only [ByteArray.data_extract]
  apply Array.toList_inj.1
  unfold rest
  rw [Array.toList_extract]
  simp [List.extract_eq_take_drop]
def UqRel (s : ByteArray) (w : World) (fin : List UInt8 × Nat × Int) (gg : Nat) (s7 s1 : Value) (wr : World) : Prop := ∃ (f : Nat) (acc : List UInt8) (q : Nat),
  s7 = .string ⟨acc.toArray⟩ ∧ s1 = .int .i64 (q : Int) ∧ q ≤ s.size ∧ s.size + 1 - q ≤ f ∧ f ≤ gg ∧ acc.length ≤ 4 * q ∧ runqLoop s f acc q = fin ∧ Below w.heap.size w wr
set_option maxRecDepth 100000 in
set_option maxHeartbeats 8000000 in
theorem runquote_any (s : ByteArray) (p : Nat) (w : World) (hs : s.size ≤ 1000000) (hp : p ≤ s.size) :
    Calls Tryz.prog 73 #[.string s, .int .i64 (p : Int)] w fun e w' => e = .returned (escV3 (unquoteB s p)) ∧ Below w.heap.size w w' := by
  rw [← runq_eq s p hp]
  have HB := Lib.hid (Below.refl w.heap.size w)
  have hp0 : decide ((p : Int) < 0) = false := decide_eq_false (by omega)
  have hp1 : decide ((s.size : Int) < (p : Int)) = false := decide_eq_false (by omega)
  have hp2 : decide (s.size < p) = false := decide_eq_false (by omega)
  unfold runquoteB escV3
  by_cases h1 : s.size ≤ p
  · have d1 : ((p : Int) == (s.size : Int)) = true := by simp; omega
    rw [if_pos h1]
    go_enter Tryz.func73, Tryz.ntmps73
    go_wp2_with fail
    go_ret3
    exact ⟨rfl, HB.out⟩
  · have d1 : ((p : Int) == (s.size : Int)) = false := by simp; omega
    rw [if_neg h1]
    have q1 : (0 : Int) ≤ (p : Int) := by omega
    have q2 : (p : Int) < (s.size : Int) := by omega
    have hgb := get_byte (s := s) (q := p) (by omega)
    by_cases h34 : byteAt s p = 34
    · have d34 : (((byteAt s p).toNat : Int) != 34) = false := by rw [h34]; rfl
      rw [if_neg (show ¬ byteAt s p ≠ 34 from fun h => h h34)]
      generalize hfin : runqLoop s (s.size + 1 - p) [] (p + 1) = fin at *
      have HF := Lib.hid hfin
      clear hfin h34
      generalize byteAt s p = b0 at *
      go_enter Tryz.func73, Tryz.ntmps73
      go_wp2_with fail
      go_loopg [1, 7] (s.size + 1 - p) (fun gg s1 s7 wr => Aside (UqRel s w fin gg s7 s1 wr))
      case atStart => exact ⟨s.size + 1 - p, [], p + 1, rfl, by go_num, by omega, by omega, by omega, by simp, HF.out, HB.out⟩
      case round =>
        obtain ⟨f, acc, q, rfl, rfl, hq, hf, hfg, hal, hfin, hb⟩ := hrel
        have HBW := Lib.hid hb
        clear hb hgb d34 q1 q2 hp0 hp1 d1 h1 hp
        obtain ⟨f, rfl⟩ : ∃ g, f = g + 1 := ⟨f - 1, by omega⟩
        simp only [runqLoop] at hfin
        by_cases hlt : s.size ≤ q
        · have e1 : decide ((q : Int) < (s.size : Int)) = false := decide_eq_false (by omega)
          rw [if_pos hlt] at hfin
          subst hfin
          clear HF
          go_wp2_with fail
          go_ret3
          exact ⟨rfl, HBW.out⟩
        · have e1 : decide ((q : Int) < (s.size : Int)) = true := decide_eq_true (by omega)
          rw [if_neg hlt] at hfin
          have q1 : (0 : Int) ≤ (q : Int) := by omega
          have q2 : (q : Int) < (s.size : Int) := by omega
          have hgb := get_byte (s := s) (q := q) (by omega)
          have HFIN := Lib.hid hfin
          clear hfin
          by_cases h34 : byteAt s q = 34
          · have d34 : (((byteAt s q).toNat : Int) == 34) = true := by rw [h34]; rfl
            have hR : fin = (acc, q + 1, 0) := by rw [← HFIN.out, if_pos h34]
            subst hR
            clear h34 HFIN HF
            generalize byteAt s q = b at *
            go_wp2_with fail
            go_ret3
            exact ⟨rfl, HBW.out⟩
          · have d34 : (((byteAt s q).toNat : Int) == 34) = false := by
              have : (byteAt s q).toNat ≠ 34 := fun e => h34 (UInt8.toNat.inj e)
              simp; omega
            by_cases h92 : byteAt s q = 92
            · have d92 : (((byteAt s q).toNat : Int) == 92) = true := by rw [h92]; rfl
              have hR := HFIN.out
              rw [if_neg h34, if_pos h92] at hR
              have hec := fun W => resc_any s q W (by omega) (by omega)
              have hef := esc_facts (s := s) (p := q) (by omega)
              unfold escV3 at hec
              generalize escR s q = r at *
              obtain ⟨l, n, e⟩ := r
              simp only at hR hec hef
              have HEC := Lib.hid hec
              clear hec h34 h92 HFIN HF
              generalize byteAt s q = b at *
              by_cases he : e = 0
              · subst he
                rw [if_neg (show ¬ (0 : Int) ≠ 0 from fun h => h rfl)] at hR
                obtain ⟨f1, f2, f3⟩ := hef rfl
                have hcat := fun W : World => str_cat (P := Tryz.prog) acc l W (by omega)
                have HR := Lib.hid hR
                clear hR hef
                go_wp2_with fail
                refine Calls.mono (HEC.out _) ?_
                rintro e w2 ⟨rfl, hb2⟩
                have HB2 := Lib.hid (bel_trans HBW.out hb2)
                clear hb2
                go_wp2_with fail
                go_roundg f
                case measure => omega
                case rel => exact ⟨f, acc ++ l, n, rfl, rfl, f2, by omega, by omega, by rw [List.length_append]; omega, HR.out, HB2.out⟩
              · have de : (e != 0) = true := by simpa using he
                rw [if_pos he] at hR
                subst hR
                clear hef
                go_wp2_with fail
                refine Calls.mono (HEC.out _) ?_
                rintro e w2 ⟨rfl, hb2⟩
                have HB2 := Lib.hid (bel_trans HBW.out hb2)
                clear hb2
                go_wp2_with fail
                go_ret3
                exact ⟨rfl, HB2.out⟩
            · have d92 : (((byteAt s q).toNat : Int) == 92) = false := by
                have : (byteAt s q).toNat ≠ 92 := fun e => h92 (UInt8.toNat.inj e)
                simp; omega
              have hR := HFIN.out
              rw [if_neg h34, if_neg h92] at hR
              have hsc := fun W => sign_any_ref s q (by omega) (by omega) W
              have hsf := sign_facts (s := s) (p := q) (by omega)
              unfold SignRes at hsc
              have hext := fun n => extract_rest s q n
              generalize signR s q = r at *
              obtain ⟨c, n, ok⟩ := r
              simp only at hR hsc hsf
              have HSC := Lib.hid hsc
              have HEXT := Lib.hid hext
              clear hsc hext h34 h92 HFIN HF
              cases ok with
              | false =>
                rw [if_pos (show (false = false ∨ byteAt s q < 32) from Or.inl rfl)] at hR
                subst hR
                clear hsf
                go_wp2_with fail
                refine Calls.mono (HSC.out _) ?_
                rintro e w2 ⟨rfl, rfl⟩
                go_wp2_with fail
                go_ret3
                exact ⟨rfl, HBW.out⟩
              | true =>
                by_cases h32 : byteAt s q < 32
                · have h32' : (byteAt s q).toNat < 32 := h32
                  have d32 : decide (((byteAt s q).toNat : Int) < 32) = true := decide_eq_true (by omega)
                  rw [if_pos (show (true = false ∨ byteAt s q < 32) from Or.inr h32)] at hR
                  subst hR
                  clear hsf h32 h32'
                  generalize byteAt s q = b at *
                  go_wp2_with fail
                  refine Calls.mono (HSC.out _) ?_
                  rintro e w2 ⟨rfl, rfl⟩
                  go_wp2_with fail
                  go_ret3
                  exact ⟨rfl, HBW.out⟩
                · have h32' : ¬ (byteAt s q).toNat < 32 := h32
                  have d32 : decide (((byteAt s q).toNat : Int) < 32) = false := decide_eq_false (by omega)
                  rw [if_neg (show ¬ (true = false ∨ byteAt s q < 32) from fun h => h.elim (fun h => Bool.noConfusion h) h32)] at hR
                  obtain ⟨f1, f2, f3⟩ := hsf rfl
                  have hlen : ((rest s q).take n).length ≤ n := by rw [List.length_take]; omega
                  have hcat := fun W : World => str_cat (P := Tryz.prog) acc ((rest s q).take n) W (by omega)
                  have hsl := fun W : World => run_slice_string (P := Tryz.prog) W 9 s .i64 .i64 (q : Int) ((q : Int) + (n : Int)) Tryz.underlying9 (by omega) (by omega) (by omega)
                  have en : ((q : Int) + (n : Int)).toNat = q + n := by omega
                  have en2 : ((q : Int)).toNat = q := by omega
                  rw [en, en2, HEXT.out n] at hsl
                  have HR := Lib.hid hR
                  have HLEN := Lib.hid hlen
                  generalize (rest s q).take n = tk at *
                  clear hR hsf h32 h32' hlen en en2
                  generalize byteAt s q = b at *
                  go_wp2_with fail
                  refine Calls.mono (HSC.out _) ?_
                  rintro e w2 ⟨rfl, rfl⟩
                  go_wp2_with fail
                  go_roundg f
                  case measure => omega
                  case rel => exact ⟨f, acc ++ tk, q + n, rfl, by go_num, f2, by omega, by omega, by rw [List.length_append]; have := HLEN.out; omega, HR.out, HBW.out⟩
    · have d34 : (((byteAt s p).toNat : Int) != 34) = true := by
        have : (byteAt s p).toNat ≠ 34 := fun e => h34 (UInt8.toNat.inj e)
        simp; omega
      rw [if_pos h34]
      clear h34
      generalize byteAt s p = b0 at *
      go_enter Tryz.func73, Tryz.ntmps73
      go_wp2_with fail
      go_ret3
      exact ⟨rfl, HB.out⟩
end Go.Proofs.YtjjgbgojlhaapaaGreatDoor
