/- Parts of the proof: Pk. -/
import Derived.Test.YtlihjmfdnkfmfaaGreatDoorZPback27
import Derived.Test.YtlihjmfdnkfmfaaGreatDoorZPback8
namespace Go.Proofs.YtlihjmfdnkfmfaaGreatDoor
open Go.RowKit Go.Lib

theorem run_neq_pl (w : World) (a : Rq) : (binOp .neq 30 (.agg #[.string a.op, .string a.user, .string a.feed, .string a.name, .string a.token, .int .i64 a.tx, .int .i64 a.entry, .int .i64 a.after, .int .i64 a.limit, .int .i64 a.before, .bool a.on]) (.agg #[.string a.op, .string a.user, .string a.feed, .string a.name, .string a.token, .int .i64 a.tx, .int .i64 a.entry, .int .i64 a.after, .int .i64 a.limit, .int .i64 a.before, .bool a.on])).run Tryz.prog w = .ok (.bool false) w := by
  have hu := Tryz.underlying30
  rw [run_neq_struct, run_equalIn_struct (P := Tryz.prog) w 9999 30 _ _ (by kernel_rfl) (by kernel_rfl)]
  simp [Program.fieldsOf, hu, Op.eqFields, part, isAgg, sizeOf]
  go_simp
theorem run_eql_pl (w : World) (a : Rq) : (binOp .eql 30 (.agg #[.string a.op, .string a.user, .string a.feed, .string a.name, .string a.token, .int .i64 a.tx, .int .i64 a.entry, .int .i64 a.after, .int .i64 a.limit, .int .i64 a.before, .bool a.on]) (.agg #[.string a.op, .string a.user, .string a.feed, .string a.name, .string a.token, .int .i64 a.tx, .int .i64 a.entry, .int .i64 a.after, .int .i64 a.limit, .int .i64 a.before, .bool a.on])).run Tryz.prog w = .ok (.bool true) w := by
  have hu := Tryz.underlying30
  rw [run_eql_struct, run_equalIn_struct (P := Tryz.prog) w 9999 30 _ _ (by kernel_rfl) (by kernel_rfl)]
  simp [Program.fieldsOf, hu, Op.eqFields, part, isAgg, sizeOf]
  go_simp
theorem obj_long {m : List (ByteArray × JV)} : m.length ≤ (printB 64 (.mk 7 0 ⟨#[]⟩ [] m)).length := by
  rw [print_obj]
  have h : ∀ (l : List (ByteArray × JV)) (b : Bool), l.length ≤ (joinFrom (fun p => quoteB p.1 ++ 58 :: printB 63 p.2) b l).length := fun l => by
    induction l with
    | nil => intro b; simp
    | cons x l ih =>
      intro b
      have := ih false
      simp only [joinFrom, List.length_append, List.length_cons]
      split <;> simp only [List.length_append, List.length_cons] <;> omega
  have := h m true
  simp only [List.length_cons, List.length_append]
  omega
theorem print_two {r : Rq} (h : (pprintB r).2 = 0) : 2 ≤ (pprintB r).1.length := by
  obtain ⟨_, _, _, h4⟩ := pp_ok h
  rw [h4]
  obtain ⟨l, hl⟩ := obj_text (x := objR r) rfl
  rw [hl]
  simp only [List.length_cons, List.length_append, List.length_nil]
  omega
/-- what is read, by letters -/
theorem pparse_l (s : ByteArray) (v : Value) (F : Nat → Prop) (w : World) (hT : Tabs w) (hs : BSl w F v s) {q : Rq} {E : Int} (h : preqB s = (q, E)) :
    Calls Tryz.prog 13 #[v] w fun e w' => e = .returned (.tuple #[.agg #[.string q.op, .string q.user, .string q.feed, .string q.name, .string q.token, .int .i64 q.tx, .int .i64 q.entry, .int .i64 q.after, .int .i64 q.limit, .int .i64 q.before, .bool q.on], .int .i64 E]) ∧ Below w.heap.size w w' := by
  have k := pparse_any s v F w hT hs
  unfold PqRes rqC at k
  rw [h] at k
  exact k
theorem pprint_l (r : Rq) (w : World) (hT : Tabs w) (hsm : SmR r) {P : List UInt8} {E : Int} (h : pprintB r = (P, E)) :
    Calls Tryz.prog 15 #[.agg #[.string r.op, .string r.user, .string r.feed, .string r.name, .string r.token, .int .i64 r.tx, .int .i64 r.entry, .int .i64 r.after, .int .i64 r.limit, .int .i64 r.before, .bool r.on]] w fun e w' => (∃ A c, e = .returned (.tuple #[.slice A P.length c, .int .i64 E]) ∧ P.length ≤ c ∧ BSl w' (fun _ => True) (.slice A P.length c) ⟨P.toArray⟩) ∧ Below w.heap.size w w' := by
  have k := pprint_any r w hT hsm
  unfold rqC at k
  rw [h] at k
  refine k.mono ?_
  rintro e w' ⟨⟨A, c, rfl, hc, hb⟩, hbl⟩
  exact ⟨⟨A, c, rfl, hc, hb⟩, hbl⟩
set_option maxRecDepth 100000 in
set_option maxHeartbeats 64000000 in
theorem protoBack_any (r : Rq) (sv : Value) (s : ByteArray) (F : Nat → Prop) (w : World) (hT : Tabs w) (hs : BSl w F sv s) :
    Calls Tryz.prog 4 #[.agg #[.string r.op, .string r.user, .string r.feed, .string r.name, .string r.token, .int .i64 r.tx, .int .i64 r.entry, .int .i64 r.after, .int .i64 r.limit, .int .i64 r.before, .bool r.on], sv] w fun e w' => e = .returned (.bool true) ∧ Below w.heap.size w w' := by
  have hfi := fun W (hW : Below w.heap.size w W) => pfirst_any W (hT.below hW)
  obtain ⟨q, E, hq⟩ : ∃ q E, preqB s = (q, E) := ⟨_, _, rfl⟩
  have hp := fun W (hW : Below w.heap.size w W) => pparse_l s sv F W (hT.below hW) (bslB hs hW) hq
  obtain ⟨P, E1, hpr⟩ : ∃ P E1, pprintB r = (P, E1) := ⟨_, _, rfl⟩
  have hA := heap_alloc_new w (.cells #[.string r.op, .string r.user, .string r.feed, .string r.name, .string r.token, .int .i64 r.tx, .int .i64 r.entry, .int .i64 r.after, .int .i64 r.limit, .int .i64 r.before, .bool r.on] 24)
  have hbA : Below w.heap.size w (w.alloc (.cells #[.string r.op, .string r.user, .string r.feed, .string r.name, .string r.token, .int .i64 r.tx, .int .i64 r.entry, .int .i64 r.after, .int .i64 r.limit, .int .i64 r.before, .bool r.on] 24)) := bel_alloc (Below.refl _ _) _
  obtain ⟨Av, cv, rfl⟩ := hs.form
  have HFI := Lib.hid hfi; have HQ := Lib.hid hq; have HP := Lib.hid hp; have HPR := Lib.hid hpr; have HA := Lib.hid hA; have HB := Lib.hid hbA; have HT := Lib.hid hT
  clear hfi hq hp hpr hA hbA hT hs
  obtain ⟨sh, hsh⟩ : ∃ sh, shortRq r = sh := ⟨_, rfl⟩
  obtain ⟨bg, hbg⟩ : ∃ bg, decide ((21000 : Int) < (s.size : Int)) = bg := ⟨_, rfl⟩
  have hshr := fun W => shortR_any r W
  rw [hsh] at hshr
  have HSR := Lib.hid hshr; have HSH := Lib.hid hsh
  clear hshr hsh
  generalize s.size = n at *
  go_enter Tryz.func4, Tryz.ntmps4
  go_upto_region 1 with (fail)
  generalize w.alloc (.cells #[.string r.op, .string r.user, .string r.feed, .string r.name, .string r.token, .int .i64 r.tx, .int .i64 r.entry, .int .i64 r.after, .int .i64 r.limit, .int .i64 r.before, .bool r.on] 24) = W0 at *
  go_wp2_with fail
  refine Calls.mono (HFI.out _ HB.out) ?_
  rintro e w1 ⟨rfl, hb⟩
  have HB1 := Lib.hid (bel_trans HB.out hb); have HA1 := Lib.hid (Below.at hb HA.out)
  clear hb HB HA
  obtain ⟨⟨a0, a1, a2, a3, a4, a5, a6, a7, a8, a9, a10⟩, _⟩ := row11 (r := r) HA1.out
  go_wp2_with fail
  refine Calls.mono (HSR.out _) ?_
  rintro e w2 ⟨rfl, hb⟩
  have HB2 := Lib.hid (bel_trans HB1.out hb); have HA2 := Lib.hid (Below.at hb HA1.out)
  clear hb HB1 HA1 a0 a1 a2 a3 a4 a5 a6 a7 a8 a9 a10
  cases sh with
  | false =>
    go_wp2_with fail
    refine Calls.mono (HFI.out _ HB2.out) ?_
    rintro e w3 ⟨rfl, hb⟩
    have HB3 := Lib.hid (bel_trans HB2.out hb)
    clear hb
    go_wp2_with fail
    go_ret
    exact ⟨rfl, HB3.out⟩
  | true =>
    cases bg with
    | true =>
      go_wp2_with fail
      refine Calls.mono (HFI.out _ HB2.out) ?_
      rintro e w3 ⟨rfl, hb⟩
      have HB3 := Lib.hid (bel_trans HB2.out hb)
      clear hb
      go_wp2_with fail
      go_ret
      exact ⟨rfl, HB3.out⟩
    | false =>
      obtain ⟨⟨a0, a1, a2, a3, a4, a5, a6, a7, a8, a9, a10⟩, _⟩ := row11 (r := r) HA2.out
      obtain ⟨N, hN⟩ : ∃ N, P.length = N := ⟨_, rfl⟩
      have hpr := pprint_l r w2 (HT.out.below HB2.out) (short_sm HSH.out) HPR.out
      rw [hN] at hpr
      have HN := Lib.hid hN
      clear hN
      have HCL := Lib.hid hpr
      clear hpr
      go_wp2_with fail
      refine Calls.mono HCL.out ?_
      rintro e w3 ⟨⟨A5, c5, rfl, hcap, hbs⟩, hb⟩
      have HB3 := Lib.hid (bel_trans HB2.out hb); have HA3 := Lib.hid (Below.at hb HA2.out); have HX := Lib.hid hbs; have HCAP := Lib.hid hcap
      clear hb hbs hcap HB2 HA2 HCL hbg a0 a1 a2 a3 a4 a5 a6 a7 a8 a9 a10
      by_cases hgo : E1 = 0 ∧ N ≤ 19980
      case neg =>
        obtain ⟨e1b, he1⟩ : ∃ b, (E1 == 0) = b := ⟨_, rfl⟩
        obtain ⟨plb, hpl⟩ : ∃ b, decide ((N : Int) ≤ 19980) = b := ⟨_, rfl⟩
        have hno : (e1b && plb) = false := by
          rw [← he1, ← hpl, ← Bool.not_eq_true, Bool.and_eq_true, beq_iff_eq, decide_eq_true_eq]
          exact fun h => hgo ⟨h.1, by omega⟩
        clear hgo
        cases e1b with
        | false =>
          clear hno hpl
          have HBT := HB3
          by_cases hE : E = 0
          case neg =>
            obtain rfl : q = zeroR := by
              have h1 := pre_zero (s := s) (by rw [HQ.out]; exact hE)
              rw [HQ.out] at h1
              exact h1
            have hne : (E != 0) = true := by simpa using hE
            have hcl : Calls Tryz.prog 13 #[.slice Av n cv] _ fun e w' => e = .returned (.tuple #[.agg #[.string ⟨#[]⟩, .string ⟨#[]⟩, .string ⟨#[]⟩, .string ⟨#[]⟩, .string ⟨#[]⟩, .int .i64 0, .int .i64 0, .int .i64 0, .int .i64 0, .int .i64 0, .bool false], .int .i64 E]) ∧ Below _ _ w' := HP.out _ HBT.out
            have q0 : ∀ W, (binOp .eql 30 (.agg #[.string ⟨#[]⟩, .string ⟨#[]⟩, .string ⟨#[]⟩, .string ⟨#[]⟩, .string ⟨#[]⟩, .int .i64 0, .int .i64 0, .int .i64 0, .int .i64 0, .int .i64 0, .bool false]) (.agg #[.string ⟨#[]⟩, .string ⟨#[]⟩, .string ⟨#[]⟩, .string ⟨#[]⟩, .string ⟨#[]⟩, .int .i64 0, .int .i64 0, .int .i64 0, .int .i64 0, .int .i64 0, .bool false])).run Tryz.prog W = .ok (.bool true) W := fun W => run_eql_pl W zeroR
            have HCL := Lib.hid hcl; have HQ0 := Lib.hid q0
            clear hcl q0 hE
            go_wp2_with fail
            refine Calls.mono HCL.out ?_
            rintro e t1 ⟨rfl, hb⟩
            have hal := bel_alloc (Below.refl t1.heap.size t1) (.cells #[.string ⟨#[]⟩, .string ⟨#[]⟩, .string ⟨#[]⟩, .string ⟨#[]⟩, .string ⟨#[]⟩, .int .i64 0, .int .i64 0, .int .i64 0, .int .i64 0, .int .i64 0, .bool false] 24)
            have HT1 := Lib.hid (bel_trans (bel_trans HBT.out hb) hal); have HY := Lib.hid (heap_alloc_new t1 (.cells #[.string ⟨#[]⟩, .string ⟨#[]⟩, .string ⟨#[]⟩, .string ⟨#[]⟩, .string ⟨#[]⟩, .int .i64 0, .int .i64 0, .int .i64 0, .int .i64 0, .int .i64 0, .bool false] 24))
            clear hb hal HCL
            go_upto_region 20 with (fail)
            generalize t1.alloc (.cells #[.string ⟨#[]⟩, .string ⟨#[]⟩, .string ⟨#[]⟩, .string ⟨#[]⟩, .string ⟨#[]⟩, .int .i64 0, .int .i64 0, .int .i64 0, .int .i64 0, .int .i64 0, .bool false] 24) = t2 at *
            generalize t1.heap.size = Y17 at *
            go_wp2_with fail
            refine Calls.mono (HFI.out _ HT1.out) ?_
            rintro e t3 ⟨rfl, hb⟩
            have HT3 := Lib.hid (bel_trans HT1.out hb); have HY3 := Lib.hid (Below.at hb HY.out)
            clear hb HT1 HY
            obtain ⟨⟨a0, a1, a2, a3, a4, a5, a6, a7, a8, a9, a10⟩, _⟩ := row11 (r := zeroR) HY3.out
            simp only [zeroR, e0] at a0 a1 a2 a3 a4 a5 a6 a7 a8 a9 a10
            go_wp2_with fail
            refine Calls.mono (plainR_any zeroR _) ?_
            rintro e t4 ⟨he, hb⟩
            replace he : e = .returned (.agg #[.string ⟨#[]⟩, .string ⟨#[]⟩, .string ⟨#[]⟩, .string ⟨#[]⟩, .string ⟨#[]⟩, .int .i64 0, .int .i64 0, .int .i64 0, .int .i64 0, .int .i64 0, .bool false]) := he
            subst he
            have HT4 := Lib.hid (bel_trans HT3.out hb)
            clear hb HT3
            have q0 := HQ0.out
            go_wp2_with fail
            go_ret
            exact ⟨rfl, HT4.out⟩
          case pos =>
            subst hE
            have hrb := read_back (s := s) (by rw [HQ.out])
            rw [HQ.out] at hrb
            obtain ⟨P2, E2, hp2⟩ : ∃ P2 E2, pprintB q = (P2, E2) := ⟨_, _, rfl⟩
            have h1 := hrb.1
            simp only [hp2] at h1
            subst h1
            have hrp : P2.length ≤ 20000 → preqB ⟨P2.toArray⟩ = (q, 0) := fun h => by
              have := read_print (r := q) (by rw [hp2]) (by rw [hp2]; exact h)
              rw [hp2] at this
              exact this
            have hcl := HP.out _ HBT.out
            have HCL := Lib.hid hcl; have HSQ := Lib.hid hrb.2; have HP2 := Lib.hid hp2; have HRP := Lib.hid hrp
            clear hcl hrb hp2 hrp
            go_wp2_with fail
            refine Calls.mono HCL.out ?_
            rintro e t1 ⟨rfl, hb⟩
            have hal := bel_alloc (Below.refl t1.heap.size t1) (.cells #[.string q.op, .string q.user, .string q.feed, .string q.name, .string q.token, .int .i64 q.tx, .int .i64 q.entry, .int .i64 q.after, .int .i64 q.limit, .int .i64 q.before, .bool q.on] 24)
            have HT1 := Lib.hid (bel_trans (bel_trans HBT.out hb) hal); have HY := Lib.hid (heap_alloc_new t1 (.cells #[.string q.op, .string q.user, .string q.feed, .string q.name, .string q.token, .int .i64 q.tx, .int .i64 q.entry, .int .i64 q.after, .int .i64 q.limit, .int .i64 q.before, .bool q.on] 24))
            clear hb hal HCL
            go_upto_region 20 with (fail)
            generalize t1.alloc (.cells #[.string q.op, .string q.user, .string q.feed, .string q.name, .string q.token, .int .i64 q.tx, .int .i64 q.entry, .int .i64 q.after, .int .i64 q.limit, .int .i64 q.before, .bool q.on] 24) = t2 at *
            generalize t1.heap.size = Y17 at *
            obtain ⟨⟨a0, a1, a2, a3, a4, a5, a6, a7, a8, a9, a10⟩, _⟩ := row11 (r := q) HY.out
            have hpq := pprint_l q t2 (HT.out.below HT1.out) HSQ.out HP2.out
            have HPQ := Lib.hid hpq
            clear hpq
            go_wp2_with fail
            refine Calls.mono HPQ.out ?_
            rintro e t3 ⟨⟨A19, c19, rfl, _, hbs⟩, hb⟩
            have HT3 := Lib.hid (bel_trans HT1.out hb); have HY3 := Lib.hid (Below.at hb HY.out); have HX3 := Lib.hid hbs
            clear hb hbs HT1 HY HPQ a0 a1 a2 a3 a4 a5 a6 a7 a8 a9 a10
            by_cases hlong : P2.length ≤ 20000
            case pos =>
              have hcl := pparse_l _ _ _ t3 (HT.out.below HT3.out) HX3.out (HRP.out hlong)
              have HCL := Lib.hid hcl
              clear hcl
              go_wp2_with fail
              refine Calls.mono HCL.out ?_
              rintro e t4 ⟨rfl, hb⟩
              have hal := bel_alloc (Below.refl t4.heap.size t4) (.cells #[.string q.op, .string q.user, .string q.feed, .string q.name, .string q.token, .int .i64 q.tx, .int .i64 q.entry, .int .i64 q.after, .int .i64 q.limit, .int .i64 q.before, .bool q.on] 24)
              have hb2 := bel_trans hb hal
              have HT5 := Lib.hid (bel_trans HT3.out hb2); have HY5 := Lib.hid (Below.at hb2 HY3.out); have HZ5 := Lib.hid (heap_alloc_new t4 (.cells #[.string q.op, .string q.user, .string q.feed, .string q.name, .string q.token, .int .i64 q.tx, .int .i64 q.entry, .int .i64 q.after, .int .i64 q.limit, .int .i64 q.before, .bool q.on] 24))
              clear hb hal hb2 HCL HT3 HY3 HX3
              go_upto_region 24 with (fail)
              generalize t4.alloc (.cells #[.string q.op, .string q.user, .string q.feed, .string q.name, .string q.token, .int .i64 q.tx, .int .i64 q.entry, .int .i64 q.after, .int .i64 q.limit, .int .i64 q.before, .bool q.on] 24) = t5 at *
              generalize t4.heap.size = Y21 at *
              have q1 : decide ((20000 : Int) < (P2.length : Int)) = false := decide_eq_false (by omega)
              have q0 := fun W => run_eql_pl W q
              clear hlong
              have hrc : ∀ w2, Lat t5.drew w2 → w2.heap[Y21]? = some (.cells (rqC q) 24 (0, 0)) ∧ w2.heap[Y17]? = some (.cells (rqC q) 24 (0, 0)) := fun w2 hE => ⟨Below.at (w := t5.drew) hE HZ5.out, Below.at (w := t5.drew) hE HY5.out⟩
              have HRC := Lib.hid hrc
              have HBV := Lib.hid (bel_drew HT5.out)
              clear hrc HT5 HY5 HZ5
              refine wp_region_E (by kernel_rfl) ?_
              generalize t5.drew = V5 at *
              refine wpAnyE_t 0 (v := ?_) rfl ?_ ?_
              rotate_left
              · intro w2 hE
                obtain ⟨⟨a0, a1, a2, a3, a4, a5, a6, a7, a8, a9, a10⟩, _⟩ := row11 (HRC.out w2 hE).1
                obtain ⟨⟨b0, b1, b2, b3, b4, b5, b6, b7, b8, b9, b10⟩, _⟩ := row11 (HRC.out w2 hE).2
                go_simp
                exact HFI.out _ (bel_trans HBV.out hE)
              try simp only [lay]
              refine wpAnyE_t 1 (v := ?_) rfl ?_ ?_
              rotate_left
              · intro w2 hE
                obtain ⟨⟨a0, a1, a2, a3, a4, a5, a6, a7, a8, a9, a10⟩, _⟩ := row11 (HRC.out w2 hE).1
                obtain ⟨⟨b0, b1, b2, b3, b4, b5, b6, b7, b8, b9, b10⟩, _⟩ := row11 (HRC.out w2 hE).2
                go_simp
                try (with_reducible rfl)
              try simp only [lay]
              refine wpAnyE_t 2 (v := ?_) rfl ?_ ?_
              rotate_left
              · intro w2 hE
                obtain ⟨⟨a0, a1, a2, a3, a4, a5, a6, a7, a8, a9, a10⟩, _⟩ := row11 (HRC.out w2 hE).1
                obtain ⟨⟨b0, b1, b2, b3, b4, b5, b6, b7, b8, b9, b10⟩, _⟩ := row11 (HRC.out w2 hE).2
                go_simp
                try (with_reducible rfl)
              try simp only [lay]
              refine wpAnyE_t 3 (v := ?_) rfl ?_ ?_
              rotate_left
              · intro w2 hE
                obtain ⟨⟨a0, a1, a2, a3, a4, a5, a6, a7, a8, a9, a10⟩, _⟩ := row11 (HRC.out w2 hE).1
                obtain ⟨⟨b0, b1, b2, b3, b4, b5, b6, b7, b8, b9, b10⟩, _⟩ := row11 (HRC.out w2 hE).2
                go_simp
                try (with_reducible rfl)
              try simp only [lay]
              refine wpAnyE_t 4 (v := ?_) rfl ?_ ?_
              rotate_left
              · intro w2 hE
                obtain ⟨⟨a0, a1, a2, a3, a4, a5, a6, a7, a8, a9, a10⟩, _⟩ := row11 (HRC.out w2 hE).1
                obtain ⟨⟨b0, b1, b2, b3, b4, b5, b6, b7, b8, b9, b10⟩, _⟩ := row11 (HRC.out w2 hE).2
                go_simp
                try (with_reducible rfl)
              try simp only [lay]
              refine wpAnyE_t 5 (v := ?_) rfl ?_ ?_
              rotate_left
              · intro w2 hE
                obtain ⟨⟨a0, a1, a2, a3, a4, a5, a6, a7, a8, a9, a10⟩, _⟩ := row11 (HRC.out w2 hE).1
                obtain ⟨⟨b0, b1, b2, b3, b4, b5, b6, b7, b8, b9, b10⟩, _⟩ := row11 (HRC.out w2 hE).2
                go_simp
                try (with_reducible rfl)
              try simp only [lay]
              refine wpAnyE_t 6 (v := ?_) rfl ?_ ?_
              rotate_left
              · intro w2 hE
                obtain ⟨⟨a0, a1, a2, a3, a4, a5, a6, a7, a8, a9, a10⟩, _⟩ := row11 (HRC.out w2 hE).1
                obtain ⟨⟨b0, b1, b2, b3, b4, b5, b6, b7, b8, b9, b10⟩, _⟩ := row11 (HRC.out w2 hE).2
                go_simp
                try (with_reducible rfl)
              try simp only [lay]
              refine wpAnyE_t 7 (v := ?_) rfl ?_ ?_
              rotate_left
              · intro w2 hE
                obtain ⟨⟨a0, a1, a2, a3, a4, a5, a6, a7, a8, a9, a10⟩, _⟩ := row11 (HRC.out w2 hE).1
                obtain ⟨⟨b0, b1, b2, b3, b4, b5, b6, b7, b8, b9, b10⟩, _⟩ := row11 (HRC.out w2 hE).2
                go_simp
                try (with_reducible rfl)
              try simp only [lay]
              refine wpAnyE_t 8 (v := ?_) rfl ?_ ?_
              rotate_left
              · intro w2 hE
                obtain ⟨⟨a0, a1, a2, a3, a4, a5, a6, a7, a8, a9, a10⟩, _⟩ := row11 (HRC.out w2 hE).1
                obtain ⟨⟨b0, b1, b2, b3, b4, b5, b6, b7, b8, b9, b10⟩, _⟩ := row11 (HRC.out w2 hE).2
                go_simp
                try (with_reducible rfl)
              try simp only [lay]
              refine wpAnyE_t 9 (v := ?_) rfl ?_ ?_
              rotate_left
              · intro w2 hE
                obtain ⟨⟨a0, a1, a2, a3, a4, a5, a6, a7, a8, a9, a10⟩, _⟩ := row11 (HRC.out w2 hE).1
                obtain ⟨⟨b0, b1, b2, b3, b4, b5, b6, b7, b8, b9, b10⟩, _⟩ := row11 (HRC.out w2 hE).2
                go_simp
                try (with_reducible rfl)
              try simp only [lay]
              refine wpAnyE_t 10 (v := ?_) rfl ?_ ?_
              rotate_left
              · intro w2 hE
                obtain ⟨⟨a0, a1, a2, a3, a4, a5, a6, a7, a8, a9, a10⟩, _⟩ := row11 (HRC.out w2 hE).1
                obtain ⟨⟨b0, b1, b2, b3, b4, b5, b6, b7, b8, b9, b10⟩, _⟩ := row11 (HRC.out w2 hE).2
                go_simp
                try (with_reducible rfl)
              try simp only [lay]
              refine wpAnyE_t 11 (v := ?_) rfl ?_ ?_
              rotate_left
              · intro w2 hE
                obtain ⟨⟨a0, a1, a2, a3, a4, a5, a6, a7, a8, a9, a10⟩, _⟩ := row11 (HRC.out w2 hE).1
                obtain ⟨⟨b0, b1, b2, b3, b4, b5, b6, b7, b8, b9, b10⟩, _⟩ := row11 (HRC.out w2 hE).2
                go_simp
                try (with_reducible rfl)
              try simp only [lay]
              refine wpAnyE_t 12 (v := ?_) rfl ?_ ?_
              rotate_left
              · intro w2 hE
                obtain ⟨⟨a0, a1, a2, a3, a4, a5, a6, a7, a8, a9, a10⟩, _⟩ := row11 (HRC.out w2 hE).1
                obtain ⟨⟨b0, b1, b2, b3, b4, b5, b6, b7, b8, b9, b10⟩, _⟩ := row11 (HRC.out w2 hE).2
                go_simp
                try (with_reducible rfl)
              try simp only [lay]
              refine wpAnyE_t 13 (v := ?_) rfl ?_ ?_
              rotate_left
              · intro w2 hE
                obtain ⟨⟨a0, a1, a2, a3, a4, a5, a6, a7, a8, a9, a10⟩, _⟩ := row11 (HRC.out w2 hE).1
                obtain ⟨⟨b0, b1, b2, b3, b4, b5, b6, b7, b8, b9, b10⟩, _⟩ := row11 (HRC.out w2 hE).2
                go_simp
                try (with_reducible rfl)
              try simp only [lay]
              refine wpAnyE_t 14 (v := ?_) rfl ?_ ?_
              rotate_left
              · intro w2 hE
                obtain ⟨⟨a0, a1, a2, a3, a4, a5, a6, a7, a8, a9, a10⟩, _⟩ := row11 (HRC.out w2 hE).1
                obtain ⟨⟨b0, b1, b2, b3, b4, b5, b6, b7, b8, b9, b10⟩, _⟩ := row11 (HRC.out w2 hE).2
                go_simp
                exact plainR_any _ _
              try simp only [lay]
              refine wpAnyE_t 15 (v := ?_) rfl ?_ ?_
              rotate_left
              · intro w2 hE
                obtain ⟨⟨a0, a1, a2, a3, a4, a5, a6, a7, a8, a9, a10⟩, _⟩ := row11 (HRC.out w2 hE).1
                obtain ⟨⟨b0, b1, b2, b3, b4, b5, b6, b7, b8, b9, b10⟩, _⟩ := row11 (HRC.out w2 hE).2
                go_simp
                try (with_reducible rfl)
              try simp only [lay]
              refine wpAnyE_t 16 (v := ?_) rfl ?_ ?_
              rotate_left
              · intro w2 hE
                obtain ⟨⟨a0, a1, a2, a3, a4, a5, a6, a7, a8, a9, a10⟩, _⟩ := row11 (HRC.out w2 hE).1
                obtain ⟨⟨b0, b1, b2, b3, b4, b5, b6, b7, b8, b9, b10⟩, _⟩ := row11 (HRC.out w2 hE).2
                go_simp
                exact plainR_any _ _
              try simp only [lay]
              refine wpAnyE_t 17 (v := ?_) rfl ?_ ?_
              rotate_left
              · intro w2 hE
                obtain ⟨⟨a0, a1, a2, a3, a4, a5, a6, a7, a8, a9, a10⟩, _⟩ := row11 (HRC.out w2 hE).1
                obtain ⟨⟨b0, b1, b2, b3, b4, b5, b6, b7, b8, b9, b10⟩, _⟩ := row11 (HRC.out w2 hE).2
                go_simp
                try (with_reducible rfl)
              try simp only [lay]
              refine wpAnyE_t 18 (v := ?_) rfl ?_ ?_
              rotate_left
              · intro w2 hE
                obtain ⟨⟨a0, a1, a2, a3, a4, a5, a6, a7, a8, a9, a10⟩, _⟩ := row11 (HRC.out w2 hE).1
                obtain ⟨⟨b0, b1, b2, b3, b4, b5, b6, b7, b8, b9, b10⟩, _⟩ := row11 (HRC.out w2 hE).2
                go_simp
                try (with_reducible rfl)
              try simp only [lay]
              refine wpAnyE_t 19 (v := ?_) rfl ?_ ?_
              rotate_left
              · intro w2 hE
                obtain ⟨⟨a0, a1, a2, a3, a4, a5, a6, a7, a8, a9, a10⟩, _⟩ := row11 (HRC.out w2 hE).1
                obtain ⟨⟨b0, b1, b2, b3, b4, b5, b6, b7, b8, b9, b10⟩, _⟩ := row11 (HRC.out w2 hE).2
                go_simp
                try (with_reducible rfl)
              try simp only [lay]
              refine wpAnyE_t 20 (v := ?_) rfl ?_ ?_
              rotate_left
              · intro w2 hE
                obtain ⟨⟨a0, a1, a2, a3, a4, a5, a6, a7, a8, a9, a10⟩, _⟩ := row11 (HRC.out w2 hE).1
                obtain ⟨⟨b0, b1, b2, b3, b4, b5, b6, b7, b8, b9, b10⟩, _⟩ := row11 (HRC.out w2 hE).2
                go_simp
                try (with_reducible rfl)
              try simp only [lay]
              refine wpAnyE_t 21 (v := ?_) rfl ?_ ?_
              rotate_left
              · intro w2 hE
                obtain ⟨⟨a0, a1, a2, a3, a4, a5, a6, a7, a8, a9, a10⟩, _⟩ := row11 (HRC.out w2 hE).1
                obtain ⟨⟨b0, b1, b2, b3, b4, b5, b6, b7, b8, b9, b10⟩, _⟩ := row11 (HRC.out w2 hE).2
                go_simp
                try (with_reducible rfl)
              try simp only [lay]
              refine wpAnyE_done (by kernel_rfl) (fun w6 hE6 => ?_) _
              have HB6 := Lib.hid (bel_trans HBV.out hE6)
              clear hE6
              go_wp2_with fail
              go_ret
              exact ⟨rfl, HB6.out⟩
            case neg =>
              obtain ⟨q3, E3, h3⟩ : ∃ q3 E3, preqB ⟨P2.toArray⟩ = (q3, E3) := ⟨_, _, rfl⟩
              have hcl := pparse_l _ _ _ t3 (HT.out.below HT3.out) HX3.out h3
              have HCL := Lib.hid hcl
              clear hcl h3
              go_wp2_with fail
              refine Calls.mono HCL.out ?_
              rintro e t4 ⟨rfl, hb⟩
              have hal := bel_alloc (Below.refl t4.heap.size t4) (.cells #[.string q3.op, .string q3.user, .string q3.feed, .string q3.name, .string q3.token, .int .i64 q3.tx, .int .i64 q3.entry, .int .i64 q3.after, .int .i64 q3.limit, .int .i64 q3.before, .bool q3.on] 24)
              have hb2 := bel_trans hb hal
              have HT5 := Lib.hid (bel_trans HT3.out hb2); have HY5 := Lib.hid (Below.at hb2 HY3.out)
              clear hb hal hb2 HCL HT3 HY3 HX3
              go_upto_region 24 with (fail)
              generalize t4.alloc (.cells #[.string q3.op, .string q3.user, .string q3.feed, .string q3.name, .string q3.token, .int .i64 q3.tx, .int .i64 q3.entry, .int .i64 q3.after, .int .i64 q3.limit, .int .i64 q3.before, .bool q3.on] 24) = t5 at *
              generalize t4.heap.size = Y21 at *
              have q1 : decide ((20000 : Int) < (P2.length : Int)) = true := decide_eq_true (by omega)
              clear hlong
              have HBV := Lib.hid (bel_drew HT5.out)
              clear HT5 HY5
              refine wp_region_E (by kernel_rfl) ?_
              generalize t5.drew = V5 at *
              refine wpAnyE_t 0 (v := ?_) rfl ?_ ?_
              rotate_left
              · intro w2 hE
                go_simp
                exact HFI.out _ (bel_trans HBV.out hE)
              try simp only [lay]
              refine wpAnyE_t 1 (v := ?_) rfl ?_ ?_
              rotate_left
              · intro w2 hE
                go_simp
                try (with_reducible rfl)
              try simp only [lay]
              refine wpAnyE_t 2 (v := ?_) rfl ?_ ?_
              rotate_left
              · intro w2 hE
                go_simp
                try (with_reducible rfl)
              try simp only [lay]
              refine wpAnyE_t 3 (v := ?_) rfl ?_ ?_
              rotate_left
              · intro w2 hE
                go_simp
                try (with_reducible rfl)
              try simp only [lay]
              refine wpAnyE_t 4 (v := ?_) rfl ?_ ?_
              rotate_left
              · intro w2 hE
                go_simp
                try (with_reducible rfl)
              try simp only [lay]
              refine wpAnyE_t 5 (v := ?_) rfl ?_ ?_
              rotate_left
              · intro w2 hE
                go_simp
                try (with_reducible rfl)
              try simp only [lay]
              refine wpAnyE_t 6 (v := ?_) rfl ?_ ?_
              rotate_left
              · intro w2 hE
                go_simp
                try (with_reducible rfl)
              try simp only [lay]
              refine wpAnyE_t 7 (v := ?_) rfl ?_ ?_
              rotate_left
              · intro w2 hE
                go_simp
                try (with_reducible rfl)
              try simp only [lay]
              refine wpAnyE_t 8 (v := ?_) rfl ?_ ?_
              rotate_left
              · intro w2 hE
                go_simp
                try (with_reducible rfl)
              try simp only [lay]
              refine wpAnyE_t 9 (v := ?_) rfl ?_ ?_
              rotate_left
              · intro w2 hE
                go_simp
                try (with_reducible rfl)
              try simp only [lay]
              refine wpAnyE_s 10 rfl ?_
              try simp only [lay]
              refine wpAnyE_s 11 rfl ?_
              try simp only [lay]
              refine wpAnyE_s 12 rfl ?_
              try simp only [lay]
              refine wpAnyE_s 13 rfl ?_
              try simp only [lay]
              refine wpAnyE_s 14 rfl ?_
              try simp only [lay]
              refine wpAnyE_s 15 rfl ?_
              try simp only [lay]
              refine wpAnyE_s 16 rfl ?_
              try simp only [lay]
              refine wpAnyE_s 17 rfl ?_
              try simp only [lay]
              refine wpAnyE_s 18 rfl ?_
              try simp only [lay]
              refine wpAnyE_t 19 (v := ?_) rfl ?_ ?_
              rotate_left
              · intro w2 hE
                go_simp
                try (with_reducible rfl)
              try simp only [lay]
              refine wpAnyE_t 20 (v := ?_) rfl ?_ ?_
              rotate_left
              · intro w2 hE
                go_simp
                try (with_reducible rfl)
              try simp only [lay]
              refine wpAnyE_t 21 (v := ?_) rfl ?_ ?_
              rotate_left
              · intro w2 hE
                go_simp
                try (with_reducible rfl)
              try simp only [lay]
              refine wpAnyE_done (by kernel_rfl) (fun w6 hE6 => ?_) _
              have HB6 := Lib.hid (bel_trans HBV.out hE6)
              clear hE6
              go_wp2_with fail
              go_ret
              exact ⟨rfl, HB6.out⟩
        | true =>
          obtain rfl : plb = false := hno
          have HBT := HB3
          by_cases hE : E = 0
          case neg =>
            obtain rfl : q = zeroR := by
              have h1 := pre_zero (s := s) (by rw [HQ.out]; exact hE)
              rw [HQ.out] at h1
              exact h1
            have hne : (E != 0) = true := by simpa using hE
            have hcl : Calls Tryz.prog 13 #[.slice Av n cv] _ fun e w' => e = .returned (.tuple #[.agg #[.string ⟨#[]⟩, .string ⟨#[]⟩, .string ⟨#[]⟩, .string ⟨#[]⟩, .string ⟨#[]⟩, .int .i64 0, .int .i64 0, .int .i64 0, .int .i64 0, .int .i64 0, .bool false], .int .i64 E]) ∧ Below _ _ w' := HP.out _ HBT.out
            have q0 : ∀ W, (binOp .eql 30 (.agg #[.string ⟨#[]⟩, .string ⟨#[]⟩, .string ⟨#[]⟩, .string ⟨#[]⟩, .string ⟨#[]⟩, .int .i64 0, .int .i64 0, .int .i64 0, .int .i64 0, .int .i64 0, .bool false]) (.agg #[.string ⟨#[]⟩, .string ⟨#[]⟩, .string ⟨#[]⟩, .string ⟨#[]⟩, .string ⟨#[]⟩, .int .i64 0, .int .i64 0, .int .i64 0, .int .i64 0, .int .i64 0, .bool false])).run Tryz.prog W = .ok (.bool true) W := fun W => run_eql_pl W zeroR
            have HCL := Lib.hid hcl; have HQ0 := Lib.hid q0
            clear hcl q0 hE
            go_wp2_with fail
            refine Calls.mono HCL.out ?_
            rintro e t1 ⟨rfl, hb⟩
            have hal := bel_alloc (Below.refl t1.heap.size t1) (.cells #[.string ⟨#[]⟩, .string ⟨#[]⟩, .string ⟨#[]⟩, .string ⟨#[]⟩, .string ⟨#[]⟩, .int .i64 0, .int .i64 0, .int .i64 0, .int .i64 0, .int .i64 0, .bool false] 24)
            have HT1 := Lib.hid (bel_trans (bel_trans HBT.out hb) hal); have HY := Lib.hid (heap_alloc_new t1 (.cells #[.string ⟨#[]⟩, .string ⟨#[]⟩, .string ⟨#[]⟩, .string ⟨#[]⟩, .string ⟨#[]⟩, .int .i64 0, .int .i64 0, .int .i64 0, .int .i64 0, .int .i64 0, .bool false] 24))
            clear hb hal HCL
            go_upto_region 20 with (fail)
            generalize t1.alloc (.cells #[.string ⟨#[]⟩, .string ⟨#[]⟩, .string ⟨#[]⟩, .string ⟨#[]⟩, .string ⟨#[]⟩, .int .i64 0, .int .i64 0, .int .i64 0, .int .i64 0, .int .i64 0, .bool false] 24) = t2 at *
            generalize t1.heap.size = Y17 at *
            go_wp2_with fail
            refine Calls.mono (HFI.out _ HT1.out) ?_
            rintro e t3 ⟨rfl, hb⟩
            have HT3 := Lib.hid (bel_trans HT1.out hb); have HY3 := Lib.hid (Below.at hb HY.out)
            clear hb HT1 HY
            obtain ⟨⟨a0, a1, a2, a3, a4, a5, a6, a7, a8, a9, a10⟩, _⟩ := row11 (r := zeroR) HY3.out
            simp only [zeroR, e0] at a0 a1 a2 a3 a4 a5 a6 a7 a8 a9 a10
            go_wp2_with fail
            refine Calls.mono (plainR_any zeroR _) ?_
            rintro e t4 ⟨he, hb⟩
            replace he : e = .returned (.agg #[.string ⟨#[]⟩, .string ⟨#[]⟩, .string ⟨#[]⟩, .string ⟨#[]⟩, .string ⟨#[]⟩, .int .i64 0, .int .i64 0, .int .i64 0, .int .i64 0, .int .i64 0, .bool false]) := he
            subst he
            have HT4 := Lib.hid (bel_trans HT3.out hb)
            clear hb HT3
            have q0 := HQ0.out
            go_wp2_with fail
            go_ret
            exact ⟨rfl, HT4.out⟩
          case pos =>
            subst hE
            have hrb := read_back (s := s) (by rw [HQ.out])
            rw [HQ.out] at hrb
            obtain ⟨P2, E2, hp2⟩ : ∃ P2 E2, pprintB q = (P2, E2) := ⟨_, _, rfl⟩
            have h1 := hrb.1
            simp only [hp2] at h1
            subst h1
            have hrp : P2.length ≤ 20000 → preqB ⟨P2.toArray⟩ = (q, 0) := fun h => by
              have := read_print (r := q) (by rw [hp2]) (by rw [hp2]; exact h)
              rw [hp2] at this
              exact this
            have hcl := HP.out _ HBT.out
            have HCL := Lib.hid hcl; have HSQ := Lib.hid hrb.2; have HP2 := Lib.hid hp2; have HRP := Lib.hid hrp
            clear hcl hrb hp2 hrp
            go_wp2_with fail
            refine Calls.mono HCL.out ?_
            rintro e t1 ⟨rfl, hb⟩
            have hal := bel_alloc (Below.refl t1.heap.size t1) (.cells #[.string q.op, .string q.user, .string q.feed, .string q.name, .string q.token, .int .i64 q.tx, .int .i64 q.entry, .int .i64 q.after, .int .i64 q.limit, .int .i64 q.before, .bool q.on] 24)
            have HT1 := Lib.hid (bel_trans (bel_trans HBT.out hb) hal); have HY := Lib.hid (heap_alloc_new t1 (.cells #[.string q.op, .string q.user, .string q.feed, .string q.name, .string q.token, .int .i64 q.tx, .int .i64 q.entry, .int .i64 q.after, .int .i64 q.limit, .int .i64 q.before, .bool q.on] 24))
            clear hb hal HCL
            go_upto_region 20 with (fail)
            generalize t1.alloc (.cells #[.string q.op, .string q.user, .string q.feed, .string q.name, .string q.token, .int .i64 q.tx, .int .i64 q.entry, .int .i64 q.after, .int .i64 q.limit, .int .i64 q.before, .bool q.on] 24) = t2 at *
            generalize t1.heap.size = Y17 at *
            obtain ⟨⟨a0, a1, a2, a3, a4, a5, a6, a7, a8, a9, a10⟩, _⟩ := row11 (r := q) HY.out
            have hpq := pprint_l q t2 (HT.out.below HT1.out) HSQ.out HP2.out
            have HPQ := Lib.hid hpq
            clear hpq
            go_wp2_with fail
            refine Calls.mono HPQ.out ?_
            rintro e t3 ⟨⟨A19, c19, rfl, _, hbs⟩, hb⟩
            have HT3 := Lib.hid (bel_trans HT1.out hb); have HY3 := Lib.hid (Below.at hb HY.out); have HX3 := Lib.hid hbs
            clear hb hbs HT1 HY HPQ a0 a1 a2 a3 a4 a5 a6 a7 a8 a9 a10
            by_cases hlong : P2.length ≤ 20000
            case pos =>
              have hcl := pparse_l _ _ _ t3 (HT.out.below HT3.out) HX3.out (HRP.out hlong)
              have HCL := Lib.hid hcl
              clear hcl
              go_wp2_with fail
              refine Calls.mono HCL.out ?_
              rintro e t4 ⟨rfl, hb⟩
              have hal := bel_alloc (Below.refl t4.heap.size t4) (.cells #[.string q.op, .string q.user, .string q.feed, .string q.name, .string q.token, .int .i64 q.tx, .int .i64 q.entry, .int .i64 q.after, .int .i64 q.limit, .int .i64 q.before, .bool q.on] 24)
              have hb2 := bel_trans hb hal
              have HT5 := Lib.hid (bel_trans HT3.out hb2); have HY5 := Lib.hid (Below.at hb2 HY3.out); have HZ5 := Lib.hid (heap_alloc_new t4 (.cells #[.string q.op, .string q.user, .string q.feed, .string q.name, .string q.token, .int .i64 q.tx, .int .i64 q.entry, .int .i64 q.after, .int .i64 q.limit, .int .i64 q.before, .bool q.on] 24))
              clear hb hal hb2 HCL HT3 HY3 HX3
              go_upto_region 24 with (fail)
              generalize t4.alloc (.cells #[.string q.op, .string q.user, .string q.feed, .string q.name, .string q.token, .int .i64 q.tx, .int .i64 q.entry, .int .i64 q.after, .int .i64 q.limit, .int .i64 q.before, .bool q.on] 24) = t5 at *
              generalize t4.heap.size = Y21 at *
              have q1 : decide ((20000 : Int) < (P2.length : Int)) = false := decide_eq_false (by omega)
              have q0 := fun W => run_eql_pl W q
              clear hlong
              have hrc : ∀ w2, Lat t5.drew w2 → w2.heap[Y21]? = some (.cells (rqC q) 24 (0, 0)) ∧ w2.heap[Y17]? = some (.cells (rqC q) 24 (0, 0)) := fun w2 hE => ⟨Below.at (w := t5.drew) hE HZ5.out, Below.at (w := t5.drew) hE HY5.out⟩
              have HRC := Lib.hid hrc
              have HBV := Lib.hid (bel_drew HT5.out)
              clear hrc HT5 HY5 HZ5
              refine wp_region_E (by kernel_rfl) ?_
              generalize t5.drew = V5 at *
              refine wpAnyE_t 0 (v := ?_) rfl ?_ ?_
              rotate_left
              · intro w2 hE
                obtain ⟨⟨a0, a1, a2, a3, a4, a5, a6, a7, a8, a9, a10⟩, _⟩ := row11 (HRC.out w2 hE).1
                obtain ⟨⟨b0, b1, b2, b3, b4, b5, b6, b7, b8, b9, b10⟩, _⟩ := row11 (HRC.out w2 hE).2
                go_simp
                exact HFI.out _ (bel_trans HBV.out hE)
              try simp only [lay]
              refine wpAnyE_t 1 (v := ?_) rfl ?_ ?_
              rotate_left
              · intro w2 hE
                obtain ⟨⟨a0, a1, a2, a3, a4, a5, a6, a7, a8, a9, a10⟩, _⟩ := row11 (HRC.out w2 hE).1
                obtain ⟨⟨b0, b1, b2, b3, b4, b5, b6, b7, b8, b9, b10⟩, _⟩ := row11 (HRC.out w2 hE).2
                go_simp
                try (with_reducible rfl)
              try simp only [lay]
              refine wpAnyE_t 2 (v := ?_) rfl ?_ ?_
              rotate_left
              · intro w2 hE
                obtain ⟨⟨a0, a1, a2, a3, a4, a5, a6, a7, a8, a9, a10⟩, _⟩ := row11 (HRC.out w2 hE).1
                obtain ⟨⟨b0, b1, b2, b3, b4, b5, b6, b7, b8, b9, b10⟩, _⟩ := row11 (HRC.out w2 hE).2
                go_simp
                try (with_reducible rfl)
              try simp only [lay]
              refine wpAnyE_t 3 (v := ?_) rfl ?_ ?_
              rotate_left
              · intro w2 hE
                obtain ⟨⟨a0, a1, a2, a3, a4, a5, a6, a7, a8, a9, a10⟩, _⟩ := row11 (HRC.out w2 hE).1
                obtain ⟨⟨b0, b1, b2, b3, b4, b5, b6, b7, b8, b9, b10⟩, _⟩ := row11 (HRC.out w2 hE).2
                go_simp
                try (with_reducible rfl)
              try simp only [lay]
              refine wpAnyE_t 4 (v := ?_) rfl ?_ ?_
              rotate_left
              · intro w2 hE
                obtain ⟨⟨a0, a1, a2, a3, a4, a5, a6, a7, a8, a9, a10⟩, _⟩ := row11 (HRC.out w2 hE).1
                obtain ⟨⟨b0, b1, b2, b3, b4, b5, b6, b7, b8, b9, b10⟩, _⟩ := row11 (HRC.out w2 hE).2
                go_simp
                try (with_reducible rfl)
              try simp only [lay]
              refine wpAnyE_t 5 (v := ?_) rfl ?_ ?_
              rotate_left
              · intro w2 hE
                obtain ⟨⟨a0, a1, a2, a3, a4, a5, a6, a7, a8, a9, a10⟩, _⟩ := row11 (HRC.out w2 hE).1
                obtain ⟨⟨b0, b1, b2, b3, b4, b5, b6, b7, b8, b9, b10⟩, _⟩ := row11 (HRC.out w2 hE).2
                go_simp
                try (with_reducible rfl)
              try simp only [lay]
              refine wpAnyE_t 6 (v := ?_) rfl ?_ ?_
              rotate_left
              · intro w2 hE
                obtain ⟨⟨a0, a1, a2, a3, a4, a5, a6, a7, a8, a9, a10⟩, _⟩ := row11 (HRC.out w2 hE).1
                obtain ⟨⟨b0, b1, b2, b3, b4, b5, b6, b7, b8, b9, b10⟩, _⟩ := row11 (HRC.out w2 hE).2
                go_simp
                try (with_reducible rfl)
              try simp only [lay]
              refine wpAnyE_t 7 (v := ?_) rfl ?_ ?_
              rotate_left
              · intro w2 hE
                obtain ⟨⟨a0, a1, a2, a3, a4, a5, a6, a7, a8, a9, a10⟩, _⟩ := row11 (HRC.out w2 hE).1
                obtain ⟨⟨b0, b1, b2, b3, b4, b5, b6, b7, b8, b9, b10⟩, _⟩ := row11 (HRC.out w2 hE).2
                go_simp
                try (with_reducible rfl)
              try simp only [lay]
              refine wpAnyE_t 8 (v := ?_) rfl ?_ ?_
              rotate_left
              · intro w2 hE
                obtain ⟨⟨a0, a1, a2, a3, a4, a5, a6, a7, a8, a9, a10⟩, _⟩ := row11 (HRC.out w2 hE).1
                obtain ⟨⟨b0, b1, b2, b3, b4, b5, b6, b7, b8, b9, b10⟩, _⟩ := row11 (HRC.out w2 hE).2
                go_simp
                try (with_reducible rfl)
              try simp only [lay]
              refine wpAnyE_t 9 (v := ?_) rfl ?_ ?_
              rotate_left
              · intro w2 hE
                obtain ⟨⟨a0, a1, a2, a3, a4, a5, a6, a7, a8, a9, a10⟩, _⟩ := row11 (HRC.out w2 hE).1
                obtain ⟨⟨b0, b1, b2, b3, b4, b5, b6, b7, b8, b9, b10⟩, _⟩ := row11 (HRC.out w2 hE).2
                go_simp
                try (with_reducible rfl)
              try simp only [lay]
              refine wpAnyE_t 10 (v := ?_) rfl ?_ ?_
              rotate_left
              · intro w2 hE
                obtain ⟨⟨a0, a1, a2, a3, a4, a5, a6, a7, a8, a9, a10⟩, _⟩ := row11 (HRC.out w2 hE).1
                obtain ⟨⟨b0, b1, b2, b3, b4, b5, b6, b7, b8, b9, b10⟩, _⟩ := row11 (HRC.out w2 hE).2
                go_simp
                try (with_reducible rfl)
              try simp only [lay]
              refine wpAnyE_t 11 (v := ?_) rfl ?_ ?_
              rotate_left
              · intro w2 hE
                obtain ⟨⟨a0, a1, a2, a3, a4, a5, a6, a7, a8, a9, a10⟩, _⟩ := row11 (HRC.out w2 hE).1
                obtain ⟨⟨b0, b1, b2, b3, b4, b5, b6, b7, b8, b9, b10⟩, _⟩ := row11 (HRC.out w2 hE).2
                go_simp
                try (with_reducible rfl)
              try simp only [lay]
              refine wpAnyE_t 12 (v := ?_) rfl ?_ ?_
              rotate_left
              · intro w2 hE
                obtain ⟨⟨a0, a1, a2, a3, a4, a5, a6, a7, a8, a9, a10⟩, _⟩ := row11 (HRC.out w2 hE).1
                obtain ⟨⟨b0, b1, b2, b3, b4, b5, b6, b7, b8, b9, b10⟩, _⟩ := row11 (HRC.out w2 hE).2
                go_simp
                try (with_reducible rfl)
              try simp only [lay]
              refine wpAnyE_t 13 (v := ?_) rfl ?_ ?_
              rotate_left
              · intro w2 hE
                obtain ⟨⟨a0, a1, a2, a3, a4, a5, a6, a7, a8, a9, a10⟩, _⟩ := row11 (HRC.out w2 hE).1
                obtain ⟨⟨b0, b1, b2, b3, b4, b5, b6, b7, b8, b9, b10⟩, _⟩ := row11 (HRC.out w2 hE).2
                go_simp
                try (with_reducible rfl)
              try simp only [lay]
              refine wpAnyE_t 14 (v := ?_) rfl ?_ ?_
              rotate_left
              · intro w2 hE
                obtain ⟨⟨a0, a1, a2, a3, a4, a5, a6, a7, a8, a9, a10⟩, _⟩ := row11 (HRC.out w2 hE).1
                obtain ⟨⟨b0, b1, b2, b3, b4, b5, b6, b7, b8, b9, b10⟩, _⟩ := row11 (HRC.out w2 hE).2
                go_simp
                exact plainR_any _ _
              try simp only [lay]
              refine wpAnyE_t 15 (v := ?_) rfl ?_ ?_
              rotate_left
              · intro w2 hE
                obtain ⟨⟨a0, a1, a2, a3, a4, a5, a6, a7, a8, a9, a10⟩, _⟩ := row11 (HRC.out w2 hE).1
                obtain ⟨⟨b0, b1, b2, b3, b4, b5, b6, b7, b8, b9, b10⟩, _⟩ := row11 (HRC.out w2 hE).2
                go_simp
                try (with_reducible rfl)
              try simp only [lay]
              refine wpAnyE_t 16 (v := ?_) rfl ?_ ?_
              rotate_left
              · intro w2 hE
                obtain ⟨⟨a0, a1, a2, a3, a4, a5, a6, a7, a8, a9, a10⟩, _⟩ := row11 (HRC.out w2 hE).1
                obtain ⟨⟨b0, b1, b2, b3, b4, b5, b6, b7, b8, b9, b10⟩, _⟩ := row11 (HRC.out w2 hE).2
                go_simp
                exact plainR_any _ _
              try simp only [lay]
              refine wpAnyE_t 17 (v := ?_) rfl ?_ ?_
              rotate_left
              · intro w2 hE
                obtain ⟨⟨a0, a1, a2, a3, a4, a5, a6, a7, a8, a9, a10⟩, _⟩ := row11 (HRC.out w2 hE).1
                obtain ⟨⟨b0, b1, b2, b3, b4, b5, b6, b7, b8, b9, b10⟩, _⟩ := row11 (HRC.out w2 hE).2
                go_simp
                try (with_reducible rfl)
              try simp only [lay]
              refine wpAnyE_t 18 (v := ?_) rfl ?_ ?_
              rotate_left
              · intro w2 hE
                obtain ⟨⟨a0, a1, a2, a3, a4, a5, a6, a7, a8, a9, a10⟩, _⟩ := row11 (HRC.out w2 hE).1
                obtain ⟨⟨b0, b1, b2, b3, b4, b5, b6, b7, b8, b9, b10⟩, _⟩ := row11 (HRC.out w2 hE).2
                go_simp
                try (with_reducible rfl)
              try simp only [lay]
              refine wpAnyE_t 19 (v := ?_) rfl ?_ ?_
              rotate_left
              · intro w2 hE
                obtain ⟨⟨a0, a1, a2, a3, a4, a5, a6, a7, a8, a9, a10⟩, _⟩ := row11 (HRC.out w2 hE).1
                obtain ⟨⟨b0, b1, b2, b3, b4, b5, b6, b7, b8, b9, b10⟩, _⟩ := row11 (HRC.out w2 hE).2
                go_simp
                try (with_reducible rfl)
              try simp only [lay]
              refine wpAnyE_t 20 (v := ?_) rfl ?_ ?_
              rotate_left
              · intro w2 hE
                obtain ⟨⟨a0, a1, a2, a3, a4, a5, a6, a7, a8, a9, a10⟩, _⟩ := row11 (HRC.out w2 hE).1
                obtain ⟨⟨b0, b1, b2, b3, b4, b5, b6, b7, b8, b9, b10⟩, _⟩ := row11 (HRC.out w2 hE).2
                go_simp
                try (with_reducible rfl)
              try simp only [lay]
              refine wpAnyE_t 21 (v := ?_) rfl ?_ ?_
              rotate_left
              · intro w2 hE
                obtain ⟨⟨a0, a1, a2, a3, a4, a5, a6, a7, a8, a9, a10⟩, _⟩ := row11 (HRC.out w2 hE).1
                obtain ⟨⟨b0, b1, b2, b3, b4, b5, b6, b7, b8, b9, b10⟩, _⟩ := row11 (HRC.out w2 hE).2
                go_simp
                try (with_reducible rfl)
              try simp only [lay]
              refine wpAnyE_done (by kernel_rfl) (fun w6 hE6 => ?_) _
              have HB6 := Lib.hid (bel_trans HBV.out hE6)
              clear hE6
              go_wp2_with fail
              go_ret
              exact ⟨rfl, HB6.out⟩
            case neg =>
              obtain ⟨q3, E3, h3⟩ : ∃ q3 E3, preqB ⟨P2.toArray⟩ = (q3, E3) := ⟨_, _, rfl⟩
              have hcl := pparse_l _ _ _ t3 (HT.out.below HT3.out) HX3.out h3
              have HCL := Lib.hid hcl
              clear hcl h3
              go_wp2_with fail
              refine Calls.mono HCL.out ?_
              rintro e t4 ⟨rfl, hb⟩
              have hal := bel_alloc (Below.refl t4.heap.size t4) (.cells #[.string q3.op, .string q3.user, .string q3.feed, .string q3.name, .string q3.token, .int .i64 q3.tx, .int .i64 q3.entry, .int .i64 q3.after, .int .i64 q3.limit, .int .i64 q3.before, .bool q3.on] 24)
              have hb2 := bel_trans hb hal
              have HT5 := Lib.hid (bel_trans HT3.out hb2); have HY5 := Lib.hid (Below.at hb2 HY3.out)
              clear hb hal hb2 HCL HT3 HY3 HX3
              go_upto_region 24 with (fail)
              generalize t4.alloc (.cells #[.string q3.op, .string q3.user, .string q3.feed, .string q3.name, .string q3.token, .int .i64 q3.tx, .int .i64 q3.entry, .int .i64 q3.after, .int .i64 q3.limit, .int .i64 q3.before, .bool q3.on] 24) = t5 at *
              generalize t4.heap.size = Y21 at *
              have q1 : decide ((20000 : Int) < (P2.length : Int)) = true := decide_eq_true (by omega)
              clear hlong
              have HBV := Lib.hid (bel_drew HT5.out)
              clear HT5 HY5
              refine wp_region_E (by kernel_rfl) ?_
              generalize t5.drew = V5 at *
              refine wpAnyE_t 0 (v := ?_) rfl ?_ ?_
              rotate_left
              · intro w2 hE
                go_simp
                exact HFI.out _ (bel_trans HBV.out hE)
              try simp only [lay]
              refine wpAnyE_t 1 (v := ?_) rfl ?_ ?_
              rotate_left
              · intro w2 hE
                go_simp
                try (with_reducible rfl)
              try simp only [lay]
              refine wpAnyE_t 2 (v := ?_) rfl ?_ ?_
              rotate_left
              · intro w2 hE
                go_simp
                try (with_reducible rfl)
              try simp only [lay]
              refine wpAnyE_t 3 (v := ?_) rfl ?_ ?_
              rotate_left
              · intro w2 hE
                go_simp
                try (with_reducible rfl)
              try simp only [lay]
              refine wpAnyE_t 4 (v := ?_) rfl ?_ ?_
              rotate_left
              · intro w2 hE
                go_simp
                try (with_reducible rfl)
              try simp only [lay]
              refine wpAnyE_t 5 (v := ?_) rfl ?_ ?_
              rotate_left
              · intro w2 hE
                go_simp
                try (with_reducible rfl)
              try simp only [lay]
              refine wpAnyE_t 6 (v := ?_) rfl ?_ ?_
              rotate_left
              · intro w2 hE
                go_simp
                try (with_reducible rfl)
              try simp only [lay]
              refine wpAnyE_t 7 (v := ?_) rfl ?_ ?_
              rotate_left
              · intro w2 hE
                go_simp
                try (with_reducible rfl)
              try simp only [lay]
              refine wpAnyE_t 8 (v := ?_) rfl ?_ ?_
              rotate_left
              · intro w2 hE
                go_simp
                try (with_reducible rfl)
              try simp only [lay]
              refine wpAnyE_t 9 (v := ?_) rfl ?_ ?_
              rotate_left
              · intro w2 hE
                go_simp
                try (with_reducible rfl)
              try simp only [lay]
              refine wpAnyE_s 10 rfl ?_
              try simp only [lay]
              refine wpAnyE_s 11 rfl ?_
              try simp only [lay]
              refine wpAnyE_s 12 rfl ?_
              try simp only [lay]
              refine wpAnyE_s 13 rfl ?_
              try simp only [lay]
              refine wpAnyE_s 14 rfl ?_
              try simp only [lay]
              refine wpAnyE_s 15 rfl ?_
              try simp only [lay]
              refine wpAnyE_s 16 rfl ?_
              try simp only [lay]
              refine wpAnyE_s 17 rfl ?_
              try simp only [lay]
              refine wpAnyE_s 18 rfl ?_
              try simp only [lay]
              refine wpAnyE_t 19 (v := ?_) rfl ?_ ?_
              rotate_left
              · intro w2 hE
                go_simp
                try (with_reducible rfl)
              try simp only [lay]
              refine wpAnyE_t 20 (v := ?_) rfl ?_ ?_
              rotate_left
              · intro w2 hE
                go_simp
                try (with_reducible rfl)
              try simp only [lay]
              refine wpAnyE_t 21 (v := ?_) rfl ?_ ?_
              rotate_left
              · intro w2 hE
                go_simp
                try (with_reducible rfl)
              try simp only [lay]
              refine wpAnyE_done (by kernel_rfl) (fun w6 hE6 => ?_) _
              have HB6 := Lib.hid (bel_trans HBV.out hE6)
              clear hE6
              go_wp2_with fail
              go_ret
              exact ⟨rfl, HB6.out⟩
      case pos =>
        obtain ⟨rfl, hpl0⟩ := hgo
        have hpl : decide ((N : Int) ≤ 19980) = true := decide_eq_true (by omega)
        have HPL := Lib.hid hpl0
        clear hpl
        obtain ⟨k, rfl, hk1⟩ : ∃ k, N = k + 1 ∧ 1 ≤ k := by
          have h2 := print_two (r := r) (by rw [HPR.out])
          rw [HPR.out] at h2
          have := HN.out
          exact ⟨N - 1, by simp only at h2; omega, by simp only at h2; omega⟩
        have hpl : decide ((k : Int) + 1 ≤ 19980) = true := decide_eq_true (by omega)
        have hrp := read_print (r := r) (by rw [HPR.out]) (by rw [HPR.out]; show P.length ≤ 20000; have := HN.out; omega)
        rw [HPR.out] at hrp
        have hcl := pparse_l _ _ _ w3 (HT.out.below HB3.out) HX.out hrp
        have HCL := Lib.hid hcl
        clear hpl0 hrp hcl
        go_wp2_with fail
        refine Calls.mono HCL.out ?_
        rintro e w4 ⟨rfl, hb⟩
        have hal := bel_alloc (Below.refl w4.heap.size w4) (.cells #[.string r.op, .string r.user, .string r.feed, .string r.name, .string r.token, .int .i64 r.tx, .int .i64 r.entry, .int .i64 r.after, .int .i64 r.limit, .int .i64 r.before, .bool r.on] 24)
        have hb2 := bel_trans hb hal
        have HB4 := Lib.hid (bel_trans HB3.out hb2); have HA4 := Lib.hid (Below.at hb2 HA3.out); have HX4 := Lib.hid (bslB HX.out hb2); have HY4 := Lib.hid (heap_alloc_new w4 (.cells #[.string r.op, .string r.user, .string r.feed, .string r.name, .string r.token, .int .i64 r.tx, .int .i64 r.entry, .int .i64 r.after, .int .i64 r.limit, .int .i64 r.before, .bool r.on] 24))
        clear hal hb hb2 HB3 HA3 HX HCL hpl
        go_upto_region 8 with (fail)
        generalize w4.alloc (.cells #[.string r.op, .string r.user, .string r.feed, .string r.name, .string r.token, .int .i64 r.tx, .int .i64 r.entry, .int .i64 r.after, .int .i64 r.limit, .int .i64 r.before, .bool r.on] 24) = W4 at *
        generalize w4.heap.size = X7 at *
        have hrc : ∀ w2, Lat W4.drew w2 → w2.heap[X7]? = some (.cells (rqC r) 24 (0, 0)) ∧ w2.heap[w.heap.size]? = some (.cells (rqC r) 24 (0, 0)) := fun w2 hE => ⟨Below.at (w := W4.drew) hE HY4.out, Below.at (w := W4.drew) hE HA4.out⟩
        have HRC := Lib.hid hrc
        have q0 := fun W => run_neq_pl W r
        have q1 : decide ((k : Int) + 1 < 2) = false := decide_eq_false (by omega)
        have HBV := Lib.hid (bel_drew HB4.out); have HXV := Lib.hid (bslB HX4.out (bel_drew (Below.refl _ _))); have HAV := Lib.hid (show W4.drew.heap[w.heap.size]? = _ from HA4.out)
        clear hrc HB4 HX4 HA4 HY4
        refine wp_region_E (by kernel_rfl) ?_
        generalize W4.drew = V4 at *
        refine wpAnyE_t 0 (v := ?_) rfl ?_ ?_
        rotate_left
        · intro w2 hE
          obtain ⟨⟨a0, a1, a2, a3, a4, a5, a6, a7, a8, a9, a10⟩, _⟩ := row11 (HRC.out w2 hE).1
          obtain ⟨⟨b0, b1, b2, b3, b4, b5, b6, b7, b8, b9, b10⟩, _⟩ := row11 (HRC.out w2 hE).2
          go_simp
          try (with_reducible rfl)
        try simp only [lay]
        refine wpAnyE_t 1 (v := ?_) rfl ?_ ?_
        rotate_left
        · intro w2 hE
          obtain ⟨⟨a0, a1, a2, a3, a4, a5, a6, a7, a8, a9, a10⟩, _⟩ := row11 (HRC.out w2 hE).1
          obtain ⟨⟨b0, b1, b2, b3, b4, b5, b6, b7, b8, b9, b10⟩, _⟩ := row11 (HRC.out w2 hE).2
          go_simp
          try (with_reducible rfl)
        try simp only [lay]
        refine wpAnyE_t 2 (v := ?_) rfl ?_ ?_
        rotate_left
        · intro w2 hE
          obtain ⟨⟨a0, a1, a2, a3, a4, a5, a6, a7, a8, a9, a10⟩, _⟩ := row11 (HRC.out w2 hE).1
          obtain ⟨⟨b0, b1, b2, b3, b4, b5, b6, b7, b8, b9, b10⟩, _⟩ := row11 (HRC.out w2 hE).2
          go_simp
          try (with_reducible rfl)
        try simp only [lay]
        refine wpAnyE_t 3 (v := ?_) rfl ?_ ?_
        rotate_left
        · intro w2 hE
          obtain ⟨⟨a0, a1, a2, a3, a4, a5, a6, a7, a8, a9, a10⟩, _⟩ := row11 (HRC.out w2 hE).1
          obtain ⟨⟨b0, b1, b2, b3, b4, b5, b6, b7, b8, b9, b10⟩, _⟩ := row11 (HRC.out w2 hE).2
          go_simp
          try (with_reducible rfl)
        try simp only [lay]
        refine wpAnyE_t 4 (v := ?_) rfl ?_ ?_
        rotate_left
        · intro w2 hE
          obtain ⟨⟨a0, a1, a2, a3, a4, a5, a6, a7, a8, a9, a10⟩, _⟩ := row11 (HRC.out w2 hE).1
          obtain ⟨⟨b0, b1, b2, b3, b4, b5, b6, b7, b8, b9, b10⟩, _⟩ := row11 (HRC.out w2 hE).2
          go_simp
          exact plainR_any _ _
        try simp only [lay]
        refine wpAnyE_t 5 (v := ?_) rfl ?_ ?_
        rotate_left
        · intro w2 hE
          obtain ⟨⟨a0, a1, a2, a3, a4, a5, a6, a7, a8, a9, a10⟩, _⟩ := row11 (HRC.out w2 hE).1
          obtain ⟨⟨b0, b1, b2, b3, b4, b5, b6, b7, b8, b9, b10⟩, _⟩ := row11 (HRC.out w2 hE).2
          go_simp
          try (with_reducible rfl)
        try simp only [lay]
        refine wpAnyE_t 6 (v := ?_) rfl ?_ ?_
        rotate_left
        · intro w2 hE
          obtain ⟨⟨a0, a1, a2, a3, a4, a5, a6, a7, a8, a9, a10⟩, _⟩ := row11 (HRC.out w2 hE).1
          obtain ⟨⟨b0, b1, b2, b3, b4, b5, b6, b7, b8, b9, b10⟩, _⟩ := row11 (HRC.out w2 hE).2
          go_simp
          exact plainR_any _ _
        try simp only [lay]
        refine wpAnyE_t 7 (v := ?_) rfl ?_ ?_
        rotate_left
        · intro w2 hE
          obtain ⟨⟨a0, a1, a2, a3, a4, a5, a6, a7, a8, a9, a10⟩, _⟩ := row11 (HRC.out w2 hE).1
          obtain ⟨⟨b0, b1, b2, b3, b4, b5, b6, b7, b8, b9, b10⟩, _⟩ := row11 (HRC.out w2 hE).2
          go_simp
          try (with_reducible rfl)
        try simp only [lay]
        refine wpAnyE_t 8 (v := ?_) rfl ?_ ?_
        rotate_left
        · intro w2 hE
          obtain ⟨⟨a0, a1, a2, a3, a4, a5, a6, a7, a8, a9, a10⟩, _⟩ := row11 (HRC.out w2 hE).1
          obtain ⟨⟨b0, b1, b2, b3, b4, b5, b6, b7, b8, b9, b10⟩, _⟩ := row11 (HRC.out w2 hE).2
          go_simp
          try (with_reducible rfl)
        try simp only [lay]
        refine wpAnyE_t 9 (v := ?_) rfl ?_ ?_
        rotate_left
        · intro w2 hE
          obtain ⟨⟨a0, a1, a2, a3, a4, a5, a6, a7, a8, a9, a10⟩, _⟩ := row11 (HRC.out w2 hE).1
          obtain ⟨⟨b0, b1, b2, b3, b4, b5, b6, b7, b8, b9, b10⟩, _⟩ := row11 (HRC.out w2 hE).2
          go_simp
          try (with_reducible rfl)
        try simp only [lay]
        refine wpAnyE_t 10 (v := ?_) rfl ?_ ?_
        rotate_left
        · intro w2 hE
          obtain ⟨⟨a0, a1, a2, a3, a4, a5, a6, a7, a8, a9, a10⟩, _⟩ := row11 (HRC.out w2 hE).1
          obtain ⟨⟨b0, b1, b2, b3, b4, b5, b6, b7, b8, b9, b10⟩, _⟩ := row11 (HRC.out w2 hE).2
          go_simp
          try (with_reducible rfl)
        try simp only [lay]
        refine wpAnyE_t 11 (v := ?_) rfl ?_ ?_
        rotate_left
        · intro w2 hE
          obtain ⟨⟨a0, a1, a2, a3, a4, a5, a6, a7, a8, a9, a10⟩, _⟩ := row11 (HRC.out w2 hE).1
          obtain ⟨⟨b0, b1, b2, b3, b4, b5, b6, b7, b8, b9, b10⟩, _⟩ := row11 (HRC.out w2 hE).2
          go_simp
          try (with_reducible rfl)
        try simp only [lay]
        refine wpAnyE_t 12 (v := ?_) rfl ?_ ?_
        rotate_left
        · intro w2 hE
          obtain ⟨⟨a0, a1, a2, a3, a4, a5, a6, a7, a8, a9, a10⟩, _⟩ := row11 (HRC.out w2 hE).1
          obtain ⟨⟨b0, b1, b2, b3, b4, b5, b6, b7, b8, b9, b10⟩, _⟩ := row11 (HRC.out w2 hE).2
          go_simp
          try (with_reducible rfl)
        try simp only [lay]
        refine wpAnyE_t 13 (v := ?_) rfl ?_ ?_
        rotate_left
        · intro w2 hE
          obtain ⟨⟨a0, a1, a2, a3, a4, a5, a6, a7, a8, a9, a10⟩, _⟩ := row11 (HRC.out w2 hE).1
          obtain ⟨⟨b0, b1, b2, b3, b4, b5, b6, b7, b8, b9, b10⟩, _⟩ := row11 (HRC.out w2 hE).2
          go_simp
          try (with_reducible rfl)
        try simp only [lay]
        refine wpAnyE_done (by kernel_rfl) (fun w6 hE6 => ?_) _
        have HB6 := Lib.hid (bel_trans HBV.out hE6); have HX6 := Lib.hid (bslB HXV.out hE6)
        clear hE6 HBV HXV HAV HRC q0 q1
        have hcp : k ≤ c5 := by have := HCAP.out; omega
        have hPk : P.take k = P.dropLast := by rw [List.dropLast_eq_take, HN.out]; rfl
        have hcv := (bsl_take (k := k) HX6.out (by have := HN.out; omega)).conv
        rw [hPk] at hcv
        obtain ⟨D, hD⟩ : ∃ D, P.dropLast = D := ⟨_, rfl⟩
        have hDl : D.length ≤ 20000 := by rw [← hD, List.length_dropLast, HN.out]; have := HPL.out; omega
        obtain ⟨T9, hT9⟩ : ∃ T, D ++ [44, 34, 122, 122, 34, 58, 49, 125] = T := ⟨_, rfl⟩
        have hm9 := read_more (r := r) (by rw [HPR.out]) (by rw [HPR.out]; show P.length ≤ 19980; have := HN.out; have := HPL.out; omega)
        rw [HPR.out] at hm9
        simp only [hD, hT9] at hm9
        rw [hD] at hcv
        have hc1 := fun W => str_sum (P := Tryz.prog) D [44, 34, 122, 122, 34, 58, 49, 125] W (by simp only [List.length_cons, List.length_nil]; omega)
        rw [hT9] at hc1
        have HCV := Lib.hid hcv; have HC1 := Lib.hid hc1; have HM9 := Lib.hid hm9
        clear hcv hc1 hm9 hPk hD hDl hT9
        have hwk : wrap64 (k : Int) = (k : Int) := w64_p (by omega) (by have := HPL.out; omega)
        go_wp2_with fail
        rw [HCV.out]
        simp only [Result.andThen]
        rw [Oper.upon_value]
        have c1 := HC1.out
        go_wp2_with fail
        clear c1
        rw [run_bytes_of_string w6 _ _ 5 _ Tryz.underlying9 Tryz.underlying22 Tryz.underlying5]
        simp only [Result.andThen]
        rw [Oper.upon_value]
        have hbs := bs_string w6 T9 5
        have hb7 := fun o => (bel_drew HB6.out).alloc (B := w.heap.size) (by have := HB6.out.size; exact this) o
        have hbl := fun o => bel_alloc (bel_drew (Below.refl w6.heap.size w6)) o
        have HS7 := Lib.hid hbs; have HB7 := Lib.hid hb7; have HL7 := Lib.hid hbl
        clear hbs hb7 hbl
        go_wp2_with fail
        have hpa := fun c cc fz => pparse_l ⟨T9.toArray⟩ _ (fun _ => True) _ (HT.out.below (HB7.out _)) (HS7.out c cc fz) HM9.out
        refine Calls.mono (hpa _ _ _) ?_
        rintro e w8 ⟨rfl, hb0⟩
        have hal := bel_alloc (Below.refl w8.heap.size w8) (.cells #[.string zeroR.op, .string zeroR.user, .string zeroR.feed, .string zeroR.name, .string zeroR.token, .int .i64 zeroR.tx, .int .i64 zeroR.entry, .int .i64 zeroR.after, .int .i64 zeroR.limit, .int .i64 zeroR.before, .bool zeroR.on] 24)
        have hb2 := bel_trans (bel_trans (HL7.out _) hb0) hal
        have HB9 := Lib.hid (bel_trans HB6.out hb2); have HX9 := Lib.hid (bslB HX6.out hb2)
        clear hpa hb0 hal hb2 HS7 HB7 HL7 HB6 HX6 HM9 HC1 HCV
        go_upto_region 11 with (fail)
        generalize w8.alloc (.cells #[.string zeroR.op, .string zeroR.user, .string zeroR.feed, .string zeroR.name, .string zeroR.token, .int .i64 zeroR.tx, .int .i64 zeroR.entry, .int .i64 zeroR.after, .int .i64 zeroR.limit, .int .i64 zeroR.before, .bool zeroR.on] 24) = W9 at *
        generalize w8.heap.size = X9 at *
        obtain ⟨m, qm, hsn, hmn, hm1, hm2, hm3⟩ := read_less (r := r) (by rw [HPR.out]) (by rw [HPR.out]; show P.length ≤ 19980; have := HN.out; have := HPL.out; omega)
        have hpo : parseB ⟨P.toArray⟩ = (JV.mk 7 0 ⟨#[]⟩ [] (m ++ [qm]), 0) := by
          obtain ⟨_, _, h3, h4⟩ := pp_ok (r := r) (by rw [HPR.out])
          rw [HPR.out] at h4
          have h5 : P = printB 64 (objR r) := h4
          have h6 : objR r = JV.mk 7 0 ⟨#[]⟩ [] (m ++ [qm]) := by unfold objR; rw [hsn]
          rw [h6] at h3 h5
          rw [h5]
          exact parse_print h3 (by rw [← h5]; have := HN.out; have := HPL.out; omega)
        have hpa := parse_any ⟨P.toArray⟩ _ _ W9 (HT.out.below HB9.out) HX9.out
        unfold PRes at hpa
        rw [hpo] at hpa
        simp only [JV.k, JV.n, JV.s] at hpa
        obtain ⟨j, hj⟩ : ∃ j, m.length = j + 1 := ⟨m.length - 1, by cases m with | nil => exact absurd rfl hmn | cons a b => simp⟩
        have HPA := Lib.hid hpa; have HM1 := Lib.hid hm1; have HM2 := Lib.hid hm2; have HM3 := Lib.hid hm3; have HJ := Lib.hid hj; have HMN := Lib.hid hmn
        clear hsn hpo hpa hm1 hm2 hm3 hj hmn
        go_wp2_with fail
        refine Calls.mono HPA.out ?_
        rintro e w10 ⟨A1, n1, c1, A2, n2, c2, rfl, hjr, hb⟩
        have hsm : Sl memTy w10 (fun _ => True) (.slice A2 n2 c2) (m ++ [qm]) := by
          obtain ⟨vl, vm, ⟨hve, _⟩, _, hvm⟩ := JR_iff.1 hjr
          injection hve with _ hve; injection hve with _ hve; injection hve with _ hve; injection hve with _ hve; injection hve with hve _
          rw [hve]; exact hvm.mono (fun _ _ => trivial)
        obtain ⟨hcap2, hn2⟩ := sl_cap hsm (by simp)
        obtain rfl : n2 = j + 1 + 1 := by rw [hn2, List.length_append, HJ.out]; rfl
        have hst := (sl_take hsm HMN.out).bound
        rw [HJ.out] at hst
        have hal := bel_alloc (Below.refl w10.heap.size w10) (.cells #[.int .i64 7, .int .i64 0, .string ⟨#[]⟩, .slice A1 n1 c1, .slice A2 (j + 1 + 1) c2] 43)
        have hb2 := bel_trans hb hal
        have hn1 : n1 = 0 := by have := (jr_lensR hjr).1; exact this.symm
        subst hn1
        have HB11 := Lib.hid (bel_trans HB9.out hb2); have HROW := Lib.hid (heap_alloc_new w10 (.cells #[.int .i64 7, .int .i64 0, .string ⟨#[]⟩, .slice A1 0 c1, .slice A2 (j + 1 + 1) c2] 43)); have HST := Lib.hid ((hst.mono (F' := fun b => b < w10.heap.size) (fun _ h => h.2)).below hal)
        have HCAP2 := Lib.hid hcap2; have HSZ := Lib.hid (show w.heap.size ≤ w10.heap.size from (bel_trans HB9.out hb).size)
        clear hsm hst hal hb2 hb hjr hn2 hcap2 HB9 HX9 HPA
        go_upto_region 12 with (fail)
        generalize w10.alloc (.cells #[.int .i64 7, .int .i64 0, .string ⟨#[]⟩, .slice A1 0 c1, .slice A2 (j + 1 + 1) c2] 43) = w11 at *
        generalize w10.heap.size = X11 at *
        obtain ⟨⟨v0, v1, v2, v3, v4⟩, ⟨f0, f1, f2, f3, f4⟩, hX11⟩ := cells5 HROW.out
        have hj2 : j ≤ 20000 := by
          have h1 := HM2.out
          have h2 := obj_long (m := m)
          have := HJ.out
          omega
        have q1 : decide ((j : Int) + 1 + 1 < 2) = false := decide_eq_false (by omega)
        have q2 : wrap64 ((j : Int) + 1) = (j : Int) + 1 := w64_p (by omega) (by omega)
        have q4 : ((j : Int) + 1).toNat = j + 1 := by omega
        have hcp2 : j + 1 ≤ c2 := by have := HCAP2.out; omega
        go_upto_region 15 with (fail)
        have hb12 := bel_setR (X := X11) (i := 4) HB11.out HSZ.out (.slice A2 (j + 1) c2)
        have hr12 : (w11.setCell ⟨X11, 4, none⟩ (.slice A2 (j + 1) c2)).heap[X11]? = some (.cells #[.int .i64 7, .int .i64 0, .string ⟨#[]⟩, .slice A1 0 c1, .slice A2 (j + 1) c2] 43 (0, 0)) := by simpa using heap_setCell_row (i := 4) (v := .slice A2 (j + 1) c2) HROW.out
        have hs12 := HST.out.frame (w' := w11.setCell ⟨X11, 4, none⟩ (.slice A2 (j + 1) c2)) (fun b hb => Below.heap_setCell _ _ _ _ (show b ≠ X11 by omega))
        have hj12 : JR (w11.setCell ⟨X11, 4, none⟩ (.slice A2 (j + 1) c2)) (fun _ => True) (.mk 7 0 ⟨#[]⟩ [] m) [.int .i64 7, .int .i64 0, .string ⟨#[]⟩, .slice A1 0 c1, .slice A2 (j + 1) c2] :=
          JR_iff.2 ⟨.slice A1 0 c1, _, ⟨rfl, by simp [JV.s, ByteArray.size]⟩, .inl ⟨rfl, A1, c1, rfl⟩, hs12.mono (fun _ _ => trivial)⟩
        have hpt := print_both _ _ _ _ hj12 (HT.out.below hb12) (fun _ => by have := HM2.out; omega)
        unfold PrRes at hpt
        have hpb : prB (.mk 7 0 ⟨#[]⟩ [] m) = printB 64 (.mk 7 0 ⟨#[]⟩ [] m) := by unfold prB; rw [HM1.out, if_pos rfl]
        rw [HM1.out, if_pos rfl, hpb] at hpt
        have hm3 := HM3.out
        obtain ⟨Z, hZ⟩ : ∃ Z, printB 64 (.mk 7 0 ⟨#[]⟩ [] m) = Z := ⟨_, rfl⟩
        rw [hZ] at hpt hm3
        obtain ⟨qz, hqz⟩ : ∃ qz, preqB ⟨Z.toArray⟩ = (qz, 4) := ⟨(preqB ⟨Z.toArray⟩).1, by rw [← hm3]⟩
        have HPT := Lib.hid hpt; have HB12 := Lib.hid hb12; have HQZ := Lib.hid hqz; have HR12 := Lib.hid hr12
        clear hpt hb12 hr12 hs12 hj12 hpb hm3 hZ hqz HROW HST HB11 HM1 HM2 HM3 v0 v1 v2 v3 v4 f0 f1 f2 f3 f4 hX11 q1 q2 q4 hcp2 hj2
        generalize w11.setCell ⟨X11, 4, none⟩ (.slice A2 (j + 1) c2) = w12 at *
        obtain ⟨⟨v0, v1, v2, v3, v4⟩, _, _⟩ := cells5 HR12.out
        go_wp2_with fail
        refine Calls.mono HPT.out ?_
        rintro e w13 ⟨⟨A13, c13, rfl, hbs⟩, hb⟩
        have HB13 := Lib.hid (bel_trans HB12.out hb)
        have hcl := pparse_l _ _ _ w13 (HT.out.below HB13.out) hbs HQZ.out
        have HCL := Lib.hid hcl
        clear hb hbs hcl HB12 HPT HR12 v0 v1 v2 v3 v4
        go_wp2_with fail
        refine Calls.mono HCL.out ?_
        rintro e w14 ⟨rfl, hb⟩
        have HBT := Lib.hid (bel_alloc (bel_trans HB13.out hb) (.cells #[.string qz.op, .string qz.user, .string qz.feed, .string qz.name, .string qz.token, .int .i64 qz.tx, .int .i64 qz.entry, .int .i64 qz.after, .int .i64 qz.limit, .int .i64 qz.before, .bool qz.on] 24))
        clear hb HCL HB13
        go_upto_region 17 with (fail)
        generalize w14.alloc (.cells #[.string qz.op, .string qz.user, .string qz.feed, .string qz.name, .string qz.token, .int .i64 qz.tx, .int .i64 qz.entry, .int .i64 qz.after, .int .i64 qz.limit, .int .i64 qz.before, .bool qz.on] 24) = w15 at *
        go_wp2_with fail
        by_cases hE : E = 0
        case neg =>
          obtain rfl : q = zeroR := by
            have h1 := pre_zero (s := s) (by rw [HQ.out]; exact hE)
            rw [HQ.out] at h1
            exact h1
          have hne : (E != 0) = true := by simpa using hE
          have hcl : Calls Tryz.prog 13 #[.slice Av n cv] _ fun e w' => e = .returned (.tuple #[.agg #[.string ⟨#[]⟩, .string ⟨#[]⟩, .string ⟨#[]⟩, .string ⟨#[]⟩, .string ⟨#[]⟩, .int .i64 0, .int .i64 0, .int .i64 0, .int .i64 0, .int .i64 0, .bool false], .int .i64 E]) ∧ Below _ _ w' := HP.out _ HBT.out
          have q0 : ∀ W, (binOp .eql 30 (.agg #[.string ⟨#[]⟩, .string ⟨#[]⟩, .string ⟨#[]⟩, .string ⟨#[]⟩, .string ⟨#[]⟩, .int .i64 0, .int .i64 0, .int .i64 0, .int .i64 0, .int .i64 0, .bool false]) (.agg #[.string ⟨#[]⟩, .string ⟨#[]⟩, .string ⟨#[]⟩, .string ⟨#[]⟩, .string ⟨#[]⟩, .int .i64 0, .int .i64 0, .int .i64 0, .int .i64 0, .int .i64 0, .bool false])).run Tryz.prog W = .ok (.bool true) W := fun W => run_eql_pl W zeroR
          have HCL := Lib.hid hcl; have HQ0 := Lib.hid q0
          clear hcl q0 hE
          refine Calls.mono HCL.out ?_
          rintro e t1 ⟨rfl, hb⟩
          have hal := bel_alloc (Below.refl t1.heap.size t1) (.cells #[.string ⟨#[]⟩, .string ⟨#[]⟩, .string ⟨#[]⟩, .string ⟨#[]⟩, .string ⟨#[]⟩, .int .i64 0, .int .i64 0, .int .i64 0, .int .i64 0, .int .i64 0, .bool false] 24)
          have HT1 := Lib.hid (bel_trans (bel_trans HBT.out hb) hal); have HY := Lib.hid (heap_alloc_new t1 (.cells #[.string ⟨#[]⟩, .string ⟨#[]⟩, .string ⟨#[]⟩, .string ⟨#[]⟩, .string ⟨#[]⟩, .int .i64 0, .int .i64 0, .int .i64 0, .int .i64 0, .int .i64 0, .bool false] 24))
          clear hb hal HCL
          go_upto_region 20 with (fail)
          generalize t1.alloc (.cells #[.string ⟨#[]⟩, .string ⟨#[]⟩, .string ⟨#[]⟩, .string ⟨#[]⟩, .string ⟨#[]⟩, .int .i64 0, .int .i64 0, .int .i64 0, .int .i64 0, .int .i64 0, .bool false] 24) = t2 at *
          generalize t1.heap.size = Y17 at *
          go_wp2_with fail
          refine Calls.mono (HFI.out _ HT1.out) ?_
          rintro e t3 ⟨rfl, hb⟩
          have HT3 := Lib.hid (bel_trans HT1.out hb); have HY3 := Lib.hid (Below.at hb HY.out)
          clear hb HT1 HY
          obtain ⟨⟨a0, a1, a2, a3, a4, a5, a6, a7, a8, a9, a10⟩, _⟩ := row11 (r := zeroR) HY3.out
          simp only [zeroR, e0] at a0 a1 a2 a3 a4 a5 a6 a7 a8 a9 a10
          go_wp2_with fail
          refine Calls.mono (plainR_any zeroR _) ?_
          rintro e t4 ⟨he, hb⟩
          replace he : e = .returned (.agg #[.string ⟨#[]⟩, .string ⟨#[]⟩, .string ⟨#[]⟩, .string ⟨#[]⟩, .string ⟨#[]⟩, .int .i64 0, .int .i64 0, .int .i64 0, .int .i64 0, .int .i64 0, .bool false]) := he
          subst he
          have HT4 := Lib.hid (bel_trans HT3.out hb)
          clear hb HT3
          have q0 := HQ0.out
          go_wp2_with fail
          go_ret
          exact ⟨rfl, HT4.out⟩
        case pos =>
          subst hE
          have hrb := read_back (s := s) (by rw [HQ.out])
          rw [HQ.out] at hrb
          obtain ⟨P2, E2, hp2⟩ : ∃ P2 E2, pprintB q = (P2, E2) := ⟨_, _, rfl⟩
          have h1 := hrb.1
          simp only [hp2] at h1
          subst h1
          have hrp : P2.length ≤ 20000 → preqB ⟨P2.toArray⟩ = (q, 0) := fun h => by
            have := read_print (r := q) (by rw [hp2]) (by rw [hp2]; exact h)
            rw [hp2] at this
            exact this
          have hcl := HP.out _ HBT.out
          have HCL := Lib.hid hcl; have HSQ := Lib.hid hrb.2; have HP2 := Lib.hid hp2; have HRP := Lib.hid hrp
          clear hcl hrb hp2 hrp
          refine Calls.mono HCL.out ?_
          rintro e t1 ⟨rfl, hb⟩
          have hal := bel_alloc (Below.refl t1.heap.size t1) (.cells #[.string q.op, .string q.user, .string q.feed, .string q.name, .string q.token, .int .i64 q.tx, .int .i64 q.entry, .int .i64 q.after, .int .i64 q.limit, .int .i64 q.before, .bool q.on] 24)
          have HT1 := Lib.hid (bel_trans (bel_trans HBT.out hb) hal); have HY := Lib.hid (heap_alloc_new t1 (.cells #[.string q.op, .string q.user, .string q.feed, .string q.name, .string q.token, .int .i64 q.tx, .int .i64 q.entry, .int .i64 q.after, .int .i64 q.limit, .int .i64 q.before, .bool q.on] 24))
          clear hb hal HCL
          go_upto_region 20 with (fail)
          generalize t1.alloc (.cells #[.string q.op, .string q.user, .string q.feed, .string q.name, .string q.token, .int .i64 q.tx, .int .i64 q.entry, .int .i64 q.after, .int .i64 q.limit, .int .i64 q.before, .bool q.on] 24) = t2 at *
          generalize t1.heap.size = Y17 at *
          obtain ⟨⟨a0, a1, a2, a3, a4, a5, a6, a7, a8, a9, a10⟩, _⟩ := row11 (r := q) HY.out
          have hpq := pprint_l q t2 (HT.out.below HT1.out) HSQ.out HP2.out
          have HPQ := Lib.hid hpq
          clear hpq
          go_wp2_with fail
          refine Calls.mono HPQ.out ?_
          rintro e t3 ⟨⟨A19, c19, rfl, _, hbs⟩, hb⟩
          have HT3 := Lib.hid (bel_trans HT1.out hb); have HY3 := Lib.hid (Below.at hb HY.out); have HX3 := Lib.hid hbs
          clear hb hbs HT1 HY HPQ a0 a1 a2 a3 a4 a5 a6 a7 a8 a9 a10
          by_cases hlong : P2.length ≤ 20000
          case pos =>
            have hcl := pparse_l _ _ _ t3 (HT.out.below HT3.out) HX3.out (HRP.out hlong)
            have HCL := Lib.hid hcl
            clear hcl
            go_wp2_with fail
            refine Calls.mono HCL.out ?_
            rintro e t4 ⟨rfl, hb⟩
            have hal := bel_alloc (Below.refl t4.heap.size t4) (.cells #[.string q.op, .string q.user, .string q.feed, .string q.name, .string q.token, .int .i64 q.tx, .int .i64 q.entry, .int .i64 q.after, .int .i64 q.limit, .int .i64 q.before, .bool q.on] 24)
            have hb2 := bel_trans hb hal
            have HT5 := Lib.hid (bel_trans HT3.out hb2); have HY5 := Lib.hid (Below.at hb2 HY3.out); have HZ5 := Lib.hid (heap_alloc_new t4 (.cells #[.string q.op, .string q.user, .string q.feed, .string q.name, .string q.token, .int .i64 q.tx, .int .i64 q.entry, .int .i64 q.after, .int .i64 q.limit, .int .i64 q.before, .bool q.on] 24))
            clear hb hal hb2 HCL HT3 HY3 HX3
            go_upto_region 24 with (fail)
            generalize t4.alloc (.cells #[.string q.op, .string q.user, .string q.feed, .string q.name, .string q.token, .int .i64 q.tx, .int .i64 q.entry, .int .i64 q.after, .int .i64 q.limit, .int .i64 q.before, .bool q.on] 24) = t5 at *
            generalize t4.heap.size = Y21 at *
            have q1 : decide ((20000 : Int) < (P2.length : Int)) = false := decide_eq_false (by omega)
            have q0 := fun W => run_eql_pl W q
            clear hlong
            have hrc : ∀ w2, Lat t5.drew w2 → w2.heap[Y21]? = some (.cells (rqC q) 24 (0, 0)) ∧ w2.heap[Y17]? = some (.cells (rqC q) 24 (0, 0)) := fun w2 hE => ⟨Below.at (w := t5.drew) hE HZ5.out, Below.at (w := t5.drew) hE HY5.out⟩
            have HRC := Lib.hid hrc
            have HBV := Lib.hid (bel_drew HT5.out)
            clear hrc HT5 HY5 HZ5
            refine wp_region_E (by kernel_rfl) ?_
            generalize t5.drew = V5 at *
            refine wpAnyE_t 0 (v := ?_) rfl ?_ ?_
            rotate_left
            · intro w2 hE
              obtain ⟨⟨a0, a1, a2, a3, a4, a5, a6, a7, a8, a9, a10⟩, _⟩ := row11 (HRC.out w2 hE).1
              obtain ⟨⟨b0, b1, b2, b3, b4, b5, b6, b7, b8, b9, b10⟩, _⟩ := row11 (HRC.out w2 hE).2
              go_simp
              exact HFI.out _ (bel_trans HBV.out hE)
            try simp only [lay]
            refine wpAnyE_t 1 (v := ?_) rfl ?_ ?_
            rotate_left
            · intro w2 hE
              obtain ⟨⟨a0, a1, a2, a3, a4, a5, a6, a7, a8, a9, a10⟩, _⟩ := row11 (HRC.out w2 hE).1
              obtain ⟨⟨b0, b1, b2, b3, b4, b5, b6, b7, b8, b9, b10⟩, _⟩ := row11 (HRC.out w2 hE).2
              go_simp
              try (with_reducible rfl)
            try simp only [lay]
            refine wpAnyE_t 2 (v := ?_) rfl ?_ ?_
            rotate_left
            · intro w2 hE
              obtain ⟨⟨a0, a1, a2, a3, a4, a5, a6, a7, a8, a9, a10⟩, _⟩ := row11 (HRC.out w2 hE).1
              obtain ⟨⟨b0, b1, b2, b3, b4, b5, b6, b7, b8, b9, b10⟩, _⟩ := row11 (HRC.out w2 hE).2
              go_simp
              try (with_reducible rfl)
            try simp only [lay]
            refine wpAnyE_t 3 (v := ?_) rfl ?_ ?_
            rotate_left
            · intro w2 hE
              obtain ⟨⟨a0, a1, a2, a3, a4, a5, a6, a7, a8, a9, a10⟩, _⟩ := row11 (HRC.out w2 hE).1
              obtain ⟨⟨b0, b1, b2, b3, b4, b5, b6, b7, b8, b9, b10⟩, _⟩ := row11 (HRC.out w2 hE).2
              go_simp
              try (with_reducible rfl)
            try simp only [lay]
            refine wpAnyE_t 4 (v := ?_) rfl ?_ ?_
            rotate_left
            · intro w2 hE
              obtain ⟨⟨a0, a1, a2, a3, a4, a5, a6, a7, a8, a9, a10⟩, _⟩ := row11 (HRC.out w2 hE).1
              obtain ⟨⟨b0, b1, b2, b3, b4, b5, b6, b7, b8, b9, b10⟩, _⟩ := row11 (HRC.out w2 hE).2
              go_simp
              try (with_reducible rfl)
            try simp only [lay]
            refine wpAnyE_t 5 (v := ?_) rfl ?_ ?_
            rotate_left
            · intro w2 hE
              obtain ⟨⟨a0, a1, a2, a3, a4, a5, a6, a7, a8, a9, a10⟩, _⟩ := row11 (HRC.out w2 hE).1
              obtain ⟨⟨b0, b1, b2, b3, b4, b5, b6, b7, b8, b9, b10⟩, _⟩ := row11 (HRC.out w2 hE).2
              go_simp
              try (with_reducible rfl)
            try simp only [lay]
            refine wpAnyE_t 6 (v := ?_) rfl ?_ ?_
            rotate_left
            · intro w2 hE
              obtain ⟨⟨a0, a1, a2, a3, a4, a5, a6, a7, a8, a9, a10⟩, _⟩ := row11 (HRC.out w2 hE).1
              obtain ⟨⟨b0, b1, b2, b3, b4, b5, b6, b7, b8, b9, b10⟩, _⟩ := row11 (HRC.out w2 hE).2
              go_simp
              try (with_reducible rfl)
            try simp only [lay]
            refine wpAnyE_t 7 (v := ?_) rfl ?_ ?_
            rotate_left
            · intro w2 hE
              obtain ⟨⟨a0, a1, a2, a3, a4, a5, a6, a7, a8, a9, a10⟩, _⟩ := row11 (HRC.out w2 hE).1
              obtain ⟨⟨b0, b1, b2, b3, b4, b5, b6, b7, b8, b9, b10⟩, _⟩ := row11 (HRC.out w2 hE).2
              go_simp
              try (with_reducible rfl)
            try simp only [lay]
            refine wpAnyE_t 8 (v := ?_) rfl ?_ ?_
            rotate_left
            · intro w2 hE
              obtain ⟨⟨a0, a1, a2, a3, a4, a5, a6, a7, a8, a9, a10⟩, _⟩ := row11 (HRC.out w2 hE).1
              obtain ⟨⟨b0, b1, b2, b3, b4, b5, b6, b7, b8, b9, b10⟩, _⟩ := row11 (HRC.out w2 hE).2
              go_simp
              try (with_reducible rfl)
            try simp only [lay]
            refine wpAnyE_t 9 (v := ?_) rfl ?_ ?_
            rotate_left
            · intro w2 hE
              obtain ⟨⟨a0, a1, a2, a3, a4, a5, a6, a7, a8, a9, a10⟩, _⟩ := row11 (HRC.out w2 hE).1
              obtain ⟨⟨b0, b1, b2, b3, b4, b5, b6, b7, b8, b9, b10⟩, _⟩ := row11 (HRC.out w2 hE).2
              go_simp
              try (with_reducible rfl)
            try simp only [lay]
            refine wpAnyE_t 10 (v := ?_) rfl ?_ ?_
            rotate_left
            · intro w2 hE
              obtain ⟨⟨a0, a1, a2, a3, a4, a5, a6, a7, a8, a9, a10⟩, _⟩ := row11 (HRC.out w2 hE).1
              obtain ⟨⟨b0, b1, b2, b3, b4, b5, b6, b7, b8, b9, b10⟩, _⟩ := row11 (HRC.out w2 hE).2
              go_simp
              try (with_reducible rfl)
            try simp only [lay]
            refine wpAnyE_t 11 (v := ?_) rfl ?_ ?_
            rotate_left
            · intro w2 hE
              obtain ⟨⟨a0, a1, a2, a3, a4, a5, a6, a7, a8, a9, a10⟩, _⟩ := row11 (HRC.out w2 hE).1
              obtain ⟨⟨b0, b1, b2, b3, b4, b5, b6, b7, b8, b9, b10⟩, _⟩ := row11 (HRC.out w2 hE).2
              go_simp
              try (with_reducible rfl)
            try simp only [lay]
            refine wpAnyE_t 12 (v := ?_) rfl ?_ ?_
            rotate_left
            · intro w2 hE
              obtain ⟨⟨a0, a1, a2, a3, a4, a5, a6, a7, a8, a9, a10⟩, _⟩ := row11 (HRC.out w2 hE).1
              obtain ⟨⟨b0, b1, b2, b3, b4, b5, b6, b7, b8, b9, b10⟩, _⟩ := row11 (HRC.out w2 hE).2
              go_simp
              try (with_reducible rfl)
            try simp only [lay]
            refine wpAnyE_t 13 (v := ?_) rfl ?_ ?_
            rotate_left
            · intro w2 hE
              obtain ⟨⟨a0, a1, a2, a3, a4, a5, a6, a7, a8, a9, a10⟩, _⟩ := row11 (HRC.out w2 hE).1
              obtain ⟨⟨b0, b1, b2, b3, b4, b5, b6, b7, b8, b9, b10⟩, _⟩ := row11 (HRC.out w2 hE).2
              go_simp
              try (with_reducible rfl)
            try simp only [lay]
            refine wpAnyE_t 14 (v := ?_) rfl ?_ ?_
            rotate_left
            · intro w2 hE
              obtain ⟨⟨a0, a1, a2, a3, a4, a5, a6, a7, a8, a9, a10⟩, _⟩ := row11 (HRC.out w2 hE).1
              obtain ⟨⟨b0, b1, b2, b3, b4, b5, b6, b7, b8, b9, b10⟩, _⟩ := row11 (HRC.out w2 hE).2
              go_simp
              exact plainR_any _ _
            try simp only [lay]
            refine wpAnyE_t 15 (v := ?_) rfl ?_ ?_
            rotate_left
            · intro w2 hE
              obtain ⟨⟨a0, a1, a2, a3, a4, a5, a6, a7, a8, a9, a10⟩, _⟩ := row11 (HRC.out w2 hE).1
              obtain ⟨⟨b0, b1, b2, b3, b4, b5, b6, b7, b8, b9, b10⟩, _⟩ := row11 (HRC.out w2 hE).2
              go_simp
              try (with_reducible rfl)
            try simp only [lay]
            refine wpAnyE_t 16 (v := ?_) rfl ?_ ?_
            rotate_left
            · intro w2 hE
              obtain ⟨⟨a0, a1, a2, a3, a4, a5, a6, a7, a8, a9, a10⟩, _⟩ := row11 (HRC.out w2 hE).1
              obtain ⟨⟨b0, b1, b2, b3, b4, b5, b6, b7, b8, b9, b10⟩, _⟩ := row11 (HRC.out w2 hE).2
              go_simp
              exact plainR_any _ _
            try simp only [lay]
            refine wpAnyE_t 17 (v := ?_) rfl ?_ ?_
            rotate_left
            · intro w2 hE
              obtain ⟨⟨a0, a1, a2, a3, a4, a5, a6, a7, a8, a9, a10⟩, _⟩ := row11 (HRC.out w2 hE).1
              obtain ⟨⟨b0, b1, b2, b3, b4, b5, b6, b7, b8, b9, b10⟩, _⟩ := row11 (HRC.out w2 hE).2
              go_simp
              try (with_reducible rfl)
            try simp only [lay]
            refine wpAnyE_t 18 (v := ?_) rfl ?_ ?_
            rotate_left
            · intro w2 hE
              obtain ⟨⟨a0, a1, a2, a3, a4, a5, a6, a7, a8, a9, a10⟩, _⟩ := row11 (HRC.out w2 hE).1
              obtain ⟨⟨b0, b1, b2, b3, b4, b5, b6, b7, b8, b9, b10⟩, _⟩ := row11 (HRC.out w2 hE).2
              go_simp
              try (with_reducible rfl)
            try simp only [lay]
            refine wpAnyE_t 19 (v := ?_) rfl ?_ ?_
            rotate_left
            · intro w2 hE
              obtain ⟨⟨a0, a1, a2, a3, a4, a5, a6, a7, a8, a9, a10⟩, _⟩ := row11 (HRC.out w2 hE).1
              obtain ⟨⟨b0, b1, b2, b3, b4, b5, b6, b7, b8, b9, b10⟩, _⟩ := row11 (HRC.out w2 hE).2
              go_simp
              try (with_reducible rfl)
            try simp only [lay]
            refine wpAnyE_t 20 (v := ?_) rfl ?_ ?_
            rotate_left
            · intro w2 hE
              obtain ⟨⟨a0, a1, a2, a3, a4, a5, a6, a7, a8, a9, a10⟩, _⟩ := row11 (HRC.out w2 hE).1
              obtain ⟨⟨b0, b1, b2, b3, b4, b5, b6, b7, b8, b9, b10⟩, _⟩ := row11 (HRC.out w2 hE).2
              go_simp
              try (with_reducible rfl)
            try simp only [lay]
            refine wpAnyE_t 21 (v := ?_) rfl ?_ ?_
            rotate_left
            · intro w2 hE
              obtain ⟨⟨a0, a1, a2, a3, a4, a5, a6, a7, a8, a9, a10⟩, _⟩ := row11 (HRC.out w2 hE).1
              obtain ⟨⟨b0, b1, b2, b3, b4, b5, b6, b7, b8, b9, b10⟩, _⟩ := row11 (HRC.out w2 hE).2
              go_simp
              try (with_reducible rfl)
            try simp only [lay]
            refine wpAnyE_done (by kernel_rfl) (fun w6 hE6 => ?_) _
            have HB6 := Lib.hid (bel_trans HBV.out hE6)
            clear hE6
            go_wp2_with fail
            go_ret
            exact ⟨rfl, HB6.out⟩
          case neg =>
            obtain ⟨q3, E3, h3⟩ : ∃ q3 E3, preqB ⟨P2.toArray⟩ = (q3, E3) := ⟨_, _, rfl⟩
            have hcl := pparse_l _ _ _ t3 (HT.out.below HT3.out) HX3.out h3
            have HCL := Lib.hid hcl
            clear hcl h3
            go_wp2_with fail
            refine Calls.mono HCL.out ?_
            rintro e t4 ⟨rfl, hb⟩
            have hal := bel_alloc (Below.refl t4.heap.size t4) (.cells #[.string q3.op, .string q3.user, .string q3.feed, .string q3.name, .string q3.token, .int .i64 q3.tx, .int .i64 q3.entry, .int .i64 q3.after, .int .i64 q3.limit, .int .i64 q3.before, .bool q3.on] 24)
            have hb2 := bel_trans hb hal
            have HT5 := Lib.hid (bel_trans HT3.out hb2); have HY5 := Lib.hid (Below.at hb2 HY3.out)
            clear hb hal hb2 HCL HT3 HY3 HX3
            go_upto_region 24 with (fail)
            generalize t4.alloc (.cells #[.string q3.op, .string q3.user, .string q3.feed, .string q3.name, .string q3.token, .int .i64 q3.tx, .int .i64 q3.entry, .int .i64 q3.after, .int .i64 q3.limit, .int .i64 q3.before, .bool q3.on] 24) = t5 at *
            generalize t4.heap.size = Y21 at *
            have q1 : decide ((20000 : Int) < (P2.length : Int)) = true := decide_eq_true (by omega)
            clear hlong
            have HBV := Lib.hid (bel_drew HT5.out)
            clear HT5 HY5
            refine wp_region_E (by kernel_rfl) ?_
            generalize t5.drew = V5 at *
            refine wpAnyE_t 0 (v := ?_) rfl ?_ ?_
            rotate_left
            · intro w2 hE
              go_simp
              exact HFI.out _ (bel_trans HBV.out hE)
            try simp only [lay]
            refine wpAnyE_t 1 (v := ?_) rfl ?_ ?_
            rotate_left
            · intro w2 hE
              go_simp
              try (with_reducible rfl)
            try simp only [lay]
            refine wpAnyE_t 2 (v := ?_) rfl ?_ ?_
            rotate_left
            · intro w2 hE
              go_simp
              try (with_reducible rfl)
            try simp only [lay]
            refine wpAnyE_t 3 (v := ?_) rfl ?_ ?_
            rotate_left
            · intro w2 hE
              go_simp
              try (with_reducible rfl)
            try simp only [lay]
            refine wpAnyE_t 4 (v := ?_) rfl ?_ ?_
            rotate_left
            · intro w2 hE
              go_simp
              try (with_reducible rfl)
            try simp only [lay]
            refine wpAnyE_t 5 (v := ?_) rfl ?_ ?_
            rotate_left
            · intro w2 hE
              go_simp
              try (with_reducible rfl)
            try simp only [lay]
            refine wpAnyE_t 6 (v := ?_) rfl ?_ ?_
            rotate_left
            · intro w2 hE
              go_simp
              try (with_reducible rfl)
            try simp only [lay]
            refine wpAnyE_t 7 (v := ?_) rfl ?_ ?_
            rotate_left
            · intro w2 hE
              go_simp
              try (with_reducible rfl)
            try simp only [lay]
            refine wpAnyE_t 8 (v := ?_) rfl ?_ ?_
            rotate_left
            · intro w2 hE
              go_simp
              try (with_reducible rfl)
            try simp only [lay]
            refine wpAnyE_t 9 (v := ?_) rfl ?_ ?_
            rotate_left
            · intro w2 hE
              go_simp
              try (with_reducible rfl)
            try simp only [lay]
            refine wpAnyE_s 10 rfl ?_
            try simp only [lay]
            refine wpAnyE_s 11 rfl ?_
            try simp only [lay]
            refine wpAnyE_s 12 rfl ?_
            try simp only [lay]
            refine wpAnyE_s 13 rfl ?_
            try simp only [lay]
            refine wpAnyE_s 14 rfl ?_
            try simp only [lay]
            refine wpAnyE_s 15 rfl ?_
            try simp only [lay]
            refine wpAnyE_s 16 rfl ?_
            try simp only [lay]
            refine wpAnyE_s 17 rfl ?_
            try simp only [lay]
            refine wpAnyE_s 18 rfl ?_
            try simp only [lay]
            refine wpAnyE_t 19 (v := ?_) rfl ?_ ?_
            rotate_left
            · intro w2 hE
              go_simp
              try (with_reducible rfl)
            try simp only [lay]
            refine wpAnyE_t 20 (v := ?_) rfl ?_ ?_
            rotate_left
            · intro w2 hE
              go_simp
              try (with_reducible rfl)
            try simp only [lay]
            refine wpAnyE_t 21 (v := ?_) rfl ?_ ?_
            rotate_left
            · intro w2 hE
              go_simp
              try (with_reducible rfl)
            try simp only [lay]
            refine wpAnyE_done (by kernel_rfl) (fun w6 hE6 => ?_) _
            have HB6 := Lib.hid (bel_trans HBV.out hE6)
            clear hE6
            go_wp2_with fail
            go_ret
            exact ⟨rfl, HB6.out⟩
end Go.Proofs.YtlihjmfdnkfmfaaGreatDoor
