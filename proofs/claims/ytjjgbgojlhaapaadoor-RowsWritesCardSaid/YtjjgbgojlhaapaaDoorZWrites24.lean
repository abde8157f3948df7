/- Parts of the proof: Fw. -/
import Derived.Test.YtjjgbgojlhaapaaDoorZWrites23
namespace Go.Proofs.YtjjgbgojlhaapaaDoor
open Go.RowKit Go.Lib

def cap20 (s : ByteArray) : Int := min (s.size : Int) 1048576
def cntL {α : Type} (f : α → Int → Int) : List α → Int → Int
  | [], n => n
  | x :: xs, n => if 0 < n then cntL f xs (f x n) else n
def countB : Nat → JV → Int → Int
  | 0, _, _ => 0
  | d + 1, x, n => cntL (fun p n => countB d p.2 (n - cap20 p.1)) x.m (cntL (countB d) x.l (n - 1 - cap20 x.s))
theorem cap_range (s : ByteArray) : 0 ≤ cap20 s ∧ cap20 s ≤ 1048576 := by unfold cap20; omega
theorem cap_nil : cap20 ⟨#[]⟩ = 0 := by decide +kernel
theorem cntL_neg {α : Type} (f : α → Int → Int) {n : Int} (h : ¬ 0 < n) : ∀ l, cntL f l n = n
  | [] => rfl
  | x :: xs => by simp only [cntL]; rw [if_neg h]
theorem cntL_drop {α : Type} (f : α → Int → Int) {l : List α} {k : Nat} {x : α} {n : Int} (hx : l[k]? = some x) (h : 0 < n) : cntL f (l.drop k) n = cntL f (l.drop (k + 1)) (f x n) := by
  rw [drop_of_get hx]; simp only [cntL]; rw [if_pos h]
theorem cntL_end {α : Type} (f : α → Int → Int) {l : List α} {k : Nat} {n : Int} (h : l.length ≤ k) : cntL f (l.drop k) n = n := by
  rw [List.drop_of_length_le h]; rfl
theorem cntL_range {α : Type} {f : α → Int → Int} (hf : ∀ x n, 0 < n → n ≤ 12000 → -2097153 ≤ f x n ∧ f x n ≤ 12000) : ∀ (l : List α) (n : Int), -2097153 ≤ n → n ≤ 12000 → -2097153 ≤ cntL f l n ∧ cntL f l n ≤ 12000
  | [], n, h0, h1 => ⟨h0, h1⟩
  | x :: xs, n, h0, h1 => by
    simp only [cntL]
    split
    · rename_i h
      have := hf x n h h1
      exact cntL_range hf xs _ this.1 this.2
    · exact ⟨h0, h1⟩
theorem count_range : ∀ (d : Nat) (x : JV) (n : Int), -1048576 ≤ n → n ≤ 12000 → -2097153 ≤ countB d x n ∧ countB d x n ≤ 12000
  | 0, _, _, _, _ => by simp [countB]
  | d + 1, x, n, h0, h1 => by
    have hc := cap_range x.s
    simp only [countB]
    have h2 := cntL_range (f := countB d) (fun y m hm hm2 => count_range d y m (by omega) hm2) x.l (n - 1 - cap20 x.s) (by omega) (by omega)
    exact cntL_range (fun p m hm hm2 => by
      have hp := cap_range p.1
      exact count_range d p.2 _ (by omega) (by omega)) x.m _ h2.1 h2.2
/-! a printed value is not long -/
theorem cntL_spend {α : Type} {f : α → Int → Int} {g : α → Nat} : ∀ (l : List α), (∀ x ∈ l, ∀ n, 0 < f x n → (g x : Int) + 30 * f x n ≤ 30 * n) → ∀ (n : Int), 0 < cntL f l n → ((l.map g).sum : Int) + 30 * cntL f l n ≤ 30 * n ∧ 0 < n
  | [], _, n, h => by simp [cntL] at h ⊢; exact h
  | x :: xs, hf, n, h => by
    simp only [cntL] at h ⊢
    by_cases hn : 0 < n
    · rw [if_pos hn] at h ⊢
      have ih := cntL_spend xs (fun y hy => hf y (List.mem_cons_of_mem _ hy)) (f x n) h
      have h1 := hf x (List.mem_cons_self ..) n ih.2
      simp only [List.map_cons, List.sum_cons]
      refine ⟨?_, hn⟩
      omega
    · rw [if_neg hn] at h
      exact absurd h hn
theorem join_sum {α : Type} (f : α → List UInt8) : ∀ (l : List α) (b : Bool), (joinFrom f b l).length ≤ (l.map fun x => (f x).length + 1).sum
  | [], _ => by simp [joinFrom]
  | x :: xs, b => by
    have ih := join_sum f xs false
    rw [join_cons]
    simp only [List.length_append, List.map_cons, List.sum_cons]
    have : (if b = true then ([] : List UInt8) else [44]).length ≤ 1 := by cases b <;> simp
    omega
theorem quoteOne_len {r : Nat} (_hr : Scal r) : (quoteOne r).length ≤ 6 * (Lib.encodeRune (r : Int)).length := by
  have hp := enc_pos (r : Int)
  unfold quoteOne
  split
  · simp only [List.length_cons, List.length_nil]; omega
  · split
    · simp only [List.length_cons, List.length_nil]; omega
    · omega
theorem quoteB_len {s : ByteArray} (hv : validB s = true) : (quoteB s).length ≤ 2 + 6 * s.size := by
  obtain ⟨rs, hr, hu⟩ := validB_runes hv
  have key : ∀ rs : List Nat, (∀ r ∈ rs, Scal r) → (rs.flatMap (fun r => quoteOne r)).length ≤ 6 * (encs rs).length := fun rs => by
    induction rs with
    | nil => intro _; simp
    | cons r rs ih =>
      intro h
      have h1 := ih (fun q hq => h q (List.mem_cons_of_mem _ hq))
      have h2 := quoteOne_len (h r (List.mem_cons_self ..))
      rw [encs_cons, List.flatMap_cons, List.length_append, List.length_append]
      omega
  have h1 := key rs hr
  have hz : s.data.toList.length = s.size := Array.length_toList ..
  rw [hu] at hz
  rw [quoteB_runes hr hu]
  simp only [List.length_cons, List.length_append, List.length_nil]
  omega
theorem short_len {s : ByteArray} (h : shortB s = true) : (quoteB s).length ≤ 2 + 6 * s.size ∧ s.size ≤ 8000 := by
  have hv : validB s = true ∧ s.size ≤ 8000 := by unfold shortB at h; simpa using h
  exact ⟨quoteB_len hv.1, hv.2⟩
theorem sum_le {α : Type} {f g : α → Nat} : ∀ (l : List α), (∀ x ∈ l, f x ≤ g x) → (l.map f).sum ≤ (l.map g).sum
  | [], _ => Nat.le_refl _
  | x :: xs, h => by
    have := sum_le xs (fun y hy => h y (List.mem_cons_of_mem _ hy))
    have := h x (List.mem_cons_self ..)
    simp only [List.map_cons, List.sum_cons]; omega
theorem count_len : ∀ (d e : Nat) (x : JV) (n : Int), mayJ e x = true → 0 < countB d x n → (((printB e x).length + 8 : Nat) : Int) + 30 * countB d x n ≤ 30 * n
  | 0, _, _, _, _, h => by simp [countB] at h
  | _, 0, x, _, h, _ => absurd h (by simp [mayJ])
  | d + 1, e + 1, x, n, hm, h => by
    have hcap := cap_range x.s
    simp only [countB] at h ⊢
    rw [printB.eq_2]
    cases shape_of hm with
    | word k hk =>
      simp only [JV.m, JV.l, JV.s, cntL] at h ⊢
      simp only [cap20] at h ⊢
      rcases hk with rfl | rfl | rfl <;> (simp [JV.k, ByteArray.size]; omega)
    | num m hmr =>
      simp only [numV, JV.m, JV.l, JV.s, cntL] at h ⊢
      have hl := itoa_len m (by omega) (by omega)
      have hc0 := (cap_range ⟨#[]⟩).1
      show (((Lib.itoa m).length + 8 : Nat) : Int) + 30 * (n - 1 - cap20 ⟨#[]⟩) ≤ 30 * n
      clear hm hmr hcap h
      generalize cap20 ⟨#[]⟩ = z at *
      generalize (Lib.itoa m).length = q at *
      omega
    | text u hu =>
      have hs := short_len hu
      simp only [wordV, JV.m, JV.l, JV.s, cntL] at h ⊢
      have hc : cap20 u = (u.size : Int) := by unfold cap20; omega
      rw [hc]
      show (((quoteB u).length + 8 : Nat) : Int) + 30 * (n - 1 - (u.size : Int)) ≤ 30 * n
      omega
    | list l hl =>
      have hcl : (printB e) = (printB e) := rfl
      simp only [listV, JV.m, JV.l, JV.s, cntL] at h ⊢
      have hsp := cntL_spend (f := countB d) (g := fun y => (printB e y).length + 8) l (fun y hy m hm2 => count_len d e y m (hl y hy) hm2) _ h
      have hj := join_sum (printB e) l true
      have hle := sum_le (f := fun y => (printB e y).length + 1) (g := fun y => (printB e y).length + 8) l (fun y _ => by omega)
      rw [cap_nil] at hsp ⊢
      show (((91 :: (joinFrom (printB e) true l ++ [93])).length + 8 : Nat) : Int) + 30 * cntL (countB d) l (n - 1 - 0) ≤ 30 * n
      simp only [List.length_cons, List.length_append, List.length_nil]
      omega
    | obj m hmm hl =>
      have hmi := (members_iff none m).1 hmm
      simp only [objV, JV.m, JV.l, JV.s, cntL] at h ⊢
      have hsp := cntL_spend (f := fun p n => countB d p.2 (n - cap20 p.1)) (g := fun q => (prMem e q).length + 1) m (fun q hq z hz => by
        have h1 := count_len d e q.2 _ (hl q hq) hz
        have h2 := short_len (hmi.1 q hq)
        have hc : cap20 q.1 = (q.1.size : Int) := by unfold cap20; omega
        have hp : (prMem e q).length = (quoteB q.1).length + ((printB e q.2).length + 1) := by unfold prMem; simp
        rw [hc] at h1
        rw [hp]
        simp only [hc]
        omega) _ h
      have hj := join_sum (prMem e) m true
      rw [cap_nil] at hsp ⊢
      show (((123 :: (joinFrom (prMem e) true m ++ [125])).length + 8 : Nat) : Int) + 30 * cntL _ m (n - 1 - 0) ≤ 30 * n
      simp only [List.length_cons, List.length_append, List.length_nil]
      omega
/-- Few: the text is short -/
theorem few_len {x : JV} (hf : 0 < countB 100 x 12000) (hm : mayJ 64 x = true) : (printB 64 x).length ≤ 360000 := by
  have := count_len 100 64 x 12000 hm hf
  omega
end Go.Proofs.YtjjgbgojlhaapaaDoor
