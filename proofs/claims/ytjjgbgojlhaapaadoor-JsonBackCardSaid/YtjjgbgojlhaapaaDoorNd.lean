/- JsonDeep: plain law: nested lists and objects. -/
import Derived.Test.YtjjgbgojlhaapaaDoorPs
namespace Go.Proofs.YtjjgbgojlhaapaaDoor
open Go.RowKit Go.Lib

def nest (o : Bool) : Nat → List UInt8
  | 0 => []
  | 1 => if o then [123, 125] else [91, 93]
  | n + 2 => (if o then [123, 34, 97, 34, 58] else [91]) ++ nest o (n + 1) ++ [if o then 125 else 93]
def nestV (o : Bool) : Nat → JV
  | 0 => zeroV
  | 1 => if o then objV [] else listV []
  | n + 2 => if o then objV [(⟨#[97]⟩, nestV o (n + 1))] else listV [nestV o (n + 1)]
/-- what stands behind place p -/
def rest (s : ByteArray) (p : Nat) : List UInt8 := s.data.toList.drop p
theorem rest_lt {s : ByteArray} {p : Nat} {c : UInt8} {r : List UInt8} (h : rest s p = c :: r) : p < s.size := by
  unfold rest at h
  have := congrArg List.length h
  simp at this
  have hz : s.data.size = s.size := rfl
  omega
theorem rest_byte {s : ByteArray} {p : Nat} {c : UInt8} {r : List UInt8} (h : rest s p = c :: r) : byteAt s p = c := by
  have hl := rest_lt h
  unfold rest at h
  rw [drop_byte hl] at h
  injection h
theorem rest_next {s : ByteArray} {p : Nat} {c : UInt8} {r : List UInt8} (h : rest s p = c :: r) : rest s (p + 1) = r := by
  have hl := rest_lt h
  unfold rest at h ⊢
  rw [drop_byte hl] at h
  injection h
theorem see_rest {s : ByteArray} {p : Nat} {c : UInt8} {r : List UInt8} (e : Int) (h : rest s p = c :: r) (hb : isBlank c = false) : (⟨p, e⟩ : St).see s = (c, ⟨p, e⟩) := by
  have hl := rest_lt h
  have hk := skip_stop (s := s) (q := p) (.inr (by rw [rest_byte h]; exact hb))
  unfold St.see St.blanks
  simp only [hk]
  rw [if_neg (by omega), rest_byte h]
theorem see_end {s : ByteArray} {p : Nat} (h : rest s p = []) : St.blanks s ⟨p, 0⟩ = ⟨p, 0⟩ := by
  have : ¬ p < s.size := by
    intro hl
    unfold rest at h
    rw [drop_byte hl] at h
    exact absurd h (by simp)
  have hk := skip_stop (s := s) (q := p) (.inl this)
  unfold St.blanks
  simp only [hk]
theorem nest_head (o : Bool) (n : Nat) : ∃ r, nest o (n + 1) = (if o then 123 else 91) :: r := by
  rcases n with _ | n <;> cases o <;> exact ⟨_, rfl⟩
theorem nest_list (s : ByteArray) : ∀ (n d p : Nat) (r : List UInt8), rest s p = nest false (n + 1) ++ r →
    (n + 1 ≤ d → valueB s d ⟨p, 0⟩ = (nestV false (n + 1), ⟨p + (nest false (n + 1)).length, 0⟩)) ∧ (d < n + 1 → (valueB s d ⟨p, 0⟩).2.e = 10)
  | n, 0, p, r, h => by
    refine ⟨fun h => by omega, fun _ => ?_⟩
    obtain ⟨t, ht⟩ := nest_head false n
    rw [ht] at h
    have hs := see_rest 0 h (by decide)
    simp only [valueB, hs]
    rfl
  | 0, d + 1, p, r, h => by
    refine ⟨fun _ => ?_, fun h => by omega⟩
    have hs := see_rest 0 h (by decide)
    have h1 := rest_next h
    have hs1 := see_rest 0 h1 (by decide)
    simp only [valueB, hs]
    rw [if_neg (by decide), if_pos (by decide)]
    simp only [listB, St.step, hs1]
    rfl
  | n + 1, d + 1, p, r, h => by
    have h0 : rest s p = 91 :: (nest false (n + 1) ++ (93 :: r)) := by rw [h]; simp [nest]
    have hs := see_rest 0 h0 (by decide)
    have h1 := rest_next h0
    have ih := nest_list s n d (p + 1) (93 :: r) h1
    obtain ⟨t, ht⟩ := nest_head false n
    have h1' := h1
    rw [ht] at h1'
    have hs1 := see_rest 0 h1' (by decide)
    have hlt := rest_lt h1'
    obtain ⟨f, hf⟩ : ∃ f, s.size + 1 - (p + 1) = f + 1 := ⟨s.size - (p + 1), by omega⟩
    have hv : valueB s (d + 1) ⟨p, 0⟩ = listB s (valueB s d) ⟨p, 0⟩ := by
      simp only [valueB, hs]
      rw [if_neg (by decide), if_pos (by decide)]
    have hl : listB s (valueB s d) ⟨p, 0⟩ = (listV (listLoop s (valueB s d) (f + 1) [] ⟨p + 1, 0⟩).1, (listLoop s (valueB s d) (f + 1) [] ⟨p + 1, 0⟩).2) := by
      simp only [listB, St.step, hs1, ← hf]
      rfl
    rw [hv, hl]
    refine ⟨fun hd => ?_, fun hd => ?_⟩
    · have hi := ih.1 (by omega)
      have h2 : rest s (p + 1 + (nest false (n + 1)).length) = 93 :: r := by
        unfold rest at h1 ⊢
        rw [← List.drop_drop, h1, List.drop_left]
      have hs2 := see_rest 0 h2 (by decide)
      have hloop : listLoop s (valueB s d) (f + 1) [] ⟨p + 1, 0⟩ = ([nestV false (n + 1)], ⟨p + 1 + (nest false (n + 1)).length + 1, 0⟩) := by
        simp only [listLoop, hi, hs2]
        rfl
      rw [hloop]
      simp [nest, nestV]; omega
    · have hi := ih.2 (by omega)
      have hloop : (listLoop s (valueB s d) (f + 1) [] ⟨p + 1, 0⟩).2 = (valueB s d ⟨p + 1, 0⟩).2 := by
        simp only [listLoop]
        rw [if_neg (by decide), if_pos (by rw [hi]; decide)]
      rw [hloop]; exact hi

theorem dec_rest {s : ByteArray} {p : Nat} {c : UInt8} {r : List UInt8} (h : rest s p = c :: r) (hc : c.toNat < 128) : dec s p = (c.toNat, 1) := by
  have hl := rest_lt h
  have hb := rest_byte h
  unfold dec Lib.decodeGo
  have e : (s.extract p s.size).data.toList = c :: r := by
    rw [extract_data, List.take_of_length_le (by simp)]
    exact h
  generalize s.extract p s.size = t at *
  obtain ⟨⟨l⟩⟩ := t
  simp only at e
  subst e
  rw [if_neg (by simp [ByteArray.size])]
  exact decode_ascii (⟨⟨c :: r⟩⟩ : ByteArray) 0 (by simp [ByteArray.size]) (show c.toNat < 128 from hc)
theorem sign_rest {s : ByteArray} {p : Nat} {c : UInt8} {r : List UInt8} (h : rest s p = c :: r) (hc : c.toNat < 128) (h32 : 32 ≤ c.toNat) : signB s ⟨p, 0⟩ = (c.toNat, ⟨p + 1, 0⟩) := by
  have hl := rest_lt h
  unfold signB
  rw [dec_rest h hc]
  simp only
  rw [if_neg (by omega), if_neg (by omega)]
theorem text_a {s : ByteArray} {p : Nat} {r : List UInt8} (h : rest s p = 34 :: 97 :: 34 :: r) : textB s ⟨p, 0⟩ = ([97], ⟨p + 3, 0⟩) := by
  have h1 := rest_next h
  have h2 := rest_next h1
  have hl0 := rest_lt h; have hl1 := rest_lt h1; have hl2 := rest_lt h2
  have s1 := sign_rest h1 (by decide) (by decide)
  have s2 := sign_rest h2 (by decide) (by decide)
  have ht : St.twants s ⟨p, 0⟩ 34 = ⟨p + 1, 0⟩ := by
    have hn : St.next s ⟨p, 0⟩ = (34, ⟨p + 1, 0⟩) := by
      unfold St.next
      rw [if_neg (by simp)]
      simp only
      rw [if_neg (by omega), rest_byte h]
      rfl
    unfold St.twants
    rw [hn]
    rfl
  obtain ⟨f, hf⟩ : ∃ f, s.size + 1 - p = f + 1 + 1 := ⟨s.size - 1 - p, by omega⟩
  have hu : unquoteB s p = ([97], p + 3, 0) := by
    unfold unquoteB
    rw [ht, hf]
    simp only [unqLoop, s1, s2]
    rfl
  unfold textB
  simp only [hu]
  rfl
theorem nest_obj (s : ByteArray) : ∀ (n d p : Nat) (r : List UInt8), rest s p = nest true (n + 1) ++ r →
    (n + 1 ≤ d → valueB s d ⟨p, 0⟩ = (nestV true (n + 1), ⟨p + (nest true (n + 1)).length, 0⟩)) ∧ (d < n + 1 → (valueB s d ⟨p, 0⟩).2.e = 10)
  | n, 0, p, r, h => by
    refine ⟨fun h => by omega, fun _ => ?_⟩
    obtain ⟨t, ht⟩ := nest_head true n
    rw [ht] at h
    have hs := see_rest 0 h (by decide)
    simp only [valueB, hs]
    rfl
  | 0, d + 1, p, r, h => by
    refine ⟨fun _ => ?_, fun h => by omega⟩
    have hs := see_rest 0 h (by decide)
    have h1 := rest_next h
    have hs1 := see_rest 0 h1 (by decide)
    simp only [valueB, hs]
    rw [if_neg (by decide), if_neg (by decide), if_pos (by decide)]
    simp only [objectB, St.step, hs1]
    rfl
  | n + 1, d + 1, p, r, h => by
    have h0 : rest s p = 123 :: 34 :: 97 :: 34 :: 58 :: (nest true (n + 1) ++ (125 :: r)) := by rw [h]; simp [nest]
    have hs := see_rest 0 h0 (by decide)
    have h1 := rest_next h0
    have hs1 := see_rest 0 h1 (by decide)
    have h4 := rest_next (rest_next (rest_next h1))
    have hs4 := see_rest 0 h4 (by decide)
    have h5 := rest_next h4
    have htx := text_a h1
    have ih := nest_obj s n d (p + 5) (125 :: r) h5
    have hlt := rest_lt h1
    obtain ⟨f, hf⟩ : ∃ f, s.size + 1 - (p + 1) = f + 1 := ⟨s.size - (p + 1), by omega⟩
    have hv : valueB s (d + 1) ⟨p, 0⟩ = objectB s (valueB s d) ⟨p, 0⟩ := by
      simp only [valueB, hs]
      rw [if_neg (by decide), if_neg (by decide), if_pos (by decide)]
    have hl : objectB s (valueB s d) ⟨p, 0⟩ = (objV (sortNames (objLoop s (valueB s d) (f + 1) [] ⟨p + 1, 0⟩).1), (objLoop s (valueB s d) (f + 1) [] ⟨p + 1, 0⟩).2) := by
      simp only [objectB, St.step, hs1, ← hf]
      rfl
    have hw : St.wants s ⟨p + 1 + 3, 0⟩ 58 = ⟨p + 5, 0⟩ := by
      unfold St.wants
      simp only [hs4]
      rfl
    have hm : memberB s (valueB s d) [] ⟨p + 1, 0⟩ = ((⟨#[97]⟩, (valueB s d ⟨p + 5, 0⟩).1), (valueB s d ⟨p + 5, 0⟩).2) := by
      simp [memberB, hs1, htx, hw]
    rw [hv, hl]
    refine ⟨fun hd => ?_, fun hd => ?_⟩
    · have hi := ih.1 (by omega)
      have h6 : rest s (p + 5 + (nest true (n + 1)).length) = 125 :: r := by
        have h5' : rest s (p + 5) = _ := h5
        unfold rest at h5' ⊢
        rw [← List.drop_drop, h5', List.drop_left]
      have hs2 := see_rest 0 h6 (by decide)
      have hloop : objLoop s (valueB s d) (f + 1) [] ⟨p + 1, 0⟩ = ([(⟨#[97]⟩, nestV true (n + 1))], ⟨p + 5 + (nest true (n + 1)).length + 1, 0⟩) := by
        simp only [objLoop, hm, hi, hs2]
        rfl
      rw [hloop]
      simp [nest, nestV, sortNames, insName]; omega
    · have hi := ih.2 (by omega)
      have hloop : (objLoop s (valueB s d) (f + 1) [] ⟨p + 1, 0⟩).2 = (valueB s d ⟨p + 5, 0⟩).2 := by
        simp only [objLoop, hm]
        rw [if_neg (by decide), if_pos (by rw [hi]; decide)]
      rw [hloop]; exact hi
theorem nest_len (o : Bool) : ∀ n, (nest o n).length ≤ 6 * n
  | 0 => Nat.zero_le _
  | 1 => by cases o <;> decide
  | n + 2 => by
    have := nest_len o (n + 1)
    cases o <;> simp [nest] <;> omega
theorem nest_any (o : Bool) (s : ByteArray) (n d p : Nat) (r : List UInt8) (h : rest s p = nest o (n + 1) ++ r) :
    (n + 1 ≤ d → valueB s d ⟨p, 0⟩ = (nestV o (n + 1), ⟨p + (nest o (n + 1)).length, 0⟩)) ∧ (d < n + 1 → (valueB s d ⟨p, 0⟩).2.e = 10) := by
  cases o
  · exact nest_list s n d p r h
  · exact nest_obj s n d p r h
theorem nest_parse (o : Bool) (n : Nat) (h2 : n + 1 ≤ 200) : (n + 1 ≤ 64 → parseB ⟨(nest o (n + 1)).toArray⟩ = (nestV o (n + 1), 0)) ∧ (64 < n + 1 → (parseB ⟨(nest o (n + 1)).toArray⟩).2 = 10) := by
  have hr : rest ⟨(nest o (n + 1)).toArray⟩ 0 = nest o (n + 1) ++ [] := by simp [rest]
  have hn := nest_any o _ n 64 0 [] hr
  have hl := nest_len o (n + 1)
  have hz : (⟨(nest o (n + 1)).toArray⟩ : ByteArray).size = (nest o (n + 1)).length := by simp [ByteArray.size]
  refine ⟨fun h => ?_, fun h => ?_⟩
  · have hv := hn.1 h
    have hre : rest ⟨(nest o (n + 1)).toArray⟩ (0 + (nest o (n + 1)).length) = [] := by simp [rest]
    have hbl := see_end hre
    have he : endB ⟨(nest o (n + 1)).toArray⟩ ⟨0 + (nest o (n + 1)).length, 0⟩ = ⟨0 + (nest o (n + 1)).length, 0⟩ := by
      unfold endB
      rw [hbl, if_neg (by rw [hz]; simp)]
    unfold parseB
    rw [if_neg (by omega), hv]
    simp only
    rw [he, if_neg (by simp)]
  · have hv := hn.2 h
    have he : ∀ y : St, y.e = 10 → (endB ⟨(nest o (n + 1)).toArray⟩ y).e = 10 := fun y hy => by
      have hb : (y.blanks ⟨(nest o (n + 1)).toArray⟩).e = 10 := hy
      unfold endB
      rw [if_neg (by rw [hb]; simp)]
      exact hb
    unfold parseB
    rw [if_neg (by omega), if_pos (by rw [he _ hv]; decide)]
    exact he _ hv
theorem nest_may (o : Bool) : ∀ (n d : Nat), n + 1 ≤ d → mayJ d (nestV o (n + 1)) = true
  | _, 0, h => by omega
  | 0, d + 1, _ => by
    cases o
    · show mayJ (d + 1) (.mk 6 0 ⟨#[]⟩ [] []) = true
      rw [may_list]; rfl
    · show mayJ (d + 1) (.mk 7 0 ⟨#[]⟩ [] []) = true
      rw [may_obj rfl]; rfl
  | n + 1, d + 1, h => by
    have ih := nest_may o n d (by omega)
    cases o
    · show mayJ (d + 1) (.mk 6 0 ⟨#[]⟩ [nestV false (n + 1)] []) = true
      rw [may_list]; simp [ih]
    · show mayJ (d + 1) (.mk 7 0 ⟨#[]⟩ [] [(⟨#[97]⟩, nestV true (n + 1))]) = true
      rw [may_obj rfl]; simp [ih]
end Go.Proofs.YtjjgbgojlhaapaaDoor
