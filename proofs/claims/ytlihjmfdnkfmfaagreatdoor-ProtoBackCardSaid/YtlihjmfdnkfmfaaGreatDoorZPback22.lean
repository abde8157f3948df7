/- Parts of the proof: Qp, Pt. -/
import Derived.Test.YtlihjmfdnkfmfaaGreatDoorZPback21
import Derived.Test.YtlihjmfdnkfmfaaGreatDoorZPback8
import Derived.Laws.Rows
namespace Go.Proofs.YtlihjmfdnkfmfaaGreatDoor
open Go.RowKit Go.Lib

def nm_user : ByteArray := ⟨#[117, 115, 101, 114]⟩
def nm_tx : ByteArray := ⟨#[116, 120]⟩
def nm_feed : ByteArray := ⟨#[102, 101, 101, 100]⟩
def nm_name : ByteArray := ⟨#[110, 97, 109, 101]⟩
def nm_entry : ByteArray := ⟨#[101, 110, 116, 114, 121]⟩
def nm_on : ByteArray := ⟨#[111, 110]⟩
def nm_before : ByteArray := ⟨#[98, 101, 102, 111, 114, 101]⟩
def nm_after : ByteArray := ⟨#[97, 102, 116, 101, 114]⟩
def nm_limit : ByteArray := ⟨#[108, 105, 109, 105, 116]⟩
def nm_token : ByteArray := ⟨#[116, 111, 107, 101, 110]⟩
def nm_op : ByteArray := ⟨#[111, 112]⟩
/-- the same text? -/
def sm (a b : ByteArray) : Bool := a.toList == b.toList
theorem sm_iff {a b : ByteArray} : sm a b = true ↔ a = b := by
  unfold sm
  rw [beq_iff_eq]
  constructor
  · intro h
    rw [ByteArray.toList_eq, ByteArray.toList_eq] at h
    cases a; cases b
    exact congrArg ByteArray.mk (Array.toList_inj.1 h)
  · rintro rfl; rfl
theorem any_iff {f : List ByteArray} {a : ByteArray} : f.any (sm a) = true ↔ a ∈ f := by
  rw [List.any_eq_true]
  constructor
  · rintro ⟨b, hb, h⟩
    rw [sm_iff.1 h]; exact hb
  · intro h
    exact ⟨a, h, sm_iff.2 rfl⟩
/-- is it this text? -/
def isT' (s : ByteArray) (l : List UInt8) : Bool := s.toList == l
/-- an operation's fields, rising -/
def fieldsB (op : ByteArray) : List ByteArray :=
  if isT' op [98, 101, 103, 105, 110] then [nm_user]
  else if isT' op [99, 111, 109, 109, 105, 116] || isT' op [97, 98, 111, 114, 116] || isT' op [115, 117, 98, 115] then [nm_tx]
  else if isT' op [115, 117, 98, 115, 99, 114, 105, 98, 101] then [nm_feed, nm_name, nm_tx]
  else if isT' op [117, 110, 115, 117, 98, 115, 99, 114, 105, 98, 101] || isT' op [117, 110, 114, 101, 97, 100] then [nm_feed, nm_tx]
  else if isT' op [102, 111, 108, 100, 101, 114] || isT' op [117, 110, 102, 111, 108, 100, 101, 114] then [nm_name, nm_tx]
  else if isT' op [114, 101, 97, 100] || isT' op [115, 116, 97, 114] then [nm_entry, nm_feed, nm_on, nm_tx]
  else if isT' op [109, 97, 114, 107] then [nm_before, nm_feed, nm_tx]
  else if isT' op [108, 105, 115, 116] then [nm_after, nm_feed, nm_limit, nm_tx]
  else if isT' op [115, 121, 110, 99] then [nm_limit, nm_token, nm_user]
  else []
structure Rq where
  op : ByteArray
  user : ByteArray
  feed : ByteArray
  name : ByteArray
  token : ByteArray
  tx : Int
  entry : Int
  after : Int
  limit : Int
  before : Int
  on : Bool
deriving DecidableEq
def e0 : ByteArray := ⟨#[]⟩
def zeroR : Rq := ⟨e0, e0, e0, e0, e0, 0, 0, 0, 0, 0, false⟩
def truthV (b : Bool) : JV := .mk (if b then 3 else 2) 0 ⟨#[]⟩ [] []
def isWordF (nm : ByteArray) : Bool := sm nm nm_user || sm nm nm_feed || sm nm nm_name || sm nm nm_token
def isNumF (nm : ByteArray) : Bool := sm nm nm_tx || sm nm nm_entry || sm nm nm_after || sm nm nm_limit || sm nm nm_before
/-- may a field have this value? -/
def kindF (nm : ByteArray) (x : JV) : Bool := if isWordF nm then x.k == 5 else if isNumF nm then x.k == 4 else (x.k == 2 || x.k == 3)
def putF (r : Rq) (nm : ByteArray) (x : JV) : Rq :=
  if sm nm nm_user then { r with user := x.s } else if sm nm nm_feed then { r with feed := x.s } else if sm nm nm_name then { r with name := x.s } else if sm nm nm_token then { r with token := x.s }
  else if sm nm nm_tx then { r with tx := x.n } else if sm nm nm_entry then { r with entry := x.n } else if sm nm nm_after then { r with after := x.n } else if sm nm nm_limit then { r with limit := x.n }
  else if sm nm nm_before then { r with before := x.n } else { r with on := x.k == 3 }
def getF (r : Rq) (nm : ByteArray) : JV :=
  if sm nm nm_user then wordV r.user else if sm nm nm_feed then wordV r.feed else if sm nm nm_name then wordV r.name else if sm nm nm_token then wordV r.token
  else if sm nm nm_tx then numV r.tx else if sm nm nm_entry then numV r.entry else if sm nm nm_after then numV r.after else if sm nm nm_limit then numV r.limit
  else if sm nm nm_before then numV r.before else truthV r.on
/-! the program's way: member by member -/
def progLoop (f : List ByteArray) : List (ByteArray × JV) → Rq → Nat → Option (Rq × Nat)
  | [], r, n => some (r, n)
  | q :: m, r, n => if sm q.1 nm_op then progLoop f m r n else if f.any (sm q.1) && kindF q.1 q.2 then progLoop f m (putF r q.1 q.2) (n + 1) else none
def progR (f : List ByteArray) (m : List (ByteArray × JV)) (r : Rq) : Option Rq :=
  match progLoop f m r 0 with
  | some (r', n) => if n < f.length then none else some r'
  | none => none
/-! the document's way: field by field -/
def refLoop (m : List (ByteArray × JV)) : List ByteArray → Rq → Option Rq
  | [], r => some r
  | nm :: f, r => if (getB nm m).2 && kindF nm (getB nm m).1 then refLoop m f (putF r nm (getB nm m).1) else none
def refR (f : List ByteArray) (m : List (ByteArray × JV)) (r : Rq) : Option Rq :=
  if m.length = f.length + 1 then refLoop m f r else none
def BAsc' (l : List ByteArray) : Prop := l.Pairwise fun a b => a.toList < b.toList
/-- the loop over members is the loop over those that are not op -/
theorem prog_filter (f : List ByteArray) : ∀ (m : List (ByteArray × JV)) (r : Rq) (n : Nat), progLoop f m r n = progLoop f (m.filter fun q => !(sm q.1 nm_op)) r n
  | [], _, _ => rfl
  | q :: m, r, n => by
    by_cases h : (sm q.1 nm_op) = true
    · rw [progLoop, if_pos h, List.filter_cons_of_neg (by simp [h]), prog_filter f m]
    · rw [List.filter_cons_of_pos (by simpa using h), progLoop, if_neg h, progLoop, if_neg h]
      split
      · exact prog_filter f m _ _
      · rfl
theorem prog_some {f : List ByteArray} : ∀ {m : List (ByteArray × JV)} {r : Rq} {n : Nat} {r' : Rq} {n' : Nat}, (∀ q ∈ m, (sm q.1 nm_op) = false) → progLoop f m r n = some (r', n') →
    n' = n + m.length ∧ (∀ q ∈ m, q.1 ∈ f ∧ kindF q.1 q.2 = true) ∧ r' = m.foldl (fun r q => putF r q.1 q.2) r
  | [], r, n, r', n', _, h => by
    simp only [progLoop, Option.some.injEq, Prod.mk.injEq] at h
    exact ⟨by simp [h.2], by simp, by simp [h.1]⟩
  | q :: m, r, n, r', n', hm, h => by
    rw [progLoop, hm q (List.mem_cons_self ..), if_neg Bool.false_ne_true] at h
    split at h
    · rename_i hk
      rw [Bool.and_eq_true] at hk
      obtain ⟨h1, h2, h3⟩ := prog_some (fun q' hq => hm q' (List.mem_cons_of_mem _ hq)) h
      refine ⟨by rw [h1, List.length_cons]; omega, ?_, by rw [h3]; rfl⟩
      intro q' hq
      rcases List.mem_cons.1 hq with rfl | hq
      · exact ⟨any_iff.1 hk.1, hk.2⟩
      · exact h2 q' hq
    · cases h
theorem prog_good {f : List ByteArray} : ∀ {m : List (ByteArray × JV)} {r : Rq} {n : Nat}, (∀ q ∈ m, (sm q.1 nm_op) = false) → (∀ q ∈ m, q.1 ∈ f ∧ kindF q.1 q.2 = true) →
    progLoop f m r n = some (m.foldl (fun r q => putF r q.1 q.2) r, n + m.length)
  | [], _, _, _, _ => rfl
  | q :: m, r, n, hm, hk => by
    rw [progLoop, hm q (List.mem_cons_self ..), if_neg Bool.false_ne_true, if_pos (by rw [Bool.and_eq_true]; have := hk q (List.mem_cons_self ..); exact ⟨any_iff.2 this.1, this.2⟩),
      prog_good (fun q' hq => hm q' (List.mem_cons_of_mem _ hq)) (fun q' hq => hk q' (List.mem_cons_of_mem _ hq))]
    simp only [List.foldl_cons, List.length_cons]
    congr 2
    omega
theorem ref_some {m : List (ByteArray × JV)} : ∀ {f : List ByteArray} {r r' : Rq}, refLoop m f r = some r' → (∀ nm ∈ f, (getB nm m).2 = true ∧ kindF nm (getB nm m).1 = true) ∧ r' = f.foldl (fun r nm => putF r nm (getB nm m).1) r
  | [], r, r', h => by
    simp only [refLoop, Option.some.injEq] at h
    exact ⟨by simp, by simp [h]⟩
  | nm :: f, r, r', h => by
    rw [refLoop] at h
    split at h
    · rename_i hk
      rw [Bool.and_eq_true] at hk
      obtain ⟨h1, h2⟩ := ref_some h
      refine ⟨?_, by rw [h2]; rfl⟩
      intro nm' hn
      rcases List.mem_cons.1 hn with rfl | hn
      · exact hk
      · exact h1 nm' hn
    · cases h
theorem ref_good {m : List (ByteArray × JV)} : ∀ {f : List ByteArray} {r : Rq}, (∀ nm ∈ f, (getB nm m).2 = true ∧ kindF nm (getB nm m).1 = true) → refLoop m f r = some (f.foldl (fun r nm => putF r nm (getB nm m).1) r)
  | [], _, _ => rfl
  | nm :: f, r, h => by
    rw [refLoop, if_pos (by rw [Bool.and_eq_true]; exact h nm (List.mem_cons_self ..)), ref_good (fun nm' hn => h nm' (List.mem_cons_of_mem _ hn))]
    rfl
theorem lt_irr {a : ByteArray} (h : a.toList < a.toList) : False := List.lt_irrefl _ h
theorem rising_sub : ∀ {a b : List ByteArray}, BAsc' a → BAsc' b → (∀ x ∈ a, x ∈ b) → a.Sublist b
  | [], b, _, _, _ => List.nil_sublist b
  | x :: a, [], _, _, h => absurd (h x (List.mem_cons_self ..)) (by simp)
  | x :: a, y :: b, ha, hb, h => by
    have ha' := List.pairwise_cons.1 ha
    have hb' := List.pairwise_cons.1 hb
    by_cases hxy : x = y
    · subst hxy
      refine (rising_sub ha'.2 hb'.2 fun z hz => ?_).cons_cons x
      rcases List.mem_cons.1 (h z (List.mem_cons_of_mem _ hz)) with rfl | h2
      · exact (lt_irr (ha'.1 z hz)).elim
      · exact h2
    · have hx : x ∈ b := (List.mem_cons.1 (h x (List.mem_cons_self ..))).resolve_left hxy
      refine (rising_sub ha hb'.2 fun z hz => ?_).cons y
      rcases List.mem_cons.1 (h z hz) with rfl | h2
      · exfalso
        rcases List.mem_cons.1 hz with rfl | hz
        · exact hxy rfl
        · exact lt_irr (List.lt_trans (ha'.1 z hz) (hb'.1 x hx))
      · exact h2
theorem rising_eq {a b : List ByteArray} (ha : BAsc' a) (hb : BAsc' b) (hs : ∀ x ∈ a, x ∈ b) (hl : b.length ≤ a.length) : a = b :=
  (rising_sub ha hb hs).eq_of_length_le hl
theorem get_of_mem {m : List (ByteArray × JV)} (hm : BAsc' (m.map (·.1))) {q : ByteArray × JV} (h : q ∈ m) : getB q.1 m = (q.2, true) := by
  induction m with
  | nil => cases h
  | cons r m ih =>
    have hm' := List.pairwise_cons.1 hm
    unfold getB
    rcases List.mem_cons.1 h with rfl | h
    · rw [if_pos (by simp)]
    · rw [if_neg, ih hm'.2 h]
      intro e
      have e2 := hm'.1 q.1 (List.mem_map_of_mem h)
      rw [beq_iff_eq] at e
      rw [e] at e2
      exact List.lt_irrefl _ e2
theorem mem_of_get {nm : ByteArray} : ∀ {m : List (ByteArray × JV)}, (getB nm m).2 = true → nm ∈ m.map (·.1)
  | [], h => by cases h
  | r :: m, h => by
    unfold getB at h
    split at h
    · rename_i hk
      exact List.mem_cons.2 (.inl (sm_iff.1 hk).symm)
    · exact List.mem_cons_of_mem _ (mem_of_get h)
/-- op stands once -/
theorem filter_len : ∀ {m : List (ByteArray × JV)}, BAsc' (m.map (·.1)) → nm_op ∈ m.map (·.1) → (m.filter fun q => !sm q.1 nm_op).length + 1 = m.length
  | [], _, h => by cases h
  | q :: m, hm, h => by
    have hm' := List.pairwise_cons.1 hm
    by_cases hq : sm q.1 nm_op = true
    · rw [List.filter_cons_of_neg (by simp [hq])]
      have e : m.filter (fun q => !sm q.1 nm_op) = m := List.filter_eq_self.2 fun r hr => by
        have : q.1.toList < r.1.toList := hm'.1 r.1 (List.mem_map_of_mem hr)
        cases hs : sm r.1 nm_op with
        | false => rfl
        | true => rw [sm_iff.1 hs, sm_iff.1 hq] at this; exact (lt_irr this).elim
      rw [e, List.length_cons]
    · have h2 : nm_op ∈ m.map (·.1) := by
        rcases List.mem_cons.1 h with h2 | h2
        · exact absurd (sm_iff.2 h2.symm) hq
        · exact h2
      rw [List.filter_cons_of_pos (by simpa using hq), List.length_cons, List.length_cons, filter_len hm'.2 h2]
theorem fold_names {m : List (ByteArray × JV)} (M : List (ByteArray × JV)) (h : ∀ q ∈ m, (getB q.1 M).1 = q.2) : ∀ (r : Rq), m.foldl (fun r q => putF r q.1 q.2) r = (m.map (·.1)).foldl (fun r nm => putF r nm (getB nm M).1) r := by
  induction m with
  | nil => intro r; rfl
  | cons q m ih =>
    intro r
    simp only [List.foldl_cons, List.map_cons]
    rw [h q (List.mem_cons_self ..), ih (fun q' hq => h q' (List.mem_cons_of_mem _ hq))]
theorem prog_ref {f : List ByteArray} {m : List (ByteArray × JV)} (r : Rq) (hm : BAsc' (m.map (·.1))) (hf : BAsc' f) (ho : nm_op ∈ m.map (·.1)) (hn : nm_op ∉ f) : progR f m r = refR f m r := by
  have hlen := filter_len hm ho
  have hfil : ∀ q ∈ m.filter (fun q => !sm q.1 nm_op), sm q.1 nm_op = false := fun q hq => by simpa using (List.mem_filter.1 hq).2
  have hin : ∀ q ∈ m.filter (fun q => !sm q.1 nm_op), q ∈ m := fun q hq => (List.mem_filter.1 hq).1
  have has : BAsc' ((m.filter fun q => !sm q.1 nm_op).map (·.1)) := List.Pairwise.sublist (List.Sublist.map _ List.filter_sublist) hm
  have hget : ∀ q ∈ m.filter (fun q => !sm q.1 nm_op), getB q.1 m = (q.2, true) := fun q hq => get_of_mem hm (hin q hq)
  have hall : ∀ nm, nm ∈ m.map (·.1) → nm ≠ nm_op → nm ∈ (m.filter fun q => !sm q.1 nm_op).map (·.1) := fun nm h1 h2 => by
    obtain ⟨q, hq, rfl⟩ := List.mem_map.1 h1
    refine List.mem_map_of_mem (List.mem_filter.2 ⟨hq, ?_⟩)
    cases hs : sm q.1 nm_op with
    | false => rfl
    | true => exact absurd (sm_iff.1 hs) h2
  unfold progR refR
  rw [prog_filter]
  generalize hM : m.filter (fun q => !sm q.1 nm_op) = M at *
  by_cases hk : (∀ q ∈ M, q.1 ∈ f ∧ kindF q.1 q.2 = true) ∧ f.length ≤ M.length
  · have hE : M.map (·.1) = f := rising_eq has hf (fun x hx => by obtain ⟨q, hq, rfl⟩ := List.mem_map.1 hx; exact (hk.1 q hq).1) (by rw [List.length_map]; exact hk.2)
    have hL : M.length = f.length := by rw [← hE, List.length_map]
    rw [prog_good hfil hk.1, if_pos (by omega)]
    simp only
    rw [if_neg (by omega), ref_good (fun nm hnm => by
      rw [← hE] at hnm
      obtain ⟨q, hq, rfl⟩ := List.mem_map.1 hnm
      rw [hget q hq]
      exact ⟨rfl, (hk.1 q hq).2⟩), fold_names m (fun q hq => by rw [hget q hq]), hE]
  · have hp : (match progLoop f M r 0 with | some (r', n) => if n < f.length then none else some r' | none => none) = none := by
      cases h : progLoop f M r 0 with
      | none => rfl
      | some p =>
        obtain ⟨r', n⟩ := p
        obtain ⟨h1, h2, _⟩ := prog_some hfil h
        simp only
        rw [if_pos]
        refine Nat.lt_of_not_le fun hle => hk ⟨h2, by omega⟩
    rw [hp]
    by_cases hl : m.length = f.length + 1
    · rw [if_pos hl]
      cases h : refLoop m f r with
      | none => rfl
      | some r' =>
        exfalso
        obtain ⟨h1, _⟩ := ref_some h
        have hE : f = M.map (·.1) := rising_eq hf has (fun nm hnm => hall nm (mem_of_get (h1 nm hnm).1) fun e => hn (e ▸ hnm)) (by rw [List.length_map]; omega)
        refine hk ⟨fun q hq => ?_, by omega⟩
        have hq1 : q.1 ∈ f := by rw [hE]; exact List.mem_map_of_mem hq
        have := (h1 q.1 hq1).2
        rw [hget q hq] at this
        exact ⟨hq1, this⟩
    · rw [if_neg hl]
end Go.Proofs.YtlihjmfdnkfmfaaGreatDoor
namespace Go.Proofs.YtlihjmfdnkfmfaaGreatDoor
open Go.RowKit Go.Lib

theorem new_strs {T : TypeId} (w : World) (xs : List ByteArray) (cs : Array Value) (hc : cs = (xs.map Value.string).toArray) (hn : xs.length ≤ 1000) :
    Sl strTy (w.alloc (.cells cs T)) (fun _ => True) (.slice (some ⟨w.heap.size, 0, none⟩) xs.length xs.length) xs :=
  .inr ⟨_, 0, _, rfl, trivial, Nat.le_refl _, by omega, _, str_chunks xs, fun j u hj => by
    rw [Nat.zero_add, hc]; exact cell_newB _ _ _ _ _ (by simpa using hj)⟩
theorem fields_len (s : ByteArray) : (fieldsB s).length ≤ 1000000 := by
  unfold fieldsB
  (repeat' split) <;> decide
theorem fields_ways (s : ByteArray) :
    (isT' s [98, 101, 103, 105, 110] = true ∧ fieldsB s = [nm_user]) ∨
    (isT' s [98, 101, 103, 105, 110] = false ∧ isT' s [99, 111, 109, 109, 105, 116] = true ∧ fieldsB s = [nm_tx]) ∨
    (isT' s [98, 101, 103, 105, 110] = false ∧ isT' s [99, 111, 109, 109, 105, 116] = false ∧ isT' s [97, 98, 111, 114, 116] = true ∧ fieldsB s = [nm_tx]) ∨
    (isT' s [98, 101, 103, 105, 110] = false ∧ isT' s [99, 111, 109, 109, 105, 116] = false ∧ isT' s [97, 98, 111, 114, 116] = false ∧ isT' s [115, 117, 98, 115] = true ∧ fieldsB s = [nm_tx]) ∨
    (isT' s [98, 101, 103, 105, 110] = false ∧ isT' s [99, 111, 109, 109, 105, 116] = false ∧ isT' s [97, 98, 111, 114, 116] = false ∧ isT' s [115, 117, 98, 115] = false ∧ isT' s [115, 117, 98, 115, 99, 114, 105, 98, 101] = true ∧ fieldsB s = [nm_feed, nm_name, nm_tx]) ∨
    (isT' s [98, 101, 103, 105, 110] = false ∧ isT' s [99, 111, 109, 109, 105, 116] = false ∧ isT' s [97, 98, 111, 114, 116] = false ∧ isT' s [115, 117, 98, 115] = false ∧ isT' s [115, 117, 98, 115, 99, 114, 105, 98, 101] = false ∧ isT' s [117, 110, 115, 117, 98, 115, 99, 114, 105, 98, 101] = true ∧ fieldsB s = [nm_feed, nm_tx]) ∨
    (isT' s [98, 101, 103, 105, 110] = false ∧ isT' s [99, 111, 109, 109, 105, 116] = false ∧ isT' s [97, 98, 111, 114, 116] = false ∧ isT' s [115, 117, 98, 115] = false ∧ isT' s [115, 117, 98, 115, 99, 114, 105, 98, 101] = false ∧ isT' s [117, 110, 115, 117, 98, 115, 99, 114, 105, 98, 101] = false ∧ isT' s [117, 110, 114, 101, 97, 100] = true ∧ fieldsB s = [nm_feed, nm_tx]) ∨
    (isT' s [98, 101, 103, 105, 110] = false ∧ isT' s [99, 111, 109, 109, 105, 116] = false ∧ isT' s [97, 98, 111, 114, 116] = false ∧ isT' s [115, 117, 98, 115] = false ∧ isT' s [115, 117, 98, 115, 99, 114, 105, 98, 101] = false ∧ isT' s [117, 110, 115, 117, 98, 115, 99, 114, 105, 98, 101] = false ∧ isT' s [117, 110, 114, 101, 97, 100] = false ∧ isT' s [102, 111, 108, 100, 101, 114] = true ∧ fieldsB s = [nm_name, nm_tx]) ∨
    (isT' s [98, 101, 103, 105, 110] = false ∧ isT' s [99, 111, 109, 109, 105, 116] = false ∧ isT' s [97, 98, 111, 114, 116] = false ∧ isT' s [115, 117, 98, 115] = false ∧ isT' s [115, 117, 98, 115, 99, 114, 105, 98, 101] = false ∧ isT' s [117, 110, 115, 117, 98, 115, 99, 114, 105, 98, 101] = false ∧ isT' s [117, 110, 114, 101, 97, 100] = false ∧ isT' s [102, 111, 108, 100, 101, 114] = false ∧ isT' s [117, 110, 102, 111, 108, 100, 101, 114] = true ∧ fieldsB s = [nm_name, nm_tx]) ∨
    (isT' s [98, 101, 103, 105, 110] = false ∧ isT' s [99, 111, 109, 109, 105, 116] = false ∧ isT' s [97, 98, 111, 114, 116] = false ∧ isT' s [115, 117, 98, 115] = false ∧ isT' s [115, 117, 98, 115, 99, 114, 105, 98, 101] = false ∧ isT' s [117, 110, 115, 117, 98, 115, 99, 114, 105, 98, 101] = false ∧ isT' s [117, 110, 114, 101, 97, 100] = false ∧ isT' s [102, 111, 108, 100, 101, 114] = false ∧ isT' s [117, 110, 102, 111, 108, 100, 101, 114] = false ∧ isT' s [114, 101, 97, 100] = true ∧ fieldsB s = [nm_entry, nm_feed, nm_on, nm_tx]) ∨
    (isT' s [98, 101, 103, 105, 110] = false ∧ isT' s [99, 111, 109, 109, 105, 116] = false ∧ isT' s [97, 98, 111, 114, 116] = false ∧ isT' s [115, 117, 98, 115] = false ∧ isT' s [115, 117, 98, 115, 99, 114, 105, 98, 101] = false ∧ isT' s [117, 110, 115, 117, 98, 115, 99, 114, 105, 98, 101] = false ∧ isT' s [117, 110, 114, 101, 97, 100] = false ∧ isT' s [102, 111, 108, 100, 101, 114] = false ∧ isT' s [117, 110, 102, 111, 108, 100, 101, 114] = false ∧ isT' s [114, 101, 97, 100] = false ∧ isT' s [115, 116, 97, 114] = true ∧ fieldsB s = [nm_entry, nm_feed, nm_on, nm_tx]) ∨
    (isT' s [98, 101, 103, 105, 110] = false ∧ isT' s [99, 111, 109, 109, 105, 116] = false ∧ isT' s [97, 98, 111, 114, 116] = false ∧ isT' s [115, 117, 98, 115] = false ∧ isT' s [115, 117, 98, 115, 99, 114, 105, 98, 101] = false ∧ isT' s [117, 110, 115, 117, 98, 115, 99, 114, 105, 98, 101] = false ∧ isT' s [117, 110, 114, 101, 97, 100] = false ∧ isT' s [102, 111, 108, 100, 101, 114] = false ∧ isT' s [117, 110, 102, 111, 108, 100, 101, 114] = false ∧ isT' s [114, 101, 97, 100] = false ∧ isT' s [115, 116, 97, 114] = false ∧ isT' s [109, 97, 114, 107] = true ∧ fieldsB s = [nm_before, nm_feed, nm_tx]) ∨
    (isT' s [98, 101, 103, 105, 110] = false ∧ isT' s [99, 111, 109, 109, 105, 116] = false ∧ isT' s [97, 98, 111, 114, 116] = false ∧ isT' s [115, 117, 98, 115] = false ∧ isT' s [115, 117, 98, 115, 99, 114, 105, 98, 101] = false ∧ isT' s [117, 110, 115, 117, 98, 115, 99, 114, 105, 98, 101] = false ∧ isT' s [117, 110, 114, 101, 97, 100] = false ∧ isT' s [102, 111, 108, 100, 101, 114] = false ∧ isT' s [117, 110, 102, 111, 108, 100, 101, 114] = false ∧ isT' s [114, 101, 97, 100] = false ∧ isT' s [115, 116, 97, 114] = false ∧ isT' s [109, 97, 114, 107] = false ∧ isT' s [108, 105, 115, 116] = true ∧ fieldsB s = [nm_after, nm_feed, nm_limit, nm_tx]) ∨
    (isT' s [98, 101, 103, 105, 110] = false ∧ isT' s [99, 111, 109, 109, 105, 116] = false ∧ isT' s [97, 98, 111, 114, 116] = false ∧ isT' s [115, 117, 98, 115] = false ∧ isT' s [115, 117, 98, 115, 99, 114, 105, 98, 101] = false ∧ isT' s [117, 110, 115, 117, 98, 115, 99, 114, 105, 98, 101] = false ∧ isT' s [117, 110, 114, 101, 97, 100] = false ∧ isT' s [102, 111, 108, 100, 101, 114] = false ∧ isT' s [117, 110, 102, 111, 108, 100, 101, 114] = false ∧ isT' s [114, 101, 97, 100] = false ∧ isT' s [115, 116, 97, 114] = false ∧ isT' s [109, 97, 114, 107] = false ∧ isT' s [108, 105, 115, 116] = false ∧ isT' s [115, 121, 110, 99] = true ∧ fieldsB s = [nm_limit, nm_token, nm_user]) ∨
    (isT' s [98, 101, 103, 105, 110] = false ∧ isT' s [99, 111, 109, 109, 105, 116] = false ∧ isT' s [97, 98, 111, 114, 116] = false ∧ isT' s [115, 117, 98, 115] = false ∧ isT' s [115, 117, 98, 115, 99, 114, 105, 98, 101] = false ∧ isT' s [117, 110, 115, 117, 98, 115, 99, 114, 105, 98, 101] = false ∧ isT' s [117, 110, 114, 101, 97, 100] = false ∧ isT' s [102, 111, 108, 100, 101, 114] = false ∧ isT' s [117, 110, 102, 111, 108, 100, 101, 114] = false ∧ isT' s [114, 101, 97, 100] = false ∧ isT' s [115, 116, 97, 114] = false ∧ isT' s [109, 97, 114, 107] = false ∧ isT' s [108, 105, 115, 116] = false ∧ isT' s [115, 121, 110, 99] = false ∧ fieldsB s = []) := by
  unfold fieldsB
  cases h0 : isT' s [98, 101, 103, 105, 110]
  case true => exact .inl ⟨rfl, by simp⟩
  cases h1 : isT' s [99, 111, 109, 109, 105, 116]
  case true => exact .inr (.inl ⟨rfl, rfl, by simp⟩)
  cases h2 : isT' s [97, 98, 111, 114, 116]
  case true => exact .inr (.inr (.inl ⟨rfl, rfl, rfl, by simp⟩))
  cases h3 : isT' s [115, 117, 98, 115]
  case true => exact .inr (.inr (.inr (.inl ⟨rfl, rfl, rfl, rfl, by simp⟩)))
  cases h4 : isT' s [115, 117, 98, 115, 99, 114, 105, 98, 101]
  case true => exact .inr (.inr (.inr (.inr (.inl ⟨rfl, rfl, rfl, rfl, rfl, by simp⟩))))
  cases h5 : isT' s [117, 110, 115, 117, 98, 115, 99, 114, 105, 98, 101]
  case true => exact .inr (.inr (.inr (.inr (.inr (.inl ⟨rfl, rfl, rfl, rfl, rfl, rfl, by simp⟩)))))
  cases h6 : isT' s [117, 110, 114, 101, 97, 100]
  case true => exact .inr (.inr (.inr (.inr (.inr (.inr (.inl ⟨rfl, rfl, rfl, rfl, rfl, rfl, rfl, by simp⟩))))))
  cases h7 : isT' s [102, 111, 108, 100, 101, 114]
  case true => exact .inr (.inr (.inr (.inr (.inr (.inr (.inr (.inl ⟨rfl, rfl, rfl, rfl, rfl, rfl, rfl, rfl, by simp⟩)))))))
  cases h8 : isT' s [117, 110, 102, 111, 108, 100, 101, 114]
  case true => exact .inr (.inr (.inr (.inr (.inr (.inr (.inr (.inr (.inl ⟨rfl, rfl, rfl, rfl, rfl, rfl, rfl, rfl, rfl, by simp⟩))))))))
  cases h9 : isT' s [114, 101, 97, 100]
  case true => exact .inr (.inr (.inr (.inr (.inr (.inr (.inr (.inr (.inr (.inl ⟨rfl, rfl, rfl, rfl, rfl, rfl, rfl, rfl, rfl, rfl, by simp⟩)))))))))
  cases h10 : isT' s [115, 116, 97, 114]
  case true => exact .inr (.inr (.inr (.inr (.inr (.inr (.inr (.inr (.inr (.inr (.inl ⟨rfl, rfl, rfl, rfl, rfl, rfl, rfl, rfl, rfl, rfl, rfl, by simp⟩))))))))))
  cases h11 : isT' s [109, 97, 114, 107]
  case true => exact .inr (.inr (.inr (.inr (.inr (.inr (.inr (.inr (.inr (.inr (.inr (.inl ⟨rfl, rfl, rfl, rfl, rfl, rfl, rfl, rfl, rfl, rfl, rfl, rfl, by simp⟩)))))))))))
  cases h12 : isT' s [108, 105, 115, 116]
  case true => exact .inr (.inr (.inr (.inr (.inr (.inr (.inr (.inr (.inr (.inr (.inr (.inr (.inl ⟨rfl, rfl, rfl, rfl, rfl, rfl, rfl, rfl, rfl, rfl, rfl, rfl, rfl, by simp⟩))))))))))))
  cases h13 : isT' s [115, 121, 110, 99]
  case true => exact .inr (.inr (.inr (.inr (.inr (.inr (.inr (.inr (.inr (.inr (.inr (.inr (.inr (.inl ⟨rfl, rfl, rfl, rfl, rfl, rfl, rfl, rfl, rfl, rfl, rfl, rfl, rfl, rfl, by simp⟩)))))))))))))
  exact .inr (.inr (.inr (.inr (.inr (.inr (.inr (.inr (.inr (.inr (.inr (.inr (.inr (.inr ⟨rfl, rfl, rfl, rfl, rfl, rfl, rfl, rfl, rfl, rfl, rfl, rfl, rfl, rfl, by simp⟩)))))))))))))
set_option maxRecDepth 100000 in
set_option maxHeartbeats 16000000 in
theorem fields_any (s : ByteArray) (w : World) :
    Calls Tryz.prog 18 #[.string s] w fun e w' => (∃ v, e = .returned v ∧ Sl strTy w' (fun _ => True) v (fieldsB s)) ∧ Below w.heap.size w w' := by
  rcases fields_ways s with ⟨h0, hf⟩ | ⟨h0, h1, hf⟩ | ⟨h0, h1, h2, hf⟩ | ⟨h0, h1, h2, h3, hf⟩ | ⟨h0, h1, h2, h3, h4, hf⟩ | ⟨h0, h1, h2, h3, h4, h5, hf⟩ | ⟨h0, h1, h2, h3, h4, h5, h6, hf⟩ | ⟨h0, h1, h2, h3, h4, h5, h6, h7, hf⟩ | ⟨h0, h1, h2, h3, h4, h5, h6, h7, h8, hf⟩ | ⟨h0, h1, h2, h3, h4, h5, h6, h7, h8, h9, hf⟩ | ⟨h0, h1, h2, h3, h4, h5, h6, h7, h8, h9, h10, hf⟩ | ⟨h0, h1, h2, h3, h4, h5, h6, h7, h8, h9, h10, h11, hf⟩ | ⟨h0, h1, h2, h3, h4, h5, h6, h7, h8, h9, h10, h11, h12, hf⟩ | ⟨h0, h1, h2, h3, h4, h5, h6, h7, h8, h9, h10, h11, h12, h13, hf⟩ | ⟨h0, h1, h2, h3, h4, h5, h6, h7, h8, h9, h10, h11, h12, h13, hf⟩
  all_goals
    rw [hf]
    clear hf
    unfold isT' at *
    go_enter Tryz.func18, Tryz.ntmps18
    go_wp2_with fail
    go_ret
    refine ⟨⟨_, rfl, ?_⟩, ?_⟩
    · first
        | exact Sl.nil none 0
        | exact new_strs w _ _ rfl (by decide)
    · first
        | exact Below.refl _ _
        | exact bel_alloc (Below.refl _ _) _
theorem sm_user (nm : ByteArray) : sm nm nm_user = (nm.toList == [117, 115, 101, 114]) := by unfold sm nm_user; rw [ByteArray.toList_eq (⟨#[117, 115, 101, 114]⟩ : ByteArray)]
theorem sm_tx (nm : ByteArray) : sm nm nm_tx = (nm.toList == [116, 120]) := by unfold sm nm_tx; rw [ByteArray.toList_eq (⟨#[116, 120]⟩ : ByteArray)]
theorem sm_feed (nm : ByteArray) : sm nm nm_feed = (nm.toList == [102, 101, 101, 100]) := by unfold sm nm_feed; rw [ByteArray.toList_eq (⟨#[102, 101, 101, 100]⟩ : ByteArray)]
theorem sm_name (nm : ByteArray) : sm nm nm_name = (nm.toList == [110, 97, 109, 101]) := by unfold sm nm_name; rw [ByteArray.toList_eq (⟨#[110, 97, 109, 101]⟩ : ByteArray)]
theorem sm_entry (nm : ByteArray) : sm nm nm_entry = (nm.toList == [101, 110, 116, 114, 121]) := by unfold sm nm_entry; rw [ByteArray.toList_eq (⟨#[101, 110, 116, 114, 121]⟩ : ByteArray)]
theorem sm_before (nm : ByteArray) : sm nm nm_before = (nm.toList == [98, 101, 102, 111, 114, 101]) := by unfold sm nm_before; rw [ByteArray.toList_eq (⟨#[98, 101, 102, 111, 114, 101]⟩ : ByteArray)]
theorem sm_after (nm : ByteArray) : sm nm nm_after = (nm.toList == [97, 102, 116, 101, 114]) := by unfold sm nm_after; rw [ByteArray.toList_eq (⟨#[97, 102, 116, 101, 114]⟩ : ByteArray)]
theorem sm_limit (nm : ByteArray) : sm nm nm_limit = (nm.toList == [108, 105, 109, 105, 116]) := by unfold sm nm_limit; rw [ByteArray.toList_eq (⟨#[108, 105, 109, 105, 116]⟩ : ByteArray)]
theorem sm_token (nm : ByteArray) : sm nm nm_token = (nm.toList == [116, 111, 107, 101, 110]) := by unfold sm nm_token; rw [ByteArray.toList_eq (⟨#[116, 111, 107, 101, 110]⟩ : ByteArray)]
/-- where a request's text lies -/
def wordP (R : Nat) (nm : ByteArray) : Option Addr :=
  if sm nm nm_user then some ⟨R, 1, none⟩ else if sm nm nm_feed then some ⟨R, 2, none⟩ else if sm nm nm_name then some ⟨R, 3, none⟩ else if sm nm nm_token then some ⟨R, 4, none⟩ else none
def numP (R : Nat) (nm : ByteArray) : Option Addr :=
  if sm nm nm_tx then some ⟨R, 5, none⟩ else if sm nm nm_entry then some ⟨R, 6, none⟩ else if sm nm nm_after then some ⟨R, 7, none⟩ else if sm nm nm_limit then some ⟨R, 8, none⟩ else if sm nm nm_before then some ⟨R, 9, none⟩ else none
set_option maxRecDepth 100000 in
set_option maxHeartbeats 16000000 in
theorem wordP_any (R : Nat) (nm : ByteArray) (w : World) :
    Calls Tryz.prog 103 #[.pointer (some ⟨R, 0, none⟩), .string nm] w fun e w' => e = .returned (.pointer (wordP R nm)) ∧ w' = w := by
  obtain ⟨r, hr⟩ : ∃ r, wordP R nm = r := ⟨_, rfl⟩
  rw [hr]
  unfold wordP at hr
  cases h0 : sm nm nm_user
  case' false => cases h1 : sm nm nm_feed
  case' false.false => cases h2 : sm nm nm_name
  case' false.false.false => cases h3 : sm nm nm_token
  all_goals
    simp only [*, if_true, Bool.false_eq_true, if_false] at hr
    subst hr
    simp only [sm_user, sm_feed, sm_name, sm_token] at *
    go_enter Tryz.func103, Tryz.ntmps103
    go_wp2_with fail
    go_ret
    exact ⟨rfl, rfl⟩
set_option maxRecDepth 100000 in
set_option maxHeartbeats 16000000 in
theorem numP_any (R : Nat) (nm : ByteArray) (w : World) :
    Calls Tryz.prog 104 #[.pointer (some ⟨R, 0, none⟩), .string nm] w fun e w' => e = .returned (.pointer (numP R nm)) ∧ w' = w := by
  obtain ⟨r, hr⟩ : ∃ r, numP R nm = r := ⟨_, rfl⟩
  rw [hr]
  unfold numP at hr
  cases h0 : sm nm nm_tx
  case' false => cases h1 : sm nm nm_entry
  case' false.false => cases h2 : sm nm nm_after
  case' false.false.false => cases h3 : sm nm nm_limit
  case' false.false.false.false => cases h4 : sm nm nm_before
  all_goals
    simp only [*, if_true, Bool.false_eq_true, if_false] at hr
    subst hr
    simp only [sm_tx, sm_entry, sm_after, sm_limit, sm_before] at *
    go_enter Tryz.func104, Tryz.ntmps104
    go_wp2_with fail
    go_ret
    exact ⟨rfl, rfl⟩
/-! values -/
theorem ptext_any (s : ByteArray) (w : World) : Calls Tryz.prog 61 #[.string s] w fun e w' => e = .returned (.agg #[.int .i64 5, .int .i64 0, .string s, .slice none 0 0, .slice none 0 0]) ∧ Below w.heap.size w w' := by
  go_enter Tryz.func61, Tryz.ntmps61
  go_wp2_with fail
  exact bodyPost_ret (results_cell_row rfl _ _ w.heap.size 43 (wordC s).toArray (0, 0) _ rfl (heap_alloc_new w _) Tryz.underlying43 rfl (by kernel_rfl)) rfl ⟨rfl, bel_alloc (Below.refl _ _) _⟩
theorem pnumber_any (n : Int) (w : World) : Calls Tryz.prog 73 #[.int .i64 n] w fun e w' => e = .returned (.agg #[.int .i64 4, .int .i64 n, .string ⟨#[]⟩, .slice none 0 0, .slice none 0 0]) ∧ Below w.heap.size w w' := by
  go_enter Tryz.func73, Tryz.ntmps73
  go_wp2_with fail
  exact bodyPost_ret (results_cell_row rfl _ _ w.heap.size 43 (numC n).toArray (0, 0) _ rfl (heap_alloc_new w _) Tryz.underlying43 rfl (by kernel_rfl)) rfl ⟨rfl, bel_alloc (Below.refl _ _) _⟩
def truthC (b : Bool) : List Value := [.int .i64 (if b then 3 else 2), .int .i64 0, .string ⟨#[]⟩, .slice none 0 0, .slice none 0 0]
theorem ptruth_f (w : World) : Calls Tryz.prog 74 #[.bool false] w fun e w' => e = .returned (.agg #[.int .i64 2, .int .i64 0, .string ⟨#[]⟩, .slice none 0 0, .slice none 0 0]) ∧ Below w.heap.size w w' := by
  go_enter Tryz.func74, Tryz.ntmps74
  go_wp2_with fail
  exact bodyPost_ret (results_cell_row rfl _ _ w.heap.size 43 (truthC false).toArray (0, 0) _ rfl (heap_alloc_new w _) Tryz.underlying43 rfl (by kernel_rfl)) rfl ⟨rfl, bel_alloc (Below.refl _ _) _⟩
theorem ptruth_t (w : World) : Calls Tryz.prog 74 #[.bool true] w fun e w' => e = .returned (.agg #[.int .i64 3, .int .i64 0, .string ⟨#[]⟩, .slice none 0 0, .slice none 0 0]) ∧ Below w.heap.size w w' := by
  go_enter Tryz.func74, Tryz.ntmps74
  go_wp2_with fail
  exact bodyPost_ret (results_cell_row rfl _ _ w.heap.size 43 (truthC true).toArray (0, 0) _ rfl (heap_alloc_new w _) Tryz.underlying43 rfl (by kernel_rfl)) rfl ⟨rfl, bel_alloc (Below.refl _ _) _⟩
theorem pmember_any (s t : ByteArray) (k n : Int) (A1 A2 : Option Addr) (n1 c1 n2 c2 : Nat) (w : World) : Calls Tryz.prog 60 #[.string s, .agg #[.int .i64 k, .int .i64 n, .string t, .slice A1 n1 c1, .slice A2 n2 c2]] w fun z w' => z = .returned (.agg #[.string s, .int .i64 k, .int .i64 n, .string t, .slice A1 n1 c1, .slice A2 n2 c2]) ∧ Below w.heap.size w w' := by
  go_enter Tryz.func60, Tryz.ntmps60
  go_wp2_with fail
  exact bodyPost_ret (results_cell_row rfl _ _ (w.heap.size + 1) 49 #[.string s, .int .i64 k, .int .i64 n, .string t, .slice A1 n1 c1, .slice A2 n2 c2] (0, 0) _ rfl (heap_alloc2_new w _ _) Tryz.underlying49 rfl (by kernel_rfl)) rfl ⟨rfl, bel_alloc (bel_alloc (Below.refl _ _) _) _⟩
end Go.Proofs.YtlihjmfdnkfmfaaGreatDoor
