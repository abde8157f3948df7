/- How a law's argument []byte is opened. -/
import Derived.Test.YtjjgbgojlhaapaaDoorJo
import Derived.Test.YtjjgbgojlhaapaaDoorCb
namespace Go.Proofs.YtjjgbgojlhaapaaDoor
open Go.RowKit Go.Deep Go.ChangeShapes Go.WideShapes Go.ChangeAt

def byTy : Ty UInt8 where
  sz := 1
  pos := by decide
  R := fun _ _ x cs => cs = [.int .u8 (x.toNat : Int)]
  len := by rintro w F x cs rfl; rfl
  one := by rintro w F x cs rfl u hu; rw [List.mem_singleton.1 hu]; rfl
  mono := fun _ h => h
  frame := fun _ h => h
  bound := fun h => h
theorem by_chunks {w : World} {F : Nat → Prop} : ∀ {xs : List UInt8} {cs : List Value}, Chunks byTy w F xs cs → cs = Lib.byteCells xs
  | [], _, h => h
  | x :: xs, _, ⟨c, r, e, h1, h2⟩ => by
    have h1' : c = [.int .u8 (x.toNat : Int)] := h1
    rw [e, by_chunks h2, h1']
    rfl
theorem by_bsl {w : World} {F : Nat → Prop} {v : Value} {xs : List UInt8} (h : Sl byTy w F v xs) : BSl w F v ⟨xs.toArray⟩ := by
  have hz : (⟨xs.toArray⟩ : ByteArray).size = xs.length := by simp [ByteArray.size]
  rcases h with ⟨rfl, A, c, rfl⟩ | ⟨b, o, c, rfl, hF, hlc, hcm, cs, hch, hcell⟩
  · exact .inr ⟨rfl, A, c, rfl⟩
  · refine .inl ⟨b, o, c, by rw [hz], hF, fun i hi => ?_⟩
    rw [hz] at hi
    exact hcell i _ (by rw [by_chunks hch]; simp [Lib.byteCells, hi]; rfl)
section
variable {H : Type} {enc : TypeId × Value → H} {w : World} {base : Nat} {spare : Nat → Bool} {held : Bool}
theorem u8_cells : Tryd.prog.cellsOf 5 = 1 := by kernel_rfl
set_option maxRecDepth 100000 in
/-- an argument []byte: a list of bytes in memory -/
theorem bytes_arg {v : Value} {d : DataW H} {p : List MemPlace} (hok : Value.okWide Tryd.prog w .any base 58 v) (h : DataW.Trod enc Tryd.prog w 0 spare held 58 v d p) : ∃ l : List UInt8, BSl w (fun _ => True) v ⟨l.toArray⟩ := by
  obtain ⟨a0, len0, cap0, rfl⟩ := okWide_slice Tryd.underlying58 hok
  obtain ⟨fuel, hf⟩ := h
  obtain ⟨xs, hx⟩ := opens_slice_lt (T := byTy) Tryd.underlying58 u8_cells (fun n _ cs y h => by
    obtain ⟨k, e0, _, hwf⟩ := DataW.trod_int Tryd.underlying5 h
    simp [Lit.wf] at hwf
    have h0 : (0 : Int) ≤ k := hwf.1
    have h1 : k ≤ 255 := hwf.2
    refine ⟨UInt8.ofNat k.toNat, ?_⟩
    have : (UInt8.ofNat k.toNat).toNat = k.toNat := by rw [UInt8.toNat_ofNat']; omega
    show cs = [.int .u8 ((UInt8.ofNat k.toNat).toNat : Int)]
    rw [e0, this, show ((k.toNat : Nat) : Int) = k by omega]) hf
  exact ⟨xs, by_bsl hx⟩
end
end Go.Proofs.YtjjgbgojlhaapaaDoor
