/- From a row's list of laid variables to what the walks ask of the world; the row's start. -/
import Derived.Test.YtjjgbgojlhaapaaDoorRows
import Derived.Test.YtjjgbgojlhaapaaDoorJa
import Derived.Test.YtjjgbgojlhaapaaDoorOpen
import Derived.ProofKit
import Derived.PinnedBridge
import Derived.Lay
import Derived.Lib.LaidU8T
import Derived.SevenTiedAt
import Derived.LaidOnce
import Derived.Lib.SmallJoins
import Derived.OpenShut
import Derived.ShutString
import Derived.ChangeOld
import Derived.SizedLaws
namespace Go.Proofs.YtjjgbgojlhaapaaDoor
open Go.RowKit Go.Lib Go.ChangeShapes Go.WideShapes Go.ChangeAt

theorem own : ownKnob Tryd.prog.godebug = none := by kernel_rfl
theorem laidOut : laidOutB Tryd.prog = true := by kernel_rfl
theorem tabIs_of_reads {P : Program} {W : World} {name : String} {k : IntKind} {zs : List Int} {g : Nat} {t e : TypeId} {n : Nat}
    (hg : P.globalNamed name = some g) (hty : (P.globals[g]?).map (·.type) = some t) (ht : P.underlying t = some (.array n e)) (he : P.underlying e = some (.int k)) (hce : P.cellsOf e = 1) (hct : P.cellsOf t = n)
    (h : VarReads P W name (tabData k zs)) : TabIs P W name k zs := by
  obtain ⟨g', t', cs, fuel, p, hg', ht', hvar, hd⟩ := h
  obtain rfl := Option.some.inj (hg.symm.trans hg')
  obtain rfl := Option.some.inj (hty.symm.trans ht')
  unfold TabIs
  rw [hvar, ← cells_of_tab ht he hce hct hd]
theorem accept_eq : Rows.laid_unicode_utf8_acceptRanges = acceptData := by kernel_rfl
theorem pow_eq : Rows.laid_internal_strconv_uint64pow10 = (tabData .u64 pow10Tab : DataW Unit) := by kernel_rfl
/-- the library's tables stand -/
theorem tabs_of_reads {W : World} (h1 : VarReads Tryd.prog W "unicode/utf8.first" Pinned.utf8First) (h2 : VarReads Tryd.prog W "unicode/utf8.acceptRanges" Rows.laid_unicode_utf8_acceptRanges)
    (h3 : VarReads Tryd.prog W "internal/strconv.uint64pow10" Rows.laid_internal_strconv_uint64pow10) : Tabs W := by
  refine ⟨?_, ?_⟩
  · exact utf8Tabs_of_readsT (U8Types.of196 Tryd.lays196) ⟨by kernel_rfl, by kernel_rfl, by kernel_rfl, by kernel_rfl, by kernel_rfl, by kernel_rfl, by kernel_rfl⟩ (Pinned.utf8First_eq ▸ h1) (accept_eq ▸ h2)
  · exact tabIs_of_reads (g := 3) (t := 180) (e := 155) (n := 20) (by kernel_rfl) (by kernel_rfl) Tryd.underlying180 Tryd.underlying155 (by kernel_rfl) (by kernel_rfl) (pow_eq ▸ h3)
end Go.Proofs.YtjjgbgojlhaapaaDoor
