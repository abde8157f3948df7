/-
  DERIVED. GIVEN WITH THE SEED: THE CARDS: each row of YtjjgbgojlhaapaaDoorRows.lean that lists a variable, with what it lists TIED to the program's text (the seventh form; the later family's looks); each row that meets fmt, with fmt's text TOLD by the authors' own Lean function (tested against real Go, not proved from fmt's source: count such statements apart). THE CARD IS WHAT COUNTS. Prove the row's statement (the work); the ties are given (YtjjgbgojlhaapaaDoorTie.lean); close each card by the builder's one call (the guide's Derived/Test/ToyasCard.lean, 'card_holds'). Laid BY PROGRAM, IN A SANDBOX (cutbox-door.mjs). By AI agents, Wed Nov 11 2026. No macro, syntax, notation, axiom, sorry.
-/
import Derived.Test.YtjjgbgojlhaapaaDoorRows
import GoSem.ClaimSeven
namespace Go.Proofs.YtjjgbgojlhaapaaDoor
namespace Rows

/-- THE TIED CARD OF 'hbllaw15.RowsCover'. -/
def rowsCoverCard : Claim7 := { stood := { row := rowsCoverRow, standIns := [], harness := (true, "f550e0fe5c0b4406f66b8ee5b8ba2efae7b9050d28e6bcc87ef23b224e5e4c9a"), looks := false }, kinds := [], alts := [], laidByText := true, laidKinds := [.data, .data, .data, .data, .pinned], laidTests := true, laidLooks := .later }
def RowsCoverCardSaid : Prop := Claim7.holds Tryd.pinned (.plain (OpenSpec.ofChange rowsCoverSpec)) rowsCoverCard

/-- THE TIED CARD OF 'hbllaw15.RowsWrites'. -/
def rowsWritesCard : Claim7 := { stood := { row := rowsWritesRow, standIns := [], harness := (true, "f550e0fe5c0b4406f66b8ee5b8ba2efae7b9050d28e6bcc87ef23b224e5e4c9a"), looks := false }, kinds := [], alts := [], laidByText := true, laidKinds := [.data, .data, .data, .data, .pinned], laidTests := true, laidLooks := .later }
def RowsWritesCardSaid : Prop := Claim7.holds Tryd.pinned (.plain (OpenSpec.ofChange rowsWritesSpec)) rowsWritesCard

/-- THE TIED CARD OF 'hbllaw4.JsonDeep'. -/
def jsonDeepCard : Claim7 := { stood := { row := jsonDeepRow, standIns := [], harness := (true, "f550e0fe5c0b4406f66b8ee5b8ba2efae7b9050d28e6bcc87ef23b224e5e4c9a"), looks := false }, kinds := [], alts := [], laidByText := true, laidKinds := [.data, .data, .data, .data, .pinned], laidTests := true, laidLooks := .later }
def JsonDeepCardSaid : Prop := Claim7.holds Tryd.pinned (.plain (OpenSpec.ofChange jsonDeepSpec)) jsonDeepCard

/-- THE TIED CARD OF 'hbllaw4.JsonNumbers'. -/
def jsonNumbersCard : Claim7 := { stood := { row := jsonNumbersRow, standIns := [], harness := (true, "f550e0fe5c0b4406f66b8ee5b8ba2efae7b9050d28e6bcc87ef23b224e5e4c9a"), looks := false }, kinds := [], alts := [], laidByText := true, laidKinds := [.data, .data, .data, .data, .pinned], laidTests := true, laidLooks := .later }
def JsonNumbersCardSaid : Prop := Claim7.holds Tryd.pinned (.plain (OpenSpec.ofChange jsonNumbersSpec)) jsonNumbersCard

/-- THE TIED CARD OF 'hbllaw4.JsonWords'. -/
def jsonWordsCard : Claim7 := { stood := { row := jsonWordsRow, standIns := [], harness := (true, "f550e0fe5c0b4406f66b8ee5b8ba2efae7b9050d28e6bcc87ef23b224e5e4c9a"), looks := false }, kinds := [], alts := [], laidByText := true, laidKinds := [.data, .data, .data, .data, .pinned], laidTests := true, laidLooks := .later }
def JsonWordsCardSaid : Prop := Claim7.holds Tryd.pinned (.plain (OpenSpec.ofChange jsonWordsSpec)) jsonWordsCard

/-- THE TIED CARD OF 'hbllaw4.JsonBack'. -/
def jsonBackCard : Claim7 := { stood := { row := jsonBackRow, standIns := [], harness := (true, "f550e0fe5c0b4406f66b8ee5b8ba2efae7b9050d28e6bcc87ef23b224e5e4c9a"), looks := false }, kinds := [], alts := [], laidByText := true, laidKinds := [.data, .data, .data, .data, .pinned], laidTests := true, laidLooks := .later }
def JsonBackCardSaid : Prop := Claim7.holds Tryd.pinned (.plain (OpenSpec.ofChange jsonBackSpec)) jsonBackCard

/-- THE SECOND FORM's CARD OF 'hbllaw15.RowsCover'. -/
def rowsCoverUptoCard : Claim7 := { stood := { row := rowsCoverUptoRow, standIns := [], harness := (true, "f550e0fe5c0b4406f66b8ee5b8ba2efae7b9050d28e6bcc87ef23b224e5e4c9a"), looks := false }, kinds := [], alts := [], laidByText := true, laidKinds := [.data, .data, .data, .data, .pinned], laidTests := true, laidLooks := .later }
def RowsCoverUptoCardSaid : Prop := Claim7.holds Tryd.pinned (.plain (OpenSpec.upto rowsCoverSpec)) rowsCoverUptoCard

/-- THE SECOND FORM's CARD OF 'hbllaw15.RowsWrites'. -/
def rowsWritesUptoCard : Claim7 := { stood := { row := rowsWritesUptoRow, standIns := [], harness := (true, "f550e0fe5c0b4406f66b8ee5b8ba2efae7b9050d28e6bcc87ef23b224e5e4c9a"), looks := false }, kinds := [], alts := [], laidByText := true, laidKinds := [.data, .data, .data, .data, .pinned], laidTests := true, laidLooks := .later }
def RowsWritesUptoCardSaid : Prop := Claim7.holds Tryd.pinned (.plain (OpenSpec.upto rowsWritesSpec)) rowsWritesUptoCard

/-- THE SECOND FORM's CARD OF 'hbllaw4.JsonDeep'. -/
def jsonDeepUptoCard : Claim7 := { stood := { row := jsonDeepUptoRow, standIns := [], harness := (true, "f550e0fe5c0b4406f66b8ee5b8ba2efae7b9050d28e6bcc87ef23b224e5e4c9a"), looks := false }, kinds := [], alts := [], laidByText := true, laidKinds := [.data, .data, .data, .data, .pinned], laidTests := true, laidLooks := .later }
def JsonDeepUptoCardSaid : Prop := Claim7.holds Tryd.pinned (.plain (OpenSpec.upto jsonDeepSpec)) jsonDeepUptoCard

/-- THE SECOND FORM's CARD OF 'hbllaw4.JsonNumbers'. -/
def jsonNumbersUptoCard : Claim7 := { stood := { row := jsonNumbersUptoRow, standIns := [], harness := (true, "f550e0fe5c0b4406f66b8ee5b8ba2efae7b9050d28e6bcc87ef23b224e5e4c9a"), looks := false }, kinds := [], alts := [], laidByText := true, laidKinds := [.data, .data, .data, .data, .pinned], laidTests := true, laidLooks := .later }
def JsonNumbersUptoCardSaid : Prop := Claim7.holds Tryd.pinned (.plain (OpenSpec.upto jsonNumbersSpec)) jsonNumbersUptoCard

/-- THE SECOND FORM's CARD OF 'hbllaw4.JsonWords'. -/
def jsonWordsUptoCard : Claim7 := { stood := { row := jsonWordsUptoRow, standIns := [], harness := (true, "f550e0fe5c0b4406f66b8ee5b8ba2efae7b9050d28e6bcc87ef23b224e5e4c9a"), looks := false }, kinds := [], alts := [], laidByText := true, laidKinds := [.data, .data, .data, .data, .pinned], laidTests := true, laidLooks := .later }
def JsonWordsUptoCardSaid : Prop := Claim7.holds Tryd.pinned (.plain (OpenSpec.upto jsonWordsSpec)) jsonWordsUptoCard

/-- THE SECOND FORM's CARD OF 'hbllaw4.JsonBack'. -/
def jsonBackUptoCard : Claim7 := { stood := { row := jsonBackUptoRow, standIns := [], harness := (true, "f550e0fe5c0b4406f66b8ee5b8ba2efae7b9050d28e6bcc87ef23b224e5e4c9a"), looks := false }, kinds := [], alts := [], laidByText := true, laidKinds := [.data, .data, .data, .data, .pinned], laidTests := true, laidLooks := .later }
def JsonBackUptoCardSaid : Prop := Claim7.holds Tryd.pinned (.plain (OpenSpec.upto jsonBackSpec)) jsonBackUptoCard
end Rows
end Go.Proofs.YtjjgbgojlhaapaaDoor
