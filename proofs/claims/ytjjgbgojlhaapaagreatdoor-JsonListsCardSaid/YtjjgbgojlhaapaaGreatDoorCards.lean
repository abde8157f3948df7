/-
  DERIVED. GIVEN WITH THE SEED: THE CARDS: each row of YtjjgbgojlhaapaaGreatDoorRows.lean that lists a variable, with what it lists TIED to the program's text (the seventh form; the later family's looks); each row that meets fmt, with fmt's text TOLD by the authors' own Lean function (tested against real Go, not proved from fmt's source: count such statements apart). THE CARD IS WHAT COUNTS. Prove the row's statement (the work); the ties are given (YtjjgbgojlhaapaaGreatDoorTie.lean); close each card by the builder's one call (the guide's Derived/Test/ToyasCard.lean, 'card_holds'). Laid BY PROGRAM, IN A SANDBOX (cutbox-door.mjs). By AI agents, Wed Nov 11 2026. No macro, syntax, notation, axiom, sorry.
-/
import Derived.Test.YtjjgbgojlhaapaaGreatDoorRows
import GoSem.ClaimSeven
namespace Go.Proofs.YtjjgbgojlhaapaaGreatDoor
namespace Rows

/-- THE TIED CARD OF 'hbllaw4.JsonReads'. -/
def jsonReadsCard : Claim7 := { stood := { row := jsonReadsRow, standIns := [], harness := (true, "4af67dedd9bbea9d8e1115bedb40760e1532cdc1c5bd2fe3c1f376a5b962a706"), looks := false }, kinds := [], alts := [], laidByText := true, laidKinds := [.data, .data, .data, .data, .pinned], laidTests := true, laidLooks := .later }
def JsonReadsCardSaid : Prop := Claim7.holds Tryz.pinned (.plain (OpenSpec.ofChange jsonReadsSpec)) jsonReadsCard

/-- THE TIED CARD OF 'hbllaw4.JsonWrites'. -/
def jsonWritesCard : Claim7 := { stood := { row := jsonWritesRow, standIns := [], harness := (true, "4af67dedd9bbea9d8e1115bedb40760e1532cdc1c5bd2fe3c1f376a5b962a706"), looks := false }, kinds := [], alts := [], laidByText := true, laidKinds := [.data, .data, .data, .data, .pinned], laidTests := true, laidLooks := .later }
def JsonWritesCardSaid : Prop := Claim7.holds Tryz.pinned (.plain (OpenSpec.ofChange jsonWritesSpec)) jsonWritesCard

/-- THE TIED CARD OF 'hbllaw4.JsonLists'. -/
def jsonListsCard : Claim7 := { stood := { row := jsonListsRow, standIns := [], harness := (true, "4af67dedd9bbea9d8e1115bedb40760e1532cdc1c5bd2fe3c1f376a5b962a706"), looks := false }, kinds := [], alts := [], laidByText := true, laidKinds := [.data, .data, .data, .data, .pinned], laidTests := true, laidLooks := .later }
def JsonListsCardSaid : Prop := Claim7.holds Tryz.pinned (.plain (OpenSpec.ofChange jsonListsSpec)) jsonListsCard

/-- THE SECOND FORM's CARD OF 'hbllaw4.JsonReads'. -/
def jsonReadsUptoCard : Claim7 := { stood := { row := jsonReadsUptoRow, standIns := [], harness := (true, "4af67dedd9bbea9d8e1115bedb40760e1532cdc1c5bd2fe3c1f376a5b962a706"), looks := false }, kinds := [], alts := [], laidByText := true, laidKinds := [.data, .data, .data, .data, .pinned], laidTests := true, laidLooks := .later }
def JsonReadsUptoCardSaid : Prop := Claim7.holds Tryz.pinned (.plain (OpenSpec.upto jsonReadsSpec)) jsonReadsUptoCard

/-- THE SECOND FORM's CARD OF 'hbllaw4.JsonWrites'. -/
def jsonWritesUptoCard : Claim7 := { stood := { row := jsonWritesUptoRow, standIns := [], harness := (true, "4af67dedd9bbea9d8e1115bedb40760e1532cdc1c5bd2fe3c1f376a5b962a706"), looks := false }, kinds := [], alts := [], laidByText := true, laidKinds := [.data, .data, .data, .data, .pinned], laidTests := true, laidLooks := .later }
def JsonWritesUptoCardSaid : Prop := Claim7.holds Tryz.pinned (.plain (OpenSpec.upto jsonWritesSpec)) jsonWritesUptoCard

/-- THE SECOND FORM's CARD OF 'hbllaw4.JsonLists'. -/
def jsonListsUptoCard : Claim7 := { stood := { row := jsonListsUptoRow, standIns := [], harness := (true, "4af67dedd9bbea9d8e1115bedb40760e1532cdc1c5bd2fe3c1f376a5b962a706"), looks := false }, kinds := [], alts := [], laidByText := true, laidKinds := [.data, .data, .data, .data, .pinned], laidTests := true, laidLooks := .later }
def JsonListsUptoCardSaid : Prop := Claim7.holds Tryz.pinned (.plain (OpenSpec.upto jsonListsSpec)) jsonListsUptoCard
end Rows
end Go.Proofs.YtjjgbgojlhaapaaGreatDoor
