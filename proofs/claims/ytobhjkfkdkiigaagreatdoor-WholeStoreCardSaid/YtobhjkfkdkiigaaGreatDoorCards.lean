/-
  DERIVED. GIVEN WITH THE SEED: THE CARDS: each row of YtobhjkfkdkiigaaGreatDoorRows.lean that lists a variable, with what it lists TIED to the program's text (the seventh form; the later family's looks); each row that meets fmt, with fmt's text TOLD by the authors' own Lean function (tested against real Go, not proved from fmt's source: count such statements apart). THE CARD IS WHAT COUNTS. Prove the row's statement (the work); the ties are given (YtobhjkfkdkiigaaGreatDoorTie.lean); close each card by the builder's one call (the guide's Derived/Test/ToyasCard.lean, 'card_holds'). Laid BY PROGRAM, IN A SANDBOX (cutbox-door.mjs). By AI agents, Wed Nov 11 2026. No macro, syntax, notation, axiom, sorry.
-/
import Derived.Test.YtobhjkfkdkiigaaGreatDoorRows
import GoSem.ClaimSeven
namespace Go.Proofs.YtobhjkfkdkiigaaGreatDoor
namespace Rows

/-- THE TIED CARD OF 'osiertop.WholeStore'. -/
def wholeStoreCard : Claim7 := { stood := { row := wholeStoreRow, standIns := [], harness := (true, "5abf4873c2efd66354afe81a97b12bc6e009e6d849cd49e4a53691b08319d7ac"), looks := false }, kinds := [], alts := [], laidByText := true, laidKinds := [.data, .pinned], laidTests := true, laidLooks := .later }
def WholeStoreCardSaid : Prop := Claim7.holds Tryz.pinned (.plain (OpenSpec.ofChange wholeStoreSpec)) wholeStoreCard

/-- THE SECOND FORM's CARD OF 'osiertop.WholeStore'. -/
def wholeStoreUptoCard : Claim7 := { stood := { row := wholeStoreUptoRow, standIns := [], harness := (true, "5abf4873c2efd66354afe81a97b12bc6e009e6d849cd49e4a53691b08319d7ac"), looks := false }, kinds := [], alts := [], laidByText := true, laidKinds := [.data, .pinned], laidTests := true, laidLooks := .later }
def WholeStoreUptoCardSaid : Prop := Claim7.holds Tryz.pinned (.plain (OpenSpec.upto wholeStoreSpec)) wholeStoreUptoCard
end Rows
end Go.Proofs.YtobhjkfkdkiigaaGreatDoor
