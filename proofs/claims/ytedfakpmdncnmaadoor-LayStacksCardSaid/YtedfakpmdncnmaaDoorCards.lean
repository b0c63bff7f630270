/-
  DERIVED. GIVEN WITH THE SEED: THE CARDS: each row of YtedfakpmdncnmaaDoorRows.lean that lists a variable, with what it lists TIED to the program's text (the seventh form; the later family's looks); each row that meets fmt, with fmt's text TOLD by the authors' own Lean function (tested against real Go, not proved from fmt's source: count such statements apart). THE CARD IS WHAT COUNTS. Prove the row's statement (the work); the ties are given (YtedfakpmdncnmaaDoorTie.lean); close each card by the builder's one call (the guide's Derived/Test/ToyasCard.lean, 'card_holds'). Laid BY PROGRAM, IN A SANDBOX (cutbox-door.mjs). By AI agents, Wed Nov 11 2026. No macro, syntax, notation, axiom, sorry.
-/
import Derived.Test.YtedfakpmdncnmaaDoorRows
import GoSem.ClaimSeven
namespace Go.Proofs.YtedfakpmdncnmaaDoor
namespace Rows

/-- THE TIED CARD OF 'osierlaw07.LayTurned'. -/
def layTurnedCard : Claim7 := { stood := { row := layTurnedRow, standIns := [], harness := (true, "c8b35de0bf2ccfc98e0859a7117eb2f1f4fedc01356b0d50b53ef4703311ed6f"), looks := false }, kinds := [], alts := [], laidByText := true, laidKinds := [.data, .pinned], laidTests := true, laidLooks := .later }
def LayTurnedCardSaid : Prop := Claim7.holds Tryd.pinned (.plain (OpenSpec.ofChange layTurnedSpec)) layTurnedCard

/-- THE TIED CARD OF 'osierlaw07.LayOnce'. -/
def layOnceCard : Claim7 := { stood := { row := layOnceRow, standIns := [], harness := (true, "c8b35de0bf2ccfc98e0859a7117eb2f1f4fedc01356b0d50b53ef4703311ed6f"), looks := false }, kinds := [], alts := [], laidByText := true, laidKinds := [.data, .pinned], laidTests := true, laidLooks := .later }
def LayOnceCardSaid : Prop := Claim7.holds Tryd.pinned (.plain (OpenSpec.ofChange layOnceSpec)) layOnceCard

/-- THE TIED CARD OF 'osierlaw07.LayStacks'. -/
def layStacksCard : Claim7 := { stood := { row := layStacksRow, standIns := [], harness := (true, "c8b35de0bf2ccfc98e0859a7117eb2f1f4fedc01356b0d50b53ef4703311ed6f"), looks := false }, kinds := [], alts := [], laidByText := true, laidKinds := [.data, .pinned], laidTests := true, laidLooks := .later }
def LayStacksCardSaid : Prop := Claim7.holds Tryd.pinned (.plain (OpenSpec.ofChange layStacksSpec)) layStacksCard

/-- THE SECOND FORM's CARD OF 'osierlaw07.LayTurned'. -/
def layTurnedUptoCard : Claim7 := { stood := { row := layTurnedUptoRow, standIns := [], harness := (true, "c8b35de0bf2ccfc98e0859a7117eb2f1f4fedc01356b0d50b53ef4703311ed6f"), looks := false }, kinds := [], alts := [], laidByText := true, laidKinds := [.data, .pinned], laidTests := true, laidLooks := .later }
def LayTurnedUptoCardSaid : Prop := Claim7.holds Tryd.pinned (.plain (OpenSpec.upto layTurnedSpec)) layTurnedUptoCard

/-- THE SECOND FORM's CARD OF 'osierlaw07.LayOnce'. -/
def layOnceUptoCard : Claim7 := { stood := { row := layOnceUptoRow, standIns := [], harness := (true, "c8b35de0bf2ccfc98e0859a7117eb2f1f4fedc01356b0d50b53ef4703311ed6f"), looks := false }, kinds := [], alts := [], laidByText := true, laidKinds := [.data, .pinned], laidTests := true, laidLooks := .later }
def LayOnceUptoCardSaid : Prop := Claim7.holds Tryd.pinned (.plain (OpenSpec.upto layOnceSpec)) layOnceUptoCard

/-- THE SECOND FORM's CARD OF 'osierlaw07.LayStacks'. -/
def layStacksUptoCard : Claim7 := { stood := { row := layStacksUptoRow, standIns := [], harness := (true, "c8b35de0bf2ccfc98e0859a7117eb2f1f4fedc01356b0d50b53ef4703311ed6f"), looks := false }, kinds := [], alts := [], laidByText := true, laidKinds := [.data, .pinned], laidTests := true, laidLooks := .later }
def LayStacksUptoCardSaid : Prop := Claim7.holds Tryd.pinned (.plain (OpenSpec.upto layStacksSpec)) layStacksUptoCard
end Rows
end Go.Proofs.YtedfakpmdncnmaaDoor
