/-
  DERIVED. GIVEN WITH THE SEED: THE CARDS: each row of YtkmfcnoackhilaaGreatDoorRows.lean that lists a variable, with what it lists TIED to the program's text (the seventh form; the later family's looks); each row that meets fmt, with fmt's text TOLD by the authors' own Lean function (tested against real Go, not proved from fmt's source: count such statements apart). THE CARD IS WHAT COUNTS. Prove the row's statement (the work); the ties are given (YtkmfcnoackhilaaGreatDoorTie.lean); close each card by the builder's one call (the guide's Derived/Test/ToyasCard.lean, 'card_holds'). Laid BY PROGRAM, IN A SANDBOX (cutbox-door.mjs). By AI agents, Wed Nov 11 2026. No macro, syntax, notation, axiom, sorry.
-/
import Derived.Test.YtkmfcnoackhilaaGreatDoorRows
import GoSem.ClaimSeven
namespace Go.Proofs.YtkmfcnoackhilaaGreatDoor
namespace Rows

/-- THE TIED CARD OF 'scrollbacktop.TopEchoes'. -/
def topEchoesCard : Claim7 := { stood := { row := topEchoesRow, standIns := [], harness := (true, "5d398372666bf4f0c71a73a9ea5ab55d3b9b887fdd0c87b47c9c5de5042bb0ff"), looks := true }, kinds := [], alts := [], laidByText := true, laidKinds := [.data, .data, .data, .data, .widerDeep, .widerDeep, .widerDeep, .widerDeep, .sentinel, .sentinel, .widerDeep, .widerDeep, .data, .pinned], laidTests := true, laidLooks := .later }
def TopEchoesCardSaid : Prop := Claim7.holds Tryz.pinned (.plain (OpenSpec.ofChange topEchoesSpec)) topEchoesCard

/-- THE SECOND FORM's CARD OF 'scrollbacktop.TopEchoes'. -/
def topEchoesUptoCard : Claim7 := { stood := { row := topEchoesUptoRow, standIns := [], harness := (true, "5d398372666bf4f0c71a73a9ea5ab55d3b9b887fdd0c87b47c9c5de5042bb0ff"), looks := true }, kinds := [], alts := [], laidByText := true, laidKinds := [.data, .data, .data, .data, .widerDeep, .widerDeep, .widerDeep, .widerDeep, .sentinel, .sentinel, .widerDeep, .widerDeep, .data, .pinned], laidTests := true, laidLooks := .later }
def TopEchoesUptoCardSaid : Prop := Claim7.holds Tryz.pinned (.plain (OpenSpec.upto topEchoesSpec)) topEchoesUptoCard
end Rows
end Go.Proofs.YtkmfcnoackhilaaGreatDoor
