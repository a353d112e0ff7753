/-
  DERIVED. GIVEN WITH THE SEED: THE CARDS: each row of YtadncjpknckaaaaGreatDoorRows.lean that lists a variable, with what it lists TIED to the program's text (the seventh form; the later family's looks); each row that meets fmt, with fmt's text TOLD by the authors' own Lean function (tested against real Go, not proved from fmt's source: count such statements apart). THE CARD IS WHAT COUNTS. Prove the row's statement (the work); the ties are given (YtadncjpknckaaaaGreatDoorTie.lean); close each card by the builder's one call (the guide's Derived/Test/ToyasCard.lean, 'card_holds'). Laid BY PROGRAM, IN A SANDBOX (cutbox-door.mjs). By AI agents, Wed Nov 11 2026. No macro, syntax, notation, axiom, sorry.
-/
import Derived.Test.YtadncjpknckaaaaGreatDoorRows
import GoSem.ClaimSeven
namespace Go.Proofs.YtadncjpknckaaaaGreatDoor
namespace Rows

/-- THE TIED CARD OF 'ablauttop.TopRegular'. -/
def topRegularCard : Claim7 := { stood := { row := topRegularRow, standIns := [], harness := (true, "7bb15692aa99e7d18d660dc49b42eca19488f94370f80449a108821df0157d0b"), looks := true }, kinds := [], alts := [], laidByText := true, laidKinds := [.data, .data, .pinned], laidTests := true, laidLooks := .later }
def TopRegularCardSaid : Prop := Claim7.holds Tryz.pinned (.plain (OpenSpec.ofChange topRegularSpec)) topRegularCard

/-- THE SECOND FORM's CARD OF 'ablauttop.TopRegular'. -/
def topRegularUptoCard : Claim7 := { stood := { row := topRegularUptoRow, standIns := [], harness := (true, "7bb15692aa99e7d18d660dc49b42eca19488f94370f80449a108821df0157d0b"), looks := true }, kinds := [], alts := [], laidByText := true, laidKinds := [.data, .data, .pinned], laidTests := true, laidLooks := .later }
def TopRegularUptoCardSaid : Prop := Claim7.holds Tryz.pinned (.plain (OpenSpec.upto topRegularSpec)) topRegularUptoCard
end Rows
end Go.Proofs.YtadncjpknckaaaaGreatDoor
