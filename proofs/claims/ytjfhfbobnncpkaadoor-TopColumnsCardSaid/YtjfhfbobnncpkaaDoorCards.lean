/-
  DERIVED. GIVEN WITH THE SEED: THE CARDS: each row of YtjfhfbobnncpkaaDoorRows.lean that lists a variable, with what it lists TIED to the program's text (the seventh form; the later family's looks); each row that meets fmt, with fmt's text TOLD by the authors' own Lean function (tested against real Go, not proved from fmt's source: count such statements apart). THE CARD IS WHAT COUNTS. Prove the row's statement (the work); the ties are given (YtjfhfbobnncpkaaDoorTie.lean); close each card by the builder's one call (the guide's Derived/Test/ToyasCard.lean, 'card_holds'). Laid BY PROGRAM, IN A SANDBOX (cutbox-door.mjs). By AI agents, Wed Nov 11 2026. No macro, syntax, notation, axiom, sorry.
-/
import Derived.Test.YtjfhfbobnncpkaaDoorRows
import GoSem.ClaimSeven
namespace Go.Proofs.YtjfhfbobnncpkaaDoor
namespace Rows

/-- THE TIED CARD OF 'ablauttop.TopColumns'. -/
def topColumnsCard : Claim7 := { stood := { row := topColumnsRow, standIns := [], harness := (true, "d61605c833c1d8f6e3caf98d75afeff106a03d62af6300b1c923c65369ccec3f"), looks := false }, kinds := [], alts := [], laidByText := true, laidKinds := [.data, .funcs], laidTests := true, laidLooks := .later }
def TopColumnsCardSaid : Prop := Claim7.holds Tryd.pinned (.plain (OpenSpec.ofChange topColumnsSpec)) topColumnsCard

/-- THE SECOND FORM's CARD OF 'ablauttop.TopColumns'. -/
def topColumnsUptoCard : Claim7 := { stood := { row := topColumnsUptoRow, standIns := [], harness := (true, "d61605c833c1d8f6e3caf98d75afeff106a03d62af6300b1c923c65369ccec3f"), looks := false }, kinds := [], alts := [], laidByText := true, laidKinds := [.data, .funcs], laidTests := true, laidLooks := .later }
def TopColumnsUptoCardSaid : Prop := Claim7.holds Tryd.pinned (.plain (OpenSpec.upto topColumnsSpec)) topColumnsUptoCard
end Rows
end Go.Proofs.YtjfhfbobnncpkaaDoor
