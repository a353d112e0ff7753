/-
  DERIVED. GIVEN WITH THE SEED: THE CARDS: each row of YtbnbfdbliokcaaaDoorRows.lean that lists a variable, with what it lists TIED to the program's text (the seventh form; the later family's looks); each row that meets fmt, with fmt's text TOLD by the authors' own Lean function (tested against real Go, not proved from fmt's source: count such statements apart). THE CARD IS WHAT COUNTS. Prove the row's statement (the work); the ties are given (YtbnbfdbliokcaaaDoorTie.lean); close each card by the builder's one call (the guide's Derived/Test/ToyasCard.lean, 'card_holds'). Laid BY PROGRAM, IN A SANDBOX (cutbox-door.mjs). By AI agents, Wed Nov 11 2026. No macro, syntax, notation, axiom, sorry.
-/
import Derived.Test.YtbnbfdbliokcaaaDoorRows
import GoSem.ClaimSeven
namespace Go.Proofs.YtbnbfdbliokcaaaDoor
namespace Rows

/-- THE TIED CARD OF 'ablautlaw05.NaturalClasses'. -/
def naturalClassesCard : Claim7 := { stood := { row := naturalClassesRow, standIns := [], harness := (true, "522067bbbfaf5c0ce585dc4e9e4af63fb872f900431b817fd460abbc34bcb6c7"), looks := false }, kinds := [], alts := [], laidByText := true, laidKinds := [.data, .data], laidTests := true, laidLooks := .later }
def NaturalClassesCardSaid : Prop := Claim7.holds Tryd.pinned (.plain (OpenSpec.ofChange naturalClassesSpec)) naturalClassesCard

/-- THE TIED CARD OF 'ablautlaw05.NaturalPairs'. -/
def naturalPairsCard : Claim7 := { stood := { row := naturalPairsRow, standIns := [], harness := (true, "522067bbbfaf5c0ce585dc4e9e4af63fb872f900431b817fd460abbc34bcb6c7"), looks := false }, kinds := [], alts := [], laidByText := true, laidKinds := [.data, .data], laidTests := true, laidLooks := .later }
def NaturalPairsCardSaid : Prop := Claim7.holds Tryd.pinned (.plain (OpenSpec.ofChange naturalPairsSpec)) naturalPairsCard

/-- THE TIED CARD OF 'ablautlaw05.NaturalCounts'. -/
def naturalCountsCard : Claim7 := { stood := { row := naturalCountsRow, standIns := [], harness := (true, "522067bbbfaf5c0ce585dc4e9e4af63fb872f900431b817fd460abbc34bcb6c7"), looks := false }, kinds := [], alts := [], laidByText := true, laidKinds := [.data, .data], laidTests := true, laidLooks := .later }
def NaturalCountsCardSaid : Prop := Claim7.holds Tryd.pinned (.plain (OpenSpec.ofChange naturalCountsSpec)) naturalCountsCard

/-- THE TIED CARD OF 'ablautlaw05.NaturalNeeds'. -/
def naturalNeedsCard : Claim7 := { stood := { row := naturalNeedsRow, standIns := [], harness := (true, "522067bbbfaf5c0ce585dc4e9e4af63fb872f900431b817fd460abbc34bcb6c7"), looks := false }, kinds := [], alts := [], laidByText := true, laidKinds := [.data, .data], laidTests := true, laidLooks := .later }
def NaturalNeedsCardSaid : Prop := Claim7.holds Tryd.pinned (.plain (OpenSpec.ofChange naturalNeedsSpec)) naturalNeedsCard

/-- THE TIED CARD OF 'ablautlaw05.NaturalTurns'. -/
def naturalTurnsCard : Claim7 := { stood := { row := naturalTurnsRow, standIns := [], harness := (true, "522067bbbfaf5c0ce585dc4e9e4af63fb872f900431b817fd460abbc34bcb6c7"), looks := false }, kinds := [], alts := [], laidByText := true, laidKinds := [.data, .data], laidTests := true, laidLooks := .later }
def NaturalTurnsCardSaid : Prop := Claim7.holds Tryd.pinned (.plain (OpenSpec.ofChange naturalTurnsSpec)) naturalTurnsCard

/-- THE TIED CARD OF 'ablautlaw05.NaturalCubes'. -/
def naturalCubesCard : Claim7 := { stood := { row := naturalCubesRow, standIns := [], harness := (true, "522067bbbfaf5c0ce585dc4e9e4af63fb872f900431b817fd460abbc34bcb6c7"), looks := false }, kinds := [], alts := [], laidByText := true, laidKinds := [.data, .data], laidTests := true, laidLooks := .later }
def NaturalCubesCardSaid : Prop := Claim7.holds Tryd.pinned (.plain (OpenSpec.ofChange naturalCubesSpec)) naturalCubesCard

/-- THE TIED CARD OF 'ablautlaw05.NaturalSelects'. -/
def naturalSelectsCard : Claim7 := { stood := { row := naturalSelectsRow, standIns := [], harness := (true, "522067bbbfaf5c0ce585dc4e9e4af63fb872f900431b817fd460abbc34bcb6c7"), looks := false }, kinds := [], alts := [], laidByText := true, laidKinds := [.data, .data], laidTests := true, laidLooks := .later }
def NaturalSelectsCardSaid : Prop := Claim7.holds Tryd.pinned (.plain (OpenSpec.ofChange naturalSelectsSpec)) naturalSelectsCard

/-- THE TIED CARD OF 'ablautlaw05.NaturalCloses'. -/
def naturalClosesCard : Claim7 := { stood := { row := naturalClosesRow, standIns := [], harness := (true, "522067bbbfaf5c0ce585dc4e9e4af63fb872f900431b817fd460abbc34bcb6c7"), looks := false }, kinds := [], alts := [], laidByText := true, laidKinds := [.data, .data], laidTests := true, laidLooks := .later }
def NaturalClosesCardSaid : Prop := Claim7.holds Tryd.pinned (.plain (OpenSpec.ofChange naturalClosesSpec)) naturalClosesCard

/-- THE TIED CARD OF 'ablautlaw05.NaturalShort'. -/
def naturalShortCard : Claim7 := { stood := { row := naturalShortRow, standIns := [], harness := (true, "522067bbbfaf5c0ce585dc4e9e4af63fb872f900431b817fd460abbc34bcb6c7"), looks := false }, kinds := [], alts := [], laidByText := true, laidKinds := [.data, .data], laidTests := true, laidLooks := .later }
def NaturalShortCardSaid : Prop := Claim7.holds Tryd.pinned (.plain (OpenSpec.ofChange naturalShortSpec)) naturalShortCard

/-- THE TIED CARD OF 'ablautlaw05.NaturalKnown'. -/
def naturalKnownCard : Claim7 := { stood := { row := naturalKnownRow, standIns := [], harness := (true, "522067bbbfaf5c0ce585dc4e9e4af63fb872f900431b817fd460abbc34bcb6c7"), looks := false }, kinds := [], alts := [], laidByText := true, laidKinds := [.data, .data], laidTests := true, laidLooks := .later }
def NaturalKnownCardSaid : Prop := Claim7.holds Tryd.pinned (.plain (OpenSpec.ofChange naturalKnownSpec)) naturalKnownCard

/-- THE SECOND FORM's CARD OF 'ablautlaw05.NaturalClasses'. -/
def naturalClassesUptoCard : Claim7 := { stood := { row := naturalClassesUptoRow, standIns := [], harness := (true, "522067bbbfaf5c0ce585dc4e9e4af63fb872f900431b817fd460abbc34bcb6c7"), looks := false }, kinds := [], alts := [], laidByText := true, laidKinds := [.data, .data], laidTests := true, laidLooks := .later }
def NaturalClassesUptoCardSaid : Prop := Claim7.holds Tryd.pinned (.plain (OpenSpec.upto naturalClassesSpec)) naturalClassesUptoCard

/-- THE SECOND FORM's CARD OF 'ablautlaw05.NaturalPairs'. -/
def naturalPairsUptoCard : Claim7 := { stood := { row := naturalPairsUptoRow, standIns := [], harness := (true, "522067bbbfaf5c0ce585dc4e9e4af63fb872f900431b817fd460abbc34bcb6c7"), looks := false }, kinds := [], alts := [], laidByText := true, laidKinds := [.data, .data], laidTests := true, laidLooks := .later }
def NaturalPairsUptoCardSaid : Prop := Claim7.holds Tryd.pinned (.plain (OpenSpec.upto naturalPairsSpec)) naturalPairsUptoCard

/-- THE SECOND FORM's CARD OF 'ablautlaw05.NaturalCounts'. -/
def naturalCountsUptoCard : Claim7 := { stood := { row := naturalCountsUptoRow, standIns := [], harness := (true, "522067bbbfaf5c0ce585dc4e9e4af63fb872f900431b817fd460abbc34bcb6c7"), looks := false }, kinds := [], alts := [], laidByText := true, laidKinds := [.data, .data], laidTests := true, laidLooks := .later }
def NaturalCountsUptoCardSaid : Prop := Claim7.holds Tryd.pinned (.plain (OpenSpec.upto naturalCountsSpec)) naturalCountsUptoCard

/-- THE SECOND FORM's CARD OF 'ablautlaw05.NaturalNeeds'. -/
def naturalNeedsUptoCard : Claim7 := { stood := { row := naturalNeedsUptoRow, standIns := [], harness := (true, "522067bbbfaf5c0ce585dc4e9e4af63fb872f900431b817fd460abbc34bcb6c7"), looks := false }, kinds := [], alts := [], laidByText := true, laidKinds := [.data, .data], laidTests := true, laidLooks := .later }
def NaturalNeedsUptoCardSaid : Prop := Claim7.holds Tryd.pinned (.plain (OpenSpec.upto naturalNeedsSpec)) naturalNeedsUptoCard

/-- THE SECOND FORM's CARD OF 'ablautlaw05.NaturalTurns'. -/
def naturalTurnsUptoCard : Claim7 := { stood := { row := naturalTurnsUptoRow, standIns := [], harness := (true, "522067bbbfaf5c0ce585dc4e9e4af63fb872f900431b817fd460abbc34bcb6c7"), looks := false }, kinds := [], alts := [], laidByText := true, laidKinds := [.data, .data], laidTests := true, laidLooks := .later }
def NaturalTurnsUptoCardSaid : Prop := Claim7.holds Tryd.pinned (.plain (OpenSpec.upto naturalTurnsSpec)) naturalTurnsUptoCard

/-- THE SECOND FORM's CARD OF 'ablautlaw05.NaturalCubes'. -/
def naturalCubesUptoCard : Claim7 := { stood := { row := naturalCubesUptoRow, standIns := [], harness := (true, "522067bbbfaf5c0ce585dc4e9e4af63fb872f900431b817fd460abbc34bcb6c7"), looks := false }, kinds := [], alts := [], laidByText := true, laidKinds := [.data, .data], laidTests := true, laidLooks := .later }
def NaturalCubesUptoCardSaid : Prop := Claim7.holds Tryd.pinned (.plain (OpenSpec.upto naturalCubesSpec)) naturalCubesUptoCard

/-- THE SECOND FORM's CARD OF 'ablautlaw05.NaturalSelects'. -/
def naturalSelectsUptoCard : Claim7 := { stood := { row := naturalSelectsUptoRow, standIns := [], harness := (true, "522067bbbfaf5c0ce585dc4e9e4af63fb872f900431b817fd460abbc34bcb6c7"), looks := false }, kinds := [], alts := [], laidByText := true, laidKinds := [.data, .data], laidTests := true, laidLooks := .later }
def NaturalSelectsUptoCardSaid : Prop := Claim7.holds Tryd.pinned (.plain (OpenSpec.upto naturalSelectsSpec)) naturalSelectsUptoCard

/-- THE SECOND FORM's CARD OF 'ablautlaw05.NaturalCloses'. -/
def naturalClosesUptoCard : Claim7 := { stood := { row := naturalClosesUptoRow, standIns := [], harness := (true, "522067bbbfaf5c0ce585dc4e9e4af63fb872f900431b817fd460abbc34bcb6c7"), looks := false }, kinds := [], alts := [], laidByText := true, laidKinds := [.data, .data], laidTests := true, laidLooks := .later }
def NaturalClosesUptoCardSaid : Prop := Claim7.holds Tryd.pinned (.plain (OpenSpec.upto naturalClosesSpec)) naturalClosesUptoCard

/-- THE SECOND FORM's CARD OF 'ablautlaw05.NaturalShort'. -/
def naturalShortUptoCard : Claim7 := { stood := { row := naturalShortUptoRow, standIns := [], harness := (true, "522067bbbfaf5c0ce585dc4e9e4af63fb872f900431b817fd460abbc34bcb6c7"), looks := false }, kinds := [], alts := [], laidByText := true, laidKinds := [.data, .data], laidTests := true, laidLooks := .later }
def NaturalShortUptoCardSaid : Prop := Claim7.holds Tryd.pinned (.plain (OpenSpec.upto naturalShortSpec)) naturalShortUptoCard

/-- THE SECOND FORM's CARD OF 'ablautlaw05.NaturalKnown'. -/
def naturalKnownUptoCard : Claim7 := { stood := { row := naturalKnownUptoRow, standIns := [], harness := (true, "522067bbbfaf5c0ce585dc4e9e4af63fb872f900431b817fd460abbc34bcb6c7"), looks := false }, kinds := [], alts := [], laidByText := true, laidKinds := [.data, .data], laidTests := true, laidLooks := .later }
def NaturalKnownUptoCardSaid : Prop := Claim7.holds Tryd.pinned (.plain (OpenSpec.upto naturalKnownSpec)) naturalKnownUptoCard
end Rows
end Go.Proofs.YtbnbfdbliokcaaaDoor
