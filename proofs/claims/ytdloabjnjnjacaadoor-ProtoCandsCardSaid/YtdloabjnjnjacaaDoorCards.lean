/-
  DERIVED. GIVEN WITH THE SEED: THE CARDS: each row of YtdloabjnjnjacaaDoorRows.lean that lists a variable, with what it lists TIED to the program's text (the seventh form; the later family's looks); each row that meets fmt, with fmt's text TOLD by the authors' own Lean function (tested against real Go, not proved from fmt's source: count such statements apart). THE CARD IS WHAT COUNTS. Prove the row's statement (the work); the ties are given (YtdloabjnjnjacaaDoorTie.lean); close each card by the builder's one call (the guide's Derived/Test/ToyasCard.lean, 'card_holds'). Laid BY PROGRAM, IN A SANDBOX (cutbox-door.mjs). By AI agents, Wed Nov 11 2026. No macro, syntax, notation, axiom, sorry.
-/
import Derived.Test.YtdloabjnjnjacaaDoorRows
import GoSem.ClaimSeven
namespace Go.Proofs.YtdloabjnjnjacaaDoor
namespace Rows

/-- THE TIED CARD OF 'ablautlaw24.ProtoMatrices'. -/
def protoMatricesCard : Claim7 := { stood := { row := protoMatricesRow, standIns := [], harness := (true, "5c137629ef1cc6d7f14854d6f533bc31c37949b249f8a366f8142c018ac58ffe"), looks := false }, kinds := [], alts := [], laidByText := true, laidKinds := [.data], laidTests := true, laidLooks := .later }
def ProtoMatricesCardSaid : Prop := Claim7.holds Tryd.pinned (.plain (OpenSpec.ofChange protoMatricesSpec)) protoMatricesCard

/-- THE TIED CARD OF 'ablautlaw24.ProtoCells'. -/
def protoCellsCard : Claim7 := { stood := { row := protoCellsRow, standIns := [], harness := (true, "5c137629ef1cc6d7f14854d6f533bc31c37949b249f8a366f8142c018ac58ffe"), looks := false }, kinds := [], alts := [], laidByText := true, laidKinds := [.data], laidTests := true, laidLooks := .later }
def ProtoCellsCardSaid : Prop := Claim7.holds Tryd.pinned (.plain (OpenSpec.ofChange protoCellsSpec)) protoCellsCard

/-- THE TIED CARD OF 'ablautlaw24.ProtoWords'. -/
def protoWordsCard : Claim7 := { stood := { row := protoWordsRow, standIns := [], harness := (true, "5c137629ef1cc6d7f14854d6f533bc31c37949b249f8a366f8142c018ac58ffe"), looks := false }, kinds := [], alts := [], laidByText := true, laidKinds := [.data], laidTests := true, laidLooks := .later }
def ProtoWordsCardSaid : Prop := Claim7.holds Tryd.pinned (.plain (OpenSpec.ofChange protoWordsSpec)) protoWordsCard

/-- THE TIED CARD OF 'ablautlaw24.ProtoSame'. -/
def protoSameCard : Claim7 := { stood := { row := protoSameRow, standIns := [], harness := (true, "5c137629ef1cc6d7f14854d6f533bc31c37949b249f8a366f8142c018ac58ffe"), looks := false }, kinds := [], alts := [], laidByText := true, laidKinds := [.data], laidTests := true, laidLooks := .later }
def ProtoSameCardSaid : Prop := Claim7.holds Tryd.pinned (.plain (OpenSpec.ofChange protoSameSpec)) protoSameCard

/-- THE TIED CARD OF 'ablautlaw24.ProtoTurned'. -/
def protoTurnedCard : Claim7 := { stood := { row := protoTurnedRow, standIns := [], harness := (true, "5c137629ef1cc6d7f14854d6f533bc31c37949b249f8a366f8142c018ac58ffe"), looks := false }, kinds := [], alts := [], laidByText := true, laidKinds := [.data], laidTests := true, laidLooks := .later }
def ProtoTurnedCardSaid : Prop := Claim7.holds Tryd.pinned (.plain (OpenSpec.ofChange protoTurnedSpec)) protoTurnedCard

/-- THE TIED CARD OF 'ablautlaw24.ProtoSums'. -/
def protoSumsCard : Claim7 := { stood := { row := protoSumsRow, standIns := [], harness := (true, "5c137629ef1cc6d7f14854d6f533bc31c37949b249f8a366f8142c018ac58ffe"), looks := false }, kinds := [], alts := [], laidByText := true, laidKinds := [.data], laidTests := true, laidLooks := .later }
def ProtoSumsCardSaid : Prop := Claim7.holds Tryd.pinned (.plain (OpenSpec.ofChange protoSumsSpec)) protoSumsCard

/-- THE TIED CARD OF 'ablautlaw24.ProtoNodes'. -/
def protoNodesCard : Claim7 := { stood := { row := protoNodesRow, standIns := [], harness := (true, "5c137629ef1cc6d7f14854d6f533bc31c37949b249f8a366f8142c018ac58ffe"), looks := false }, kinds := [], alts := [], laidByText := true, laidKinds := [.data], laidTests := true, laidLooks := .later }
def ProtoNodesCardSaid : Prop := Claim7.holds Tryd.pinned (.plain (OpenSpec.ofChange protoNodesSpec)) protoNodesCard

/-- THE TIED CARD OF 'ablautlaw24.ProtoCosts'. -/
def protoCostsCard : Claim7 := { stood := { row := protoCostsRow, standIns := [], harness := (true, "5c137629ef1cc6d7f14854d6f533bc31c37949b249f8a366f8142c018ac58ffe"), looks := false }, kinds := [], alts := [], laidByText := true, laidKinds := [.data], laidTests := true, laidLooks := .later }
def ProtoCostsCardSaid : Prop := Claim7.holds Tryd.pinned (.plain (OpenSpec.ofChange protoCostsSpec)) protoCostsCard

/-- THE TIED CARD OF 'ablautlaw24.ProtoLeast'. -/
def protoLeastCard : Claim7 := { stood := { row := protoLeastRow, standIns := [], harness := (true, "5c137629ef1cc6d7f14854d6f533bc31c37949b249f8a366f8142c018ac58ffe"), looks := false }, kinds := [], alts := [], laidByText := true, laidKinds := [.data], laidTests := true, laidLooks := .later }
def ProtoLeastCardSaid : Prop := Claim7.holds Tryd.pinned (.plain (OpenSpec.ofChange protoLeastSpec)) protoLeastCard

/-- THE TIED CARD OF 'ablautlaw24.ProtoAgrees'. -/
def protoAgreesCard : Claim7 := { stood := { row := protoAgreesRow, standIns := [], harness := (true, "5c137629ef1cc6d7f14854d6f533bc31c37949b249f8a366f8142c018ac58ffe"), looks := false }, kinds := [], alts := [], laidByText := true, laidKinds := [.data], laidTests := true, laidLooks := .later }
def ProtoAgreesCardSaid : Prop := Claim7.holds Tryd.pinned (.plain (OpenSpec.ofChange protoAgreesSpec)) protoAgreesCard

/-- THE TIED CARD OF 'ablautlaw24.ProtoCands'. -/
def protoCandsCard : Claim7 := { stood := { row := protoCandsRow, standIns := [], harness := (true, "5c137629ef1cc6d7f14854d6f533bc31c37949b249f8a366f8142c018ac58ffe"), looks := false }, kinds := [], alts := [], laidByText := true, laidKinds := [.data], laidTests := true, laidLooks := .later }
def ProtoCandsCardSaid : Prop := Claim7.holds Tryd.pinned (.plain (OpenSpec.ofChange protoCandsSpec)) protoCandsCard

/-- THE SECOND FORM's CARD OF 'ablautlaw24.ProtoMatrices'. -/
def protoMatricesUptoCard : Claim7 := { stood := { row := protoMatricesUptoRow, standIns := [], harness := (true, "5c137629ef1cc6d7f14854d6f533bc31c37949b249f8a366f8142c018ac58ffe"), looks := false }, kinds := [], alts := [], laidByText := true, laidKinds := [.data], laidTests := true, laidLooks := .later }
def ProtoMatricesUptoCardSaid : Prop := Claim7.holds Tryd.pinned (.plain (OpenSpec.upto protoMatricesSpec)) protoMatricesUptoCard

/-- THE SECOND FORM's CARD OF 'ablautlaw24.ProtoCells'. -/
def protoCellsUptoCard : Claim7 := { stood := { row := protoCellsUptoRow, standIns := [], harness := (true, "5c137629ef1cc6d7f14854d6f533bc31c37949b249f8a366f8142c018ac58ffe"), looks := false }, kinds := [], alts := [], laidByText := true, laidKinds := [.data], laidTests := true, laidLooks := .later }
def ProtoCellsUptoCardSaid : Prop := Claim7.holds Tryd.pinned (.plain (OpenSpec.upto protoCellsSpec)) protoCellsUptoCard

/-- THE SECOND FORM's CARD OF 'ablautlaw24.ProtoWords'. -/
def protoWordsUptoCard : Claim7 := { stood := { row := protoWordsUptoRow, standIns := [], harness := (true, "5c137629ef1cc6d7f14854d6f533bc31c37949b249f8a366f8142c018ac58ffe"), looks := false }, kinds := [], alts := [], laidByText := true, laidKinds := [.data], laidTests := true, laidLooks := .later }
def ProtoWordsUptoCardSaid : Prop := Claim7.holds Tryd.pinned (.plain (OpenSpec.upto protoWordsSpec)) protoWordsUptoCard

/-- THE SECOND FORM's CARD OF 'ablautlaw24.ProtoSame'. -/
def protoSameUptoCard : Claim7 := { stood := { row := protoSameUptoRow, standIns := [], harness := (true, "5c137629ef1cc6d7f14854d6f533bc31c37949b249f8a366f8142c018ac58ffe"), looks := false }, kinds := [], alts := [], laidByText := true, laidKinds := [.data], laidTests := true, laidLooks := .later }
def ProtoSameUptoCardSaid : Prop := Claim7.holds Tryd.pinned (.plain (OpenSpec.upto protoSameSpec)) protoSameUptoCard

/-- THE SECOND FORM's CARD OF 'ablautlaw24.ProtoTurned'. -/
def protoTurnedUptoCard : Claim7 := { stood := { row := protoTurnedUptoRow, standIns := [], harness := (true, "5c137629ef1cc6d7f14854d6f533bc31c37949b249f8a366f8142c018ac58ffe"), looks := false }, kinds := [], alts := [], laidByText := true, laidKinds := [.data], laidTests := true, laidLooks := .later }
def ProtoTurnedUptoCardSaid : Prop := Claim7.holds Tryd.pinned (.plain (OpenSpec.upto protoTurnedSpec)) protoTurnedUptoCard

/-- THE SECOND FORM's CARD OF 'ablautlaw24.ProtoSums'. -/
def protoSumsUptoCard : Claim7 := { stood := { row := protoSumsUptoRow, standIns := [], harness := (true, "5c137629ef1cc6d7f14854d6f533bc31c37949b249f8a366f8142c018ac58ffe"), looks := false }, kinds := [], alts := [], laidByText := true, laidKinds := [.data], laidTests := true, laidLooks := .later }
def ProtoSumsUptoCardSaid : Prop := Claim7.holds Tryd.pinned (.plain (OpenSpec.upto protoSumsSpec)) protoSumsUptoCard

/-- THE SECOND FORM's CARD OF 'ablautlaw24.ProtoNodes'. -/
def protoNodesUptoCard : Claim7 := { stood := { row := protoNodesUptoRow, standIns := [], harness := (true, "5c137629ef1cc6d7f14854d6f533bc31c37949b249f8a366f8142c018ac58ffe"), looks := false }, kinds := [], alts := [], laidByText := true, laidKinds := [.data], laidTests := true, laidLooks := .later }
def ProtoNodesUptoCardSaid : Prop := Claim7.holds Tryd.pinned (.plain (OpenSpec.upto protoNodesSpec)) protoNodesUptoCard

/-- THE SECOND FORM's CARD OF 'ablautlaw24.ProtoCosts'. -/
def protoCostsUptoCard : Claim7 := { stood := { row := protoCostsUptoRow, standIns := [], harness := (true, "5c137629ef1cc6d7f14854d6f533bc31c37949b249f8a366f8142c018ac58ffe"), looks := false }, kinds := [], alts := [], laidByText := true, laidKinds := [.data], laidTests := true, laidLooks := .later }
def ProtoCostsUptoCardSaid : Prop := Claim7.holds Tryd.pinned (.plain (OpenSpec.upto protoCostsSpec)) protoCostsUptoCard

/-- THE SECOND FORM's CARD OF 'ablautlaw24.ProtoLeast'. -/
def protoLeastUptoCard : Claim7 := { stood := { row := protoLeastUptoRow, standIns := [], harness := (true, "5c137629ef1cc6d7f14854d6f533bc31c37949b249f8a366f8142c018ac58ffe"), looks := false }, kinds := [], alts := [], laidByText := true, laidKinds := [.data], laidTests := true, laidLooks := .later }
def ProtoLeastUptoCardSaid : Prop := Claim7.holds Tryd.pinned (.plain (OpenSpec.upto protoLeastSpec)) protoLeastUptoCard

/-- THE SECOND FORM's CARD OF 'ablautlaw24.ProtoAgrees'. -/
def protoAgreesUptoCard : Claim7 := { stood := { row := protoAgreesUptoRow, standIns := [], harness := (true, "5c137629ef1cc6d7f14854d6f533bc31c37949b249f8a366f8142c018ac58ffe"), looks := false }, kinds := [], alts := [], laidByText := true, laidKinds := [.data], laidTests := true, laidLooks := .later }
def ProtoAgreesUptoCardSaid : Prop := Claim7.holds Tryd.pinned (.plain (OpenSpec.upto protoAgreesSpec)) protoAgreesUptoCard

/-- THE SECOND FORM's CARD OF 'ablautlaw24.ProtoCands'. -/
def protoCandsUptoCard : Claim7 := { stood := { row := protoCandsUptoRow, standIns := [], harness := (true, "5c137629ef1cc6d7f14854d6f533bc31c37949b249f8a366f8142c018ac58ffe"), looks := false }, kinds := [], alts := [], laidByText := true, laidKinds := [.data], laidTests := true, laidLooks := .later }
def ProtoCandsUptoCardSaid : Prop := Claim7.holds Tryd.pinned (.plain (OpenSpec.upto protoCandsSpec)) protoCandsUptoCard
end Rows
end Go.Proofs.YtdloabjnjnjacaaDoor
