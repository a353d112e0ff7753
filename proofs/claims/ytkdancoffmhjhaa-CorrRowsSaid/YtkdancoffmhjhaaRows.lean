/-
  No cell of these rows narrows 'for every input' (looked for: loops, veiled, ifaces, maps, wideKeys, modest, calm, conditions, laid).
  DERIVED. THE GIVEN ROWS OF THIS SEAT. 12 by the template 'for every input the law returns true; each argument reads behind the call as it read before'; 0 by the template 'total and deterministic' (their statements: YtkdancoffmhjhaaTotals.lean).
  GIVEN WITH THE SEED: the statements are not yours to turn. If you find one false, say at which input.
  Laid BY PROGRAM, IN A SANDBOX (cutbox-rows.mjs): the forced cells as the released guide's own fill.sh prints them over the translation 4d9a5bee873109dc… (all of the seat's roots in one cut). By AI agents, Wed Nov 11 2026. No macro, syntax, notation, axiom, sorry.
-/
import Derived.Test.YtkdancoffmhjhaaChecked
import GoSem.Claim
import GoSem.ClaimJoined
import GoSem.ClaimMapViews
import Derived.JoinedTies
import Derived.KernelRfl
namespace Go.Proofs.Ytkdancoffmhjhaa
/- THE CELL 'sum', in the pinned program and in every row, IS THE sha256 OF THE DUMP (.gsa) THAT YtkdancoffmhjhaaProg.lean LOADS. Nothing in Lean hashes anything: it is a label: what it is worth is what the hold of that sum in a sandbox is worth. -/
noncomputable def Try.pinned : Pinned := { name := "ytkdancoffmhjhaa", sum := "4d9a5bee873109dc1c5578cd3f855b6bc17fd007bb034ab9d6a68618cf824538", checked := Try.checked }
namespace Rows
def none {H : Type} : Left H := { results := [], args := [] }

/-- 'ablautlaw20.CorrCollects': WHATEVER THE INPUT: true; the input reads as it did. -/
def corrCollectsSpec : ChangeSpec := { name := "corrCollects", fn := fun _ => fun
  | [d] => { results := [.lit (.bool true)], args := [d] }
  | _ => none }
def corrCollectsRow : OpenClaim := { program := "ytkdancoffmhjhaa", sum := "4d9a5bee873109dc1c5578cd3f855b6bc17fd007bb034ab9d6a68618cf824538", func := "ablaut/ablautlaw20.CorrCollects", spec := "corrCollects", unfollowed := true, recurses := true, apart := false }
def CorrCollectsSaid : Prop := corrCollectsRow.holds Try.pinned (OpenSpec.ofChange corrCollectsSpec)

/-- ITS FALSE NEIGHBOUR: 'it returns false'. Refute it at one input. -/
def corrCollectsWrong : ChangeSpec := { name := "corrCollects", fn := fun _ => fun
  | [d] => { results := [.lit (.bool false)], args := [d] }
  | _ => none }
def CorrCollectsWrongFalsely : Prop := corrCollectsRow.holds Try.pinned (OpenSpec.ofChange corrCollectsWrong)

/-- 'ablautlaw20.CorrMerges': WHATEVER THE INPUT: true; the input reads as it did. -/
def corrMergesSpec : ChangeSpec := { name := "corrMerges", fn := fun _ => fun
  | [d1, d2] => { results := [.lit (.bool true)], args := [d1, d2] }
  | _ => none }
def corrMergesRow : OpenClaim := { program := "ytkdancoffmhjhaa", sum := "4d9a5bee873109dc1c5578cd3f855b6bc17fd007bb034ab9d6a68618cf824538", func := "ablaut/ablautlaw20.CorrMerges", spec := "corrMerges", unfollowed := true, recurses := true, apart := false }
def CorrMergesSaid : Prop := corrMergesRow.holds Try.pinned (OpenSpec.ofChange corrMergesSpec)

/-- ITS FALSE NEIGHBOUR: 'it returns false'. Refute it at one input. -/
def corrMergesWrong : ChangeSpec := { name := "corrMerges", fn := fun _ => fun
  | [d1, d2] => { results := [.lit (.bool false)], args := [d1, d2] }
  | _ => none }
def CorrMergesWrongFalsely : Prop := corrMergesRow.holds Try.pinned (OpenSpec.ofChange corrMergesWrong)

/-- 'ablautlaw20.CorrReflexes': WHATEVER THE INPUT: true; the input reads as it did. -/
def corrReflexesSpec : ChangeSpec := { name := "corrReflexes", fn := fun _ => fun
  | [d1, d2, d3] => { results := [.lit (.bool true)], args := [d1, d2, d3] }
  | _ => none }
def corrReflexesRow : OpenClaim := { program := "ytkdancoffmhjhaa", sum := "4d9a5bee873109dc1c5578cd3f855b6bc17fd007bb034ab9d6a68618cf824538", func := "ablaut/ablautlaw20.CorrReflexes", spec := "corrReflexes", unfollowed := true, recurses := true, apart := false }
def CorrReflexesSaid : Prop := corrReflexesRow.holds Try.pinned (OpenSpec.ofChange corrReflexesSpec)

/-- ITS FALSE NEIGHBOUR: 'it returns false'. Refute it at one input. -/
def corrReflexesWrong : ChangeSpec := { name := "corrReflexes", fn := fun _ => fun
  | [d1, d2, d3] => { results := [.lit (.bool false)], args := [d1, d2, d3] }
  | _ => none }
def CorrReflexesWrongFalsely : Prop := corrReflexesRow.holds Try.pinned (OpenSpec.ofChange corrReflexesWrong)

/-- 'ablautlaw20.CorrShares': WHATEVER THE INPUT: true; the input reads as it did. -/
def corrSharesSpec : ChangeSpec := { name := "corrShares", fn := fun _ => fun
  | [d1, d2, d3] => { results := [.lit (.bool true)], args := [d1, d2, d3] }
  | _ => none }
def corrSharesRow : OpenClaim := { program := "ytkdancoffmhjhaa", sum := "4d9a5bee873109dc1c5578cd3f855b6bc17fd007bb034ab9d6a68618cf824538", func := "ablaut/ablautlaw20.CorrShares", spec := "corrShares", unfollowed := true, recurses := true, apart := false }
def CorrSharesSaid : Prop := corrSharesRow.holds Try.pinned (OpenSpec.ofChange corrSharesSpec)

/-- ITS FALSE NEIGHBOUR: 'it returns false'. Refute it at one input. -/
def corrSharesWrong : ChangeSpec := { name := "corrShares", fn := fun _ => fun
  | [d1, d2, d3] => { results := [.lit (.bool false)], args := [d1, d2, d3] }
  | _ => none }
def CorrSharesWrongFalsely : Prop := corrSharesRow.holds Try.pinned (OpenSpec.ofChange corrSharesWrong)

/-- 'ablautlaw20.CorrParts': WHATEVER THE INPUT: true; the input reads as it did. -/
def corrPartsSpec : ChangeSpec := { name := "corrParts", fn := fun _ => fun
  | [d1, d2, d3] => { results := [.lit (.bool true)], args := [d1, d2, d3] }
  | _ => none }
def corrPartsRow : OpenClaim := { program := "ytkdancoffmhjhaa", sum := "4d9a5bee873109dc1c5578cd3f855b6bc17fd007bb034ab9d6a68618cf824538", func := "ablaut/ablautlaw20.CorrParts", spec := "corrParts", unfollowed := true, recurses := true, apart := false }
def CorrPartsSaid : Prop := corrPartsRow.holds Try.pinned (OpenSpec.ofChange corrPartsSpec)

/-- ITS FALSE NEIGHBOUR: 'it returns false'. Refute it at one input. -/
def corrPartsWrong : ChangeSpec := { name := "corrParts", fn := fun _ => fun
  | [d1, d2, d3] => { results := [.lit (.bool false)], args := [d1, d2, d3] }
  | _ => none }
def CorrPartsWrongFalsely : Prop := corrPartsRow.holds Try.pinned (OpenSpec.ofChange corrPartsWrong)

/-- 'ablautlaw20.CorrOrder': WHATEVER THE INPUT: true; the input reads as it did. -/
def corrOrderSpec : ChangeSpec := { name := "corrOrder", fn := fun _ => fun
  | [d] => { results := [.lit (.bool true)], args := [d] }
  | _ => none }
def corrOrderRow : OpenClaim := { program := "ytkdancoffmhjhaa", sum := "4d9a5bee873109dc1c5578cd3f855b6bc17fd007bb034ab9d6a68618cf824538", func := "ablaut/ablautlaw20.CorrOrder", spec := "corrOrder", unfollowed := true, recurses := true, apart := false }
def CorrOrderSaid : Prop := corrOrderRow.holds Try.pinned (OpenSpec.ofChange corrOrderSpec)

/-- ITS FALSE NEIGHBOUR: 'it returns false'. Refute it at one input. -/
def corrOrderWrong : ChangeSpec := { name := "corrOrder", fn := fun _ => fun
  | [d] => { results := [.lit (.bool false)], args := [d] }
  | _ => none }
def CorrOrderWrongFalsely : Prop := corrOrderRow.holds Try.pinned (OpenSpec.ofChange corrOrderWrong)

/-- 'ablautlaw20.CorrSums': WHATEVER THE INPUT: true; the input reads as it did. -/
def corrSumsSpec : ChangeSpec := { name := "corrSums", fn := fun _ => fun
  | [d1, d2] => { results := [.lit (.bool true)], args := [d1, d2] }
  | _ => none }
def corrSumsRow : OpenClaim := { program := "ytkdancoffmhjhaa", sum := "4d9a5bee873109dc1c5578cd3f855b6bc17fd007bb034ab9d6a68618cf824538", func := "ablaut/ablautlaw20.CorrSums", spec := "corrSums", unfollowed := true, recurses := true, apart := false }
def CorrSumsSaid : Prop := corrSumsRow.holds Try.pinned (OpenSpec.ofChange corrSumsSpec)

/-- ITS FALSE NEIGHBOUR: 'it returns false'. Refute it at one input. -/
def corrSumsWrong : ChangeSpec := { name := "corrSums", fn := fun _ => fun
  | [d1, d2] => { results := [.lit (.bool false)], args := [d1, d2] }
  | _ => none }
def CorrSumsWrongFalsely : Prop := corrSumsRow.holds Try.pinned (OpenSpec.ofChange corrSumsWrong)

/-- 'ablautlaw20.CorrCounts': WHATEVER THE INPUT: true; the input reads as it did. -/
def corrCountsSpec : ChangeSpec := { name := "corrCounts", fn := fun _ => fun
  | [d1, d2] => { results := [.lit (.bool true)], args := [d1, d2] }
  | _ => none }
def corrCountsRow : OpenClaim := { program := "ytkdancoffmhjhaa", sum := "4d9a5bee873109dc1c5578cd3f855b6bc17fd007bb034ab9d6a68618cf824538", func := "ablaut/ablautlaw20.CorrCounts", spec := "corrCounts", unfollowed := true, recurses := true, apart := false }
def CorrCountsSaid : Prop := corrCountsRow.holds Try.pinned (OpenSpec.ofChange corrCountsSpec)

/-- ITS FALSE NEIGHBOUR: 'it returns false'. Refute it at one input. -/
def corrCountsWrong : ChangeSpec := { name := "corrCounts", fn := fun _ => fun
  | [d1, d2] => { results := [.lit (.bool false)], args := [d1, d2] }
  | _ => none }
def CorrCountsWrongFalsely : Prop := corrCountsRow.holds Try.pinned (OpenSpec.ofChange corrCountsWrong)

/-- 'ablautlaw20.CorrOnly': WHATEVER THE INPUT: true; the input reads as it did. -/
def corrOnlySpec : ChangeSpec := { name := "corrOnly", fn := fun _ => fun
  | [d1, d2] => { results := [.lit (.bool true)], args := [d1, d2] }
  | _ => none }
def corrOnlyRow : OpenClaim := { program := "ytkdancoffmhjhaa", sum := "4d9a5bee873109dc1c5578cd3f855b6bc17fd007bb034ab9d6a68618cf824538", func := "ablaut/ablautlaw20.CorrOnly", spec := "corrOnly", unfollowed := true, recurses := true, apart := false }
def CorrOnlySaid : Prop := corrOnlyRow.holds Try.pinned (OpenSpec.ofChange corrOnlySpec)

/-- ITS FALSE NEIGHBOUR: 'it returns false'. Refute it at one input. -/
def corrOnlyWrong : ChangeSpec := { name := "corrOnly", fn := fun _ => fun
  | [d1, d2] => { results := [.lit (.bool false)], args := [d1, d2] }
  | _ => none }
def CorrOnlyWrongFalsely : Prop := corrOnlyRow.holds Try.pinned (OpenSpec.ofChange corrOnlyWrong)

/-- 'ablautlaw20.CorrAll': WHATEVER THE INPUT: true; the input reads as it did. -/
def corrAllSpec : ChangeSpec := { name := "corrAll", fn := fun _ => fun
  | [d1, d2] => { results := [.lit (.bool true)], args := [d1, d2] }
  | _ => none }
def corrAllRow : OpenClaim := { program := "ytkdancoffmhjhaa", sum := "4d9a5bee873109dc1c5578cd3f855b6bc17fd007bb034ab9d6a68618cf824538", func := "ablaut/ablautlaw20.CorrAll", spec := "corrAll", unfollowed := true, recurses := true, apart := false }
def CorrAllSaid : Prop := corrAllRow.holds Try.pinned (OpenSpec.ofChange corrAllSpec)

/-- ITS FALSE NEIGHBOUR: 'it returns false'. Refute it at one input. -/
def corrAllWrong : ChangeSpec := { name := "corrAll", fn := fun _ => fun
  | [d1, d2] => { results := [.lit (.bool false)], args := [d1, d2] }
  | _ => none }
def CorrAllWrongFalsely : Prop := corrAllRow.holds Try.pinned (OpenSpec.ofChange corrAllWrong)

/-- 'ablautlaw20.CorrCells': WHATEVER THE INPUT: true; the input reads as it did. -/
def corrCellsSpec : ChangeSpec := { name := "corrCells", fn := fun _ => fun
  | [d1, d2] => { results := [.lit (.bool true)], args := [d1, d2] }
  | _ => none }
def corrCellsRow : OpenClaim := { program := "ytkdancoffmhjhaa", sum := "4d9a5bee873109dc1c5578cd3f855b6bc17fd007bb034ab9d6a68618cf824538", func := "ablaut/ablautlaw20.CorrCells", spec := "corrCells", unfollowed := true, recurses := true, apart := false }
def CorrCellsSaid : Prop := corrCellsRow.holds Try.pinned (OpenSpec.ofChange corrCellsSpec)

/-- ITS FALSE NEIGHBOUR: 'it returns false'. Refute it at one input. -/
def corrCellsWrong : ChangeSpec := { name := "corrCells", fn := fun _ => fun
  | [d1, d2] => { results := [.lit (.bool false)], args := [d1, d2] }
  | _ => none }
def CorrCellsWrongFalsely : Prop := corrCellsRow.holds Try.pinned (OpenSpec.ofChange corrCellsWrong)

/-- 'ablautlaw20.CorrRows': WHATEVER THE INPUT: true; the input reads as it did. -/
def corrRowsSpec : ChangeSpec := { name := "corrRows", fn := fun _ => fun
  | [d1, d2] => { results := [.lit (.bool true)], args := [d1, d2] }
  | _ => none }
def corrRowsRow : OpenClaim := { program := "ytkdancoffmhjhaa", sum := "4d9a5bee873109dc1c5578cd3f855b6bc17fd007bb034ab9d6a68618cf824538", func := "ablaut/ablautlaw20.CorrRows", spec := "corrRows", unfollowed := true, recurses := true, apart := false }
def CorrRowsSaid : Prop := corrRowsRow.holds Try.pinned (OpenSpec.ofChange corrRowsSpec)

/-- ITS FALSE NEIGHBOUR: 'it returns false'. Refute it at one input. -/
def corrRowsWrong : ChangeSpec := { name := "corrRows", fn := fun _ => fun
  | [d1, d2] => { results := [.lit (.bool false)], args := [d1, d2] }
  | _ => none }
def CorrRowsWrongFalsely : Prop := corrRowsRow.holds Try.pinned (OpenSpec.ofChange corrRowsWrong)

/- THE SECOND FORM. 'bulk': how many values and letters a reading holds, each counted each time it is reached (what is shared counts as often as it is met; a slice's spare places count too). A statement '..UptoSaid' is the law's where the arguments, and the package variables that the reading takes, are together of bulk at most 1048576: NARROWER than '..Said'. Prove '..Said' where nothing that the law and all that it calls make is longer than what came in: it says more and counts as full. Else prove '..UptoSaid'. A law counts once. -/
mutual
def uptoBulk {H : Type} : DataW H → Nat
  | .lit (.string bytes) => bytes.length + 1
  | .lit _ => 1
  | .nil => 1
  | .ptr d => uptoBulk d + 1
  | .slice elems spare => uptoBulkAll elems + uptoBulkAll spare + 1
  | .agg parts => uptoBulkAll parts + 1
  | .iface _ d => uptoBulk d + 1
  | .map entries => uptoBulkEntries entries + 1
  | .held _ => 1
def uptoBulkAll {H : Type} : List (DataW H) → Nat
  | [] => 0
  | d :: r => uptoBulk d + uptoBulkAll r
def uptoBulkEntries {H : Type} : List (Lit × DataW H) → Nat
  | [] => 0
  | x :: r => uptoBulkEntry x + uptoBulkEntries r
def uptoBulkEntry {H : Type} : Lit × DataW H → Nat
  | (.string bytes, d) => bytes.length + uptoBulk d + 1
  | (_, d) => uptoBulk d + 1
 end
def uptoSmall : (H : Type) → List (DataW H) → Bool := fun _ ds => decide (uptoBulkAll ds ≤ 1048576)
def OpenSpec.upto (s : _root_.Go.ChangeSpec) : _root_.Go.OpenSpec := { _root_.Go.OpenSpec.ofChange s with cond := some uptoSmall }

/-- 'ablautlaw20.CorrCollects', WHERE WHAT IT READS IS OF BULK AT MOST 1048576: true; the input reads as it did. -/
def corrCollectsUptoRow : OpenClaim := { program := "ytkdancoffmhjhaa", sum := "4d9a5bee873109dc1c5578cd3f855b6bc17fd007bb034ab9d6a68618cf824538", func := "ablaut/ablautlaw20.CorrCollects", spec := "corrCollects", unfollowed := true, recurses := true, apart := false, narrowed := true }
def CorrCollectsUptoSaid : Prop := corrCollectsUptoRow.holds Try.pinned (OpenSpec.upto corrCollectsSpec)

/-- 'ablautlaw20.CorrMerges', WHERE WHAT IT READS IS OF BULK AT MOST 1048576: true; the input reads as it did. -/
def corrMergesUptoRow : OpenClaim := { program := "ytkdancoffmhjhaa", sum := "4d9a5bee873109dc1c5578cd3f855b6bc17fd007bb034ab9d6a68618cf824538", func := "ablaut/ablautlaw20.CorrMerges", spec := "corrMerges", unfollowed := true, recurses := true, apart := false, narrowed := true }
def CorrMergesUptoSaid : Prop := corrMergesUptoRow.holds Try.pinned (OpenSpec.upto corrMergesSpec)

/-- 'ablautlaw20.CorrReflexes', WHERE WHAT IT READS IS OF BULK AT MOST 1048576: true; the input reads as it did. -/
def corrReflexesUptoRow : OpenClaim := { program := "ytkdancoffmhjhaa", sum := "4d9a5bee873109dc1c5578cd3f855b6bc17fd007bb034ab9d6a68618cf824538", func := "ablaut/ablautlaw20.CorrReflexes", spec := "corrReflexes", unfollowed := true, recurses := true, apart := false, narrowed := true }
def CorrReflexesUptoSaid : Prop := corrReflexesUptoRow.holds Try.pinned (OpenSpec.upto corrReflexesSpec)

/-- 'ablautlaw20.CorrShares', WHERE WHAT IT READS IS OF BULK AT MOST 1048576: true; the input reads as it did. -/
def corrSharesUptoRow : OpenClaim := { program := "ytkdancoffmhjhaa", sum := "4d9a5bee873109dc1c5578cd3f855b6bc17fd007bb034ab9d6a68618cf824538", func := "ablaut/ablautlaw20.CorrShares", spec := "corrShares", unfollowed := true, recurses := true, apart := false, narrowed := true }
def CorrSharesUptoSaid : Prop := corrSharesUptoRow.holds Try.pinned (OpenSpec.upto corrSharesSpec)

/-- 'ablautlaw20.CorrParts', WHERE WHAT IT READS IS OF BULK AT MOST 1048576: true; the input reads as it did. -/
def corrPartsUptoRow : OpenClaim := { program := "ytkdancoffmhjhaa", sum := "4d9a5bee873109dc1c5578cd3f855b6bc17fd007bb034ab9d6a68618cf824538", func := "ablaut/ablautlaw20.CorrParts", spec := "corrParts", unfollowed := true, recurses := true, apart := false, narrowed := true }
def CorrPartsUptoSaid : Prop := corrPartsUptoRow.holds Try.pinned (OpenSpec.upto corrPartsSpec)

/-- 'ablautlaw20.CorrOrder', WHERE WHAT IT READS IS OF BULK AT MOST 1048576: true; the input reads as it did. -/
def corrOrderUptoRow : OpenClaim := { program := "ytkdancoffmhjhaa", sum := "4d9a5bee873109dc1c5578cd3f855b6bc17fd007bb034ab9d6a68618cf824538", func := "ablaut/ablautlaw20.CorrOrder", spec := "corrOrder", unfollowed := true, recurses := true, apart := false, narrowed := true }
def CorrOrderUptoSaid : Prop := corrOrderUptoRow.holds Try.pinned (OpenSpec.upto corrOrderSpec)

/-- 'ablautlaw20.CorrSums', WHERE WHAT IT READS IS OF BULK AT MOST 1048576: true; the input reads as it did. -/
def corrSumsUptoRow : OpenClaim := { program := "ytkdancoffmhjhaa", sum := "4d9a5bee873109dc1c5578cd3f855b6bc17fd007bb034ab9d6a68618cf824538", func := "ablaut/ablautlaw20.CorrSums", spec := "corrSums", unfollowed := true, recurses := true, apart := false, narrowed := true }
def CorrSumsUptoSaid : Prop := corrSumsUptoRow.holds Try.pinned (OpenSpec.upto corrSumsSpec)

/-- 'ablautlaw20.CorrCounts', WHERE WHAT IT READS IS OF BULK AT MOST 1048576: true; the input reads as it did. -/
def corrCountsUptoRow : OpenClaim := { program := "ytkdancoffmhjhaa", sum := "4d9a5bee873109dc1c5578cd3f855b6bc17fd007bb034ab9d6a68618cf824538", func := "ablaut/ablautlaw20.CorrCounts", spec := "corrCounts", unfollowed := true, recurses := true, apart := false, narrowed := true }
def CorrCountsUptoSaid : Prop := corrCountsUptoRow.holds Try.pinned (OpenSpec.upto corrCountsSpec)

/-- 'ablautlaw20.CorrOnly', WHERE WHAT IT READS IS OF BULK AT MOST 1048576: true; the input reads as it did. -/
def corrOnlyUptoRow : OpenClaim := { program := "ytkdancoffmhjhaa", sum := "4d9a5bee873109dc1c5578cd3f855b6bc17fd007bb034ab9d6a68618cf824538", func := "ablaut/ablautlaw20.CorrOnly", spec := "corrOnly", unfollowed := true, recurses := true, apart := false, narrowed := true }
def CorrOnlyUptoSaid : Prop := corrOnlyUptoRow.holds Try.pinned (OpenSpec.upto corrOnlySpec)

/-- 'ablautlaw20.CorrAll', WHERE WHAT IT READS IS OF BULK AT MOST 1048576: true; the input reads as it did. -/
def corrAllUptoRow : OpenClaim := { program := "ytkdancoffmhjhaa", sum := "4d9a5bee873109dc1c5578cd3f855b6bc17fd007bb034ab9d6a68618cf824538", func := "ablaut/ablautlaw20.CorrAll", spec := "corrAll", unfollowed := true, recurses := true, apart := false, narrowed := true }
def CorrAllUptoSaid : Prop := corrAllUptoRow.holds Try.pinned (OpenSpec.upto corrAllSpec)

/-- 'ablautlaw20.CorrCells', WHERE WHAT IT READS IS OF BULK AT MOST 1048576: true; the input reads as it did. -/
def corrCellsUptoRow : OpenClaim := { program := "ytkdancoffmhjhaa", sum := "4d9a5bee873109dc1c5578cd3f855b6bc17fd007bb034ab9d6a68618cf824538", func := "ablaut/ablautlaw20.CorrCells", spec := "corrCells", unfollowed := true, recurses := true, apart := false, narrowed := true }
def CorrCellsUptoSaid : Prop := corrCellsUptoRow.holds Try.pinned (OpenSpec.upto corrCellsSpec)

/-- 'ablautlaw20.CorrRows', WHERE WHAT IT READS IS OF BULK AT MOST 1048576: true; the input reads as it did. -/
def corrRowsUptoRow : OpenClaim := { program := "ytkdancoffmhjhaa", sum := "4d9a5bee873109dc1c5578cd3f855b6bc17fd007bb034ab9d6a68618cf824538", func := "ablaut/ablautlaw20.CorrRows", spec := "corrRows", unfollowed := true, recurses := true, apart := false, narrowed := true }
def CorrRowsUptoSaid : Prop := corrRowsUptoRow.holds Try.pinned (OpenSpec.upto corrRowsSpec)

end Rows
end Go.Proofs.Ytkdancoffmhjhaa
