/-
  No cell of these rows narrows 'for every input' (looked for: loops, veiled, ifaces, maps, wideKeys, modest, calm, conditions, laid).
  DERIVED. THE GIVEN ROWS OF THIS SEAT. 12 by the template 'for every input the law returns true; each argument reads behind the call as it read before'; 0 by the template 'total and deterministic' (their statements: YtphfnmmdfnfnaaaTotals.lean).
  GIVEN WITH THE SEED: the statements are not yours to turn. If you find one false, say at which input.
  Laid BY PROGRAM, IN A SANDBOX (cutbox-rows.mjs): the forced cells as the released guide's own fill.sh prints them over the translation af7039842d1969f9… (all of the seat's roots in one cut). By AI agents, Wed Nov 11 2026. No macro, syntax, notation, axiom, sorry.
-/
import Derived.Test.YtphfnmmdfnfnaaaChecked
import GoSem.Claim
import GoSem.ClaimJoined
import GoSem.ClaimMapViews
import Derived.JoinedTies
import Derived.KernelRfl
namespace Go.Proofs.Ytphfnmmdfnfnaaa
/- THE CELL 'sum', in the pinned program and in every row, IS THE sha256 OF THE DUMP (.gsa) THAT YtphfnmmdfnfnaaaProg.lean LOADS. Nothing in Lean hashes anything: it is a label: what it is worth is what the hold of that sum in a sandbox is worth. -/
noncomputable def Try.pinned : Pinned := { name := "ytphfnmmdfnfnaaa", sum := "af7039842d1969f98d6b16e7b06bc6357d68320402b04e9b253c4b1c91d7adda", checked := Try.checked }
namespace Rows
def none {H : Type} : Left H := { results := [], args := [] }

/-- 'ablautlaw02.WordParts': WHATEVER THE INPUT: true; the input reads as it did. -/
def wordPartsSpec : ChangeSpec := { name := "wordParts", fn := fun _ => fun
  | [d1, d2, d3] => { results := [.lit (.bool true)], args := [d1, d2, d3] }
  | _ => none }
def wordPartsRow : OpenClaim := { program := "ytphfnmmdfnfnaaa", sum := "af7039842d1969f98d6b16e7b06bc6357d68320402b04e9b253c4b1c91d7adda", func := "ablaut/ablautlaw02.WordParts", spec := "wordParts", unfollowed := true, recurses := true, apart := false }
def WordPartsSaid : Prop := wordPartsRow.holds Try.pinned (OpenSpec.ofChange wordPartsSpec)

/-- ITS FALSE NEIGHBOUR: 'it returns false'. Refute it at one input. -/
def wordPartsWrong : ChangeSpec := { name := "wordParts", fn := fun _ => fun
  | [d1, d2, d3] => { results := [.lit (.bool false)], args := [d1, d2, d3] }
  | _ => none }
def WordPartsWrongFalsely : Prop := wordPartsRow.holds Try.pinned (OpenSpec.ofChange wordPartsWrong)

/-- 'ablautlaw02.WordCompares': WHATEVER THE INPUT: true; the input reads as it did. -/
def wordComparesSpec : ChangeSpec := { name := "wordCompares", fn := fun _ => fun
  | [d1, d2] => { results := [.lit (.bool true)], args := [d1, d2] }
  | _ => none }
def wordComparesRow : OpenClaim := { program := "ytphfnmmdfnfnaaa", sum := "af7039842d1969f98d6b16e7b06bc6357d68320402b04e9b253c4b1c91d7adda", func := "ablaut/ablautlaw02.WordCompares", spec := "wordCompares", unfollowed := true, recurses := true, apart := false }
def WordComparesSaid : Prop := wordComparesRow.holds Try.pinned (OpenSpec.ofChange wordComparesSpec)

/-- ITS FALSE NEIGHBOUR: 'it returns false'. Refute it at one input. -/
def wordComparesWrong : ChangeSpec := { name := "wordCompares", fn := fun _ => fun
  | [d1, d2] => { results := [.lit (.bool false)], args := [d1, d2] }
  | _ => none }
def WordComparesWrongFalsely : Prop := wordComparesRow.holds Try.pinned (OpenSpec.ofChange wordComparesWrong)

/-- 'ablautlaw02.WordSorts': WHATEVER THE INPUT: true; the input reads as it did. -/
def wordSortsSpec : ChangeSpec := { name := "wordSorts", fn := fun _ => fun
  | [d] => { results := [.lit (.bool true)], args := [d] }
  | _ => none }
def wordSortsRow : OpenClaim := { program := "ytphfnmmdfnfnaaa", sum := "af7039842d1969f98d6b16e7b06bc6357d68320402b04e9b253c4b1c91d7adda", func := "ablaut/ablautlaw02.WordSorts", spec := "wordSorts", unfollowed := true, recurses := true, apart := false }
def WordSortsSaid : Prop := wordSortsRow.holds Try.pinned (OpenSpec.ofChange wordSortsSpec)

/-- ITS FALSE NEIGHBOUR: 'it returns false'. Refute it at one input. -/
def wordSortsWrong : ChangeSpec := { name := "wordSorts", fn := fun _ => fun
  | [d] => { results := [.lit (.bool false)], args := [d] }
  | _ => none }
def WordSortsWrongFalsely : Prop := wordSortsRow.holds Try.pinned (OpenSpec.ofChange wordSortsWrong)

/-- 'ablautlaw02.WordOrders': WHATEVER THE INPUT: true; the input reads as it did. -/
def wordOrdersSpec : ChangeSpec := { name := "wordOrders", fn := fun _ => fun
  | [d1, d2, d3] => { results := [.lit (.bool true)], args := [d1, d2, d3] }
  | _ => none }
def wordOrdersRow : OpenClaim := { program := "ytphfnmmdfnfnaaa", sum := "af7039842d1969f98d6b16e7b06bc6357d68320402b04e9b253c4b1c91d7adda", func := "ablaut/ablautlaw02.WordOrders", spec := "wordOrders", unfollowed := true, recurses := true, apart := false }
def WordOrdersSaid : Prop := wordOrdersRow.holds Try.pinned (OpenSpec.ofChange wordOrdersSpec)

/-- ITS FALSE NEIGHBOUR: 'it returns false'. Refute it at one input. -/
def wordOrdersWrong : ChangeSpec := { name := "wordOrders", fn := fun _ => fun
  | [d1, d2, d3] => { results := [.lit (.bool false)], args := [d1, d2, d3] }
  | _ => none }
def WordOrdersWrongFalsely : Prop := wordOrdersRow.holds Try.pinned (OpenSpec.ofChange wordOrdersWrong)

/-- 'ablautlaw02.WordFinds': WHATEVER THE INPUT: true; the input reads as it did. -/
def wordFindsSpec : ChangeSpec := { name := "wordFinds", fn := fun _ => fun
  | [d1, d2, d3, d4] => { results := [.lit (.bool true)], args := [d1, d2, d3, d4] }
  | _ => none }
def wordFindsRow : OpenClaim := { program := "ytphfnmmdfnfnaaa", sum := "af7039842d1969f98d6b16e7b06bc6357d68320402b04e9b253c4b1c91d7adda", func := "ablaut/ablautlaw02.WordFinds", spec := "wordFinds", unfollowed := true, recurses := true, apart := false }
def WordFindsSaid : Prop := wordFindsRow.holds Try.pinned (OpenSpec.ofChange wordFindsSpec)

/-- ITS FALSE NEIGHBOUR: 'it returns false'. Refute it at one input. -/
def wordFindsWrong : ChangeSpec := { name := "wordFinds", fn := fun _ => fun
  | [d1, d2, d3, d4] => { results := [.lit (.bool false)], args := [d1, d2, d3, d4] }
  | _ => none }
def WordFindsWrongFalsely : Prop := wordFindsRow.holds Try.pinned (OpenSpec.ofChange wordFindsWrong)

/-- 'ablautlaw02.WordInside': WHATEVER THE INPUT: true; the input reads as it did. -/
def wordInsideSpec : ChangeSpec := { name := "wordInside", fn := fun _ => fun
  | [d1, d2, d3] => { results := [.lit (.bool true)], args := [d1, d2, d3] }
  | _ => none }
def wordInsideRow : OpenClaim := { program := "ytphfnmmdfnfnaaa", sum := "af7039842d1969f98d6b16e7b06bc6357d68320402b04e9b253c4b1c91d7adda", func := "ablaut/ablautlaw02.WordInside", spec := "wordInside", unfollowed := true, recurses := true, apart := false }
def WordInsideSaid : Prop := wordInsideRow.holds Try.pinned (OpenSpec.ofChange wordInsideSpec)

/-- ITS FALSE NEIGHBOUR: 'it returns false'. Refute it at one input. -/
def wordInsideWrong : ChangeSpec := { name := "wordInside", fn := fun _ => fun
  | [d1, d2, d3] => { results := [.lit (.bool false)], args := [d1, d2, d3] }
  | _ => none }
def WordInsideWrongFalsely : Prop := wordInsideRow.holds Try.pinned (OpenSpec.ofChange wordInsideWrong)

/-- 'ablautlaw02.WordSorted': WHATEVER THE INPUT: true; the input reads as it did. -/
def wordSortedSpec : ChangeSpec := { name := "wordSorted", fn := fun _ => fun
  | [d1, d2] => { results := [.lit (.bool true)], args := [d1, d2] }
  | _ => none }
def wordSortedRow : OpenClaim := { program := "ytphfnmmdfnfnaaa", sum := "af7039842d1969f98d6b16e7b06bc6357d68320402b04e9b253c4b1c91d7adda", func := "ablaut/ablautlaw02.WordSorted", spec := "wordSorted", unfollowed := true, recurses := true, apart := false }
def WordSortedSaid : Prop := wordSortedRow.holds Try.pinned (OpenSpec.ofChange wordSortedSpec)

/-- ITS FALSE NEIGHBOUR: 'it returns false'. Refute it at one input. -/
def wordSortedWrong : ChangeSpec := { name := "wordSorted", fn := fun _ => fun
  | [d1, d2] => { results := [.lit (.bool false)], args := [d1, d2] }
  | _ => none }
def WordSortedWrongFalsely : Prop := wordSortedRow.holds Try.pinned (OpenSpec.ofChange wordSortedWrong)

/-- 'ablautlaw02.WordCuts': WHATEVER THE INPUT: true; the input reads as it did. -/
def wordCutsSpec : ChangeSpec := { name := "wordCuts", fn := fun _ => fun
  | [d1, d2, d3, d4] => { results := [.lit (.bool true)], args := [d1, d2, d3, d4] }
  | _ => none }
def wordCutsRow : OpenClaim := { program := "ytphfnmmdfnfnaaa", sum := "af7039842d1969f98d6b16e7b06bc6357d68320402b04e9b253c4b1c91d7adda", func := "ablaut/ablautlaw02.WordCuts", spec := "wordCuts", unfollowed := true, recurses := true, apart := false }
def WordCutsSaid : Prop := wordCutsRow.holds Try.pinned (OpenSpec.ofChange wordCutsSpec)

/-- ITS FALSE NEIGHBOUR: 'it returns false'. Refute it at one input. -/
def wordCutsWrong : ChangeSpec := { name := "wordCuts", fn := fun _ => fun
  | [d1, d2, d3, d4] => { results := [.lit (.bool false)], args := [d1, d2, d3, d4] }
  | _ => none }
def WordCutsWrongFalsely : Prop := wordCutsRow.holds Try.pinned (OpenSpec.ofChange wordCutsWrong)

/-- 'ablautlaw02.WordBack': WHATEVER THE INPUT: true; the input reads as it did. -/
def wordBackSpec : ChangeSpec := { name := "wordBack", fn := fun _ => fun
  | [d1, d2, d3] => { results := [.lit (.bool true)], args := [d1, d2, d3] }
  | _ => none }
def wordBackRow : OpenClaim := { program := "ytphfnmmdfnfnaaa", sum := "af7039842d1969f98d6b16e7b06bc6357d68320402b04e9b253c4b1c91d7adda", func := "ablaut/ablautlaw02.WordBack", spec := "wordBack", unfollowed := true, recurses := true, apart := false }
def WordBackSaid : Prop := wordBackRow.holds Try.pinned (OpenSpec.ofChange wordBackSpec)

/-- ITS FALSE NEIGHBOUR: 'it returns false'. Refute it at one input. -/
def wordBackWrong : ChangeSpec := { name := "wordBack", fn := fun _ => fun
  | [d1, d2, d3] => { results := [.lit (.bool false)], args := [d1, d2, d3] }
  | _ => none }
def WordBackWrongFalsely : Prop := wordBackRow.holds Try.pinned (OpenSpec.ofChange wordBackWrong)

/-- 'ablautlaw02.WordRuns': WHATEVER THE INPUT: true; the input reads as it did. -/
def wordRunsSpec : ChangeSpec := { name := "wordRuns", fn := fun _ => fun
  | [d] => { results := [.lit (.bool true)], args := [d] }
  | _ => none }
def wordRunsRow : OpenClaim := { program := "ytphfnmmdfnfnaaa", sum := "af7039842d1969f98d6b16e7b06bc6357d68320402b04e9b253c4b1c91d7adda", func := "ablaut/ablautlaw02.WordRuns", spec := "wordRuns", unfollowed := true, recurses := true, apart := false }
def WordRunsSaid : Prop := wordRunsRow.holds Try.pinned (OpenSpec.ofChange wordRunsSpec)

/-- ITS FALSE NEIGHBOUR: 'it returns false'. Refute it at one input. -/
def wordRunsWrong : ChangeSpec := { name := "wordRuns", fn := fun _ => fun
  | [d] => { results := [.lit (.bool false)], args := [d] }
  | _ => none }
def WordRunsWrongFalsely : Prop := wordRunsRow.holds Try.pinned (OpenSpec.ofChange wordRunsWrong)

/-- 'ablautlaw02.WordCounts': WHATEVER THE INPUT: true; the input reads as it did. -/
def wordCountsSpec : ChangeSpec := { name := "wordCounts", fn := fun _ => fun
  | [d1, d2] => { results := [.lit (.bool true)], args := [d1, d2] }
  | _ => none }
def wordCountsRow : OpenClaim := { program := "ytphfnmmdfnfnaaa", sum := "af7039842d1969f98d6b16e7b06bc6357d68320402b04e9b253c4b1c91d7adda", func := "ablaut/ablautlaw02.WordCounts", spec := "wordCounts", unfollowed := true, recurses := true, apart := false }
def WordCountsSaid : Prop := wordCountsRow.holds Try.pinned (OpenSpec.ofChange wordCountsSpec)

/-- ITS FALSE NEIGHBOUR: 'it returns false'. Refute it at one input. -/
def wordCountsWrong : ChangeSpec := { name := "wordCounts", fn := fun _ => fun
  | [d1, d2] => { results := [.lit (.bool false)], args := [d1, d2] }
  | _ => none }
def WordCountsWrongFalsely : Prop := wordCountsRow.holds Try.pinned (OpenSpec.ofChange wordCountsWrong)

/-- 'ablautlaw02.WordEnds': WHATEVER THE INPUT: true; the input reads as it did. -/
def wordEndsSpec : ChangeSpec := { name := "wordEnds", fn := fun _ => fun
  | [] => { results := [.lit (.bool true)], args := [] }
  | _ => none }
def wordEndsRow : OpenClaim := { program := "ytphfnmmdfnfnaaa", sum := "af7039842d1969f98d6b16e7b06bc6357d68320402b04e9b253c4b1c91d7adda", func := "ablaut/ablautlaw02.WordEnds", spec := "wordEnds", unfollowed := true, recurses := true, apart := false }
def WordEndsSaid : Prop := wordEndsRow.holds Try.pinned (OpenSpec.ofChange wordEndsSpec)

/-- ITS FALSE NEIGHBOUR: 'it returns false'. Refute it at one input. -/
def wordEndsWrong : ChangeSpec := { name := "wordEnds", fn := fun _ => fun
  | [] => { results := [.lit (.bool false)], args := [] }
  | _ => none }
def WordEndsWrongFalsely : Prop := wordEndsRow.holds Try.pinned (OpenSpec.ofChange wordEndsWrong)

/- THE SECOND FORM. 'bulk': how many values and letters a reading holds, each counted each time it is reached (what is shared counts as often as it is met; a slice's spare places count too). A statement '..UptoSaid' is the law's where the arguments, and the package variables that the reading takes, are together of bulk at most 1048576: NARROWER than '..Said'. Prove '..Said' where nothing that the law and all that it calls make is longer than what came in: it says more and counts as full. Else prove '..UptoSaid'. A law counts once. -/
mutual
def uptoBulk {H : Type} : DataW H → Nat
  | .lit (.string bytes) => bytes.length + 1
  | .lit _ => 1
  | .nil => 1
  | .ptr d => uptoBulk d + 1
  | .slice elems spare => uptoBulkAll elems + uptoBulkAll spare + 1
  | .agg parts => uptoBulkAll parts + 1
  | .iface _ d => uptoBulk d + 1
  | .map entries => uptoBulkEntries entries + 1
  | .held _ => 1
def uptoBulkAll {H : Type} : List (DataW H) → Nat
  | [] => 0
  | d :: r => uptoBulk d + uptoBulkAll r
def uptoBulkEntries {H : Type} : List (Lit × DataW H) → Nat
  | [] => 0
  | x :: r => uptoBulkEntry x + uptoBulkEntries r
def uptoBulkEntry {H : Type} : Lit × DataW H → Nat
  | (.string bytes, d) => bytes.length + uptoBulk d + 1
  | (_, d) => uptoBulk d + 1
 end
def uptoSmall : (H : Type) → List (DataW H) → Bool := fun _ ds => decide (uptoBulkAll ds ≤ 1048576)
def OpenSpec.upto (s : _root_.Go.ChangeSpec) : _root_.Go.OpenSpec := { _root_.Go.OpenSpec.ofChange s with cond := some uptoSmall }

/-- 'ablautlaw02.WordParts', WHERE WHAT IT READS IS OF BULK AT MOST 1048576: true; the input reads as it did. -/
def wordPartsUptoRow : OpenClaim := { program := "ytphfnmmdfnfnaaa", sum := "af7039842d1969f98d6b16e7b06bc6357d68320402b04e9b253c4b1c91d7adda", func := "ablaut/ablautlaw02.WordParts", spec := "wordParts", unfollowed := true, recurses := true, apart := false, narrowed := true }
def WordPartsUptoSaid : Prop := wordPartsUptoRow.holds Try.pinned (OpenSpec.upto wordPartsSpec)

/-- 'ablautlaw02.WordCompares', WHERE WHAT IT READS IS OF BULK AT MOST 1048576: true; the input reads as it did. -/
def wordComparesUptoRow : OpenClaim := { program := "ytphfnmmdfnfnaaa", sum := "af7039842d1969f98d6b16e7b06bc6357d68320402b04e9b253c4b1c91d7adda", func := "ablaut/ablautlaw02.WordCompares", spec := "wordCompares", unfollowed := true, recurses := true, apart := false, narrowed := true }
def WordComparesUptoSaid : Prop := wordComparesUptoRow.holds Try.pinned (OpenSpec.upto wordComparesSpec)

/-- 'ablautlaw02.WordSorts', WHERE WHAT IT READS IS OF BULK AT MOST 1048576: true; the input reads as it did. -/
def wordSortsUptoRow : OpenClaim := { program := "ytphfnmmdfnfnaaa", sum := "af7039842d1969f98d6b16e7b06bc6357d68320402b04e9b253c4b1c91d7adda", func := "ablaut/ablautlaw02.WordSorts", spec := "wordSorts", unfollowed := true, recurses := true, apart := false, narrowed := true }
def WordSortsUptoSaid : Prop := wordSortsUptoRow.holds Try.pinned (OpenSpec.upto wordSortsSpec)

/-- 'ablautlaw02.WordOrders', WHERE WHAT IT READS IS OF BULK AT MOST 1048576: true; the input reads as it did. -/
def wordOrdersUptoRow : OpenClaim := { program := "ytphfnmmdfnfnaaa", sum := "af7039842d1969f98d6b16e7b06bc6357d68320402b04e9b253c4b1c91d7adda", func := "ablaut/ablautlaw02.WordOrders", spec := "wordOrders", unfollowed := true, recurses := true, apart := false, narrowed := true }
def WordOrdersUptoSaid : Prop := wordOrdersUptoRow.holds Try.pinned (OpenSpec.upto wordOrdersSpec)

/-- 'ablautlaw02.WordFinds', WHERE WHAT IT READS IS OF BULK AT MOST 1048576: true; the input reads as it did. -/
def wordFindsUptoRow : OpenClaim := { program := "ytphfnmmdfnfnaaa", sum := "af7039842d1969f98d6b16e7b06bc6357d68320402b04e9b253c4b1c91d7adda", func := "ablaut/ablautlaw02.WordFinds", spec := "wordFinds", unfollowed := true, recurses := true, apart := false, narrowed := true }
def WordFindsUptoSaid : Prop := wordFindsUptoRow.holds Try.pinned (OpenSpec.upto wordFindsSpec)

/-- 'ablautlaw02.WordInside', WHERE WHAT IT READS IS OF BULK AT MOST 1048576: true; the input reads as it did. -/
def wordInsideUptoRow : OpenClaim := { program := "ytphfnmmdfnfnaaa", sum := "af7039842d1969f98d6b16e7b06bc6357d68320402b04e9b253c4b1c91d7adda", func := "ablaut/ablautlaw02.WordInside", spec := "wordInside", unfollowed := true, recurses := true, apart := false, narrowed := true }
def WordInsideUptoSaid : Prop := wordInsideUptoRow.holds Try.pinned (OpenSpec.upto wordInsideSpec)

/-- 'ablautlaw02.WordSorted', WHERE WHAT IT READS IS OF BULK AT MOST 1048576: true; the input reads as it did. -/
def wordSortedUptoRow : OpenClaim := { program := "ytphfnmmdfnfnaaa", sum := "af7039842d1969f98d6b16e7b06bc6357d68320402b04e9b253c4b1c91d7adda", func := "ablaut/ablautlaw02.WordSorted", spec := "wordSorted", unfollowed := true, recurses := true, apart := false, narrowed := true }
def WordSortedUptoSaid : Prop := wordSortedUptoRow.holds Try.pinned (OpenSpec.upto wordSortedSpec)

/-- 'ablautlaw02.WordCuts', WHERE WHAT IT READS IS OF BULK AT MOST 1048576: true; the input reads as it did. -/
def wordCutsUptoRow : OpenClaim := { program := "ytphfnmmdfnfnaaa", sum := "af7039842d1969f98d6b16e7b06bc6357d68320402b04e9b253c4b1c91d7adda", func := "ablaut/ablautlaw02.WordCuts", spec := "wordCuts", unfollowed := true, recurses := true, apart := false, narrowed := true }
def WordCutsUptoSaid : Prop := wordCutsUptoRow.holds Try.pinned (OpenSpec.upto wordCutsSpec)

/-- 'ablautlaw02.WordBack', WHERE WHAT IT READS IS OF BULK AT MOST 1048576: true; the input reads as it did. -/
def wordBackUptoRow : OpenClaim := { program := "ytphfnmmdfnfnaaa", sum := "af7039842d1969f98d6b16e7b06bc6357d68320402b04e9b253c4b1c91d7adda", func := "ablaut/ablautlaw02.WordBack", spec := "wordBack", unfollowed := true, recurses := true, apart := false, narrowed := true }
def WordBackUptoSaid : Prop := wordBackUptoRow.holds Try.pinned (OpenSpec.upto wordBackSpec)

/-- 'ablautlaw02.WordRuns', WHERE WHAT IT READS IS OF BULK AT MOST 1048576: true; the input reads as it did. -/
def wordRunsUptoRow : OpenClaim := { program := "ytphfnmmdfnfnaaa", sum := "af7039842d1969f98d6b16e7b06bc6357d68320402b04e9b253c4b1c91d7adda", func := "ablaut/ablautlaw02.WordRuns", spec := "wordRuns", unfollowed := true, recurses := true, apart := false, narrowed := true }
def WordRunsUptoSaid : Prop := wordRunsUptoRow.holds Try.pinned (OpenSpec.upto wordRunsSpec)

/-- 'ablautlaw02.WordCounts', WHERE WHAT IT READS IS OF BULK AT MOST 1048576: true; the input reads as it did. -/
def wordCountsUptoRow : OpenClaim := { program := "ytphfnmmdfnfnaaa", sum := "af7039842d1969f98d6b16e7b06bc6357d68320402b04e9b253c4b1c91d7adda", func := "ablaut/ablautlaw02.WordCounts", spec := "wordCounts", unfollowed := true, recurses := true, apart := false, narrowed := true }
def WordCountsUptoSaid : Prop := wordCountsUptoRow.holds Try.pinned (OpenSpec.upto wordCountsSpec)

/-- 'ablautlaw02.WordEnds', WHERE WHAT IT READS IS OF BULK AT MOST 1048576: true; the input reads as it did. -/
def wordEndsUptoRow : OpenClaim := { program := "ytphfnmmdfnfnaaa", sum := "af7039842d1969f98d6b16e7b06bc6357d68320402b04e9b253c4b1c91d7adda", func := "ablaut/ablautlaw02.WordEnds", spec := "wordEnds", unfollowed := true, recurses := true, apart := false, narrowed := true }
def WordEndsUptoSaid : Prop := wordEndsUptoRow.holds Try.pinned (OpenSpec.upto wordEndsSpec)

end Rows
end Go.Proofs.Ytphfnmmdfnfnaaa
