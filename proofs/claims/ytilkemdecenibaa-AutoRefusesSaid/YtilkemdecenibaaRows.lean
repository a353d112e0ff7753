/-
  NARROWER THAN 'FOR EVERY INPUT', by the rows' own cells (each row's printed sentence says how): AutoBuilds: loops · AutoCounts: loops · AutoLists: loops · AutoLeast: loops · AutoShort: loops · AutoTwo: loops · AutoMatches: loops · AutoNumbers: loops.
  DERIVED. THE GIVEN ROWS OF THIS SEAT. 12 by the template 'for every input the law returns true; each argument reads behind the call as it read before'; 0 by the template 'total and deterministic' (their statements: YtilkemdecenibaaTotals.lean).
  GIVEN WITH THE SEED: the statements are not yours to turn. If you find one false, say at which input.
  Laid BY PROGRAM, IN A SANDBOX (cutbox-rows.mjs): the forced cells as the released guide's own fill.sh prints them over the translation c89442e80b49e05c… (all of the seat's roots in one cut). By AI agents, Wed Nov 11 2026. No macro, syntax, notation, axiom, sorry.
-/
import Derived.Test.YtilkemdecenibaaChecked
import GoSem.Claim
import GoSem.ClaimJoined
import GoSem.ClaimMapViews
import Derived.JoinedTies
import Derived.KernelRfl
namespace Go.Proofs.Ytilkemdecenibaa
/- THE CELL 'sum', in the pinned program and in every row, IS THE sha256 OF THE DUMP (.gsa) THAT YtilkemdecenibaaProg.lean LOADS. Nothing in Lean hashes anything: it is a label: what it is worth is what the hold of that sum in a sandbox is worth. -/
noncomputable def Try.pinned : Pinned := { name := "ytilkemdecenibaa", sum := "c89442e80b49e05c3e70da5bdebc0ce3db409b67f6c2f9b2d46a5f1dc125967a", checked := Try.checked }
namespace Rows
def none {H : Type} : Left H := { results := [], args := [] }

/-- 'ablautlaw07.AutoBuilds': WHATEVER THE INPUT: true; the input reads as it did. -/
def autoBuildsSpec : ChangeSpec := { name := "autoBuilds", fn := fun _ => fun
  | [d1, d2, d3] => { results := [.lit (.bool true)], args := [d1, d2, d3] }
  | _ => none }
def autoBuildsRow : OpenClaim := { program := "ytilkemdecenibaa", sum := "c89442e80b49e05c3e70da5bdebc0ce3db409b67f6c2f9b2d46a5f1dc125967a", func := "ablaut/ablautlaw07.AutoBuilds", spec := "autoBuilds", unfollowed := true, recurses := true, loops := true, plainKeys := false, apart := false }
def AutoBuildsSaid : Prop := autoBuildsRow.holds Try.pinned (OpenSpec.ofChange autoBuildsSpec)

/-- ITS FALSE NEIGHBOUR: 'it returns false'. Refute it at one input. -/
def autoBuildsWrong : ChangeSpec := { name := "autoBuilds", fn := fun _ => fun
  | [d1, d2, d3] => { results := [.lit (.bool false)], args := [d1, d2, d3] }
  | _ => none }
def AutoBuildsWrongFalsely : Prop := autoBuildsRow.holds Try.pinned (OpenSpec.ofChange autoBuildsWrong)

/-- 'ablautlaw07.AutoCounts': WHATEVER THE INPUT: true; the input reads as it did. -/
def autoCountsSpec : ChangeSpec := { name := "autoCounts", fn := fun _ => fun
  | [d1, d2, d3] => { results := [.lit (.bool true)], args := [d1, d2, d3] }
  | _ => none }
def autoCountsRow : OpenClaim := { program := "ytilkemdecenibaa", sum := "c89442e80b49e05c3e70da5bdebc0ce3db409b67f6c2f9b2d46a5f1dc125967a", func := "ablaut/ablautlaw07.AutoCounts", spec := "autoCounts", unfollowed := true, recurses := true, loops := true, plainKeys := false, apart := false }
def AutoCountsSaid : Prop := autoCountsRow.holds Try.pinned (OpenSpec.ofChange autoCountsSpec)

/-- ITS FALSE NEIGHBOUR: 'it returns false'. Refute it at one input. -/
def autoCountsWrong : ChangeSpec := { name := "autoCounts", fn := fun _ => fun
  | [d1, d2, d3] => { results := [.lit (.bool false)], args := [d1, d2, d3] }
  | _ => none }
def AutoCountsWrongFalsely : Prop := autoCountsRow.holds Try.pinned (OpenSpec.ofChange autoCountsWrong)

/-- 'ablautlaw07.AutoLists': WHATEVER THE INPUT: true; the input reads as it did. -/
def autoListsSpec : ChangeSpec := { name := "autoLists", fn := fun _ => fun
  | [d1, d2, d3] => { results := [.lit (.bool true)], args := [d1, d2, d3] }
  | _ => none }
def autoListsRow : OpenClaim := { program := "ytilkemdecenibaa", sum := "c89442e80b49e05c3e70da5bdebc0ce3db409b67f6c2f9b2d46a5f1dc125967a", func := "ablaut/ablautlaw07.AutoLists", spec := "autoLists", unfollowed := true, recurses := true, loops := true, plainKeys := false, apart := false }
def AutoListsSaid : Prop := autoListsRow.holds Try.pinned (OpenSpec.ofChange autoListsSpec)

/-- ITS FALSE NEIGHBOUR: 'it returns false'. Refute it at one input. -/
def autoListsWrong : ChangeSpec := { name := "autoLists", fn := fun _ => fun
  | [d1, d2, d3] => { results := [.lit (.bool false)], args := [d1, d2, d3] }
  | _ => none }
def AutoListsWrongFalsely : Prop := autoListsRow.holds Try.pinned (OpenSpec.ofChange autoListsWrong)

/-- 'ablautlaw07.AutoRefuses': WHATEVER THE INPUT: true; the input reads as it did. -/
def autoRefusesSpec : ChangeSpec := { name := "autoRefuses", fn := fun _ => fun
  | [d] => { results := [.lit (.bool true)], args := [d] }
  | _ => none }
def autoRefusesRow : OpenClaim := { program := "ytilkemdecenibaa", sum := "c89442e80b49e05c3e70da5bdebc0ce3db409b67f6c2f9b2d46a5f1dc125967a", func := "ablaut/ablautlaw07.AutoRefuses", spec := "autoRefuses", unfollowed := true, recurses := true, plainKeys := false, apart := false }
def AutoRefusesSaid : Prop := autoRefusesRow.holds Try.pinned (OpenSpec.ofChange autoRefusesSpec)

/-- ITS FALSE NEIGHBOUR: 'it returns false'. Refute it at one input. -/
def autoRefusesWrong : ChangeSpec := { name := "autoRefuses", fn := fun _ => fun
  | [d] => { results := [.lit (.bool false)], args := [d] }
  | _ => none }
def AutoRefusesWrongFalsely : Prop := autoRefusesRow.holds Try.pinned (OpenSpec.ofChange autoRefusesWrong)

/-- 'ablautlaw07.AutoOver': WHATEVER THE INPUT: true; the input reads as it did. -/
def autoOverSpec : ChangeSpec := { name := "autoOver", fn := fun _ => fun
  | [d1, d2] => { results := [.lit (.bool true)], args := [d1, d2] }
  | _ => none }
def autoOverRow : OpenClaim := { program := "ytilkemdecenibaa", sum := "c89442e80b49e05c3e70da5bdebc0ce3db409b67f6c2f9b2d46a5f1dc125967a", func := "ablaut/ablautlaw07.AutoOver", spec := "autoOver", unfollowed := true, recurses := true, plainKeys := false, apart := false }
def AutoOverSaid : Prop := autoOverRow.holds Try.pinned (OpenSpec.ofChange autoOverSpec)

/-- ITS FALSE NEIGHBOUR: 'it returns false'. Refute it at one input. -/
def autoOverWrong : ChangeSpec := { name := "autoOver", fn := fun _ => fun
  | [d1, d2] => { results := [.lit (.bool false)], args := [d1, d2] }
  | _ => none }
def AutoOverWrongFalsely : Prop := autoOverRow.holds Try.pinned (OpenSpec.ofChange autoOverWrong)

/-- 'ablautlaw07.AutoNil': WHATEVER THE INPUT: true; the input reads as it did. -/
def autoNilSpec : ChangeSpec := { name := "autoNil", fn := fun _ => fun
  | [d1, d2] => { results := [.lit (.bool true)], args := [d1, d2] }
  | _ => none }
def autoNilRow : OpenClaim := { program := "ytilkemdecenibaa", sum := "c89442e80b49e05c3e70da5bdebc0ce3db409b67f6c2f9b2d46a5f1dc125967a", func := "ablaut/ablautlaw07.AutoNil", spec := "autoNil", unfollowed := true, recurses := true, plainKeys := false, apart := false }
def AutoNilSaid : Prop := autoNilRow.holds Try.pinned (OpenSpec.ofChange autoNilSpec)

/-- ITS FALSE NEIGHBOUR: 'it returns false'. Refute it at one input. -/
def autoNilWrong : ChangeSpec := { name := "autoNil", fn := fun _ => fun
  | [d1, d2] => { results := [.lit (.bool false)], args := [d1, d2] }
  | _ => none }
def AutoNilWrongFalsely : Prop := autoNilRow.holds Try.pinned (OpenSpec.ofChange autoNilWrong)

/-- 'ablautlaw07.AutoLeast': WHATEVER THE INPUT: true; the input reads as it did. -/
def autoLeastSpec : ChangeSpec := { name := "autoLeast", fn := fun _ => fun
  | [d1, d2] => { results := [.lit (.bool true)], args := [d1, d2] }
  | _ => none }
def autoLeastRow : OpenClaim := { program := "ytilkemdecenibaa", sum := "c89442e80b49e05c3e70da5bdebc0ce3db409b67f6c2f9b2d46a5f1dc125967a", func := "ablaut/ablautlaw07.AutoLeast", spec := "autoLeast", unfollowed := true, recurses := true, loops := true, plainKeys := false, apart := false }
def AutoLeastSaid : Prop := autoLeastRow.holds Try.pinned (OpenSpec.ofChange autoLeastSpec)

/-- ITS FALSE NEIGHBOUR: 'it returns false'. Refute it at one input. -/
def autoLeastWrong : ChangeSpec := { name := "autoLeast", fn := fun _ => fun
  | [d1, d2] => { results := [.lit (.bool false)], args := [d1, d2] }
  | _ => none }
def AutoLeastWrongFalsely : Prop := autoLeastRow.holds Try.pinned (OpenSpec.ofChange autoLeastWrong)

/-- 'ablautlaw07.AutoShort': WHATEVER THE INPUT: true; the input reads as it did. -/
def autoShortSpec : ChangeSpec := { name := "autoShort", fn := fun _ => fun
  | [d1, d2, d3] => { results := [.lit (.bool true)], args := [d1, d2, d3] }
  | _ => none }
def autoShortRow : OpenClaim := { program := "ytilkemdecenibaa", sum := "c89442e80b49e05c3e70da5bdebc0ce3db409b67f6c2f9b2d46a5f1dc125967a", func := "ablaut/ablautlaw07.AutoShort", spec := "autoShort", unfollowed := true, recurses := true, loops := true, plainKeys := false, apart := false }
def AutoShortSaid : Prop := autoShortRow.holds Try.pinned (OpenSpec.ofChange autoShortSpec)

/-- ITS FALSE NEIGHBOUR: 'it returns false'. Refute it at one input. -/
def autoShortWrong : ChangeSpec := { name := "autoShort", fn := fun _ => fun
  | [d1, d2, d3] => { results := [.lit (.bool false)], args := [d1, d2, d3] }
  | _ => none }
def AutoShortWrongFalsely : Prop := autoShortRow.holds Try.pinned (OpenSpec.ofChange autoShortWrong)

/-- 'ablautlaw07.AutoTwo': WHATEVER THE INPUT: true; the input reads as it did. -/
def autoTwoSpec : ChangeSpec := { name := "autoTwo", fn := fun _ => fun
  | [d1, d2, d3, d4] => { results := [.lit (.bool true)], args := [d1, d2, d3, d4] }
  | _ => none }
def autoTwoRow : OpenClaim := { program := "ytilkemdecenibaa", sum := "c89442e80b49e05c3e70da5bdebc0ce3db409b67f6c2f9b2d46a5f1dc125967a", func := "ablaut/ablautlaw07.AutoTwo", spec := "autoTwo", unfollowed := true, recurses := true, loops := true, plainKeys := false, apart := false }
def AutoTwoSaid : Prop := autoTwoRow.holds Try.pinned (OpenSpec.ofChange autoTwoSpec)

/-- ITS FALSE NEIGHBOUR: 'it returns false'. Refute it at one input. -/
def autoTwoWrong : ChangeSpec := { name := "autoTwo", fn := fun _ => fun
  | [d1, d2, d3, d4] => { results := [.lit (.bool false)], args := [d1, d2, d3, d4] }
  | _ => none }
def AutoTwoWrongFalsely : Prop := autoTwoRow.holds Try.pinned (OpenSpec.ofChange autoTwoWrong)

/-- 'ablautlaw07.AutoGreat': WHATEVER THE INPUT: true; the input reads as it did. -/
def autoGreatSpec : ChangeSpec := { name := "autoGreat", fn := fun _ => fun
  | [d1, d2] => { results := [.lit (.bool true)], args := [d1, d2] }
  | _ => none }
def autoGreatRow : OpenClaim := { program := "ytilkemdecenibaa", sum := "c89442e80b49e05c3e70da5bdebc0ce3db409b67f6c2f9b2d46a5f1dc125967a", func := "ablaut/ablautlaw07.AutoGreat", spec := "autoGreat", unfollowed := true, recurses := true, plainKeys := false, apart := false }
def AutoGreatSaid : Prop := autoGreatRow.holds Try.pinned (OpenSpec.ofChange autoGreatSpec)

/-- ITS FALSE NEIGHBOUR: 'it returns false'. Refute it at one input. -/
def autoGreatWrong : ChangeSpec := { name := "autoGreat", fn := fun _ => fun
  | [d1, d2] => { results := [.lit (.bool false)], args := [d1, d2] }
  | _ => none }
def AutoGreatWrongFalsely : Prop := autoGreatRow.holds Try.pinned (OpenSpec.ofChange autoGreatWrong)

/-- 'ablautlaw07.AutoMatches': WHATEVER THE INPUT: true; the input reads as it did. -/
def autoMatchesSpec : ChangeSpec := { name := "autoMatches", fn := fun _ => fun
  | [d1, d2, d3, d4] => { results := [.lit (.bool true)], args := [d1, d2, d3, d4] }
  | _ => none }
def autoMatchesRow : OpenClaim := { program := "ytilkemdecenibaa", sum := "c89442e80b49e05c3e70da5bdebc0ce3db409b67f6c2f9b2d46a5f1dc125967a", func := "ablaut/ablautlaw07.AutoMatches", spec := "autoMatches", unfollowed := true, recurses := true, loops := true, plainKeys := false, apart := false }
def AutoMatchesSaid : Prop := autoMatchesRow.holds Try.pinned (OpenSpec.ofChange autoMatchesSpec)

/-- ITS FALSE NEIGHBOUR: 'it returns false'. Refute it at one input. -/
def autoMatchesWrong : ChangeSpec := { name := "autoMatches", fn := fun _ => fun
  | [d1, d2, d3, d4] => { results := [.lit (.bool false)], args := [d1, d2, d3, d4] }
  | _ => none }
def AutoMatchesWrongFalsely : Prop := autoMatchesRow.holds Try.pinned (OpenSpec.ofChange autoMatchesWrong)

/-- 'ablautlaw07.AutoNumbers': WHATEVER THE INPUT: true; the input reads as it did. -/
def autoNumbersSpec : ChangeSpec := { name := "autoNumbers", fn := fun _ => fun
  | [d1, d2, d3] => { results := [.lit (.bool true)], args := [d1, d2, d3] }
  | _ => none }
def autoNumbersRow : OpenClaim := { program := "ytilkemdecenibaa", sum := "c89442e80b49e05c3e70da5bdebc0ce3db409b67f6c2f9b2d46a5f1dc125967a", func := "ablaut/ablautlaw07.AutoNumbers", spec := "autoNumbers", unfollowed := true, recurses := true, loops := true, plainKeys := false, apart := false }
def AutoNumbersSaid : Prop := autoNumbersRow.holds Try.pinned (OpenSpec.ofChange autoNumbersSpec)

/-- ITS FALSE NEIGHBOUR: 'it returns false'. Refute it at one input. -/
def autoNumbersWrong : ChangeSpec := { name := "autoNumbers", fn := fun _ => fun
  | [d1, d2, d3] => { results := [.lit (.bool false)], args := [d1, d2, d3] }
  | _ => none }
def AutoNumbersWrongFalsely : Prop := autoNumbersRow.holds Try.pinned (OpenSpec.ofChange autoNumbersWrong)

/- THE SECOND FORM. 'bulk': how many values and letters a reading holds, each counted each time it is reached (what is shared counts as often as it is met; a slice's spare places count too). A statement '..UptoSaid' is the law's where the arguments, and the package variables that the reading takes, are together of bulk at most 1048576: NARROWER than '..Said'. Prove '..Said' where nothing that the law and all that it calls make is longer than what came in: it says more and counts as full. Else prove '..UptoSaid'. A law counts once. -/
mutual
def uptoBulk {H : Type} : DataW H → Nat
  | .lit (.string bytes) => bytes.length + 1
  | .lit _ => 1
  | .nil => 1
  | .ptr d => uptoBulk d + 1
  | .slice elems spare => uptoBulkAll elems + uptoBulkAll spare + 1
  | .agg parts => uptoBulkAll parts + 1
  | .iface _ d => uptoBulk d + 1
  | .map entries => uptoBulkEntries entries + 1
  | .held _ => 1
def uptoBulkAll {H : Type} : List (DataW H) → Nat
  | [] => 0
  | d :: r => uptoBulk d + uptoBulkAll r
def uptoBulkEntries {H : Type} : List (Lit × DataW H) → Nat
  | [] => 0
  | x :: r => uptoBulkEntry x + uptoBulkEntries r
def uptoBulkEntry {H : Type} : Lit × DataW H → Nat
  | (.string bytes, d) => bytes.length + uptoBulk d + 1
  | (_, d) => uptoBulk d + 1
 end
def uptoSmall : (H : Type) → List (DataW H) → Bool := fun _ ds => decide (uptoBulkAll ds ≤ 1048576)
def OpenSpec.upto (s : _root_.Go.ChangeSpec) : _root_.Go.OpenSpec := { _root_.Go.OpenSpec.ofChange s with cond := some uptoSmall }

/-- 'ablautlaw07.AutoBuilds', WHERE WHAT IT READS IS OF BULK AT MOST 1048576: true; the input reads as it did. -/
def autoBuildsUptoRow : OpenClaim := { program := "ytilkemdecenibaa", sum := "c89442e80b49e05c3e70da5bdebc0ce3db409b67f6c2f9b2d46a5f1dc125967a", func := "ablaut/ablautlaw07.AutoBuilds", spec := "autoBuilds", unfollowed := true, recurses := true, loops := true, plainKeys := false, apart := false, narrowed := true }
def AutoBuildsUptoSaid : Prop := autoBuildsUptoRow.holds Try.pinned (OpenSpec.upto autoBuildsSpec)

/-- 'ablautlaw07.AutoCounts', WHERE WHAT IT READS IS OF BULK AT MOST 1048576: true; the input reads as it did. -/
def autoCountsUptoRow : OpenClaim := { program := "ytilkemdecenibaa", sum := "c89442e80b49e05c3e70da5bdebc0ce3db409b67f6c2f9b2d46a5f1dc125967a", func := "ablaut/ablautlaw07.AutoCounts", spec := "autoCounts", unfollowed := true, recurses := true, loops := true, plainKeys := false, apart := false, narrowed := true }
def AutoCountsUptoSaid : Prop := autoCountsUptoRow.holds Try.pinned (OpenSpec.upto autoCountsSpec)

/-- 'ablautlaw07.AutoLists', WHERE WHAT IT READS IS OF BULK AT MOST 1048576: true; the input reads as it did. -/
def autoListsUptoRow : OpenClaim := { program := "ytilkemdecenibaa", sum := "c89442e80b49e05c3e70da5bdebc0ce3db409b67f6c2f9b2d46a5f1dc125967a", func := "ablaut/ablautlaw07.AutoLists", spec := "autoLists", unfollowed := true, recurses := true, loops := true, plainKeys := false, apart := false, narrowed := true }
def AutoListsUptoSaid : Prop := autoListsUptoRow.holds Try.pinned (OpenSpec.upto autoListsSpec)

/-- 'ablautlaw07.AutoRefuses', WHERE WHAT IT READS IS OF BULK AT MOST 1048576: true; the input reads as it did. -/
def autoRefusesUptoRow : OpenClaim := { program := "ytilkemdecenibaa", sum := "c89442e80b49e05c3e70da5bdebc0ce3db409b67f6c2f9b2d46a5f1dc125967a", func := "ablaut/ablautlaw07.AutoRefuses", spec := "autoRefuses", unfollowed := true, recurses := true, plainKeys := false, apart := false, narrowed := true }
def AutoRefusesUptoSaid : Prop := autoRefusesUptoRow.holds Try.pinned (OpenSpec.upto autoRefusesSpec)

/-- 'ablautlaw07.AutoOver', WHERE WHAT IT READS IS OF BULK AT MOST 1048576: true; the input reads as it did. -/
def autoOverUptoRow : OpenClaim := { program := "ytilkemdecenibaa", sum := "c89442e80b49e05c3e70da5bdebc0ce3db409b67f6c2f9b2d46a5f1dc125967a", func := "ablaut/ablautlaw07.AutoOver", spec := "autoOver", unfollowed := true, recurses := true, plainKeys := false, apart := false, narrowed := true }
def AutoOverUptoSaid : Prop := autoOverUptoRow.holds Try.pinned (OpenSpec.upto autoOverSpec)

/-- 'ablautlaw07.AutoNil', WHERE WHAT IT READS IS OF BULK AT MOST 1048576: true; the input reads as it did. -/
def autoNilUptoRow : OpenClaim := { program := "ytilkemdecenibaa", sum := "c89442e80b49e05c3e70da5bdebc0ce3db409b67f6c2f9b2d46a5f1dc125967a", func := "ablaut/ablautlaw07.AutoNil", spec := "autoNil", unfollowed := true, recurses := true, plainKeys := false, apart := false, narrowed := true }
def AutoNilUptoSaid : Prop := autoNilUptoRow.holds Try.pinned (OpenSpec.upto autoNilSpec)

/-- 'ablautlaw07.AutoLeast', WHERE WHAT IT READS IS OF BULK AT MOST 1048576: true; the input reads as it did. -/
def autoLeastUptoRow : OpenClaim := { program := "ytilkemdecenibaa", sum := "c89442e80b49e05c3e70da5bdebc0ce3db409b67f6c2f9b2d46a5f1dc125967a", func := "ablaut/ablautlaw07.AutoLeast", spec := "autoLeast", unfollowed := true, recurses := true, loops := true, plainKeys := false, apart := false, narrowed := true }
def AutoLeastUptoSaid : Prop := autoLeastUptoRow.holds Try.pinned (OpenSpec.upto autoLeastSpec)

/-- 'ablautlaw07.AutoShort', WHERE WHAT IT READS IS OF BULK AT MOST 1048576: true; the input reads as it did. -/
def autoShortUptoRow : OpenClaim := { program := "ytilkemdecenibaa", sum := "c89442e80b49e05c3e70da5bdebc0ce3db409b67f6c2f9b2d46a5f1dc125967a", func := "ablaut/ablautlaw07.AutoShort", spec := "autoShort", unfollowed := true, recurses := true, loops := true, plainKeys := false, apart := false, narrowed := true }
def AutoShortUptoSaid : Prop := autoShortUptoRow.holds Try.pinned (OpenSpec.upto autoShortSpec)

/-- 'ablautlaw07.AutoTwo', WHERE WHAT IT READS IS OF BULK AT MOST 1048576: true; the input reads as it did. -/
def autoTwoUptoRow : OpenClaim := { program := "ytilkemdecenibaa", sum := "c89442e80b49e05c3e70da5bdebc0ce3db409b67f6c2f9b2d46a5f1dc125967a", func := "ablaut/ablautlaw07.AutoTwo", spec := "autoTwo", unfollowed := true, recurses := true, loops := true, plainKeys := false, apart := false, narrowed := true }
def AutoTwoUptoSaid : Prop := autoTwoUptoRow.holds Try.pinned (OpenSpec.upto autoTwoSpec)

/-- 'ablautlaw07.AutoGreat', WHERE WHAT IT READS IS OF BULK AT MOST 1048576: true; the input reads as it did. -/
def autoGreatUptoRow : OpenClaim := { program := "ytilkemdecenibaa", sum := "c89442e80b49e05c3e70da5bdebc0ce3db409b67f6c2f9b2d46a5f1dc125967a", func := "ablaut/ablautlaw07.AutoGreat", spec := "autoGreat", unfollowed := true, recurses := true, plainKeys := false, apart := false, narrowed := true }
def AutoGreatUptoSaid : Prop := autoGreatUptoRow.holds Try.pinned (OpenSpec.upto autoGreatSpec)

/-- 'ablautlaw07.AutoMatches', WHERE WHAT IT READS IS OF BULK AT MOST 1048576: true; the input reads as it did. -/
def autoMatchesUptoRow : OpenClaim := { program := "ytilkemdecenibaa", sum := "c89442e80b49e05c3e70da5bdebc0ce3db409b67f6c2f9b2d46a5f1dc125967a", func := "ablaut/ablautlaw07.AutoMatches", spec := "autoMatches", unfollowed := true, recurses := true, loops := true, plainKeys := false, apart := false, narrowed := true }
def AutoMatchesUptoSaid : Prop := autoMatchesUptoRow.holds Try.pinned (OpenSpec.upto autoMatchesSpec)

/-- 'ablautlaw07.AutoNumbers', WHERE WHAT IT READS IS OF BULK AT MOST 1048576: true; the input reads as it did. -/
def autoNumbersUptoRow : OpenClaim := { program := "ytilkemdecenibaa", sum := "c89442e80b49e05c3e70da5bdebc0ce3db409b67f6c2f9b2d46a5f1dc125967a", func := "ablaut/ablautlaw07.AutoNumbers", spec := "autoNumbers", unfollowed := true, recurses := true, loops := true, plainKeys := false, apart := false, narrowed := true }
def AutoNumbersUptoSaid : Prop := autoNumbersUptoRow.holds Try.pinned (OpenSpec.upto autoNumbersSpec)

end Rows
end Go.Proofs.Ytilkemdecenibaa
