/-
  NARROWER THAN 'FOR EVERY INPUT', by the rows' own cells (each row's printed sentence says how): NaturalClasses: laid · NaturalPairs: laid · NaturalCounts: laid · NaturalNeeds: laid · NaturalTurns: laid · NaturalCubes: laid · NaturalSelects: laid · NaturalCloses: laid · NaturalShort: laid · NaturalKnown: laid.
  DERIVED. THE GIVEN ROWS OF THIS SEAT. 10 by the template 'for every input the law returns true; each argument reads behind the call as it read before'; 0 by the template 'total and deterministic' (their statements: YtbnbfdbliokcaaaDoorTotals.lean).
  GIVEN WITH THE SEED: the statements are not yours to turn. If you find one false, say at which input.
  Laid BY PROGRAM, IN A SANDBOX (cutbox-rows.mjs): the forced cells as the released guide's own fill.sh prints them over the translation ecf61c01bda6854a… (all of the seat's roots in one cut). By AI agents, Wed Nov 11 2026. No macro, syntax, notation, axiom, sorry.
-/
import Derived.Test.YtbnbfdbliokcaaaDoorChecked
import GoSem.Claim
import GoSem.ClaimJoined
import GoSem.ClaimMapViews
import Derived.JoinedTies
import Derived.KernelRfl
namespace Go.Proofs.YtbnbfdbliokcaaaDoor
/- THE CELL 'sum', in the pinned program and in every row, IS THE sha256 OF THE DUMP (.gsa) THAT YtbnbfdbliokcaaaDoorProg.lean LOADS. Nothing in Lean hashes anything: it is a label: what it is worth is what the hold of that sum in a sandbox is worth. -/
noncomputable def Tryd.pinned : Pinned := { name := "ytbnbfdbliokcaaadoor", sum := "ecf61c01bda6854a6e3d877d179f3faf2de07b5baa50a74b573c6cdc26dfe545", checked := Tryd.checked }
namespace Rows
def none {H : Type} : Left H := { results := [], args := [] }

/- WHAT THE LISTED PACKAGE-LEVEL VARIABLES READ AS WHEN THE CALL BEGINS. Each datum BY PROGRAM (the guide's laid-datum.mjs) off the statement by which the dump's own 'gosem.cut.vars' lays the variable. In a bare row this is a premise. The card (YtbnbfdbliokcaaaDoorCards.lean) ties it to the program's text. -/
def laid_math_bits_deBruijn32tab {H : Type} : DataW H := .agg [.lit (.int .u8 0), .lit (.int .u8 1), .lit (.int .u8 28), .lit (.int .u8 2), .lit (.int .u8 29), .lit (.int .u8 14), .lit (.int .u8 24), .lit (.int .u8 3), .lit (.int .u8 30), .lit (.int .u8 22), .lit (.int .u8 20), .lit (.int .u8 15), .lit (.int .u8 25), .lit (.int .u8 17), .lit (.int .u8 4), .lit (.int .u8 8), .lit (.int .u8 31), .lit (.int .u8 27), .lit (.int .u8 13), .lit (.int .u8 23), .lit (.int .u8 21), .lit (.int .u8 19), .lit (.int .u8 16), .lit (.int .u8 7), .lit (.int .u8 26), .lit (.int .u8 12), .lit (.int .u8 18), .lit (.int .u8 6), .lit (.int .u8 11), .lit (.int .u8 5), .lit (.int .u8 10), .lit (.int .u8 9)]
def laid_math_bits_deBruijn64tab {H : Type} : DataW H := .agg [.lit (.int .u8 0), .lit (.int .u8 1), .lit (.int .u8 56), .lit (.int .u8 2), .lit (.int .u8 57), .lit (.int .u8 49), .lit (.int .u8 28), .lit (.int .u8 3), .lit (.int .u8 61), .lit (.int .u8 58), .lit (.int .u8 42), .lit (.int .u8 50), .lit (.int .u8 38), .lit (.int .u8 29), .lit (.int .u8 17), .lit (.int .u8 4), .lit (.int .u8 62), .lit (.int .u8 47), .lit (.int .u8 59), .lit (.int .u8 36), .lit (.int .u8 45), .lit (.int .u8 43), .lit (.int .u8 51), .lit (.int .u8 22), .lit (.int .u8 53), .lit (.int .u8 39), .lit (.int .u8 33), .lit (.int .u8 30), .lit (.int .u8 24), .lit (.int .u8 18), .lit (.int .u8 12), .lit (.int .u8 5), .lit (.int .u8 63), .lit (.int .u8 55), .lit (.int .u8 48), .lit (.int .u8 27), .lit (.int .u8 60), .lit (.int .u8 41), .lit (.int .u8 37), .lit (.int .u8 16), .lit (.int .u8 46), .lit (.int .u8 35), .lit (.int .u8 44), .lit (.int .u8 21), .lit (.int .u8 52), .lit (.int .u8 32), .lit (.int .u8 23), .lit (.int .u8 11), .lit (.int .u8 54), .lit (.int .u8 26), .lit (.int .u8 40), .lit (.int .u8 15), .lit (.int .u8 34), .lit (.int .u8 20), .lit (.int .u8 31), .lit (.int .u8 10), .lit (.int .u8 25), .lit (.int .u8 14), .lit (.int .u8 19), .lit (.int .u8 9), .lit (.int .u8 13), .lit (.int .u8 8), .lit (.int .u8 7), .lit (.int .u8 6)]

/-- 'ablautlaw05.NaturalClasses': WHATEVER THE INPUT: true; the input reads as it did. -/
def naturalClassesSpec : ChangeSpec := { name := "naturalClasses", fn := fun _ => fun
  | [d1, d2] => { results := [.lit (.bool true)], args := [d1, d2] }
  | _ => none }
def naturalClassesRow : OpenClaim := { program := "ytbnbfdbliokcaaadoor", sum := "ecf61c01bda6854a6e3d877d179f3faf2de07b5baa50a74b573c6cdc26dfe545", func := "ablaut/ablautlaw05.NaturalClasses", spec := "naturalClasses", unfollowed := true, recurses := true, named := ["math/bits.deBruijn32tab", "math/bits.deBruijn64tab"], plainKeys := false, apart := false, laid := [("math/bits.deBruijn32tab", laid_math_bits_deBruijn32tab), ("math/bits.deBruijn64tab", laid_math_bits_deBruijn64tab)] }
def NaturalClassesSaid : Prop := naturalClassesRow.holds Tryd.pinned (OpenSpec.ofChange naturalClassesSpec)

/-- ITS FALSE NEIGHBOUR: 'it returns false'. Refute it at one input. -/
def naturalClassesWrong : ChangeSpec := { name := "naturalClasses", fn := fun _ => fun
  | [d1, d2] => { results := [.lit (.bool false)], args := [d1, d2] }
  | _ => none }
def NaturalClassesWrongFalsely : Prop := naturalClassesRow.holds Tryd.pinned (OpenSpec.ofChange naturalClassesWrong)

/-- 'ablautlaw05.NaturalPairs': WHATEVER THE INPUT: true; the input reads as it did. -/
def naturalPairsSpec : ChangeSpec := { name := "naturalPairs", fn := fun _ => fun
  | [d] => { results := [.lit (.bool true)], args := [d] }
  | _ => none }
def naturalPairsRow : OpenClaim := { program := "ytbnbfdbliokcaaadoor", sum := "ecf61c01bda6854a6e3d877d179f3faf2de07b5baa50a74b573c6cdc26dfe545", func := "ablaut/ablautlaw05.NaturalPairs", spec := "naturalPairs", unfollowed := true, recurses := true, named := ["math/bits.deBruijn32tab", "math/bits.deBruijn64tab"], plainKeys := false, apart := false, laid := [("math/bits.deBruijn32tab", laid_math_bits_deBruijn32tab), ("math/bits.deBruijn64tab", laid_math_bits_deBruijn64tab)] }
def NaturalPairsSaid : Prop := naturalPairsRow.holds Tryd.pinned (OpenSpec.ofChange naturalPairsSpec)

/-- ITS FALSE NEIGHBOUR: 'it returns false'. Refute it at one input. -/
def naturalPairsWrong : ChangeSpec := { name := "naturalPairs", fn := fun _ => fun
  | [d] => { results := [.lit (.bool false)], args := [d] }
  | _ => none }
def NaturalPairsWrongFalsely : Prop := naturalPairsRow.holds Tryd.pinned (OpenSpec.ofChange naturalPairsWrong)

/-- 'ablautlaw05.NaturalCounts': WHATEVER THE INPUT: true; the input reads as it did. -/
def naturalCountsSpec : ChangeSpec := { name := "naturalCounts", fn := fun _ => fun
  | [d] => { results := [.lit (.bool true)], args := [d] }
  | _ => none }
def naturalCountsRow : OpenClaim := { program := "ytbnbfdbliokcaaadoor", sum := "ecf61c01bda6854a6e3d877d179f3faf2de07b5baa50a74b573c6cdc26dfe545", func := "ablaut/ablautlaw05.NaturalCounts", spec := "naturalCounts", unfollowed := true, recurses := true, named := ["math/bits.deBruijn32tab", "math/bits.deBruijn64tab"], plainKeys := false, apart := false, laid := [("math/bits.deBruijn32tab", laid_math_bits_deBruijn32tab), ("math/bits.deBruijn64tab", laid_math_bits_deBruijn64tab)] }
def NaturalCountsSaid : Prop := naturalCountsRow.holds Tryd.pinned (OpenSpec.ofChange naturalCountsSpec)

/-- ITS FALSE NEIGHBOUR: 'it returns false'. Refute it at one input. -/
def naturalCountsWrong : ChangeSpec := { name := "naturalCounts", fn := fun _ => fun
  | [d] => { results := [.lit (.bool false)], args := [d] }
  | _ => none }
def NaturalCountsWrongFalsely : Prop := naturalCountsRow.holds Tryd.pinned (OpenSpec.ofChange naturalCountsWrong)

/-- 'ablautlaw05.NaturalNeeds': WHATEVER THE INPUT: true; the input reads as it did. -/
def naturalNeedsSpec : ChangeSpec := { name := "naturalNeeds", fn := fun _ => fun
  | [d] => { results := [.lit (.bool true)], args := [d] }
  | _ => none }
def naturalNeedsRow : OpenClaim := { program := "ytbnbfdbliokcaaadoor", sum := "ecf61c01bda6854a6e3d877d179f3faf2de07b5baa50a74b573c6cdc26dfe545", func := "ablaut/ablautlaw05.NaturalNeeds", spec := "naturalNeeds", unfollowed := true, recurses := true, named := ["math/bits.deBruijn32tab", "math/bits.deBruijn64tab"], plainKeys := false, apart := false, laid := [("math/bits.deBruijn32tab", laid_math_bits_deBruijn32tab), ("math/bits.deBruijn64tab", laid_math_bits_deBruijn64tab)] }
def NaturalNeedsSaid : Prop := naturalNeedsRow.holds Tryd.pinned (OpenSpec.ofChange naturalNeedsSpec)

/-- ITS FALSE NEIGHBOUR: 'it returns false'. Refute it at one input. -/
def naturalNeedsWrong : ChangeSpec := { name := "naturalNeeds", fn := fun _ => fun
  | [d] => { results := [.lit (.bool false)], args := [d] }
  | _ => none }
def NaturalNeedsWrongFalsely : Prop := naturalNeedsRow.holds Tryd.pinned (OpenSpec.ofChange naturalNeedsWrong)

/-- 'ablautlaw05.NaturalTurns': WHATEVER THE INPUT: true; the input reads as it did. -/
def naturalTurnsSpec : ChangeSpec := { name := "naturalTurns", fn := fun _ => fun
  | [d] => { results := [.lit (.bool true)], args := [d] }
  | _ => none }
def naturalTurnsRow : OpenClaim := { program := "ytbnbfdbliokcaaadoor", sum := "ecf61c01bda6854a6e3d877d179f3faf2de07b5baa50a74b573c6cdc26dfe545", func := "ablaut/ablautlaw05.NaturalTurns", spec := "naturalTurns", unfollowed := true, recurses := true, named := ["math/bits.deBruijn32tab", "math/bits.deBruijn64tab"], plainKeys := false, apart := false, laid := [("math/bits.deBruijn32tab", laid_math_bits_deBruijn32tab), ("math/bits.deBruijn64tab", laid_math_bits_deBruijn64tab)] }
def NaturalTurnsSaid : Prop := naturalTurnsRow.holds Tryd.pinned (OpenSpec.ofChange naturalTurnsSpec)

/-- ITS FALSE NEIGHBOUR: 'it returns false'. Refute it at one input. -/
def naturalTurnsWrong : ChangeSpec := { name := "naturalTurns", fn := fun _ => fun
  | [d] => { results := [.lit (.bool false)], args := [d] }
  | _ => none }
def NaturalTurnsWrongFalsely : Prop := naturalTurnsRow.holds Tryd.pinned (OpenSpec.ofChange naturalTurnsWrong)

/-- 'ablautlaw05.NaturalCubes': WHATEVER THE INPUT: true; the input reads as it did. -/
def naturalCubesSpec : ChangeSpec := { name := "naturalCubes", fn := fun _ => fun
  | [d1, d2] => { results := [.lit (.bool true)], args := [d1, d2] }
  | _ => none }
def naturalCubesRow : OpenClaim := { program := "ytbnbfdbliokcaaadoor", sum := "ecf61c01bda6854a6e3d877d179f3faf2de07b5baa50a74b573c6cdc26dfe545", func := "ablaut/ablautlaw05.NaturalCubes", spec := "naturalCubes", unfollowed := true, recurses := true, named := ["math/bits.deBruijn32tab", "math/bits.deBruijn64tab"], plainKeys := false, apart := false, laid := [("math/bits.deBruijn32tab", laid_math_bits_deBruijn32tab), ("math/bits.deBruijn64tab", laid_math_bits_deBruijn64tab)] }
def NaturalCubesSaid : Prop := naturalCubesRow.holds Tryd.pinned (OpenSpec.ofChange naturalCubesSpec)

/-- ITS FALSE NEIGHBOUR: 'it returns false'. Refute it at one input. -/
def naturalCubesWrong : ChangeSpec := { name := "naturalCubes", fn := fun _ => fun
  | [d1, d2] => { results := [.lit (.bool false)], args := [d1, d2] }
  | _ => none }
def NaturalCubesWrongFalsely : Prop := naturalCubesRow.holds Tryd.pinned (OpenSpec.ofChange naturalCubesWrong)

/-- 'ablautlaw05.NaturalSelects': WHATEVER THE INPUT: true; the input reads as it did. -/
def naturalSelectsSpec : ChangeSpec := { name := "naturalSelects", fn := fun _ => fun
  | [d1, d2] => { results := [.lit (.bool true)], args := [d1, d2] }
  | _ => none }
def naturalSelectsRow : OpenClaim := { program := "ytbnbfdbliokcaaadoor", sum := "ecf61c01bda6854a6e3d877d179f3faf2de07b5baa50a74b573c6cdc26dfe545", func := "ablaut/ablautlaw05.NaturalSelects", spec := "naturalSelects", unfollowed := true, recurses := true, named := ["math/bits.deBruijn32tab", "math/bits.deBruijn64tab"], plainKeys := false, apart := false, laid := [("math/bits.deBruijn32tab", laid_math_bits_deBruijn32tab), ("math/bits.deBruijn64tab", laid_math_bits_deBruijn64tab)] }
def NaturalSelectsSaid : Prop := naturalSelectsRow.holds Tryd.pinned (OpenSpec.ofChange naturalSelectsSpec)

/-- ITS FALSE NEIGHBOUR: 'it returns false'. Refute it at one input. -/
def naturalSelectsWrong : ChangeSpec := { name := "naturalSelects", fn := fun _ => fun
  | [d1, d2] => { results := [.lit (.bool false)], args := [d1, d2] }
  | _ => none }
def NaturalSelectsWrongFalsely : Prop := naturalSelectsRow.holds Tryd.pinned (OpenSpec.ofChange naturalSelectsWrong)

/-- 'ablautlaw05.NaturalCloses': WHATEVER THE INPUT: true; the input reads as it did. -/
def naturalClosesSpec : ChangeSpec := { name := "naturalCloses", fn := fun _ => fun
  | [d1, d2, d3] => { results := [.lit (.bool true)], args := [d1, d2, d3] }
  | _ => none }
def naturalClosesRow : OpenClaim := { program := "ytbnbfdbliokcaaadoor", sum := "ecf61c01bda6854a6e3d877d179f3faf2de07b5baa50a74b573c6cdc26dfe545", func := "ablaut/ablautlaw05.NaturalCloses", spec := "naturalCloses", unfollowed := true, recurses := true, named := ["math/bits.deBruijn32tab", "math/bits.deBruijn64tab"], plainKeys := false, apart := false, laid := [("math/bits.deBruijn32tab", laid_math_bits_deBruijn32tab), ("math/bits.deBruijn64tab", laid_math_bits_deBruijn64tab)] }
def NaturalClosesSaid : Prop := naturalClosesRow.holds Tryd.pinned (OpenSpec.ofChange naturalClosesSpec)

/-- ITS FALSE NEIGHBOUR: 'it returns false'. Refute it at one input. -/
def naturalClosesWrong : ChangeSpec := { name := "naturalCloses", fn := fun _ => fun
  | [d1, d2, d3] => { results := [.lit (.bool false)], args := [d1, d2, d3] }
  | _ => none }
def NaturalClosesWrongFalsely : Prop := naturalClosesRow.holds Tryd.pinned (OpenSpec.ofChange naturalClosesWrong)

/-- 'ablautlaw05.NaturalShort': WHATEVER THE INPUT: true; the input reads as it did. -/
def naturalShortSpec : ChangeSpec := { name := "naturalShort", fn := fun _ => fun
  | [d1, d2] => { results := [.lit (.bool true)], args := [d1, d2] }
  | _ => none }
def naturalShortRow : OpenClaim := { program := "ytbnbfdbliokcaaadoor", sum := "ecf61c01bda6854a6e3d877d179f3faf2de07b5baa50a74b573c6cdc26dfe545", func := "ablaut/ablautlaw05.NaturalShort", spec := "naturalShort", unfollowed := true, recurses := true, named := ["math/bits.deBruijn32tab", "math/bits.deBruijn64tab"], plainKeys := false, apart := false, laid := [("math/bits.deBruijn32tab", laid_math_bits_deBruijn32tab), ("math/bits.deBruijn64tab", laid_math_bits_deBruijn64tab)] }
def NaturalShortSaid : Prop := naturalShortRow.holds Tryd.pinned (OpenSpec.ofChange naturalShortSpec)

/-- ITS FALSE NEIGHBOUR: 'it returns false'. Refute it at one input. -/
def naturalShortWrong : ChangeSpec := { name := "naturalShort", fn := fun _ => fun
  | [d1, d2] => { results := [.lit (.bool false)], args := [d1, d2] }
  | _ => none }
def NaturalShortWrongFalsely : Prop := naturalShortRow.holds Tryd.pinned (OpenSpec.ofChange naturalShortWrong)

/-- 'ablautlaw05.NaturalKnown': WHATEVER THE INPUT: true; the input reads as it did. -/
def naturalKnownSpec : ChangeSpec := { name := "naturalKnown", fn := fun _ => fun
  | [] => { results := [.lit (.bool true)], args := [] }
  | _ => none }
def naturalKnownRow : OpenClaim := { program := "ytbnbfdbliokcaaadoor", sum := "ecf61c01bda6854a6e3d877d179f3faf2de07b5baa50a74b573c6cdc26dfe545", func := "ablaut/ablautlaw05.NaturalKnown", spec := "naturalKnown", unfollowed := true, recurses := true, named := ["math/bits.deBruijn32tab", "math/bits.deBruijn64tab"], plainKeys := false, apart := false, laid := [("math/bits.deBruijn32tab", laid_math_bits_deBruijn32tab), ("math/bits.deBruijn64tab", laid_math_bits_deBruijn64tab)] }
def NaturalKnownSaid : Prop := naturalKnownRow.holds Tryd.pinned (OpenSpec.ofChange naturalKnownSpec)

/-- ITS FALSE NEIGHBOUR: 'it returns false'. Refute it at one input. -/
def naturalKnownWrong : ChangeSpec := { name := "naturalKnown", fn := fun _ => fun
  | [] => { results := [.lit (.bool false)], args := [] }
  | _ => none }
def NaturalKnownWrongFalsely : Prop := naturalKnownRow.holds Tryd.pinned (OpenSpec.ofChange naturalKnownWrong)

/- THE SECOND FORM. 'bulk': how many values and letters a reading holds, each counted each time it is reached (what is shared counts as often as it is met; a slice's spare places count too). A statement '..UptoSaid' is the law's where the arguments, and the package variables that the reading takes, are together of bulk at most 1048576: NARROWER than '..Said'. Prove '..Said' where nothing that the law and all that it calls make is longer than what came in: it says more and counts as full. Else prove '..UptoSaid'. A law counts once. -/
mutual
def uptoBulk {H : Type} : DataW H → Nat
  | .lit (.string bytes) => bytes.length + 1
  | .lit _ => 1
  | .nil => 1
  | .ptr d => uptoBulk d + 1
  | .slice elems spare => uptoBulkAll elems + uptoBulkAll spare + 1
  | .agg parts => uptoBulkAll parts + 1
  | .iface _ d => uptoBulk d + 1
  | .map entries => uptoBulkEntries entries + 1
  | .held _ => 1
def uptoBulkAll {H : Type} : List (DataW H) → Nat
  | [] => 0
  | d :: r => uptoBulk d + uptoBulkAll r
def uptoBulkEntries {H : Type} : List (Lit × DataW H) → Nat
  | [] => 0
  | x :: r => uptoBulkEntry x + uptoBulkEntries r
def uptoBulkEntry {H : Type} : Lit × DataW H → Nat
  | (.string bytes, d) => bytes.length + uptoBulk d + 1
  | (_, d) => uptoBulk d + 1
 end
def uptoSmall : (H : Type) → List (DataW H) → Bool := fun _ ds => decide (uptoBulkAll ds ≤ 1048576)
def OpenSpec.upto (s : _root_.Go.ChangeSpec) : _root_.Go.OpenSpec := { _root_.Go.OpenSpec.ofChange s with cond := some uptoSmall }

/-- 'ablautlaw05.NaturalClasses', WHERE WHAT IT READS IS OF BULK AT MOST 1048576: true; the input reads as it did. -/
def naturalClassesUptoRow : OpenClaim := { program := "ytbnbfdbliokcaaadoor", sum := "ecf61c01bda6854a6e3d877d179f3faf2de07b5baa50a74b573c6cdc26dfe545", func := "ablaut/ablautlaw05.NaturalClasses", spec := "naturalClasses", unfollowed := true, recurses := true, named := ["math/bits.deBruijn32tab", "math/bits.deBruijn64tab"], plainKeys := false, apart := false, laid := [("math/bits.deBruijn32tab", laid_math_bits_deBruijn32tab), ("math/bits.deBruijn64tab", laid_math_bits_deBruijn64tab)], narrowed := true }
def NaturalClassesUptoSaid : Prop := naturalClassesUptoRow.holds Tryd.pinned (OpenSpec.upto naturalClassesSpec)

/-- 'ablautlaw05.NaturalPairs', WHERE WHAT IT READS IS OF BULK AT MOST 1048576: true; the input reads as it did. -/
def naturalPairsUptoRow : OpenClaim := { program := "ytbnbfdbliokcaaadoor", sum := "ecf61c01bda6854a6e3d877d179f3faf2de07b5baa50a74b573c6cdc26dfe545", func := "ablaut/ablautlaw05.NaturalPairs", spec := "naturalPairs", unfollowed := true, recurses := true, named := ["math/bits.deBruijn32tab", "math/bits.deBruijn64tab"], plainKeys := false, apart := false, laid := [("math/bits.deBruijn32tab", laid_math_bits_deBruijn32tab), ("math/bits.deBruijn64tab", laid_math_bits_deBruijn64tab)], narrowed := true }
def NaturalPairsUptoSaid : Prop := naturalPairsUptoRow.holds Tryd.pinned (OpenSpec.upto naturalPairsSpec)

/-- 'ablautlaw05.NaturalCounts', WHERE WHAT IT READS IS OF BULK AT MOST 1048576: true; the input reads as it did. -/
def naturalCountsUptoRow : OpenClaim := { program := "ytbnbfdbliokcaaadoor", sum := "ecf61c01bda6854a6e3d877d179f3faf2de07b5baa50a74b573c6cdc26dfe545", func := "ablaut/ablautlaw05.NaturalCounts", spec := "naturalCounts", unfollowed := true, recurses := true, named := ["math/bits.deBruijn32tab", "math/bits.deBruijn64tab"], plainKeys := false, apart := false, laid := [("math/bits.deBruijn32tab", laid_math_bits_deBruijn32tab), ("math/bits.deBruijn64tab", laid_math_bits_deBruijn64tab)], narrowed := true }
def NaturalCountsUptoSaid : Prop := naturalCountsUptoRow.holds Tryd.pinned (OpenSpec.upto naturalCountsSpec)

/-- 'ablautlaw05.NaturalNeeds', WHERE WHAT IT READS IS OF BULK AT MOST 1048576: true; the input reads as it did. -/
def naturalNeedsUptoRow : OpenClaim := { program := "ytbnbfdbliokcaaadoor", sum := "ecf61c01bda6854a6e3d877d179f3faf2de07b5baa50a74b573c6cdc26dfe545", func := "ablaut/ablautlaw05.NaturalNeeds", spec := "naturalNeeds", unfollowed := true, recurses := true, named := ["math/bits.deBruijn32tab", "math/bits.deBruijn64tab"], plainKeys := false, apart := false, laid := [("math/bits.deBruijn32tab", laid_math_bits_deBruijn32tab), ("math/bits.deBruijn64tab", laid_math_bits_deBruijn64tab)], narrowed := true }
def NaturalNeedsUptoSaid : Prop := naturalNeedsUptoRow.holds Tryd.pinned (OpenSpec.upto naturalNeedsSpec)

/-- 'ablautlaw05.NaturalTurns', WHERE WHAT IT READS IS OF BULK AT MOST 1048576: true; the input reads as it did. -/
def naturalTurnsUptoRow : OpenClaim := { program := "ytbnbfdbliokcaaadoor", sum := "ecf61c01bda6854a6e3d877d179f3faf2de07b5baa50a74b573c6cdc26dfe545", func := "ablaut/ablautlaw05.NaturalTurns", spec := "naturalTurns", unfollowed := true, recurses := true, named := ["math/bits.deBruijn32tab", "math/bits.deBruijn64tab"], plainKeys := false, apart := false, laid := [("math/bits.deBruijn32tab", laid_math_bits_deBruijn32tab), ("math/bits.deBruijn64tab", laid_math_bits_deBruijn64tab)], narrowed := true }
def NaturalTurnsUptoSaid : Prop := naturalTurnsUptoRow.holds Tryd.pinned (OpenSpec.upto naturalTurnsSpec)

/-- 'ablautlaw05.NaturalCubes', WHERE WHAT IT READS IS OF BULK AT MOST 1048576: true; the input reads as it did. -/
def naturalCubesUptoRow : OpenClaim := { program := "ytbnbfdbliokcaaadoor", sum := "ecf61c01bda6854a6e3d877d179f3faf2de07b5baa50a74b573c6cdc26dfe545", func := "ablaut/ablautlaw05.NaturalCubes", spec := "naturalCubes", unfollowed := true, recurses := true, named := ["math/bits.deBruijn32tab", "math/bits.deBruijn64tab"], plainKeys := false, apart := false, laid := [("math/bits.deBruijn32tab", laid_math_bits_deBruijn32tab), ("math/bits.deBruijn64tab", laid_math_bits_deBruijn64tab)], narrowed := true }
def NaturalCubesUptoSaid : Prop := naturalCubesUptoRow.holds Tryd.pinned (OpenSpec.upto naturalCubesSpec)

/-- 'ablautlaw05.NaturalSelects', WHERE WHAT IT READS IS OF BULK AT MOST 1048576: true; the input reads as it did. -/
def naturalSelectsUptoRow : OpenClaim := { program := "ytbnbfdbliokcaaadoor", sum := "ecf61c01bda6854a6e3d877d179f3faf2de07b5baa50a74b573c6cdc26dfe545", func := "ablaut/ablautlaw05.NaturalSelects", spec := "naturalSelects", unfollowed := true, recurses := true, named := ["math/bits.deBruijn32tab", "math/bits.deBruijn64tab"], plainKeys := false, apart := false, laid := [("math/bits.deBruijn32tab", laid_math_bits_deBruijn32tab), ("math/bits.deBruijn64tab", laid_math_bits_deBruijn64tab)], narrowed := true }
def NaturalSelectsUptoSaid : Prop := naturalSelectsUptoRow.holds Tryd.pinned (OpenSpec.upto naturalSelectsSpec)

/-- 'ablautlaw05.NaturalCloses', WHERE WHAT IT READS IS OF BULK AT MOST 1048576: true; the input reads as it did. -/
def naturalClosesUptoRow : OpenClaim := { program := "ytbnbfdbliokcaaadoor", sum := "ecf61c01bda6854a6e3d877d179f3faf2de07b5baa50a74b573c6cdc26dfe545", func := "ablaut/ablautlaw05.NaturalCloses", spec := "naturalCloses", unfollowed := true, recurses := true, named := ["math/bits.deBruijn32tab", "math/bits.deBruijn64tab"], plainKeys := false, apart := false, laid := [("math/bits.deBruijn32tab", laid_math_bits_deBruijn32tab), ("math/bits.deBruijn64tab", laid_math_bits_deBruijn64tab)], narrowed := true }
def NaturalClosesUptoSaid : Prop := naturalClosesUptoRow.holds Tryd.pinned (OpenSpec.upto naturalClosesSpec)

/-- 'ablautlaw05.NaturalShort', WHERE WHAT IT READS IS OF BULK AT MOST 1048576: true; the input reads as it did. -/
def naturalShortUptoRow : OpenClaim := { program := "ytbnbfdbliokcaaadoor", sum := "ecf61c01bda6854a6e3d877d179f3faf2de07b5baa50a74b573c6cdc26dfe545", func := "ablaut/ablautlaw05.NaturalShort", spec := "naturalShort", unfollowed := true, recurses := true, named := ["math/bits.deBruijn32tab", "math/bits.deBruijn64tab"], plainKeys := false, apart := false, laid := [("math/bits.deBruijn32tab", laid_math_bits_deBruijn32tab), ("math/bits.deBruijn64tab", laid_math_bits_deBruijn64tab)], narrowed := true }
def NaturalShortUptoSaid : Prop := naturalShortUptoRow.holds Tryd.pinned (OpenSpec.upto naturalShortSpec)

/-- 'ablautlaw05.NaturalKnown', WHERE WHAT IT READS IS OF BULK AT MOST 1048576: true; the input reads as it did. -/
def naturalKnownUptoRow : OpenClaim := { program := "ytbnbfdbliokcaaadoor", sum := "ecf61c01bda6854a6e3d877d179f3faf2de07b5baa50a74b573c6cdc26dfe545", func := "ablaut/ablautlaw05.NaturalKnown", spec := "naturalKnown", unfollowed := true, recurses := true, named := ["math/bits.deBruijn32tab", "math/bits.deBruijn64tab"], plainKeys := false, apart := false, laid := [("math/bits.deBruijn32tab", laid_math_bits_deBruijn32tab), ("math/bits.deBruijn64tab", laid_math_bits_deBruijn64tab)], narrowed := true }
def NaturalKnownUptoSaid : Prop := naturalKnownUptoRow.holds Tryd.pinned (OpenSpec.upto naturalKnownSpec)

end Rows
end Go.Proofs.YtbnbfdbliokcaaaDoor
