/-
  NARROWER THAN 'FOR EVERY INPUT', by the rows' own cells (each row's printed sentence says how): ProtoMatrices: laid · ProtoCells: laid · ProtoWords: laid · ProtoSame: laid · ProtoTurned: laid · ProtoSums: laid · ProtoNodes: laid · ProtoCosts: laid · ProtoLeast: laid · ProtoAgrees: laid · ProtoCands: laid.
  DERIVED. THE GIVEN ROWS OF THIS SEAT. 11 by the template 'for every input the law returns true; each argument reads behind the call as it read before'; 0 by the template 'total and deterministic' (their statements: YtdloabjnjnjacaaDoorTotals.lean).
  GIVEN WITH THE SEED: the statements are not yours to turn. If you find one false, say at which input.
  Laid BY PROGRAM, IN A SANDBOX (cutbox-rows.mjs): the forced cells as the released guide's own fill.sh prints them over the translation 7ccb992ad301fbf1… (all of the seat's roots in one cut). By AI agents, Wed Nov 11 2026. No macro, syntax, notation, axiom, sorry.
-/
import Derived.Test.YtdloabjnjnjacaaDoorChecked
import GoSem.Claim
import GoSem.ClaimJoined
import GoSem.ClaimMapViews
import Derived.JoinedTies
import Derived.KernelRfl
namespace Go.Proofs.YtdloabjnjnjacaaDoor
/- THE CELL 'sum', in the pinned program and in every row, IS THE sha256 OF THE DUMP (.gsa) THAT YtdloabjnjnjacaaDoorProg.lean LOADS. Nothing in Lean hashes anything: it is a label: what it is worth is what the hold of that sum in a sandbox is worth. -/
noncomputable def Tryd.pinned : Pinned := { name := "ytdloabjnjnjacaadoor", sum := "7ccb992ad301fbf1a355ae8903286226bf0779702d40d317ffdf5c791fa42503", checked := Tryd.checked }
namespace Rows
def none {H : Type} : Left H := { results := [], args := [] }

/- WHAT THE LISTED PACKAGE-LEVEL VARIABLES READ AS WHEN THE CALL BEGINS. Each datum BY PROGRAM (the guide's laid-datum.mjs) off the statement by which the dump's own 'gosem.cut.vars' lays the variable. In a bare row this is a premise. The card (YtdloabjnjnjacaaDoorCards.lean) ties it to the program's text. -/
def laid_math_bits_deBruijn32tab {H : Type} : DataW H := .agg [.lit (.int .u8 0), .lit (.int .u8 1), .lit (.int .u8 28), .lit (.int .u8 2), .lit (.int .u8 29), .lit (.int .u8 14), .lit (.int .u8 24), .lit (.int .u8 3), .lit (.int .u8 30), .lit (.int .u8 22), .lit (.int .u8 20), .lit (.int .u8 15), .lit (.int .u8 25), .lit (.int .u8 17), .lit (.int .u8 4), .lit (.int .u8 8), .lit (.int .u8 31), .lit (.int .u8 27), .lit (.int .u8 13), .lit (.int .u8 23), .lit (.int .u8 21), .lit (.int .u8 19), .lit (.int .u8 16), .lit (.int .u8 7), .lit (.int .u8 26), .lit (.int .u8 12), .lit (.int .u8 18), .lit (.int .u8 6), .lit (.int .u8 11), .lit (.int .u8 5), .lit (.int .u8 10), .lit (.int .u8 9)]

/-- 'ablautlaw24.ProtoMatrices': WHATEVER THE INPUT: true; the input reads as it did. -/
def protoMatricesSpec : ChangeSpec := { name := "protoMatrices", fn := fun _ => fun
  | [d1, d2] => { results := [.lit (.bool true)], args := [d1, d2] }
  | _ => none }
def protoMatricesRow : OpenClaim := { program := "ytdloabjnjnjacaadoor", sum := "7ccb992ad301fbf1a355ae8903286226bf0779702d40d317ffdf5c791fa42503", func := "ablaut/ablautlaw24.ProtoMatrices", spec := "protoMatrices", unfollowed := true, recurses := true, named := ["math/bits.deBruijn32tab"], plainKeys := false, apart := false, laid := [("math/bits.deBruijn32tab", laid_math_bits_deBruijn32tab)] }
def ProtoMatricesSaid : Prop := protoMatricesRow.holds Tryd.pinned (OpenSpec.ofChange protoMatricesSpec)

/-- ITS FALSE NEIGHBOUR: 'it returns false'. Refute it at one input. -/
def protoMatricesWrong : ChangeSpec := { name := "protoMatrices", fn := fun _ => fun
  | [d1, d2] => { results := [.lit (.bool false)], args := [d1, d2] }
  | _ => none }
def ProtoMatricesWrongFalsely : Prop := protoMatricesRow.holds Tryd.pinned (OpenSpec.ofChange protoMatricesWrong)

/-- 'ablautlaw24.ProtoCells': WHATEVER THE INPUT: true; the input reads as it did. -/
def protoCellsSpec : ChangeSpec := { name := "protoCells", fn := fun _ => fun
  | [d1, d2] => { results := [.lit (.bool true)], args := [d1, d2] }
  | _ => none }
def protoCellsRow : OpenClaim := { program := "ytdloabjnjnjacaadoor", sum := "7ccb992ad301fbf1a355ae8903286226bf0779702d40d317ffdf5c791fa42503", func := "ablaut/ablautlaw24.ProtoCells", spec := "protoCells", unfollowed := true, recurses := true, named := ["math/bits.deBruijn32tab"], plainKeys := false, apart := false, laid := [("math/bits.deBruijn32tab", laid_math_bits_deBruijn32tab)] }
def ProtoCellsSaid : Prop := protoCellsRow.holds Tryd.pinned (OpenSpec.ofChange protoCellsSpec)

/-- ITS FALSE NEIGHBOUR: 'it returns false'. Refute it at one input. -/
def protoCellsWrong : ChangeSpec := { name := "protoCells", fn := fun _ => fun
  | [d1, d2] => { results := [.lit (.bool false)], args := [d1, d2] }
  | _ => none }
def ProtoCellsWrongFalsely : Prop := protoCellsRow.holds Tryd.pinned (OpenSpec.ofChange protoCellsWrong)

/-- 'ablautlaw24.ProtoWords': WHATEVER THE INPUT: true; the input reads as it did. -/
def protoWordsSpec : ChangeSpec := { name := "protoWords", fn := fun _ => fun
  | [d1, d2] => { results := [.lit (.bool true)], args := [d1, d2] }
  | _ => none }
def protoWordsRow : OpenClaim := { program := "ytdloabjnjnjacaadoor", sum := "7ccb992ad301fbf1a355ae8903286226bf0779702d40d317ffdf5c791fa42503", func := "ablaut/ablautlaw24.ProtoWords", spec := "protoWords", unfollowed := true, recurses := true, named := ["math/bits.deBruijn32tab"], plainKeys := false, apart := false, laid := [("math/bits.deBruijn32tab", laid_math_bits_deBruijn32tab)] }
def ProtoWordsSaid : Prop := protoWordsRow.holds Tryd.pinned (OpenSpec.ofChange protoWordsSpec)

/-- ITS FALSE NEIGHBOUR: 'it returns false'. Refute it at one input. -/
def protoWordsWrong : ChangeSpec := { name := "protoWords", fn := fun _ => fun
  | [d1, d2] => { results := [.lit (.bool false)], args := [d1, d2] }
  | _ => none }
def ProtoWordsWrongFalsely : Prop := protoWordsRow.holds Tryd.pinned (OpenSpec.ofChange protoWordsWrong)

/-- 'ablautlaw24.ProtoSame': WHATEVER THE INPUT: true; the input reads as it did. -/
def protoSameSpec : ChangeSpec := { name := "protoSame", fn := fun _ => fun
  | [d1, d2, d3] => { results := [.lit (.bool true)], args := [d1, d2, d3] }
  | _ => none }
def protoSameRow : OpenClaim := { program := "ytdloabjnjnjacaadoor", sum := "7ccb992ad301fbf1a355ae8903286226bf0779702d40d317ffdf5c791fa42503", func := "ablaut/ablautlaw24.ProtoSame", spec := "protoSame", unfollowed := true, recurses := true, named := ["math/bits.deBruijn32tab"], plainKeys := false, apart := false, laid := [("math/bits.deBruijn32tab", laid_math_bits_deBruijn32tab)] }
def ProtoSameSaid : Prop := protoSameRow.holds Tryd.pinned (OpenSpec.ofChange protoSameSpec)

/-- ITS FALSE NEIGHBOUR: 'it returns false'. Refute it at one input. -/
def protoSameWrong : ChangeSpec := { name := "protoSame", fn := fun _ => fun
  | [d1, d2, d3] => { results := [.lit (.bool false)], args := [d1, d2, d3] }
  | _ => none }
def ProtoSameWrongFalsely : Prop := protoSameRow.holds Tryd.pinned (OpenSpec.ofChange protoSameWrong)

/-- 'ablautlaw24.ProtoTurned': WHATEVER THE INPUT: true; the input reads as it did. -/
def protoTurnedSpec : ChangeSpec := { name := "protoTurned", fn := fun _ => fun
  | [d1, d2] => { results := [.lit (.bool true)], args := [d1, d2] }
  | _ => none }
def protoTurnedRow : OpenClaim := { program := "ytdloabjnjnjacaadoor", sum := "7ccb992ad301fbf1a355ae8903286226bf0779702d40d317ffdf5c791fa42503", func := "ablaut/ablautlaw24.ProtoTurned", spec := "protoTurned", unfollowed := true, recurses := true, named := ["math/bits.deBruijn32tab"], plainKeys := false, apart := false, laid := [("math/bits.deBruijn32tab", laid_math_bits_deBruijn32tab)] }
def ProtoTurnedSaid : Prop := protoTurnedRow.holds Tryd.pinned (OpenSpec.ofChange protoTurnedSpec)

/-- ITS FALSE NEIGHBOUR: 'it returns false'. Refute it at one input. -/
def protoTurnedWrong : ChangeSpec := { name := "protoTurned", fn := fun _ => fun
  | [d1, d2] => { results := [.lit (.bool false)], args := [d1, d2] }
  | _ => none }
def ProtoTurnedWrongFalsely : Prop := protoTurnedRow.holds Tryd.pinned (OpenSpec.ofChange protoTurnedWrong)

/-- 'ablautlaw24.ProtoSums': WHATEVER THE INPUT: true; the input reads as it did. -/
def protoSumsSpec : ChangeSpec := { name := "protoSums", fn := fun _ => fun
  | [d1, d2] => { results := [.lit (.bool true)], args := [d1, d2] }
  | _ => none }
def protoSumsRow : OpenClaim := { program := "ytdloabjnjnjacaadoor", sum := "7ccb992ad301fbf1a355ae8903286226bf0779702d40d317ffdf5c791fa42503", func := "ablaut/ablautlaw24.ProtoSums", spec := "protoSums", unfollowed := true, recurses := true, named := ["math/bits.deBruijn32tab"], plainKeys := false, apart := false, laid := [("math/bits.deBruijn32tab", laid_math_bits_deBruijn32tab)] }
def ProtoSumsSaid : Prop := protoSumsRow.holds Tryd.pinned (OpenSpec.ofChange protoSumsSpec)

/-- ITS FALSE NEIGHBOUR: 'it returns false'. Refute it at one input. -/
def protoSumsWrong : ChangeSpec := { name := "protoSums", fn := fun _ => fun
  | [d1, d2] => { results := [.lit (.bool false)], args := [d1, d2] }
  | _ => none }
def ProtoSumsWrongFalsely : Prop := protoSumsRow.holds Tryd.pinned (OpenSpec.ofChange protoSumsWrong)

/-- 'ablautlaw24.ProtoNodes': WHATEVER THE INPUT: true; the input reads as it did. -/
def protoNodesSpec : ChangeSpec := { name := "protoNodes", fn := fun _ => fun
  | [d1, d2] => { results := [.lit (.bool true)], args := [d1, d2] }
  | _ => none }
def protoNodesRow : OpenClaim := { program := "ytdloabjnjnjacaadoor", sum := "7ccb992ad301fbf1a355ae8903286226bf0779702d40d317ffdf5c791fa42503", func := "ablaut/ablautlaw24.ProtoNodes", spec := "protoNodes", unfollowed := true, recurses := true, named := ["math/bits.deBruijn32tab"], plainKeys := false, apart := false, laid := [("math/bits.deBruijn32tab", laid_math_bits_deBruijn32tab)] }
def ProtoNodesSaid : Prop := protoNodesRow.holds Tryd.pinned (OpenSpec.ofChange protoNodesSpec)

/-- ITS FALSE NEIGHBOUR: 'it returns false'. Refute it at one input. -/
def protoNodesWrong : ChangeSpec := { name := "protoNodes", fn := fun _ => fun
  | [d1, d2] => { results := [.lit (.bool false)], args := [d1, d2] }
  | _ => none }
def ProtoNodesWrongFalsely : Prop := protoNodesRow.holds Tryd.pinned (OpenSpec.ofChange protoNodesWrong)

/-- 'ablautlaw24.ProtoCosts': WHATEVER THE INPUT: true; the input reads as it did. -/
def protoCostsSpec : ChangeSpec := { name := "protoCosts", fn := fun _ => fun
  | [d1, d2] => { results := [.lit (.bool true)], args := [d1, d2] }
  | _ => none }
def protoCostsRow : OpenClaim := { program := "ytdloabjnjnjacaadoor", sum := "7ccb992ad301fbf1a355ae8903286226bf0779702d40d317ffdf5c791fa42503", func := "ablaut/ablautlaw24.ProtoCosts", spec := "protoCosts", unfollowed := true, recurses := true, named := ["math/bits.deBruijn32tab"], plainKeys := false, apart := false, laid := [("math/bits.deBruijn32tab", laid_math_bits_deBruijn32tab)] }
def ProtoCostsSaid : Prop := protoCostsRow.holds Tryd.pinned (OpenSpec.ofChange protoCostsSpec)

/-- ITS FALSE NEIGHBOUR: 'it returns false'. Refute it at one input. -/
def protoCostsWrong : ChangeSpec := { name := "protoCosts", fn := fun _ => fun
  | [d1, d2] => { results := [.lit (.bool false)], args := [d1, d2] }
  | _ => none }
def ProtoCostsWrongFalsely : Prop := protoCostsRow.holds Tryd.pinned (OpenSpec.ofChange protoCostsWrong)

/-- 'ablautlaw24.ProtoLeast': WHATEVER THE INPUT: true; the input reads as it did. -/
def protoLeastSpec : ChangeSpec := { name := "protoLeast", fn := fun _ => fun
  | [d1, d2, d3] => { results := [.lit (.bool true)], args := [d1, d2, d3] }
  | _ => none }
def protoLeastRow : OpenClaim := { program := "ytdloabjnjnjacaadoor", sum := "7ccb992ad301fbf1a355ae8903286226bf0779702d40d317ffdf5c791fa42503", func := "ablaut/ablautlaw24.ProtoLeast", spec := "protoLeast", unfollowed := true, recurses := true, named := ["math/bits.deBruijn32tab"], plainKeys := false, apart := false, laid := [("math/bits.deBruijn32tab", laid_math_bits_deBruijn32tab)] }
def ProtoLeastSaid : Prop := protoLeastRow.holds Tryd.pinned (OpenSpec.ofChange protoLeastSpec)

/-- ITS FALSE NEIGHBOUR: 'it returns false'. Refute it at one input. -/
def protoLeastWrong : ChangeSpec := { name := "protoLeast", fn := fun _ => fun
  | [d1, d2, d3] => { results := [.lit (.bool false)], args := [d1, d2, d3] }
  | _ => none }
def ProtoLeastWrongFalsely : Prop := protoLeastRow.holds Tryd.pinned (OpenSpec.ofChange protoLeastWrong)

/-- 'ablautlaw24.ProtoAgrees': WHATEVER THE INPUT: true; the input reads as it did. -/
def protoAgreesSpec : ChangeSpec := { name := "protoAgrees", fn := fun _ => fun
  | [d1, d2] => { results := [.lit (.bool true)], args := [d1, d2] }
  | _ => none }
def protoAgreesRow : OpenClaim := { program := "ytdloabjnjnjacaadoor", sum := "7ccb992ad301fbf1a355ae8903286226bf0779702d40d317ffdf5c791fa42503", func := "ablaut/ablautlaw24.ProtoAgrees", spec := "protoAgrees", unfollowed := true, recurses := true, named := ["math/bits.deBruijn32tab"], plainKeys := false, apart := false, laid := [("math/bits.deBruijn32tab", laid_math_bits_deBruijn32tab)] }
def ProtoAgreesSaid : Prop := protoAgreesRow.holds Tryd.pinned (OpenSpec.ofChange protoAgreesSpec)

/-- ITS FALSE NEIGHBOUR: 'it returns false'. Refute it at one input. -/
def protoAgreesWrong : ChangeSpec := { name := "protoAgrees", fn := fun _ => fun
  | [d1, d2] => { results := [.lit (.bool false)], args := [d1, d2] }
  | _ => none }
def ProtoAgreesWrongFalsely : Prop := protoAgreesRow.holds Tryd.pinned (OpenSpec.ofChange protoAgreesWrong)

/-- 'ablautlaw24.ProtoCands': WHATEVER THE INPUT: true; the input reads as it did. -/
def protoCandsSpec : ChangeSpec := { name := "protoCands", fn := fun _ => fun
  | [d] => { results := [.lit (.bool true)], args := [d] }
  | _ => none }
def protoCandsRow : OpenClaim := { program := "ytdloabjnjnjacaadoor", sum := "7ccb992ad301fbf1a355ae8903286226bf0779702d40d317ffdf5c791fa42503", func := "ablaut/ablautlaw24.ProtoCands", spec := "protoCands", unfollowed := true, recurses := true, named := ["math/bits.deBruijn32tab"], plainKeys := false, apart := false, laid := [("math/bits.deBruijn32tab", laid_math_bits_deBruijn32tab)] }
def ProtoCandsSaid : Prop := protoCandsRow.holds Tryd.pinned (OpenSpec.ofChange protoCandsSpec)

/-- ITS FALSE NEIGHBOUR: 'it returns false'. Refute it at one input. -/
def protoCandsWrong : ChangeSpec := { name := "protoCands", fn := fun _ => fun
  | [d] => { results := [.lit (.bool false)], args := [d] }
  | _ => none }
def ProtoCandsWrongFalsely : Prop := protoCandsRow.holds Tryd.pinned (OpenSpec.ofChange protoCandsWrong)

/- THE SECOND FORM. 'bulk': how many values and letters a reading holds, each counted each time it is reached (what is shared counts as often as it is met; a slice's spare places count too). A statement '..UptoSaid' is the law's where the arguments, and the package variables that the reading takes, are together of bulk at most 1048576: NARROWER than '..Said'. Prove '..Said' where nothing that the law and all that it calls make is longer than what came in: it says more and counts as full. Else prove '..UptoSaid'. A law counts once. -/
mutual
def uptoBulk {H : Type} : DataW H → Nat
  | .lit (.string bytes) => bytes.length + 1
  | .lit _ => 1
  | .nil => 1
  | .ptr d => uptoBulk d + 1
  | .slice elems spare => uptoBulkAll elems + uptoBulkAll spare + 1
  | .agg parts => uptoBulkAll parts + 1
  | .iface _ d => uptoBulk d + 1
  | .map entries => uptoBulkEntries entries + 1
  | .held _ => 1
def uptoBulkAll {H : Type} : List (DataW H) → Nat
  | [] => 0
  | d :: r => uptoBulk d + uptoBulkAll r
def uptoBulkEntries {H : Type} : List (Lit × DataW H) → Nat
  | [] => 0
  | x :: r => uptoBulkEntry x + uptoBulkEntries r
def uptoBulkEntry {H : Type} : Lit × DataW H → Nat
  | (.string bytes, d) => bytes.length + uptoBulk d + 1
  | (_, d) => uptoBulk d + 1
 end
def uptoSmall : (H : Type) → List (DataW H) → Bool := fun _ ds => decide (uptoBulkAll ds ≤ 1048576)
def OpenSpec.upto (s : _root_.Go.ChangeSpec) : _root_.Go.OpenSpec := { _root_.Go.OpenSpec.ofChange s with cond := some uptoSmall }

/-- 'ablautlaw24.ProtoMatrices', WHERE WHAT IT READS IS OF BULK AT MOST 1048576: true; the input reads as it did. -/
def protoMatricesUptoRow : OpenClaim := { program := "ytdloabjnjnjacaadoor", sum := "7ccb992ad301fbf1a355ae8903286226bf0779702d40d317ffdf5c791fa42503", func := "ablaut/ablautlaw24.ProtoMatrices", spec := "protoMatrices", unfollowed := true, recurses := true, named := ["math/bits.deBruijn32tab"], plainKeys := false, apart := false, laid := [("math/bits.deBruijn32tab", laid_math_bits_deBruijn32tab)], narrowed := true }
def ProtoMatricesUptoSaid : Prop := protoMatricesUptoRow.holds Tryd.pinned (OpenSpec.upto protoMatricesSpec)

/-- 'ablautlaw24.ProtoCells', WHERE WHAT IT READS IS OF BULK AT MOST 1048576: true; the input reads as it did. -/
def protoCellsUptoRow : OpenClaim := { program := "ytdloabjnjnjacaadoor", sum := "7ccb992ad301fbf1a355ae8903286226bf0779702d40d317ffdf5c791fa42503", func := "ablaut/ablautlaw24.ProtoCells", spec := "protoCells", unfollowed := true, recurses := true, named := ["math/bits.deBruijn32tab"], plainKeys := false, apart := false, laid := [("math/bits.deBruijn32tab", laid_math_bits_deBruijn32tab)], narrowed := true }
def ProtoCellsUptoSaid : Prop := protoCellsUptoRow.holds Tryd.pinned (OpenSpec.upto protoCellsSpec)

/-- 'ablautlaw24.ProtoWords', WHERE WHAT IT READS IS OF BULK AT MOST 1048576: true; the input reads as it did. -/
def protoWordsUptoRow : OpenClaim := { program := "ytdloabjnjnjacaadoor", sum := "7ccb992ad301fbf1a355ae8903286226bf0779702d40d317ffdf5c791fa42503", func := "ablaut/ablautlaw24.ProtoWords", spec := "protoWords", unfollowed := true, recurses := true, named := ["math/bits.deBruijn32tab"], plainKeys := false, apart := false, laid := [("math/bits.deBruijn32tab", laid_math_bits_deBruijn32tab)], narrowed := true }
def ProtoWordsUptoSaid : Prop := protoWordsUptoRow.holds Tryd.pinned (OpenSpec.upto protoWordsSpec)

/-- 'ablautlaw24.ProtoSame', WHERE WHAT IT READS IS OF BULK AT MOST 1048576: true; the input reads as it did. -/
def protoSameUptoRow : OpenClaim := { program := "ytdloabjnjnjacaadoor", sum := "7ccb992ad301fbf1a355ae8903286226bf0779702d40d317ffdf5c791fa42503", func := "ablaut/ablautlaw24.ProtoSame", spec := "protoSame", unfollowed := true, recurses := true, named := ["math/bits.deBruijn32tab"], plainKeys := false, apart := false, laid := [("math/bits.deBruijn32tab", laid_math_bits_deBruijn32tab)], narrowed := true }
def ProtoSameUptoSaid : Prop := protoSameUptoRow.holds Tryd.pinned (OpenSpec.upto protoSameSpec)

/-- 'ablautlaw24.ProtoTurned', WHERE WHAT IT READS IS OF BULK AT MOST 1048576: true; the input reads as it did. -/
def protoTurnedUptoRow : OpenClaim := { program := "ytdloabjnjnjacaadoor", sum := "7ccb992ad301fbf1a355ae8903286226bf0779702d40d317ffdf5c791fa42503", func := "ablaut/ablautlaw24.ProtoTurned", spec := "protoTurned", unfollowed := true, recurses := true, named := ["math/bits.deBruijn32tab"], plainKeys := false, apart := false, laid := [("math/bits.deBruijn32tab", laid_math_bits_deBruijn32tab)], narrowed := true }
def ProtoTurnedUptoSaid : Prop := protoTurnedUptoRow.holds Tryd.pinned (OpenSpec.upto protoTurnedSpec)

/-- 'ablautlaw24.ProtoSums', WHERE WHAT IT READS IS OF BULK AT MOST 1048576: true; the input reads as it did. -/
def protoSumsUptoRow : OpenClaim := { program := "ytdloabjnjnjacaadoor", sum := "7ccb992ad301fbf1a355ae8903286226bf0779702d40d317ffdf5c791fa42503", func := "ablaut/ablautlaw24.ProtoSums", spec := "protoSums", unfollowed := true, recurses := true, named := ["math/bits.deBruijn32tab"], plainKeys := false, apart := false, laid := [("math/bits.deBruijn32tab", laid_math_bits_deBruijn32tab)], narrowed := true }
def ProtoSumsUptoSaid : Prop := protoSumsUptoRow.holds Tryd.pinned (OpenSpec.upto protoSumsSpec)

/-- 'ablautlaw24.ProtoNodes', WHERE WHAT IT READS IS OF BULK AT MOST 1048576: true; the input reads as it did. -/
def protoNodesUptoRow : OpenClaim := { program := "ytdloabjnjnjacaadoor", sum := "7ccb992ad301fbf1a355ae8903286226bf0779702d40d317ffdf5c791fa42503", func := "ablaut/ablautlaw24.ProtoNodes", spec := "protoNodes", unfollowed := true, recurses := true, named := ["math/bits.deBruijn32tab"], plainKeys := false, apart := false, laid := [("math/bits.deBruijn32tab", laid_math_bits_deBruijn32tab)], narrowed := true }
def ProtoNodesUptoSaid : Prop := protoNodesUptoRow.holds Tryd.pinned (OpenSpec.upto protoNodesSpec)

/-- 'ablautlaw24.ProtoCosts', WHERE WHAT IT READS IS OF BULK AT MOST 1048576: true; the input reads as it did. -/
def protoCostsUptoRow : OpenClaim := { program := "ytdloabjnjnjacaadoor", sum := "7ccb992ad301fbf1a355ae8903286226bf0779702d40d317ffdf5c791fa42503", func := "ablaut/ablautlaw24.ProtoCosts", spec := "protoCosts", unfollowed := true, recurses := true, named := ["math/bits.deBruijn32tab"], plainKeys := false, apart := false, laid := [("math/bits.deBruijn32tab", laid_math_bits_deBruijn32tab)], narrowed := true }
def ProtoCostsUptoSaid : Prop := protoCostsUptoRow.holds Tryd.pinned (OpenSpec.upto protoCostsSpec)

/-- 'ablautlaw24.ProtoLeast', WHERE WHAT IT READS IS OF BULK AT MOST 1048576: true; the input reads as it did. -/
def protoLeastUptoRow : OpenClaim := { program := "ytdloabjnjnjacaadoor", sum := "7ccb992ad301fbf1a355ae8903286226bf0779702d40d317ffdf5c791fa42503", func := "ablaut/ablautlaw24.ProtoLeast", spec := "protoLeast", unfollowed := true, recurses := true, named := ["math/bits.deBruijn32tab"], plainKeys := false, apart := false, laid := [("math/bits.deBruijn32tab", laid_math_bits_deBruijn32tab)], narrowed := true }
def ProtoLeastUptoSaid : Prop := protoLeastUptoRow.holds Tryd.pinned (OpenSpec.upto protoLeastSpec)

/-- 'ablautlaw24.ProtoAgrees', WHERE WHAT IT READS IS OF BULK AT MOST 1048576: true; the input reads as it did. -/
def protoAgreesUptoRow : OpenClaim := { program := "ytdloabjnjnjacaadoor", sum := "7ccb992ad301fbf1a355ae8903286226bf0779702d40d317ffdf5c791fa42503", func := "ablaut/ablautlaw24.ProtoAgrees", spec := "protoAgrees", unfollowed := true, recurses := true, named := ["math/bits.deBruijn32tab"], plainKeys := false, apart := false, laid := [("math/bits.deBruijn32tab", laid_math_bits_deBruijn32tab)], narrowed := true }
def ProtoAgreesUptoSaid : Prop := protoAgreesUptoRow.holds Tryd.pinned (OpenSpec.upto protoAgreesSpec)

/-- 'ablautlaw24.ProtoCands', WHERE WHAT IT READS IS OF BULK AT MOST 1048576: true; the input reads as it did. -/
def protoCandsUptoRow : OpenClaim := { program := "ytdloabjnjnjacaadoor", sum := "7ccb992ad301fbf1a355ae8903286226bf0779702d40d317ffdf5c791fa42503", func := "ablaut/ablautlaw24.ProtoCands", spec := "protoCands", unfollowed := true, recurses := true, named := ["math/bits.deBruijn32tab"], plainKeys := false, apart := false, laid := [("math/bits.deBruijn32tab", laid_math_bits_deBruijn32tab)], narrowed := true }
def ProtoCandsUptoSaid : Prop := protoCandsUptoRow.holds Tryd.pinned (OpenSpec.upto protoCandsSpec)

end Rows
end Go.Proofs.YtdloabjnjnjacaaDoor
