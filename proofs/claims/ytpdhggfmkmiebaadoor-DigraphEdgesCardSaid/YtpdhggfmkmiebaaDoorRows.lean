/-
  NARROWER THAN 'FOR EVERY INPUT', by the rows' own cells (each row's printed sentence says how): DigraphReach: laid · DigraphThin: laid · DigraphTurned: laid · DigraphSets: laid · DigraphPrefixes: laid · DigraphOrder: laid · DigraphEdges: laid · DigraphLevels: laid.
  DERIVED. THE GIVEN ROWS OF THIS SEAT. 8 by the template 'for every input the law returns true; each argument reads behind the call as it read before'; 0 by the template 'total and deterministic' (their statements: YtpdhggfmkmiebaaDoorTotals.lean).
  GIVEN WITH THE SEED: the statements are not yours to turn. If you find one false, say at which input.
  Laid BY PROGRAM, IN A SANDBOX (cutbox-rows.mjs): the forced cells as the released guide's own fill.sh prints them over the translation 9361f5c9fa65a34e… (all of the seat's roots in one cut). By AI agents, Wed Nov 11 2026. No macro, syntax, notation, axiom, sorry.
-/
import Derived.Test.YtpdhggfmkmiebaaDoorChecked
import GoSem.Claim
import GoSem.ClaimJoined
import GoSem.ClaimMapViews
import Derived.JoinedTies
import Derived.KernelRfl
namespace Go.Proofs.YtpdhggfmkmiebaaDoor
/- THE CELL 'sum', in the pinned program and in every row, IS THE sha256 OF THE DUMP (.gsa) THAT YtpdhggfmkmiebaaDoorProg.lean LOADS. Nothing in Lean hashes anything: it is a label: what it is worth is what the hold of that sum in a sandbox is worth. -/
noncomputable def Tryd.pinned : Pinned := { name := "ytpdhggfmkmiebaadoor", sum := "9361f5c9fa65a34e78081f85de11a649f3a8301d8e0a7b12f8129b0b404d54c2", checked := Tryd.checked }
namespace Rows
def none {H : Type} : Left H := { results := [], args := [] }

/- WHAT THE LISTED PACKAGE-LEVEL VARIABLES READ AS WHEN THE CALL BEGINS. Each datum BY PROGRAM (the guide's laid-datum.mjs) off the statement by which the dump's own 'gosem.cut.vars' lays the variable. In a bare row this is a premise. The card (YtpdhggfmkmiebaaDoorCards.lean) ties it to the program's text. -/
def laid_math_bits_deBruijn64tab {H : Type} : DataW H := .agg [.lit (.int .u8 0), .lit (.int .u8 1), .lit (.int .u8 56), .lit (.int .u8 2), .lit (.int .u8 57), .lit (.int .u8 49), .lit (.int .u8 28), .lit (.int .u8 3), .lit (.int .u8 61), .lit (.int .u8 58), .lit (.int .u8 42), .lit (.int .u8 50), .lit (.int .u8 38), .lit (.int .u8 29), .lit (.int .u8 17), .lit (.int .u8 4), .lit (.int .u8 62), .lit (.int .u8 47), .lit (.int .u8 59), .lit (.int .u8 36), .lit (.int .u8 45), .lit (.int .u8 43), .lit (.int .u8 51), .lit (.int .u8 22), .lit (.int .u8 53), .lit (.int .u8 39), .lit (.int .u8 33), .lit (.int .u8 30), .lit (.int .u8 24), .lit (.int .u8 18), .lit (.int .u8 12), .lit (.int .u8 5), .lit (.int .u8 63), .lit (.int .u8 55), .lit (.int .u8 48), .lit (.int .u8 27), .lit (.int .u8 60), .lit (.int .u8 41), .lit (.int .u8 37), .lit (.int .u8 16), .lit (.int .u8 46), .lit (.int .u8 35), .lit (.int .u8 44), .lit (.int .u8 21), .lit (.int .u8 52), .lit (.int .u8 32), .lit (.int .u8 23), .lit (.int .u8 11), .lit (.int .u8 54), .lit (.int .u8 26), .lit (.int .u8 40), .lit (.int .u8 15), .lit (.int .u8 34), .lit (.int .u8 20), .lit (.int .u8 31), .lit (.int .u8 10), .lit (.int .u8 25), .lit (.int .u8 14), .lit (.int .u8 19), .lit (.int .u8 9), .lit (.int .u8 13), .lit (.int .u8 8), .lit (.int .u8 7), .lit (.int .u8 6)]

/-- 'slipwaylaw03.DigraphReach': WHATEVER THE INPUT: true; the input reads as it did. -/
def digraphReachSpec : ChangeSpec := { name := "digraphReach", fn := fun _ => fun
  | [d] => { results := [.lit (.bool true)], args := [d] }
  | _ => none }
def digraphReachRow : OpenClaim := { program := "ytpdhggfmkmiebaadoor", sum := "9361f5c9fa65a34e78081f85de11a649f3a8301d8e0a7b12f8129b0b404d54c2", func := "slipway/slipwaylaw03.DigraphReach", spec := "digraphReach", named := ["math/bits.deBruijn64tab"], apart := false, laid := [("math/bits.deBruijn64tab", laid_math_bits_deBruijn64tab)] }
def DigraphReachSaid : Prop := digraphReachRow.holds Tryd.pinned (OpenSpec.ofChange digraphReachSpec)

/-- ITS FALSE NEIGHBOUR: 'it returns false'. Refute it at one input. -/
def digraphReachWrong : ChangeSpec := { name := "digraphReach", fn := fun _ => fun
  | [d] => { results := [.lit (.bool false)], args := [d] }
  | _ => none }
def DigraphReachWrongFalsely : Prop := digraphReachRow.holds Tryd.pinned (OpenSpec.ofChange digraphReachWrong)

/-- 'slipwaylaw03.DigraphThin': WHATEVER THE INPUT: true; the input reads as it did. -/
def digraphThinSpec : ChangeSpec := { name := "digraphThin", fn := fun _ => fun
  | [d] => { results := [.lit (.bool true)], args := [d] }
  | _ => none }
def digraphThinRow : OpenClaim := { program := "ytpdhggfmkmiebaadoor", sum := "9361f5c9fa65a34e78081f85de11a649f3a8301d8e0a7b12f8129b0b404d54c2", func := "slipway/slipwaylaw03.DigraphThin", spec := "digraphThin", named := ["math/bits.deBruijn64tab"], apart := false, laid := [("math/bits.deBruijn64tab", laid_math_bits_deBruijn64tab)] }
def DigraphThinSaid : Prop := digraphThinRow.holds Tryd.pinned (OpenSpec.ofChange digraphThinSpec)

/-- ITS FALSE NEIGHBOUR: 'it returns false'. Refute it at one input. -/
def digraphThinWrong : ChangeSpec := { name := "digraphThin", fn := fun _ => fun
  | [d] => { results := [.lit (.bool false)], args := [d] }
  | _ => none }
def DigraphThinWrongFalsely : Prop := digraphThinRow.holds Tryd.pinned (OpenSpec.ofChange digraphThinWrong)

/-- 'slipwaylaw03.DigraphTurned': WHATEVER THE INPUT: true; the input reads as it did. -/
def digraphTurnedSpec : ChangeSpec := { name := "digraphTurned", fn := fun _ => fun
  | [d] => { results := [.lit (.bool true)], args := [d] }
  | _ => none }
def digraphTurnedRow : OpenClaim := { program := "ytpdhggfmkmiebaadoor", sum := "9361f5c9fa65a34e78081f85de11a649f3a8301d8e0a7b12f8129b0b404d54c2", func := "slipway/slipwaylaw03.DigraphTurned", spec := "digraphTurned", named := ["math/bits.deBruijn64tab"], apart := false, laid := [("math/bits.deBruijn64tab", laid_math_bits_deBruijn64tab)] }
def DigraphTurnedSaid : Prop := digraphTurnedRow.holds Tryd.pinned (OpenSpec.ofChange digraphTurnedSpec)

/-- ITS FALSE NEIGHBOUR: 'it returns false'. Refute it at one input. -/
def digraphTurnedWrong : ChangeSpec := { name := "digraphTurned", fn := fun _ => fun
  | [d] => { results := [.lit (.bool false)], args := [d] }
  | _ => none }
def DigraphTurnedWrongFalsely : Prop := digraphTurnedRow.holds Tryd.pinned (OpenSpec.ofChange digraphTurnedWrong)

/-- 'slipwaylaw03.DigraphSets': WHATEVER THE INPUT: true; the input reads as it did. -/
def digraphSetsSpec : ChangeSpec := { name := "digraphSets", fn := fun _ => fun
  | [d1, d2] => { results := [.lit (.bool true)], args := [d1, d2] }
  | _ => none }
def digraphSetsRow : OpenClaim := { program := "ytpdhggfmkmiebaadoor", sum := "9361f5c9fa65a34e78081f85de11a649f3a8301d8e0a7b12f8129b0b404d54c2", func := "slipway/slipwaylaw03.DigraphSets", spec := "digraphSets", named := ["math/bits.deBruijn64tab"], apart := false, laid := [("math/bits.deBruijn64tab", laid_math_bits_deBruijn64tab)] }
def DigraphSetsSaid : Prop := digraphSetsRow.holds Tryd.pinned (OpenSpec.ofChange digraphSetsSpec)

/-- ITS FALSE NEIGHBOUR: 'it returns false'. Refute it at one input. -/
def digraphSetsWrong : ChangeSpec := { name := "digraphSets", fn := fun _ => fun
  | [d1, d2] => { results := [.lit (.bool false)], args := [d1, d2] }
  | _ => none }
def DigraphSetsWrongFalsely : Prop := digraphSetsRow.holds Tryd.pinned (OpenSpec.ofChange digraphSetsWrong)

/-- 'slipwaylaw03.DigraphPrefixes': WHATEVER THE INPUT: true; the input reads as it did. -/
def digraphPrefixesSpec : ChangeSpec := { name := "digraphPrefixes", fn := fun _ => fun
  | [d] => { results := [.lit (.bool true)], args := [d] }
  | _ => none }
def digraphPrefixesRow : OpenClaim := { program := "ytpdhggfmkmiebaadoor", sum := "9361f5c9fa65a34e78081f85de11a649f3a8301d8e0a7b12f8129b0b404d54c2", func := "slipway/slipwaylaw03.DigraphPrefixes", spec := "digraphPrefixes", named := ["math/bits.deBruijn64tab"], apart := false, laid := [("math/bits.deBruijn64tab", laid_math_bits_deBruijn64tab)] }
def DigraphPrefixesSaid : Prop := digraphPrefixesRow.holds Tryd.pinned (OpenSpec.ofChange digraphPrefixesSpec)

/-- ITS FALSE NEIGHBOUR: 'it returns false'. Refute it at one input. -/
def digraphPrefixesWrong : ChangeSpec := { name := "digraphPrefixes", fn := fun _ => fun
  | [d] => { results := [.lit (.bool false)], args := [d] }
  | _ => none }
def DigraphPrefixesWrongFalsely : Prop := digraphPrefixesRow.holds Tryd.pinned (OpenSpec.ofChange digraphPrefixesWrong)

/-- 'slipwaylaw03.DigraphOrder': WHATEVER THE INPUT: true; the input reads as it did. -/
def digraphOrderSpec : ChangeSpec := { name := "digraphOrder", fn := fun _ => fun
  | [d] => { results := [.lit (.bool true)], args := [d] }
  | _ => none }
def digraphOrderRow : OpenClaim := { program := "ytpdhggfmkmiebaadoor", sum := "9361f5c9fa65a34e78081f85de11a649f3a8301d8e0a7b12f8129b0b404d54c2", func := "slipway/slipwaylaw03.DigraphOrder", spec := "digraphOrder", named := ["math/bits.deBruijn64tab"], apart := false, laid := [("math/bits.deBruijn64tab", laid_math_bits_deBruijn64tab)] }
def DigraphOrderSaid : Prop := digraphOrderRow.holds Tryd.pinned (OpenSpec.ofChange digraphOrderSpec)

/-- ITS FALSE NEIGHBOUR: 'it returns false'. Refute it at one input. -/
def digraphOrderWrong : ChangeSpec := { name := "digraphOrder", fn := fun _ => fun
  | [d] => { results := [.lit (.bool false)], args := [d] }
  | _ => none }
def DigraphOrderWrongFalsely : Prop := digraphOrderRow.holds Tryd.pinned (OpenSpec.ofChange digraphOrderWrong)

/-- 'slipwaylaw03.DigraphEdges': WHATEVER THE INPUT: true; the input reads as it did. -/
def digraphEdgesSpec : ChangeSpec := { name := "digraphEdges", fn := fun _ => fun
  | [d1, d2, d3] => { results := [.lit (.bool true)], args := [d1, d2, d3] }
  | _ => none }
def digraphEdgesRow : OpenClaim := { program := "ytpdhggfmkmiebaadoor", sum := "9361f5c9fa65a34e78081f85de11a649f3a8301d8e0a7b12f8129b0b404d54c2", func := "slipway/slipwaylaw03.DigraphEdges", spec := "digraphEdges", named := ["math/bits.deBruijn64tab"], apart := false, laid := [("math/bits.deBruijn64tab", laid_math_bits_deBruijn64tab)] }
def DigraphEdgesSaid : Prop := digraphEdgesRow.holds Tryd.pinned (OpenSpec.ofChange digraphEdgesSpec)

/-- ITS FALSE NEIGHBOUR: 'it returns false'. Refute it at one input. -/
def digraphEdgesWrong : ChangeSpec := { name := "digraphEdges", fn := fun _ => fun
  | [d1, d2, d3] => { results := [.lit (.bool false)], args := [d1, d2, d3] }
  | _ => none }
def DigraphEdgesWrongFalsely : Prop := digraphEdgesRow.holds Tryd.pinned (OpenSpec.ofChange digraphEdgesWrong)

/-- 'slipwaylaw03.DigraphLevels': WHATEVER THE INPUT: true; the input reads as it did. -/
def digraphLevelsSpec : ChangeSpec := { name := "digraphLevels", fn := fun _ => fun
  | [d] => { results := [.lit (.bool true)], args := [d] }
  | _ => none }
def digraphLevelsRow : OpenClaim := { program := "ytpdhggfmkmiebaadoor", sum := "9361f5c9fa65a34e78081f85de11a649f3a8301d8e0a7b12f8129b0b404d54c2", func := "slipway/slipwaylaw03.DigraphLevels", spec := "digraphLevels", named := ["math/bits.deBruijn64tab"], apart := false, laid := [("math/bits.deBruijn64tab", laid_math_bits_deBruijn64tab)] }
def DigraphLevelsSaid : Prop := digraphLevelsRow.holds Tryd.pinned (OpenSpec.ofChange digraphLevelsSpec)

/-- ITS FALSE NEIGHBOUR: 'it returns false'. Refute it at one input. -/
def digraphLevelsWrong : ChangeSpec := { name := "digraphLevels", fn := fun _ => fun
  | [d] => { results := [.lit (.bool false)], args := [d] }
  | _ => none }
def DigraphLevelsWrongFalsely : Prop := digraphLevelsRow.holds Tryd.pinned (OpenSpec.ofChange digraphLevelsWrong)

/- THE SECOND FORM. 'bulk': how many values and letters a reading holds, each counted each time it is reached (what is shared counts as often as it is met; a slice's spare places count too). A statement '..UptoSaid' is the law's where the arguments, and the package variables that the reading takes, are together of bulk at most 1048576: NARROWER than '..Said'. Prove '..Said' where nothing that the law and all that it calls make is longer than what came in: it says more and counts as full. Else prove '..UptoSaid'. A law counts once. -/
mutual
def uptoBulk {H : Type} : DataW H → Nat
  | .lit (.string bytes) => bytes.length + 1
  | .lit _ => 1
  | .nil => 1
  | .ptr d => uptoBulk d + 1
  | .slice elems spare => uptoBulkAll elems + uptoBulkAll spare + 1
  | .agg parts => uptoBulkAll parts + 1
  | .iface _ d => uptoBulk d + 1
  | .map entries => uptoBulkEntries entries + 1
  | .held _ => 1
def uptoBulkAll {H : Type} : List (DataW H) → Nat
  | [] => 0
  | d :: r => uptoBulk d + uptoBulkAll r
def uptoBulkEntries {H : Type} : List (Lit × DataW H) → Nat
  | [] => 0
  | x :: r => uptoBulkEntry x + uptoBulkEntries r
def uptoBulkEntry {H : Type} : Lit × DataW H → Nat
  | (.string bytes, d) => bytes.length + uptoBulk d + 1
  | (_, d) => uptoBulk d + 1
 end
def uptoSmall : (H : Type) → List (DataW H) → Bool := fun _ ds => decide (uptoBulkAll ds ≤ 1048576)
def OpenSpec.upto (s : _root_.Go.ChangeSpec) : _root_.Go.OpenSpec := { _root_.Go.OpenSpec.ofChange s with cond := some uptoSmall }

/-- 'slipwaylaw03.DigraphReach', WHERE WHAT IT READS IS OF BULK AT MOST 1048576: true; the input reads as it did. -/
def digraphReachUptoRow : OpenClaim := { program := "ytpdhggfmkmiebaadoor", sum := "9361f5c9fa65a34e78081f85de11a649f3a8301d8e0a7b12f8129b0b404d54c2", func := "slipway/slipwaylaw03.DigraphReach", spec := "digraphReach", named := ["math/bits.deBruijn64tab"], apart := false, laid := [("math/bits.deBruijn64tab", laid_math_bits_deBruijn64tab)], narrowed := true }
def DigraphReachUptoSaid : Prop := digraphReachUptoRow.holds Tryd.pinned (OpenSpec.upto digraphReachSpec)

/-- 'slipwaylaw03.DigraphThin', WHERE WHAT IT READS IS OF BULK AT MOST 1048576: true; the input reads as it did. -/
def digraphThinUptoRow : OpenClaim := { program := "ytpdhggfmkmiebaadoor", sum := "9361f5c9fa65a34e78081f85de11a649f3a8301d8e0a7b12f8129b0b404d54c2", func := "slipway/slipwaylaw03.DigraphThin", spec := "digraphThin", named := ["math/bits.deBruijn64tab"], apart := false, laid := [("math/bits.deBruijn64tab", laid_math_bits_deBruijn64tab)], narrowed := true }
def DigraphThinUptoSaid : Prop := digraphThinUptoRow.holds Tryd.pinned (OpenSpec.upto digraphThinSpec)

/-- 'slipwaylaw03.DigraphTurned', WHERE WHAT IT READS IS OF BULK AT MOST 1048576: true; the input reads as it did. -/
def digraphTurnedUptoRow : OpenClaim := { program := "ytpdhggfmkmiebaadoor", sum := "9361f5c9fa65a34e78081f85de11a649f3a8301d8e0a7b12f8129b0b404d54c2", func := "slipway/slipwaylaw03.DigraphTurned", spec := "digraphTurned", named := ["math/bits.deBruijn64tab"], apart := false, laid := [("math/bits.deBruijn64tab", laid_math_bits_deBruijn64tab)], narrowed := true }
def DigraphTurnedUptoSaid : Prop := digraphTurnedUptoRow.holds Tryd.pinned (OpenSpec.upto digraphTurnedSpec)

/-- 'slipwaylaw03.DigraphSets', WHERE WHAT IT READS IS OF BULK AT MOST 1048576: true; the input reads as it did. -/
def digraphSetsUptoRow : OpenClaim := { program := "ytpdhggfmkmiebaadoor", sum := "9361f5c9fa65a34e78081f85de11a649f3a8301d8e0a7b12f8129b0b404d54c2", func := "slipway/slipwaylaw03.DigraphSets", spec := "digraphSets", named := ["math/bits.deBruijn64tab"], apart := false, laid := [("math/bits.deBruijn64tab", laid_math_bits_deBruijn64tab)], narrowed := true }
def DigraphSetsUptoSaid : Prop := digraphSetsUptoRow.holds Tryd.pinned (OpenSpec.upto digraphSetsSpec)

/-- 'slipwaylaw03.DigraphPrefixes', WHERE WHAT IT READS IS OF BULK AT MOST 1048576: true; the input reads as it did. -/
def digraphPrefixesUptoRow : OpenClaim := { program := "ytpdhggfmkmiebaadoor", sum := "9361f5c9fa65a34e78081f85de11a649f3a8301d8e0a7b12f8129b0b404d54c2", func := "slipway/slipwaylaw03.DigraphPrefixes", spec := "digraphPrefixes", named := ["math/bits.deBruijn64tab"], apart := false, laid := [("math/bits.deBruijn64tab", laid_math_bits_deBruijn64tab)], narrowed := true }
def DigraphPrefixesUptoSaid : Prop := digraphPrefixesUptoRow.holds Tryd.pinned (OpenSpec.upto digraphPrefixesSpec)

/-- 'slipwaylaw03.DigraphOrder', WHERE WHAT IT READS IS OF BULK AT MOST 1048576: true; the input reads as it did. -/
def digraphOrderUptoRow : OpenClaim := { program := "ytpdhggfmkmiebaadoor", sum := "9361f5c9fa65a34e78081f85de11a649f3a8301d8e0a7b12f8129b0b404d54c2", func := "slipway/slipwaylaw03.DigraphOrder", spec := "digraphOrder", named := ["math/bits.deBruijn64tab"], apart := false, laid := [("math/bits.deBruijn64tab", laid_math_bits_deBruijn64tab)], narrowed := true }
def DigraphOrderUptoSaid : Prop := digraphOrderUptoRow.holds Tryd.pinned (OpenSpec.upto digraphOrderSpec)

/-- 'slipwaylaw03.DigraphEdges', WHERE WHAT IT READS IS OF BULK AT MOST 1048576: true; the input reads as it did. -/
def digraphEdgesUptoRow : OpenClaim := { program := "ytpdhggfmkmiebaadoor", sum := "9361f5c9fa65a34e78081f85de11a649f3a8301d8e0a7b12f8129b0b404d54c2", func := "slipway/slipwaylaw03.DigraphEdges", spec := "digraphEdges", named := ["math/bits.deBruijn64tab"], apart := false, laid := [("math/bits.deBruijn64tab", laid_math_bits_deBruijn64tab)], narrowed := true }
def DigraphEdgesUptoSaid : Prop := digraphEdgesUptoRow.holds Tryd.pinned (OpenSpec.upto digraphEdgesSpec)

/-- 'slipwaylaw03.DigraphLevels', WHERE WHAT IT READS IS OF BULK AT MOST 1048576: true; the input reads as it did. -/
def digraphLevelsUptoRow : OpenClaim := { program := "ytpdhggfmkmiebaadoor", sum := "9361f5c9fa65a34e78081f85de11a649f3a8301d8e0a7b12f8129b0b404d54c2", func := "slipway/slipwaylaw03.DigraphLevels", spec := "digraphLevels", named := ["math/bits.deBruijn64tab"], apart := false, laid := [("math/bits.deBruijn64tab", laid_math_bits_deBruijn64tab)], narrowed := true }
def DigraphLevelsUptoSaid : Prop := digraphLevelsUptoRow.holds Tryd.pinned (OpenSpec.upto digraphLevelsSpec)

end Rows
end Go.Proofs.YtpdhggfmkmiebaaDoor
