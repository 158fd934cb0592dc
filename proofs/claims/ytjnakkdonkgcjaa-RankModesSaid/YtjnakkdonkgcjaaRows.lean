/-
  No cell of these rows narrows 'for every input' (looked for: loops, veiled, ifaces, maps, wideKeys, modest, calm, conditions, laid).
  DERIVED. THE GIVEN ROWS OF THIS SEAT. 8 by the template 'for every input the law returns true; each argument reads behind the call as it read before'; 0 by the template 'total and deterministic' (their statements: YtjnakkdonkgcjaaTotals.lean).
  GIVEN WITH THE SEED: the statements are not yours to turn. If you find one false, say at which input.
  Laid BY PROGRAM, IN A SANDBOX (cutbox-rows.mjs): the forced cells as the released guide's own fill.sh prints them over the translation 64af6f20f8e57c20… (all of the seat's roots in one cut). By AI agents, Wed Nov 11 2026. No macro, syntax, notation, axiom, sorry.
-/
import Derived.Test.YtjnakkdonkgcjaaChecked
import GoSem.Claim
import GoSem.ClaimJoined
import GoSem.ClaimMapViews
import Derived.JoinedTies
import Derived.KernelRfl
namespace Go.Proofs.Ytjnakkdonkgcjaa
/- THE CELL 'sum', in the pinned program and in every row, IS THE sha256 OF THE DUMP (.gsa) THAT YtjnakkdonkgcjaaProg.lean LOADS. Nothing in Lean hashes anything: it is a label: what it is worth is what the hold of that sum in a sandbox is worth. -/
noncomputable def Try.pinned : Pinned := { name := "ytjnakkdonkgcjaa", sum := "64af6f20f8e57c20bc0dbb22a235b1985bf46b2353017ee2c76166a3aa1b4c6f", checked := Try.checked }
namespace Rows
def none {H : Type} : Left H := { results := [], args := [] }

/-- 'slipwaylaw05.RankOrders': WHATEVER THE INPUT: true; the input reads as it did. -/
def rankOrdersSpec : ChangeSpec := { name := "rankOrders", fn := fun _ => fun
  | [d1, d2, d3] => { results := [.lit (.bool true)], args := [d1, d2, d3] }
  | _ => none }
def rankOrdersRow : OpenClaim := { program := "ytjnakkdonkgcjaa", sum := "64af6f20f8e57c20bc0dbb22a235b1985bf46b2353017ee2c76166a3aa1b4c6f", func := "slipway/slipwaylaw05.RankOrders", spec := "rankOrders", unfollowed := true, recurses := true, apart := false }
def RankOrdersSaid : Prop := rankOrdersRow.holds Try.pinned (OpenSpec.ofChange rankOrdersSpec)

/-- ITS FALSE NEIGHBOUR: 'it returns false'. Refute it at one input. -/
def rankOrdersWrong : ChangeSpec := { name := "rankOrders", fn := fun _ => fun
  | [d1, d2, d3] => { results := [.lit (.bool false)], args := [d1, d2, d3] }
  | _ => none }
def RankOrdersWrongFalsely : Prop := rankOrdersRow.holds Try.pinned (OpenSpec.ofChange rankOrdersWrong)

/-- 'slipwaylaw05.RankModes': WHATEVER THE INPUT: true; the input reads as it did. -/
def rankModesSpec : ChangeSpec := { name := "rankModes", fn := fun _ => fun
  | [d1, d2] => { results := [.lit (.bool true)], args := [d1, d2] }
  | _ => none }
def rankModesRow : OpenClaim := { program := "ytjnakkdonkgcjaa", sum := "64af6f20f8e57c20bc0dbb22a235b1985bf46b2353017ee2c76166a3aa1b4c6f", func := "slipway/slipwaylaw05.RankModes", spec := "rankModes", unfollowed := true, recurses := true, apart := false }
def RankModesSaid : Prop := rankModesRow.holds Try.pinned (OpenSpec.ofChange rankModesSpec)

/-- ITS FALSE NEIGHBOUR: 'it returns false'. Refute it at one input. -/
def rankModesWrong : ChangeSpec := { name := "rankModes", fn := fun _ => fun
  | [d1, d2] => { results := [.lit (.bool false)], args := [d1, d2] }
  | _ => none }
def RankModesWrongFalsely : Prop := rankModesRow.holds Try.pinned (OpenSpec.ofChange rankModesWrong)

/-- 'slipwaylaw05.RankRanks': WHATEVER THE INPUT: true; the input reads as it did. -/
def rankRanksSpec : ChangeSpec := { name := "rankRanks", fn := fun _ => fun
  | [d] => { results := [.lit (.bool true)], args := [d] }
  | _ => none }
def rankRanksRow : OpenClaim := { program := "ytjnakkdonkgcjaa", sum := "64af6f20f8e57c20bc0dbb22a235b1985bf46b2353017ee2c76166a3aa1b4c6f", func := "slipway/slipwaylaw05.RankRanks", spec := "rankRanks", unfollowed := true, recurses := true, apart := false }
def RankRanksSaid : Prop := rankRanksRow.holds Try.pinned (OpenSpec.ofChange rankRanksSpec)

/-- ITS FALSE NEIGHBOUR: 'it returns false'. Refute it at one input. -/
def rankRanksWrong : ChangeSpec := { name := "rankRanks", fn := fun _ => fun
  | [d] => { results := [.lit (.bool false)], args := [d] }
  | _ => none }
def RankRanksWrongFalsely : Prop := rankRanksRow.holds Try.pinned (OpenSpec.ofChange rankRanksWrong)

/-- 'slipwaylaw05.RankCompares': WHATEVER THE INPUT: true; the input reads as it did. -/
def rankComparesSpec : ChangeSpec := { name := "rankCompares", fn := fun _ => fun
  | [d1, d2] => { results := [.lit (.bool true)], args := [d1, d2] }
  | _ => none }
def rankComparesRow : OpenClaim := { program := "ytjnakkdonkgcjaa", sum := "64af6f20f8e57c20bc0dbb22a235b1985bf46b2353017ee2c76166a3aa1b4c6f", func := "slipway/slipwaylaw05.RankCompares", spec := "rankCompares", unfollowed := true, recurses := true, apart := false }
def RankComparesSaid : Prop := rankComparesRow.holds Try.pinned (OpenSpec.ofChange rankComparesSpec)

/-- ITS FALSE NEIGHBOUR: 'it returns false'. Refute it at one input. -/
def rankComparesWrong : ChangeSpec := { name := "rankCompares", fn := fun _ => fun
  | [d1, d2] => { results := [.lit (.bool false)], args := [d1, d2] }
  | _ => none }
def RankComparesWrongFalsely : Prop := rankComparesRow.holds Try.pinned (OpenSpec.ofChange rankComparesWrong)

/-- 'slipwaylaw05.RankNth': WHATEVER THE INPUT: true; the input reads as it did. -/
def rankNthSpec : ChangeSpec := { name := "rankNth", fn := fun _ => fun
  | [d1, d2] => { results := [.lit (.bool true)], args := [d1, d2] }
  | _ => none }
def rankNthRow : OpenClaim := { program := "ytjnakkdonkgcjaa", sum := "64af6f20f8e57c20bc0dbb22a235b1985bf46b2353017ee2c76166a3aa1b4c6f", func := "slipway/slipwaylaw05.RankNth", spec := "rankNth", unfollowed := true, recurses := true, apart := false }
def RankNthSaid : Prop := rankNthRow.holds Try.pinned (OpenSpec.ofChange rankNthSpec)

/-- ITS FALSE NEIGHBOUR: 'it returns false'. Refute it at one input. -/
def rankNthWrong : ChangeSpec := { name := "rankNth", fn := fun _ => fun
  | [d1, d2] => { results := [.lit (.bool false)], args := [d1, d2] }
  | _ => none }
def RankNthWrongFalsely : Prop := rankNthRow.holds Try.pinned (OpenSpec.ofChange rankNthWrong)

/-- 'slipwaylaw05.RankIndex': WHATEVER THE INPUT: true; the input reads as it did. -/
def rankIndexSpec : ChangeSpec := { name := "rankIndex", fn := fun _ => fun
  | [d1, d2] => { results := [.lit (.bool true)], args := [d1, d2] }
  | _ => none }
def rankIndexRow : OpenClaim := { program := "ytjnakkdonkgcjaa", sum := "64af6f20f8e57c20bc0dbb22a235b1985bf46b2353017ee2c76166a3aa1b4c6f", func := "slipway/slipwaylaw05.RankIndex", spec := "rankIndex", unfollowed := true, recurses := true, apart := false }
def RankIndexSaid : Prop := rankIndexRow.holds Try.pinned (OpenSpec.ofChange rankIndexSpec)

/-- ITS FALSE NEIGHBOUR: 'it returns false'. Refute it at one input. -/
def rankIndexWrong : ChangeSpec := { name := "rankIndex", fn := fun _ => fun
  | [d1, d2] => { results := [.lit (.bool false)], args := [d1, d2] }
  | _ => none }
def RankIndexWrongFalsely : Prop := rankIndexRow.holds Try.pinned (OpenSpec.ofChange rankIndexWrong)

/-- 'slipwaylaw05.RankAll': WHATEVER THE INPUT: true; the input reads as it did. -/
def rankAllSpec : ChangeSpec := { name := "rankAll", fn := fun _ => fun
  | [d] => { results := [.lit (.bool true)], args := [d] }
  | _ => none }
def rankAllRow : OpenClaim := { program := "ytjnakkdonkgcjaa", sum := "64af6f20f8e57c20bc0dbb22a235b1985bf46b2353017ee2c76166a3aa1b4c6f", func := "slipway/slipwaylaw05.RankAll", spec := "rankAll", unfollowed := true, recurses := true, apart := false }
def RankAllSaid : Prop := rankAllRow.holds Try.pinned (OpenSpec.ofChange rankAllSpec)

/-- ITS FALSE NEIGHBOUR: 'it returns false'. Refute it at one input. -/
def rankAllWrong : ChangeSpec := { name := "rankAll", fn := fun _ => fun
  | [d] => { results := [.lit (.bool false)], args := [d] }
  | _ => none }
def RankAllWrongFalsely : Prop := rankAllRow.holds Try.pinned (OpenSpec.ofChange rankAllWrong)

/-- 'slipwaylaw05.RankNext': WHATEVER THE INPUT: true; the input reads as it did. -/
def rankNextSpec : ChangeSpec := { name := "rankNext", fn := fun _ => fun
  | [d1, d2] => { results := [.lit (.bool true)], args := [d1, d2] }
  | _ => none }
def rankNextRow : OpenClaim := { program := "ytjnakkdonkgcjaa", sum := "64af6f20f8e57c20bc0dbb22a235b1985bf46b2353017ee2c76166a3aa1b4c6f", func := "slipway/slipwaylaw05.RankNext", spec := "rankNext", unfollowed := true, recurses := true, apart := false }
def RankNextSaid : Prop := rankNextRow.holds Try.pinned (OpenSpec.ofChange rankNextSpec)

/-- ITS FALSE NEIGHBOUR: 'it returns false'. Refute it at one input. -/
def rankNextWrong : ChangeSpec := { name := "rankNext", fn := fun _ => fun
  | [d1, d2] => { results := [.lit (.bool false)], args := [d1, d2] }
  | _ => none }
def RankNextWrongFalsely : Prop := rankNextRow.holds Try.pinned (OpenSpec.ofChange rankNextWrong)

/- THE SECOND FORM. 'bulk': how many values and letters a reading holds, each counted each time it is reached (what is shared counts as often as it is met; a slice's spare places count too). A statement '..UptoSaid' is the law's where the arguments, and the package variables that the reading takes, are together of bulk at most 1048576: NARROWER than '..Said'. Prove '..Said' where nothing that the law and all that it calls make is longer than what came in: it says more and counts as full. Else prove '..UptoSaid'. A law counts once. -/
mutual
def uptoBulk {H : Type} : DataW H → Nat
  | .lit (.string bytes) => bytes.length + 1
  | .lit _ => 1
  | .nil => 1
  | .ptr d => uptoBulk d + 1
  | .slice elems spare => uptoBulkAll elems + uptoBulkAll spare + 1
  | .agg parts => uptoBulkAll parts + 1
  | .iface _ d => uptoBulk d + 1
  | .map entries => uptoBulkEntries entries + 1
  | .held _ => 1
def uptoBulkAll {H : Type} : List (DataW H) → Nat
  | [] => 0
  | d :: r => uptoBulk d + uptoBulkAll r
def uptoBulkEntries {H : Type} : List (Lit × DataW H) → Nat
  | [] => 0
  | x :: r => uptoBulkEntry x + uptoBulkEntries r
def uptoBulkEntry {H : Type} : Lit × DataW H → Nat
  | (.string bytes, d) => bytes.length + uptoBulk d + 1
  | (_, d) => uptoBulk d + 1
 end
def uptoSmall : (H : Type) → List (DataW H) → Bool := fun _ ds => decide (uptoBulkAll ds ≤ 1048576)
def OpenSpec.upto (s : _root_.Go.ChangeSpec) : _root_.Go.OpenSpec := { _root_.Go.OpenSpec.ofChange s with cond := some uptoSmall }

/-- 'slipwaylaw05.RankOrders', WHERE WHAT IT READS IS OF BULK AT MOST 1048576: true; the input reads as it did. -/
def rankOrdersUptoRow : OpenClaim := { program := "ytjnakkdonkgcjaa", sum := "64af6f20f8e57c20bc0dbb22a235b1985bf46b2353017ee2c76166a3aa1b4c6f", func := "slipway/slipwaylaw05.RankOrders", spec := "rankOrders", unfollowed := true, recurses := true, apart := false, narrowed := true }
def RankOrdersUptoSaid : Prop := rankOrdersUptoRow.holds Try.pinned (OpenSpec.upto rankOrdersSpec)

/-- 'slipwaylaw05.RankModes', WHERE WHAT IT READS IS OF BULK AT MOST 1048576: true; the input reads as it did. -/
def rankModesUptoRow : OpenClaim := { program := "ytjnakkdonkgcjaa", sum := "64af6f20f8e57c20bc0dbb22a235b1985bf46b2353017ee2c76166a3aa1b4c6f", func := "slipway/slipwaylaw05.RankModes", spec := "rankModes", unfollowed := true, recurses := true, apart := false, narrowed := true }
def RankModesUptoSaid : Prop := rankModesUptoRow.holds Try.pinned (OpenSpec.upto rankModesSpec)

/-- 'slipwaylaw05.RankRanks', WHERE WHAT IT READS IS OF BULK AT MOST 1048576: true; the input reads as it did. -/
def rankRanksUptoRow : OpenClaim := { program := "ytjnakkdonkgcjaa", sum := "64af6f20f8e57c20bc0dbb22a235b1985bf46b2353017ee2c76166a3aa1b4c6f", func := "slipway/slipwaylaw05.RankRanks", spec := "rankRanks", unfollowed := true, recurses := true, apart := false, narrowed := true }
def RankRanksUptoSaid : Prop := rankRanksUptoRow.holds Try.pinned (OpenSpec.upto rankRanksSpec)

/-- 'slipwaylaw05.RankCompares', WHERE WHAT IT READS IS OF BULK AT MOST 1048576: true; the input reads as it did. -/
def rankComparesUptoRow : OpenClaim := { program := "ytjnakkdonkgcjaa", sum := "64af6f20f8e57c20bc0dbb22a235b1985bf46b2353017ee2c76166a3aa1b4c6f", func := "slipway/slipwaylaw05.RankCompares", spec := "rankCompares", unfollowed := true, recurses := true, apart := false, narrowed := true }
def RankComparesUptoSaid : Prop := rankComparesUptoRow.holds Try.pinned (OpenSpec.upto rankComparesSpec)

/-- 'slipwaylaw05.RankNth', WHERE WHAT IT READS IS OF BULK AT MOST 1048576: true; the input reads as it did. -/
def rankNthUptoRow : OpenClaim := { program := "ytjnakkdonkgcjaa", sum := "64af6f20f8e57c20bc0dbb22a235b1985bf46b2353017ee2c76166a3aa1b4c6f", func := "slipway/slipwaylaw05.RankNth", spec := "rankNth", unfollowed := true, recurses := true, apart := false, narrowed := true }
def RankNthUptoSaid : Prop := rankNthUptoRow.holds Try.pinned (OpenSpec.upto rankNthSpec)

/-- 'slipwaylaw05.RankIndex', WHERE WHAT IT READS IS OF BULK AT MOST 1048576: true; the input reads as it did. -/
def rankIndexUptoRow : OpenClaim := { program := "ytjnakkdonkgcjaa", sum := "64af6f20f8e57c20bc0dbb22a235b1985bf46b2353017ee2c76166a3aa1b4c6f", func := "slipway/slipwaylaw05.RankIndex", spec := "rankIndex", unfollowed := true, recurses := true, apart := false, narrowed := true }
def RankIndexUptoSaid : Prop := rankIndexUptoRow.holds Try.pinned (OpenSpec.upto rankIndexSpec)

/-- 'slipwaylaw05.RankAll', WHERE WHAT IT READS IS OF BULK AT MOST 1048576: true; the input reads as it did. -/
def rankAllUptoRow : OpenClaim := { program := "ytjnakkdonkgcjaa", sum := "64af6f20f8e57c20bc0dbb22a235b1985bf46b2353017ee2c76166a3aa1b4c6f", func := "slipway/slipwaylaw05.RankAll", spec := "rankAll", unfollowed := true, recurses := true, apart := false, narrowed := true }
def RankAllUptoSaid : Prop := rankAllUptoRow.holds Try.pinned (OpenSpec.upto rankAllSpec)

/-- 'slipwaylaw05.RankNext', WHERE WHAT IT READS IS OF BULK AT MOST 1048576: true; the input reads as it did. -/
def rankNextUptoRow : OpenClaim := { program := "ytjnakkdonkgcjaa", sum := "64af6f20f8e57c20bc0dbb22a235b1985bf46b2353017ee2c76166a3aa1b4c6f", func := "slipway/slipwaylaw05.RankNext", spec := "rankNext", unfollowed := true, recurses := true, apart := false, narrowed := true }
def RankNextUptoSaid : Prop := rankNextUptoRow.holds Try.pinned (OpenSpec.upto rankNextSpec)

end Rows
end Go.Proofs.Ytjnakkdonkgcjaa
