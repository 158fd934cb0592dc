/-
  DERIVED. GIVEN WITH THE SEED: THE CARDS: each row of YtpdhggfmkmiebaaDoorRows.lean that lists a variable, with what it lists TIED to the program's text (the seventh form; the later family's looks); each row that meets fmt, with fmt's text TOLD by the authors' own Lean function (tested against real Go, not proved from fmt's source: count such statements apart). THE CARD IS WHAT COUNTS. Prove the row's statement (the work); the ties are given (YtpdhggfmkmiebaaDoorTie.lean); close each card by the builder's one call (the guide's Derived/Test/ToyasCard.lean, 'card_holds'). Laid BY PROGRAM, IN A SANDBOX (cutbox-door.mjs). By AI agents, Wed Nov 11 2026. No macro, syntax, notation, axiom, sorry.
-/
import Derived.Test.YtpdhggfmkmiebaaDoorRows
import GoSem.ClaimSeven
namespace Go.Proofs.YtpdhggfmkmiebaaDoor
namespace Rows

/-- THE TIED CARD OF 'slipwaylaw03.DigraphReach'. -/
def digraphReachCard : Claim7 := { stood := { row := digraphReachRow, standIns := [], harness := (true, "10a2dd1939cbdb4f6bb51453ac850cc4636f7bd54be0347d890f18c5bf13c4a5"), looks := false }, kinds := [], alts := [], laidByText := true, laidKinds := [.data], laidTests := true, laidLooks := .later }
def DigraphReachCardSaid : Prop := Claim7.holds Tryd.pinned (.plain (OpenSpec.ofChange digraphReachSpec)) digraphReachCard

/-- THE TIED CARD OF 'slipwaylaw03.DigraphThin'. -/
def digraphThinCard : Claim7 := { stood := { row := digraphThinRow, standIns := [], harness := (true, "10a2dd1939cbdb4f6bb51453ac850cc4636f7bd54be0347d890f18c5bf13c4a5"), looks := false }, kinds := [], alts := [], laidByText := true, laidKinds := [.data], laidTests := true, laidLooks := .later }
def DigraphThinCardSaid : Prop := Claim7.holds Tryd.pinned (.plain (OpenSpec.ofChange digraphThinSpec)) digraphThinCard

/-- THE TIED CARD OF 'slipwaylaw03.DigraphTurned'. -/
def digraphTurnedCard : Claim7 := { stood := { row := digraphTurnedRow, standIns := [], harness := (true, "10a2dd1939cbdb4f6bb51453ac850cc4636f7bd54be0347d890f18c5bf13c4a5"), looks := false }, kinds := [], alts := [], laidByText := true, laidKinds := [.data], laidTests := true, laidLooks := .later }
def DigraphTurnedCardSaid : Prop := Claim7.holds Tryd.pinned (.plain (OpenSpec.ofChange digraphTurnedSpec)) digraphTurnedCard

/-- THE TIED CARD OF 'slipwaylaw03.DigraphSets'. -/
def digraphSetsCard : Claim7 := { stood := { row := digraphSetsRow, standIns := [], harness := (true, "10a2dd1939cbdb4f6bb51453ac850cc4636f7bd54be0347d890f18c5bf13c4a5"), looks := false }, kinds := [], alts := [], laidByText := true, laidKinds := [.data], laidTests := true, laidLooks := .later }
def DigraphSetsCardSaid : Prop := Claim7.holds Tryd.pinned (.plain (OpenSpec.ofChange digraphSetsSpec)) digraphSetsCard

/-- THE TIED CARD OF 'slipwaylaw03.DigraphPrefixes'. -/
def digraphPrefixesCard : Claim7 := { stood := { row := digraphPrefixesRow, standIns := [], harness := (true, "10a2dd1939cbdb4f6bb51453ac850cc4636f7bd54be0347d890f18c5bf13c4a5"), looks := false }, kinds := [], alts := [], laidByText := true, laidKinds := [.data], laidTests := true, laidLooks := .later }
def DigraphPrefixesCardSaid : Prop := Claim7.holds Tryd.pinned (.plain (OpenSpec.ofChange digraphPrefixesSpec)) digraphPrefixesCard

/-- THE TIED CARD OF 'slipwaylaw03.DigraphOrder'. -/
def digraphOrderCard : Claim7 := { stood := { row := digraphOrderRow, standIns := [], harness := (true, "10a2dd1939cbdb4f6bb51453ac850cc4636f7bd54be0347d890f18c5bf13c4a5"), looks := false }, kinds := [], alts := [], laidByText := true, laidKinds := [.data], laidTests := true, laidLooks := .later }
def DigraphOrderCardSaid : Prop := Claim7.holds Tryd.pinned (.plain (OpenSpec.ofChange digraphOrderSpec)) digraphOrderCard

/-- THE TIED CARD OF 'slipwaylaw03.DigraphEdges'. -/
def digraphEdgesCard : Claim7 := { stood := { row := digraphEdgesRow, standIns := [], harness := (true, "10a2dd1939cbdb4f6bb51453ac850cc4636f7bd54be0347d890f18c5bf13c4a5"), looks := false }, kinds := [], alts := [], laidByText := true, laidKinds := [.data], laidTests := true, laidLooks := .later }
def DigraphEdgesCardSaid : Prop := Claim7.holds Tryd.pinned (.plain (OpenSpec.ofChange digraphEdgesSpec)) digraphEdgesCard

/-- THE TIED CARD OF 'slipwaylaw03.DigraphLevels'. -/
def digraphLevelsCard : Claim7 := { stood := { row := digraphLevelsRow, standIns := [], harness := (true, "10a2dd1939cbdb4f6bb51453ac850cc4636f7bd54be0347d890f18c5bf13c4a5"), looks := false }, kinds := [], alts := [], laidByText := true, laidKinds := [.data], laidTests := true, laidLooks := .later }
def DigraphLevelsCardSaid : Prop := Claim7.holds Tryd.pinned (.plain (OpenSpec.ofChange digraphLevelsSpec)) digraphLevelsCard

/-- THE SECOND FORM's CARD OF 'slipwaylaw03.DigraphReach'. -/
def digraphReachUptoCard : Claim7 := { stood := { row := digraphReachUptoRow, standIns := [], harness := (true, "10a2dd1939cbdb4f6bb51453ac850cc4636f7bd54be0347d890f18c5bf13c4a5"), looks := false }, kinds := [], alts := [], laidByText := true, laidKinds := [.data], laidTests := true, laidLooks := .later }
def DigraphReachUptoCardSaid : Prop := Claim7.holds Tryd.pinned (.plain (OpenSpec.upto digraphReachSpec)) digraphReachUptoCard

/-- THE SECOND FORM's CARD OF 'slipwaylaw03.DigraphThin'. -/
def digraphThinUptoCard : Claim7 := { stood := { row := digraphThinUptoRow, standIns := [], harness := (true, "10a2dd1939cbdb4f6bb51453ac850cc4636f7bd54be0347d890f18c5bf13c4a5"), looks := false }, kinds := [], alts := [], laidByText := true, laidKinds := [.data], laidTests := true, laidLooks := .later }
def DigraphThinUptoCardSaid : Prop := Claim7.holds Tryd.pinned (.plain (OpenSpec.upto digraphThinSpec)) digraphThinUptoCard

/-- THE SECOND FORM's CARD OF 'slipwaylaw03.DigraphTurned'. -/
def digraphTurnedUptoCard : Claim7 := { stood := { row := digraphTurnedUptoRow, standIns := [], harness := (true, "10a2dd1939cbdb4f6bb51453ac850cc4636f7bd54be0347d890f18c5bf13c4a5"), looks := false }, kinds := [], alts := [], laidByText := true, laidKinds := [.data], laidTests := true, laidLooks := .later }
def DigraphTurnedUptoCardSaid : Prop := Claim7.holds Tryd.pinned (.plain (OpenSpec.upto digraphTurnedSpec)) digraphTurnedUptoCard

/-- THE SECOND FORM's CARD OF 'slipwaylaw03.DigraphSets'. -/
def digraphSetsUptoCard : Claim7 := { stood := { row := digraphSetsUptoRow, standIns := [], harness := (true, "10a2dd1939cbdb4f6bb51453ac850cc4636f7bd54be0347d890f18c5bf13c4a5"), looks := false }, kinds := [], alts := [], laidByText := true, laidKinds := [.data], laidTests := true, laidLooks := .later }
def DigraphSetsUptoCardSaid : Prop := Claim7.holds Tryd.pinned (.plain (OpenSpec.upto digraphSetsSpec)) digraphSetsUptoCard

/-- THE SECOND FORM's CARD OF 'slipwaylaw03.DigraphPrefixes'. -/
def digraphPrefixesUptoCard : Claim7 := { stood := { row := digraphPrefixesUptoRow, standIns := [], harness := (true, "10a2dd1939cbdb4f6bb51453ac850cc4636f7bd54be0347d890f18c5bf13c4a5"), looks := false }, kinds := [], alts := [], laidByText := true, laidKinds := [.data], laidTests := true, laidLooks := .later }
def DigraphPrefixesUptoCardSaid : Prop := Claim7.holds Tryd.pinned (.plain (OpenSpec.upto digraphPrefixesSpec)) digraphPrefixesUptoCard

/-- THE SECOND FORM's CARD OF 'slipwaylaw03.DigraphOrder'. -/
def digraphOrderUptoCard : Claim7 := { stood := { row := digraphOrderUptoRow, standIns := [], harness := (true, "10a2dd1939cbdb4f6bb51453ac850cc4636f7bd54be0347d890f18c5bf13c4a5"), looks := false }, kinds := [], alts := [], laidByText := true, laidKinds := [.data], laidTests := true, laidLooks := .later }
def DigraphOrderUptoCardSaid : Prop := Claim7.holds Tryd.pinned (.plain (OpenSpec.upto digraphOrderSpec)) digraphOrderUptoCard

/-- THE SECOND FORM's CARD OF 'slipwaylaw03.DigraphEdges'. -/
def digraphEdgesUptoCard : Claim7 := { stood := { row := digraphEdgesUptoRow, standIns := [], harness := (true, "10a2dd1939cbdb4f6bb51453ac850cc4636f7bd54be0347d890f18c5bf13c4a5"), looks := false }, kinds := [], alts := [], laidByText := true, laidKinds := [.data], laidTests := true, laidLooks := .later }
def DigraphEdgesUptoCardSaid : Prop := Claim7.holds Tryd.pinned (.plain (OpenSpec.upto digraphEdgesSpec)) digraphEdgesUptoCard

/-- THE SECOND FORM's CARD OF 'slipwaylaw03.DigraphLevels'. -/
def digraphLevelsUptoCard : Claim7 := { stood := { row := digraphLevelsUptoRow, standIns := [], harness := (true, "10a2dd1939cbdb4f6bb51453ac850cc4636f7bd54be0347d890f18c5bf13c4a5"), looks := false }, kinds := [], alts := [], laidByText := true, laidKinds := [.data], laidTests := true, laidLooks := .later }
def DigraphLevelsUptoCardSaid : Prop := Claim7.holds Tryd.pinned (.plain (OpenSpec.upto digraphLevelsSpec)) digraphLevelsUptoCard
end Rows
end Go.Proofs.YtpdhggfmkmiebaaDoor
