/-
  DERIVED. GIVEN WITH THE SEED: THE CARDS: each row of YtndahppmjdbifaaGreatDoorRows.lean that lists a variable, with what it lists TIED to the program's text (the seventh form; the later family's looks); each row that meets fmt, with fmt's text TOLD by the authors' own Lean function (tested against real Go, not proved from fmt's source: count such statements apart). THE CARD IS WHAT COUNTS. Prove the row's statement (the work); the ties are given (YtndahppmjdbifaaGreatDoorTie.lean); close each card by the builder's one call (the guide's Derived/Test/ToyasCard.lean, 'card_holds'). Laid BY PROGRAM, IN A SANDBOX (cutbox-door.mjs). By AI agents, Wed Nov 11 2026. No macro, syntax, notation, axiom, sorry.
-/
import Derived.Test.YtndahppmjdbifaaGreatDoorRows
import GoSem.ClaimSeven
namespace Go.Proofs.YtndahppmjdbifaaGreatDoor
namespace Rows

/-- THE TIED CARD OF 'chapbooklaw18.NodeResets'. -/
def nodeResetsCard : Claim7 := { stood := { row := nodeResetsRow, standIns := [], harness := (true, "67b0996c903ca52b6a14ede8c9960722141bb73d263f4f25cb690ebd8fa2589f"), looks := false }, kinds := [], alts := [], laidByText := true, laidKinds := [.data], laidTests := true, laidLooks := .later }
def NodeResetsCardSaid : Prop := Claim7.holds Tryz.pinned (.plain (OpenSpec.ofChange nodeResetsSpec)) nodeResetsCard

/-- THE TIED CARD OF 'chapbooklaw18.NodePackets'. -/
def nodePacketsCard : Claim7 := { stood := { row := nodePacketsRow, standIns := [], harness := (true, "67b0996c903ca52b6a14ede8c9960722141bb73d263f4f25cb690ebd8fa2589f"), looks := false }, kinds := [], alts := [], laidByText := true, laidKinds := [.data], laidTests := true, laidLooks := .later }
def NodePacketsCardSaid : Prop := Claim7.holds Tryz.pinned (.plain (OpenSpec.ofChange nodePacketsSpec)) nodePacketsCard

/-- THE TIED CARD OF 'chapbooklaw18.NodeStrange'. -/
def nodeStrangeCard : Claim7 := { stood := { row := nodeStrangeRow, standIns := [], harness := (true, "67b0996c903ca52b6a14ede8c9960722141bb73d263f4f25cb690ebd8fa2589f"), looks := false }, kinds := [], alts := [], laidByText := true, laidKinds := [.data], laidTests := true, laidLooks := .later }
def NodeStrangeCardSaid : Prop := Claim7.holds Tryz.pinned (.plain (OpenSpec.ofChange nodeStrangeSpec)) nodeStrangeCard

/-- THE TIED CARD OF 'chapbooklaw18.NodePulls'. -/
def nodePullsCard : Claim7 := { stood := { row := nodePullsRow, standIns := [], harness := (true, "67b0996c903ca52b6a14ede8c9960722141bb73d263f4f25cb690ebd8fa2589f"), looks := false }, kinds := [], alts := [], laidByText := true, laidKinds := [.data], laidTests := true, laidLooks := .later }
def NodePullsCardSaid : Prop := Claim7.holds Tryz.pinned (.plain (OpenSpec.ofChange nodePullsSpec)) nodePullsCard

/-- THE TIED CARD OF 'chapbooklaw18.NodeSame'. -/
def nodeSameCard : Claim7 := { stood := { row := nodeSameRow, standIns := [], harness := (true, "67b0996c903ca52b6a14ede8c9960722141bb73d263f4f25cb690ebd8fa2589f"), looks := false }, kinds := [], alts := [], laidByText := true, laidKinds := [.data], laidTests := true, laidLooks := .later }
def NodeSameCardSaid : Prop := Claim7.holds Tryz.pinned (.plain (OpenSpec.ofChange nodeSameSpec)) nodeSameCard

/-- THE TIED CARD OF 'chapbooklaw18.NodePlays'. -/
def nodePlaysCard : Claim7 := { stood := { row := nodePlaysRow, standIns := [], harness := (true, "67b0996c903ca52b6a14ede8c9960722141bb73d263f4f25cb690ebd8fa2589f"), looks := false }, kinds := [], alts := [], laidByText := true, laidKinds := [.data], laidTests := true, laidLooks := .later }
def NodePlaysCardSaid : Prop := Claim7.holds Tryz.pinned (.plain (OpenSpec.ofChange nodePlaysSpec)) nodePlaysCard

/-- THE TIED CARD OF 'chapbooklaw18.NodePair'. -/
def nodePairCard : Claim7 := { stood := { row := nodePairRow, standIns := [], harness := (true, "67b0996c903ca52b6a14ede8c9960722141bb73d263f4f25cb690ebd8fa2589f"), looks := false }, kinds := [], alts := [], laidByText := true, laidKinds := [.data], laidTests := true, laidLooks := .later }
def NodePairCardSaid : Prop := Claim7.holds Tryz.pinned (.plain (OpenSpec.ofChange nodePairSpec)) nodePairCard

/-- THE SECOND FORM's CARD OF 'chapbooklaw18.NodeResets'. -/
def nodeResetsUptoCard : Claim7 := { stood := { row := nodeResetsUptoRow, standIns := [], harness := (true, "67b0996c903ca52b6a14ede8c9960722141bb73d263f4f25cb690ebd8fa2589f"), looks := false }, kinds := [], alts := [], laidByText := true, laidKinds := [.data], laidTests := true, laidLooks := .later }
def NodeResetsUptoCardSaid : Prop := Claim7.holds Tryz.pinned (.plain (OpenSpec.upto nodeResetsSpec)) nodeResetsUptoCard

/-- THE SECOND FORM's CARD OF 'chapbooklaw18.NodePackets'. -/
def nodePacketsUptoCard : Claim7 := { stood := { row := nodePacketsUptoRow, standIns := [], harness := (true, "67b0996c903ca52b6a14ede8c9960722141bb73d263f4f25cb690ebd8fa2589f"), looks := false }, kinds := [], alts := [], laidByText := true, laidKinds := [.data], laidTests := true, laidLooks := .later }
def NodePacketsUptoCardSaid : Prop := Claim7.holds Tryz.pinned (.plain (OpenSpec.upto nodePacketsSpec)) nodePacketsUptoCard

/-- THE SECOND FORM's CARD OF 'chapbooklaw18.NodeStrange'. -/
def nodeStrangeUptoCard : Claim7 := { stood := { row := nodeStrangeUptoRow, standIns := [], harness := (true, "67b0996c903ca52b6a14ede8c9960722141bb73d263f4f25cb690ebd8fa2589f"), looks := false }, kinds := [], alts := [], laidByText := true, laidKinds := [.data], laidTests := true, laidLooks := .later }
def NodeStrangeUptoCardSaid : Prop := Claim7.holds Tryz.pinned (.plain (OpenSpec.upto nodeStrangeSpec)) nodeStrangeUptoCard

/-- THE SECOND FORM's CARD OF 'chapbooklaw18.NodePulls'. -/
def nodePullsUptoCard : Claim7 := { stood := { row := nodePullsUptoRow, standIns := [], harness := (true, "67b0996c903ca52b6a14ede8c9960722141bb73d263f4f25cb690ebd8fa2589f"), looks := false }, kinds := [], alts := [], laidByText := true, laidKinds := [.data], laidTests := true, laidLooks := .later }
def NodePullsUptoCardSaid : Prop := Claim7.holds Tryz.pinned (.plain (OpenSpec.upto nodePullsSpec)) nodePullsUptoCard

/-- THE SECOND FORM's CARD OF 'chapbooklaw18.NodeSame'. -/
def nodeSameUptoCard : Claim7 := { stood := { row := nodeSameUptoRow, standIns := [], harness := (true, "67b0996c903ca52b6a14ede8c9960722141bb73d263f4f25cb690ebd8fa2589f"), looks := false }, kinds := [], alts := [], laidByText := true, laidKinds := [.data], laidTests := true, laidLooks := .later }
def NodeSameUptoCardSaid : Prop := Claim7.holds Tryz.pinned (.plain (OpenSpec.upto nodeSameSpec)) nodeSameUptoCard

/-- THE SECOND FORM's CARD OF 'chapbooklaw18.NodePlays'. -/
def nodePlaysUptoCard : Claim7 := { stood := { row := nodePlaysUptoRow, standIns := [], harness := (true, "67b0996c903ca52b6a14ede8c9960722141bb73d263f4f25cb690ebd8fa2589f"), looks := false }, kinds := [], alts := [], laidByText := true, laidKinds := [.data], laidTests := true, laidLooks := .later }
def NodePlaysUptoCardSaid : Prop := Claim7.holds Tryz.pinned (.plain (OpenSpec.upto nodePlaysSpec)) nodePlaysUptoCard

/-- THE SECOND FORM's CARD OF 'chapbooklaw18.NodePair'. -/
def nodePairUptoCard : Claim7 := { stood := { row := nodePairUptoRow, standIns := [], harness := (true, "67b0996c903ca52b6a14ede8c9960722141bb73d263f4f25cb690ebd8fa2589f"), looks := false }, kinds := [], alts := [], laidByText := true, laidKinds := [.data], laidTests := true, laidLooks := .later }
def NodePairUptoCardSaid : Prop := Claim7.holds Tryz.pinned (.plain (OpenSpec.upto nodePairSpec)) nodePairUptoCard
end Rows
end Go.Proofs.YtndahppmjdbifaaGreatDoor
