/-
  NARROWER THAN 'FOR EVERY INPUT', by the rows' own cells (each row's printed sentence says how): NodeResets: laid · NodePackets: laid · NodeStrange: laid · NodePulls: laid · NodeSame: laid · NodePlays: laid · NodePair: laid.
  DERIVED. THE GIVEN ROWS OF THIS SEAT. 7 by the template 'for every input the law returns true; each argument reads behind the call as it read before'; 0 by the template 'total and deterministic' (their statements: YtndahppmjdbifaaGreatDoorTotals.lean).
  GIVEN WITH THE SEED: the statements are not yours to turn. If you find one false, say at which input.
  Laid BY PROGRAM, IN A SANDBOX (cutbox-rows.mjs): the forced cells as the released guide's own fill.sh prints them over the translation 739e6620ce999ea1… (all of the seat's roots in one cut). By AI agents, Wed Nov 11 2026. No macro, syntax, notation, axiom, sorry.
-/
import Derived.Test.YtndahppmjdbifaaGreatDoorChecked
import GoSem.Claim
import GoSem.ClaimJoined
import GoSem.ClaimMapViews
import Derived.JoinedTies
import Derived.KernelRfl
namespace Go.Proofs.YtndahppmjdbifaaGreatDoor
/- THE CELL 'sum', in the pinned program and in every row, IS THE sha256 OF THE DUMP (.gsa) THAT YtndahppmjdbifaaGreatDoorProg.lean LOADS. Nothing in Lean hashes anything: it is a label: what it is worth is what the hold of that sum in a sandbox is worth. -/
noncomputable def Tryz.pinned : Pinned := { name := "ytndahppmjdbifaagreatdoor", sum := "739e6620ce999ea17db10fff68220d6d3231e3a50dcb05d174dd0890563d8b9a", checked := Tryz.checked }
namespace Rows
def none {H : Type} : Left H := { results := [], args := [] }

/- WHAT THE LISTED PACKAGE-LEVEL VARIABLES READ AS WHEN THE CALL BEGINS. Each datum BY PROGRAM (the guide's laid-datum.mjs) off the statement by which the dump's own 'gosem.cut.vars' lays the variable. In a bare row this is a premise. The card (YtndahppmjdbifaaGreatDoorCards.lean) ties it to the program's text. -/
def laid_chapbook_prefix_bits {H : Type} : DataW H := .agg [.lit (.int .u64 6), .lit (.int .u64 14), .lit (.int .u64 30), .lit (.int .u64 62)]

/-- 'chapbooklaw18.NodeResets': WHATEVER THE INPUT: true; the input reads as it did. -/
def nodeResetsSpec : ChangeSpec := { name := "nodeResets", fn := fun _ => fun
  | [d1, d2, d3] => { results := [.lit (.bool true)], args := [d1, d2, d3] }
  | _ => none }
def nodeResetsRow : OpenClaim := { program := "ytndahppmjdbifaagreatdoor", sum := "739e6620ce999ea17db10fff68220d6d3231e3a50dcb05d174dd0890563d8b9a", func := "chapbook/chapbooklaw18.NodeResets", spec := "nodeResets", inPlace := ["internal/abi.NoEscape"], named := ["chapbook/prefix.bits"], apart := false, laid := [("chapbook/prefix.bits", laid_chapbook_prefix_bits)] }
def NodeResetsSaid : Prop := nodeResetsRow.holds Tryz.pinned (OpenSpec.ofChange nodeResetsSpec)

/-- ITS FALSE NEIGHBOUR: 'it returns false'. Refute it at one input. -/
def nodeResetsWrong : ChangeSpec := { name := "nodeResets", fn := fun _ => fun
  | [d1, d2, d3] => { results := [.lit (.bool false)], args := [d1, d2, d3] }
  | _ => none }
def NodeResetsWrongFalsely : Prop := nodeResetsRow.holds Tryz.pinned (OpenSpec.ofChange nodeResetsWrong)

/-- 'chapbooklaw18.NodePackets': WHATEVER THE INPUT: true; the input reads as it did. -/
def nodePacketsSpec : ChangeSpec := { name := "nodePackets", fn := fun _ => fun
  | [d1, d2, d3] => { results := [.lit (.bool true)], args := [d1, d2, d3] }
  | _ => none }
def nodePacketsRow : OpenClaim := { program := "ytndahppmjdbifaagreatdoor", sum := "739e6620ce999ea17db10fff68220d6d3231e3a50dcb05d174dd0890563d8b9a", func := "chapbook/chapbooklaw18.NodePackets", spec := "nodePackets", inPlace := ["internal/abi.NoEscape"], named := ["chapbook/prefix.bits"], apart := false, laid := [("chapbook/prefix.bits", laid_chapbook_prefix_bits)] }
def NodePacketsSaid : Prop := nodePacketsRow.holds Tryz.pinned (OpenSpec.ofChange nodePacketsSpec)

/-- ITS FALSE NEIGHBOUR: 'it returns false'. Refute it at one input. -/
def nodePacketsWrong : ChangeSpec := { name := "nodePackets", fn := fun _ => fun
  | [d1, d2, d3] => { results := [.lit (.bool false)], args := [d1, d2, d3] }
  | _ => none }
def NodePacketsWrongFalsely : Prop := nodePacketsRow.holds Tryz.pinned (OpenSpec.ofChange nodePacketsWrong)

/-- 'chapbooklaw18.NodeStrange': WHATEVER THE INPUT: true; the input reads as it did. -/
def nodeStrangeSpec : ChangeSpec := { name := "nodeStrange", fn := fun _ => fun
  | [d1, d2, d3] => { results := [.lit (.bool true)], args := [d1, d2, d3] }
  | _ => none }
def nodeStrangeRow : OpenClaim := { program := "ytndahppmjdbifaagreatdoor", sum := "739e6620ce999ea17db10fff68220d6d3231e3a50dcb05d174dd0890563d8b9a", func := "chapbook/chapbooklaw18.NodeStrange", spec := "nodeStrange", inPlace := ["internal/abi.NoEscape"], named := ["chapbook/prefix.bits"], apart := false, laid := [("chapbook/prefix.bits", laid_chapbook_prefix_bits)] }
def NodeStrangeSaid : Prop := nodeStrangeRow.holds Tryz.pinned (OpenSpec.ofChange nodeStrangeSpec)

/-- ITS FALSE NEIGHBOUR: 'it returns false'. Refute it at one input. -/
def nodeStrangeWrong : ChangeSpec := { name := "nodeStrange", fn := fun _ => fun
  | [d1, d2, d3] => { results := [.lit (.bool false)], args := [d1, d2, d3] }
  | _ => none }
def NodeStrangeWrongFalsely : Prop := nodeStrangeRow.holds Tryz.pinned (OpenSpec.ofChange nodeStrangeWrong)

/-- 'chapbooklaw18.NodePulls': WHATEVER THE INPUT: true; the input reads as it did. -/
def nodePullsSpec : ChangeSpec := { name := "nodePulls", fn := fun _ => fun
  | [d1, d2, d3] => { results := [.lit (.bool true)], args := [d1, d2, d3] }
  | _ => none }
def nodePullsRow : OpenClaim := { program := "ytndahppmjdbifaagreatdoor", sum := "739e6620ce999ea17db10fff68220d6d3231e3a50dcb05d174dd0890563d8b9a", func := "chapbook/chapbooklaw18.NodePulls", spec := "nodePulls", inPlace := ["internal/abi.NoEscape"], named := ["chapbook/prefix.bits"], apart := false, laid := [("chapbook/prefix.bits", laid_chapbook_prefix_bits)] }
def NodePullsSaid : Prop := nodePullsRow.holds Tryz.pinned (OpenSpec.ofChange nodePullsSpec)

/-- ITS FALSE NEIGHBOUR: 'it returns false'. Refute it at one input. -/
def nodePullsWrong : ChangeSpec := { name := "nodePulls", fn := fun _ => fun
  | [d1, d2, d3] => { results := [.lit (.bool false)], args := [d1, d2, d3] }
  | _ => none }
def NodePullsWrongFalsely : Prop := nodePullsRow.holds Tryz.pinned (OpenSpec.ofChange nodePullsWrong)

/-- 'chapbooklaw18.NodeSame': WHATEVER THE INPUT: true; the input reads as it did. -/
def nodeSameSpec : ChangeSpec := { name := "nodeSame", fn := fun _ => fun
  | [d1, d2, d3] => { results := [.lit (.bool true)], args := [d1, d2, d3] }
  | _ => none }
def nodeSameRow : OpenClaim := { program := "ytndahppmjdbifaagreatdoor", sum := "739e6620ce999ea17db10fff68220d6d3231e3a50dcb05d174dd0890563d8b9a", func := "chapbook/chapbooklaw18.NodeSame", spec := "nodeSame", inPlace := ["internal/abi.NoEscape"], named := ["chapbook/prefix.bits"], apart := false, laid := [("chapbook/prefix.bits", laid_chapbook_prefix_bits)] }
def NodeSameSaid : Prop := nodeSameRow.holds Tryz.pinned (OpenSpec.ofChange nodeSameSpec)

/-- ITS FALSE NEIGHBOUR: 'it returns false'. Refute it at one input. -/
def nodeSameWrong : ChangeSpec := { name := "nodeSame", fn := fun _ => fun
  | [d1, d2, d3] => { results := [.lit (.bool false)], args := [d1, d2, d3] }
  | _ => none }
def NodeSameWrongFalsely : Prop := nodeSameRow.holds Tryz.pinned (OpenSpec.ofChange nodeSameWrong)

/-- 'chapbooklaw18.NodePlays': WHATEVER THE INPUT: true; the input reads as it did. -/
def nodePlaysSpec : ChangeSpec := { name := "nodePlays", fn := fun _ => fun
  | [d1, d2, d3] => { results := [.lit (.bool true)], args := [d1, d2, d3] }
  | _ => none }
def nodePlaysRow : OpenClaim := { program := "ytndahppmjdbifaagreatdoor", sum := "739e6620ce999ea17db10fff68220d6d3231e3a50dcb05d174dd0890563d8b9a", func := "chapbook/chapbooklaw18.NodePlays", spec := "nodePlays", inPlace := ["internal/abi.NoEscape"], named := ["chapbook/prefix.bits"], apart := false, laid := [("chapbook/prefix.bits", laid_chapbook_prefix_bits)] }
def NodePlaysSaid : Prop := nodePlaysRow.holds Tryz.pinned (OpenSpec.ofChange nodePlaysSpec)

/-- ITS FALSE NEIGHBOUR: 'it returns false'. Refute it at one input. -/
def nodePlaysWrong : ChangeSpec := { name := "nodePlays", fn := fun _ => fun
  | [d1, d2, d3] => { results := [.lit (.bool false)], args := [d1, d2, d3] }
  | _ => none }
def NodePlaysWrongFalsely : Prop := nodePlaysRow.holds Tryz.pinned (OpenSpec.ofChange nodePlaysWrong)

/-- 'chapbooklaw18.NodePair': WHATEVER THE INPUT: true; the input reads as it did. -/
def nodePairSpec : ChangeSpec := { name := "nodePair", fn := fun _ => fun
  | [d1, d2] => { results := [.lit (.bool true)], args := [d1, d2] }
  | _ => none }
def nodePairRow : OpenClaim := { program := "ytndahppmjdbifaagreatdoor", sum := "739e6620ce999ea17db10fff68220d6d3231e3a50dcb05d174dd0890563d8b9a", func := "chapbook/chapbooklaw18.NodePair", spec := "nodePair", inPlace := ["internal/abi.NoEscape"], named := ["chapbook/prefix.bits"], apart := false, laid := [("chapbook/prefix.bits", laid_chapbook_prefix_bits)] }
def NodePairSaid : Prop := nodePairRow.holds Tryz.pinned (OpenSpec.ofChange nodePairSpec)

/-- ITS FALSE NEIGHBOUR: 'it returns false'. Refute it at one input. -/
def nodePairWrong : ChangeSpec := { name := "nodePair", fn := fun _ => fun
  | [d1, d2] => { results := [.lit (.bool false)], args := [d1, d2] }
  | _ => none }
def NodePairWrongFalsely : Prop := nodePairRow.holds Tryz.pinned (OpenSpec.ofChange nodePairWrong)

/- THE SECOND FORM. 'bulk': how many values and letters a reading holds, each counted each time it is reached (what is shared counts as often as it is met; a slice's spare places count too). A statement '..UptoSaid' is the law's where the arguments, and the package variables that the reading takes, are together of bulk at most 1048576: NARROWER than '..Said'. Prove '..Said' where nothing that the law and all that it calls make is longer than what came in: it says more and counts as full. Else prove '..UptoSaid'. A law counts once. -/
mutual
def uptoBulk {H : Type} : DataW H → Nat
  | .lit (.string bytes) => bytes.length + 1
  | .lit _ => 1
  | .nil => 1
  | .ptr d => uptoBulk d + 1
  | .slice elems spare => uptoBulkAll elems + uptoBulkAll spare + 1
  | .agg parts => uptoBulkAll parts + 1
  | .iface _ d => uptoBulk d + 1
  | .map entries => uptoBulkEntries entries + 1
  | .held _ => 1
def uptoBulkAll {H : Type} : List (DataW H) → Nat
  | [] => 0
  | d :: r => uptoBulk d + uptoBulkAll r
def uptoBulkEntries {H : Type} : List (Lit × DataW H) → Nat
  | [] => 0
  | x :: r => uptoBulkEntry x + uptoBulkEntries r
def uptoBulkEntry {H : Type} : Lit × DataW H → Nat
  | (.string bytes, d) => bytes.length + uptoBulk d + 1
  | (_, d) => uptoBulk d + 1
 end
def uptoSmall : (H : Type) → List (DataW H) → Bool := fun _ ds => decide (uptoBulkAll ds ≤ 1048576)
def OpenSpec.upto (s : _root_.Go.ChangeSpec) : _root_.Go.OpenSpec := { _root_.Go.OpenSpec.ofChange s with cond := some uptoSmall }

/-- 'chapbooklaw18.NodeResets', WHERE WHAT IT READS IS OF BULK AT MOST 1048576: true; the input reads as it did. -/
def nodeResetsUptoRow : OpenClaim := { program := "ytndahppmjdbifaagreatdoor", sum := "739e6620ce999ea17db10fff68220d6d3231e3a50dcb05d174dd0890563d8b9a", func := "chapbook/chapbooklaw18.NodeResets", spec := "nodeResets", inPlace := ["internal/abi.NoEscape"], named := ["chapbook/prefix.bits"], apart := false, laid := [("chapbook/prefix.bits", laid_chapbook_prefix_bits)], narrowed := true }
def NodeResetsUptoSaid : Prop := nodeResetsUptoRow.holds Tryz.pinned (OpenSpec.upto nodeResetsSpec)

/-- 'chapbooklaw18.NodePackets', WHERE WHAT IT READS IS OF BULK AT MOST 1048576: true; the input reads as it did. -/
def nodePacketsUptoRow : OpenClaim := { program := "ytndahppmjdbifaagreatdoor", sum := "739e6620ce999ea17db10fff68220d6d3231e3a50dcb05d174dd0890563d8b9a", func := "chapbook/chapbooklaw18.NodePackets", spec := "nodePackets", inPlace := ["internal/abi.NoEscape"], named := ["chapbook/prefix.bits"], apart := false, laid := [("chapbook/prefix.bits", laid_chapbook_prefix_bits)], narrowed := true }
def NodePacketsUptoSaid : Prop := nodePacketsUptoRow.holds Tryz.pinned (OpenSpec.upto nodePacketsSpec)

/-- 'chapbooklaw18.NodeStrange', WHERE WHAT IT READS IS OF BULK AT MOST 1048576: true; the input reads as it did. -/
def nodeStrangeUptoRow : OpenClaim := { program := "ytndahppmjdbifaagreatdoor", sum := "739e6620ce999ea17db10fff68220d6d3231e3a50dcb05d174dd0890563d8b9a", func := "chapbook/chapbooklaw18.NodeStrange", spec := "nodeStrange", inPlace := ["internal/abi.NoEscape"], named := ["chapbook/prefix.bits"], apart := false, laid := [("chapbook/prefix.bits", laid_chapbook_prefix_bits)], narrowed := true }
def NodeStrangeUptoSaid : Prop := nodeStrangeUptoRow.holds Tryz.pinned (OpenSpec.upto nodeStrangeSpec)

/-- 'chapbooklaw18.NodePulls', WHERE WHAT IT READS IS OF BULK AT MOST 1048576: true; the input reads as it did. -/
def nodePullsUptoRow : OpenClaim := { program := "ytndahppmjdbifaagreatdoor", sum := "739e6620ce999ea17db10fff68220d6d3231e3a50dcb05d174dd0890563d8b9a", func := "chapbook/chapbooklaw18.NodePulls", spec := "nodePulls", inPlace := ["internal/abi.NoEscape"], named := ["chapbook/prefix.bits"], apart := false, laid := [("chapbook/prefix.bits", laid_chapbook_prefix_bits)], narrowed := true }
def NodePullsUptoSaid : Prop := nodePullsUptoRow.holds Tryz.pinned (OpenSpec.upto nodePullsSpec)

/-- 'chapbooklaw18.NodeSame', WHERE WHAT IT READS IS OF BULK AT MOST 1048576: true; the input reads as it did. -/
def nodeSameUptoRow : OpenClaim := { program := "ytndahppmjdbifaagreatdoor", sum := "739e6620ce999ea17db10fff68220d6d3231e3a50dcb05d174dd0890563d8b9a", func := "chapbook/chapbooklaw18.NodeSame", spec := "nodeSame", inPlace := ["internal/abi.NoEscape"], named := ["chapbook/prefix.bits"], apart := false, laid := [("chapbook/prefix.bits", laid_chapbook_prefix_bits)], narrowed := true }
def NodeSameUptoSaid : Prop := nodeSameUptoRow.holds Tryz.pinned (OpenSpec.upto nodeSameSpec)

/-- 'chapbooklaw18.NodePlays', WHERE WHAT IT READS IS OF BULK AT MOST 1048576: true; the input reads as it did. -/
def nodePlaysUptoRow : OpenClaim := { program := "ytndahppmjdbifaagreatdoor", sum := "739e6620ce999ea17db10fff68220d6d3231e3a50dcb05d174dd0890563d8b9a", func := "chapbook/chapbooklaw18.NodePlays", spec := "nodePlays", inPlace := ["internal/abi.NoEscape"], named := ["chapbook/prefix.bits"], apart := false, laid := [("chapbook/prefix.bits", laid_chapbook_prefix_bits)], narrowed := true }
def NodePlaysUptoSaid : Prop := nodePlaysUptoRow.holds Tryz.pinned (OpenSpec.upto nodePlaysSpec)

/-- 'chapbooklaw18.NodePair', WHERE WHAT IT READS IS OF BULK AT MOST 1048576: true; the input reads as it did. -/
def nodePairUptoRow : OpenClaim := { program := "ytndahppmjdbifaagreatdoor", sum := "739e6620ce999ea17db10fff68220d6d3231e3a50dcb05d174dd0890563d8b9a", func := "chapbook/chapbooklaw18.NodePair", spec := "nodePair", inPlace := ["internal/abi.NoEscape"], named := ["chapbook/prefix.bits"], apart := false, laid := [("chapbook/prefix.bits", laid_chapbook_prefix_bits)], narrowed := true }
def NodePairUptoSaid : Prop := nodePairUptoRow.holds Tryz.pinned (OpenSpec.upto nodePairSpec)

end Rows
end Go.Proofs.YtndahppmjdbifaaGreatDoor
