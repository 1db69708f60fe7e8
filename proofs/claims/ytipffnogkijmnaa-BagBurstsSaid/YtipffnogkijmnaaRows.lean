/-
  No cell of these rows narrows 'for every input' (looked for: loops, veiled, ifaces, maps, wideKeys, modest, calm, conditions, laid).
  DERIVED. THE GIVEN ROWS OF THIS SEAT. 6 by the template 'for every input the law returns true; each argument reads behind the call as it read before'; 0 by the template 'total and deterministic' (their statements: YtipffnogkijmnaaTotals.lean).
  GIVEN WITH THE SEED: the statements are not yours to turn. If you find one false, say at which input.
  Laid BY PROGRAM, IN A SANDBOX (cutbox-rows.mjs): the forced cells as the released guide's own fill.sh prints them over the translation 804be362d4d62b39… (all of the seat's roots in one cut). By AI agents, Wed Nov 11 2026. No macro, syntax, notation, axiom, sorry.
-/
import Derived.Test.YtipffnogkijmnaaChecked
import GoSem.Claim
import GoSem.ClaimJoined
import GoSem.ClaimMapViews
import Derived.JoinedTies
import Derived.KernelRfl
namespace Go.Proofs.Ytipffnogkijmnaa
/- THE CELL 'sum', in the pinned program and in every row, IS THE sha256 OF THE DUMP (.gsa) THAT YtipffnogkijmnaaProg.lean LOADS. Nothing in Lean hashes anything: it is a label: what it is worth is what the hold of that sum in a sandbox is worth. -/
noncomputable def Try.pinned : Pinned := { name := "ytipffnogkijmnaa", sum := "804be362d4d62b394a39f0d3db01e16d4f4532548afecccea6efc9fdad50bdc9", checked := Try.checked }
namespace Rows
def none {H : Type} : Left H := { results := [], args := [] }

/-- 'chapbooklaw02.CrcSums': WHATEVER THE INPUT: true; the input reads as it did. -/
def crcSumsSpec : ChangeSpec := { name := "crcSums", fn := fun _ => fun
  | [d] => { results := [.lit (.bool true)], args := [d] }
  | _ => none }
def crcSumsRow : OpenClaim := { program := "ytipffnogkijmnaa", sum := "804be362d4d62b394a39f0d3db01e16d4f4532548afecccea6efc9fdad50bdc9", func := "chapbook/chapbooklaw02.CrcSums", spec := "crcSums", apart := false }
def CrcSumsSaid : Prop := crcSumsRow.holds Try.pinned (OpenSpec.ofChange crcSumsSpec)

/-- ITS FALSE NEIGHBOUR: 'it returns false'. Refute it at one input. -/
def crcSumsWrong : ChangeSpec := { name := "crcSums", fn := fun _ => fun
  | [d] => { results := [.lit (.bool false)], args := [d] }
  | _ => none }
def CrcSumsWrongFalsely : Prop := crcSumsRow.holds Try.pinned (OpenSpec.ofChange crcSumsWrong)

/-- 'chapbooklaw02.CrcParts': WHATEVER THE INPUT: true; the input reads as it did. -/
def crcPartsSpec : ChangeSpec := { name := "crcParts", fn := fun _ => fun
  | [d1, d2, d3] => { results := [.lit (.bool true)], args := [d1, d2, d3] }
  | _ => none }
def crcPartsRow : OpenClaim := { program := "ytipffnogkijmnaa", sum := "804be362d4d62b394a39f0d3db01e16d4f4532548afecccea6efc9fdad50bdc9", func := "chapbook/chapbooklaw02.CrcParts", spec := "crcParts", apart := false }
def CrcPartsSaid : Prop := crcPartsRow.holds Try.pinned (OpenSpec.ofChange crcPartsSpec)

/-- ITS FALSE NEIGHBOUR: 'it returns false'. Refute it at one input. -/
def crcPartsWrong : ChangeSpec := { name := "crcParts", fn := fun _ => fun
  | [d1, d2, d3] => { results := [.lit (.bool false)], args := [d1, d2, d3] }
  | _ => none }
def CrcPartsWrongFalsely : Prop := crcPartsRow.holds Try.pinned (OpenSpec.ofChange crcPartsWrong)

/-- 'chapbooklaw02.CrcSealed': WHATEVER THE INPUT: true; the input reads as it did. -/
def crcSealedSpec : ChangeSpec := { name := "crcSealed", fn := fun _ => fun
  | [d] => { results := [.lit (.bool true)], args := [d] }
  | _ => none }
def crcSealedRow : OpenClaim := { program := "ytipffnogkijmnaa", sum := "804be362d4d62b394a39f0d3db01e16d4f4532548afecccea6efc9fdad50bdc9", func := "chapbook/chapbooklaw02.CrcSealed", spec := "crcSealed", apart := false }
def CrcSealedSaid : Prop := crcSealedRow.holds Try.pinned (OpenSpec.ofChange crcSealedSpec)

/-- ITS FALSE NEIGHBOUR: 'it returns false'. Refute it at one input. -/
def crcSealedWrong : ChangeSpec := { name := "crcSealed", fn := fun _ => fun
  | [d] => { results := [.lit (.bool false)], args := [d] }
  | _ => none }
def CrcSealedWrongFalsely : Prop := crcSealedRow.holds Try.pinned (OpenSpec.ofChange crcSealedWrong)

/-- 'chapbooklaw02.CrcBurst': WHATEVER THE INPUT: true; the input reads as it did. -/
def crcBurstSpec : ChangeSpec := { name := "crcBurst", fn := fun _ => fun
  | [d1, d2, d3] => { results := [.lit (.bool true)], args := [d1, d2, d3] }
  | _ => none }
def crcBurstRow : OpenClaim := { program := "ytipffnogkijmnaa", sum := "804be362d4d62b394a39f0d3db01e16d4f4532548afecccea6efc9fdad50bdc9", func := "chapbook/chapbooklaw02.CrcBurst", spec := "crcBurst", apart := false }
def CrcBurstSaid : Prop := crcBurstRow.holds Try.pinned (OpenSpec.ofChange crcBurstSpec)

/-- ITS FALSE NEIGHBOUR: 'it returns false'. Refute it at one input. -/
def crcBurstWrong : ChangeSpec := { name := "crcBurst", fn := fun _ => fun
  | [d1, d2, d3] => { results := [.lit (.bool false)], args := [d1, d2, d3] }
  | _ => none }
def CrcBurstWrongFalsely : Prop := crcBurstRow.holds Try.pinned (OpenSpec.ofChange crcBurstWrong)

/-- 'chapbooklaw02.CrcXor': WHATEVER THE INPUT: true; the input reads as it did. -/
def crcXorSpec : ChangeSpec := { name := "crcXor", fn := fun _ => fun
  | [d1, d2, d3] => { results := [.lit (.bool true)], args := [d1, d2, d3] }
  | _ => none }
def crcXorRow : OpenClaim := { program := "ytipffnogkijmnaa", sum := "804be362d4d62b394a39f0d3db01e16d4f4532548afecccea6efc9fdad50bdc9", func := "chapbook/chapbooklaw02.CrcXor", spec := "crcXor", apart := false }
def CrcXorSaid : Prop := crcXorRow.holds Try.pinned (OpenSpec.ofChange crcXorSpec)

/-- ITS FALSE NEIGHBOUR: 'it returns false'. Refute it at one input. -/
def crcXorWrong : ChangeSpec := { name := "crcXor", fn := fun _ => fun
  | [d1, d2, d3] => { results := [.lit (.bool false)], args := [d1, d2, d3] }
  | _ => none }
def CrcXorWrongFalsely : Prop := crcXorRow.holds Try.pinned (OpenSpec.ofChange crcXorWrong)

/-- 'chapbooklaw19.BagBursts': WHATEVER THE INPUT: true; the input reads as it did. -/
def bagBurstsSpec : ChangeSpec := { name := "bagBursts", fn := fun _ => fun
  | [d1, d2, d3] => { results := [.lit (.bool true)], args := [d1, d2, d3] }
  | _ => none }
def bagBurstsRow : OpenClaim := { program := "ytipffnogkijmnaa", sum := "804be362d4d62b394a39f0d3db01e16d4f4532548afecccea6efc9fdad50bdc9", func := "chapbook/chapbooklaw19.BagBursts", spec := "bagBursts", apart := false }
def BagBurstsSaid : Prop := bagBurstsRow.holds Try.pinned (OpenSpec.ofChange bagBurstsSpec)

/-- ITS FALSE NEIGHBOUR: 'it returns false'. Refute it at one input. -/
def bagBurstsWrong : ChangeSpec := { name := "bagBursts", fn := fun _ => fun
  | [d1, d2, d3] => { results := [.lit (.bool false)], args := [d1, d2, d3] }
  | _ => none }
def BagBurstsWrongFalsely : Prop := bagBurstsRow.holds Try.pinned (OpenSpec.ofChange bagBurstsWrong)

/- THE SECOND FORM. 'bulk': how many values and letters a reading holds, each counted each time it is reached (what is shared counts as often as it is met; a slice's spare places count too). A statement '..UptoSaid' is the law's where the arguments, and the package variables that the reading takes, are together of bulk at most 1048576: NARROWER than '..Said'. Prove '..Said' where nothing that the law and all that it calls make is longer than what came in: it says more and counts as full. Else prove '..UptoSaid'. A law counts once. -/
mutual
def uptoBulk {H : Type} : DataW H → Nat
  | .lit (.string bytes) => bytes.length + 1
  | .lit _ => 1
  | .nil => 1
  | .ptr d => uptoBulk d + 1
  | .slice elems spare => uptoBulkAll elems + uptoBulkAll spare + 1
  | .agg parts => uptoBulkAll parts + 1
  | .iface _ d => uptoBulk d + 1
  | .map entries => uptoBulkEntries entries + 1
  | .held _ => 1
def uptoBulkAll {H : Type} : List (DataW H) → Nat
  | [] => 0
  | d :: r => uptoBulk d + uptoBulkAll r
def uptoBulkEntries {H : Type} : List (Lit × DataW H) → Nat
  | [] => 0
  | x :: r => uptoBulkEntry x + uptoBulkEntries r
def uptoBulkEntry {H : Type} : Lit × DataW H → Nat
  | (.string bytes, d) => bytes.length + uptoBulk d + 1
  | (_, d) => uptoBulk d + 1
 end
def uptoSmall : (H : Type) → List (DataW H) → Bool := fun _ ds => decide (uptoBulkAll ds ≤ 1048576)
def OpenSpec.upto (s : _root_.Go.ChangeSpec) : _root_.Go.OpenSpec := { _root_.Go.OpenSpec.ofChange s with cond := some uptoSmall }

/-- 'chapbooklaw02.CrcSums', WHERE WHAT IT READS IS OF BULK AT MOST 1048576: true; the input reads as it did. -/
def crcSumsUptoRow : OpenClaim := { program := "ytipffnogkijmnaa", sum := "804be362d4d62b394a39f0d3db01e16d4f4532548afecccea6efc9fdad50bdc9", func := "chapbook/chapbooklaw02.CrcSums", spec := "crcSums", apart := false, narrowed := true }
def CrcSumsUptoSaid : Prop := crcSumsUptoRow.holds Try.pinned (OpenSpec.upto crcSumsSpec)

/-- 'chapbooklaw02.CrcParts', WHERE WHAT IT READS IS OF BULK AT MOST 1048576: true; the input reads as it did. -/
def crcPartsUptoRow : OpenClaim := { program := "ytipffnogkijmnaa", sum := "804be362d4d62b394a39f0d3db01e16d4f4532548afecccea6efc9fdad50bdc9", func := "chapbook/chapbooklaw02.CrcParts", spec := "crcParts", apart := false, narrowed := true }
def CrcPartsUptoSaid : Prop := crcPartsUptoRow.holds Try.pinned (OpenSpec.upto crcPartsSpec)

/-- 'chapbooklaw02.CrcSealed', WHERE WHAT IT READS IS OF BULK AT MOST 1048576: true; the input reads as it did. -/
def crcSealedUptoRow : OpenClaim := { program := "ytipffnogkijmnaa", sum := "804be362d4d62b394a39f0d3db01e16d4f4532548afecccea6efc9fdad50bdc9", func := "chapbook/chapbooklaw02.CrcSealed", spec := "crcSealed", apart := false, narrowed := true }
def CrcSealedUptoSaid : Prop := crcSealedUptoRow.holds Try.pinned (OpenSpec.upto crcSealedSpec)

/-- 'chapbooklaw02.CrcBurst', WHERE WHAT IT READS IS OF BULK AT MOST 1048576: true; the input reads as it did. -/
def crcBurstUptoRow : OpenClaim := { program := "ytipffnogkijmnaa", sum := "804be362d4d62b394a39f0d3db01e16d4f4532548afecccea6efc9fdad50bdc9", func := "chapbook/chapbooklaw02.CrcBurst", spec := "crcBurst", apart := false, narrowed := true }
def CrcBurstUptoSaid : Prop := crcBurstUptoRow.holds Try.pinned (OpenSpec.upto crcBurstSpec)

/-- 'chapbooklaw02.CrcXor', WHERE WHAT IT READS IS OF BULK AT MOST 1048576: true; the input reads as it did. -/
def crcXorUptoRow : OpenClaim := { program := "ytipffnogkijmnaa", sum := "804be362d4d62b394a39f0d3db01e16d4f4532548afecccea6efc9fdad50bdc9", func := "chapbook/chapbooklaw02.CrcXor", spec := "crcXor", apart := false, narrowed := true }
def CrcXorUptoSaid : Prop := crcXorUptoRow.holds Try.pinned (OpenSpec.upto crcXorSpec)

/-- 'chapbooklaw19.BagBursts', WHERE WHAT IT READS IS OF BULK AT MOST 1048576: true; the input reads as it did. -/
def bagBurstsUptoRow : OpenClaim := { program := "ytipffnogkijmnaa", sum := "804be362d4d62b394a39f0d3db01e16d4f4532548afecccea6efc9fdad50bdc9", func := "chapbook/chapbooklaw19.BagBursts", spec := "bagBursts", apart := false, narrowed := true }
def BagBurstsUptoSaid : Prop := bagBurstsUptoRow.holds Try.pinned (OpenSpec.upto bagBurstsSpec)

end Rows
end Go.Proofs.Ytipffnogkijmnaa
