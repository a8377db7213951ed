/-
  No cell of these rows narrows 'for every input' (looked for: loops, veiled, ifaces, maps, wideKeys, modest, calm, conditions, laid).
  DERIVED. THE GIVEN ROWS OF THIS SEAT. 13 by the template 'for every input the law returns true; each argument reads behind the call as it read before'; 0 by the template 'total and deterministic' (their statements: YtehbpjkeflcanaaTotals.lean).
  GIVEN WITH THE SEED: the statements are not yours to turn. If you find one false, say at which input.
  Laid BY PROGRAM, IN A SANDBOX (cutbox-rows.mjs): the forced cells as the released guide's own fill.sh prints them over the translation 5f9acc6fe210b48b… (all of the seat's roots in one cut). By AI agents, Wed Nov 11 2026. No macro, syntax, notation, axiom, sorry.
-/
import Derived.Test.YtehbpjkeflcanaaChecked
import GoSem.Claim
import GoSem.ClaimJoined
import GoSem.ClaimMapViews
import Derived.JoinedTies
import Derived.KernelRfl
namespace Go.Proofs.Ytehbpjkeflcanaa
/- THE CELL 'sum', in the pinned program and in every row, IS THE sha256 OF THE DUMP (.gsa) THAT YtehbpjkeflcanaaProg.lean LOADS. Nothing in Lean hashes anything: it is a label: what it is worth is what the hold of that sum in a sandbox is worth. -/
noncomputable def Try.pinned : Pinned := { name := "ytehbpjkeflcanaa", sum := "5f9acc6fe210b48bc8390947ba2ac4685293dc66b153c9651f7266e0492a21df", checked := Try.checked }
namespace Rows
def none {H : Type} : Left H := { results := [], args := [] }

/-- 'gavellaw01.WireRights': WHATEVER THE INPUT: true; the input reads as it did. -/
def wireRightsSpec : ChangeSpec := { name := "wireRights", fn := fun _ => fun
  | [d] => { results := [.lit (.bool true)], args := [d] }
  | _ => none }
def wireRightsRow : OpenClaim := { program := "ytehbpjkeflcanaa", sum := "5f9acc6fe210b48bc8390947ba2ac4685293dc66b153c9651f7266e0492a21df", func := "gavel/gavellaw01.WireRights", spec := "wireRights", unfollowed := true, recurses := true, apart := false }
def WireRightsSaid : Prop := wireRightsRow.holds Try.pinned (OpenSpec.ofChange wireRightsSpec)

/-- ITS FALSE NEIGHBOUR: 'it returns false'. Refute it at one input. -/
def wireRightsWrong : ChangeSpec := { name := "wireRights", fn := fun _ => fun
  | [d] => { results := [.lit (.bool false)], args := [d] }
  | _ => none }
def WireRightsWrongFalsely : Prop := wireRightsRow.holds Try.pinned (OpenSpec.ofChange wireRightsWrong)

/-- 'gavellaw01.WireBytes': WHATEVER THE INPUT: true; the input reads as it did. -/
def wireBytesSpec : ChangeSpec := { name := "wireBytes", fn := fun _ => fun
  | [d] => { results := [.lit (.bool true)], args := [d] }
  | _ => none }
def wireBytesRow : OpenClaim := { program := "ytehbpjkeflcanaa", sum := "5f9acc6fe210b48bc8390947ba2ac4685293dc66b153c9651f7266e0492a21df", func := "gavel/gavellaw01.WireBytes", spec := "wireBytes", unfollowed := true, recurses := true, apart := false }
def WireBytesSaid : Prop := wireBytesRow.holds Try.pinned (OpenSpec.ofChange wireBytesSpec)

/-- ITS FALSE NEIGHBOUR: 'it returns false'. Refute it at one input. -/
def wireBytesWrong : ChangeSpec := { name := "wireBytes", fn := fun _ => fun
  | [d] => { results := [.lit (.bool false)], args := [d] }
  | _ => none }
def WireBytesWrongFalsely : Prop := wireBytesRow.holds Try.pinned (OpenSpec.ofChange wireBytesWrong)

/-- 'gavellaw01.WireReads': WHATEVER THE INPUT: true; the input reads as it did. -/
def wireReadsSpec : ChangeSpec := { name := "wireReads", fn := fun _ => fun
  | [d] => { results := [.lit (.bool true)], args := [d] }
  | _ => none }
def wireReadsRow : OpenClaim := { program := "ytehbpjkeflcanaa", sum := "5f9acc6fe210b48bc8390947ba2ac4685293dc66b153c9651f7266e0492a21df", func := "gavel/gavellaw01.WireReads", spec := "wireReads", unfollowed := true, recurses := true, apart := false }
def WireReadsSaid : Prop := wireReadsRow.holds Try.pinned (OpenSpec.ofChange wireReadsSpec)

/-- ITS FALSE NEIGHBOUR: 'it returns false'. Refute it at one input. -/
def wireReadsWrong : ChangeSpec := { name := "wireReads", fn := fun _ => fun
  | [d] => { results := [.lit (.bool false)], args := [d] }
  | _ => none }
def WireReadsWrongFalsely : Prop := wireReadsRow.holds Try.pinned (OpenSpec.ofChange wireReadsWrong)

/-- 'gavellaw01.WireBack': WHATEVER THE INPUT: true; the input reads as it did. -/
def wireBackSpec : ChangeSpec := { name := "wireBack", fn := fun _ => fun
  | [d1, d2, d3] => { results := [.lit (.bool true)], args := [d1, d2, d3] }
  | _ => none }
def wireBackRow : OpenClaim := { program := "ytehbpjkeflcanaa", sum := "5f9acc6fe210b48bc8390947ba2ac4685293dc66b153c9651f7266e0492a21df", func := "gavel/gavellaw01.WireBack", spec := "wireBack", unfollowed := true, recurses := true, apart := false }
def WireBackSaid : Prop := wireBackRow.holds Try.pinned (OpenSpec.ofChange wireBackSpec)

/-- ITS FALSE NEIGHBOUR: 'it returns false'. Refute it at one input. -/
def wireBackWrong : ChangeSpec := { name := "wireBack", fn := fun _ => fun
  | [d1, d2, d3] => { results := [.lit (.bool false)], args := [d1, d2, d3] }
  | _ => none }
def WireBackWrongFalsely : Prop := wireBackRow.holds Try.pinned (OpenSpec.ofChange wireBackWrong)

/-- 'gavellaw01.WireCanon': WHATEVER THE INPUT: true; the input reads as it did. -/
def wireCanonSpec : ChangeSpec := { name := "wireCanon", fn := fun _ => fun
  | [d] => { results := [.lit (.bool true)], args := [d] }
  | _ => none }
def wireCanonRow : OpenClaim := { program := "ytehbpjkeflcanaa", sum := "5f9acc6fe210b48bc8390947ba2ac4685293dc66b153c9651f7266e0492a21df", func := "gavel/gavellaw01.WireCanon", spec := "wireCanon", unfollowed := true, recurses := true, apart := false }
def WireCanonSaid : Prop := wireCanonRow.holds Try.pinned (OpenSpec.ofChange wireCanonSpec)

/-- ITS FALSE NEIGHBOUR: 'it returns false'. Refute it at one input. -/
def wireCanonWrong : ChangeSpec := { name := "wireCanon", fn := fun _ => fun
  | [d] => { results := [.lit (.bool false)], args := [d] }
  | _ => none }
def WireCanonWrongFalsely : Prop := wireCanonRow.holds Try.pinned (OpenSpec.ofChange wireCanonWrong)

/-- 'gavellaw01.WireApart': WHATEVER THE INPUT: true; the input reads as it did. -/
def wireApartSpec : ChangeSpec := { name := "wireApart", fn := fun _ => fun
  | [d1, d2] => { results := [.lit (.bool true)], args := [d1, d2] }
  | _ => none }
def wireApartRow : OpenClaim := { program := "ytehbpjkeflcanaa", sum := "5f9acc6fe210b48bc8390947ba2ac4685293dc66b153c9651f7266e0492a21df", func := "gavel/gavellaw01.WireApart", spec := "wireApart", unfollowed := true, recurses := true, apart := false }
def WireApartSaid : Prop := wireApartRow.holds Try.pinned (OpenSpec.ofChange wireApartSpec)

/-- ITS FALSE NEIGHBOUR: 'it returns false'. Refute it at one input. -/
def wireApartWrong : ChangeSpec := { name := "wireApart", fn := fun _ => fun
  | [d1, d2] => { results := [.lit (.bool false)], args := [d1, d2] }
  | _ => none }
def WireApartWrongFalsely : Prop := wireApartRow.holds Try.pinned (OpenSpec.ofChange wireApartWrong)

/-- 'gavellaw01.WireInts': WHATEVER THE INPUT: true; the input reads as it did. -/
def wireIntsSpec : ChangeSpec := { name := "wireInts", fn := fun _ => fun
  | [d1, d2, d3] => { results := [.lit (.bool true)], args := [d1, d2, d3] }
  | _ => none }
def wireIntsRow : OpenClaim := { program := "ytehbpjkeflcanaa", sum := "5f9acc6fe210b48bc8390947ba2ac4685293dc66b153c9651f7266e0492a21df", func := "gavel/gavellaw01.WireInts", spec := "wireInts", unfollowed := true, recurses := true, apart := false }
def WireIntsSaid : Prop := wireIntsRow.holds Try.pinned (OpenSpec.ofChange wireIntsSpec)

/-- ITS FALSE NEIGHBOUR: 'it returns false'. Refute it at one input. -/
def wireIntsWrong : ChangeSpec := { name := "wireInts", fn := fun _ => fun
  | [d1, d2, d3] => { results := [.lit (.bool false)], args := [d1, d2, d3] }
  | _ => none }
def WireIntsWrongFalsely : Prop := wireIntsRow.holds Try.pinned (OpenSpec.ofChange wireIntsWrong)

/-- 'gavellaw01.WireTexts': WHATEVER THE INPUT: true; the input reads as it did. -/
def wireTextsSpec : ChangeSpec := { name := "wireTexts", fn := fun _ => fun
  | [d1, d2, d3] => { results := [.lit (.bool true)], args := [d1, d2, d3] }
  | _ => none }
def wireTextsRow : OpenClaim := { program := "ytehbpjkeflcanaa", sum := "5f9acc6fe210b48bc8390947ba2ac4685293dc66b153c9651f7266e0492a21df", func := "gavel/gavellaw01.WireTexts", spec := "wireTexts", unfollowed := true, recurses := true, apart := false }
def WireTextsSaid : Prop := wireTextsRow.holds Try.pinned (OpenSpec.ofChange wireTextsSpec)

/-- ITS FALSE NEIGHBOUR: 'it returns false'. Refute it at one input. -/
def wireTextsWrong : ChangeSpec := { name := "wireTexts", fn := fun _ => fun
  | [d1, d2, d3] => { results := [.lit (.bool false)], args := [d1, d2, d3] }
  | _ => none }
def WireTextsWrongFalsely : Prop := wireTextsRow.holds Try.pinned (OpenSpec.ofChange wireTextsWrong)

/-- 'gavellaw01.WireSigned': WHATEVER THE INPUT: true; the input reads as it did. -/
def wireSignedSpec : ChangeSpec := { name := "wireSigned", fn := fun _ => fun
  | [d1, d2] => { results := [.lit (.bool true)], args := [d1, d2] }
  | _ => none }
def wireSignedRow : OpenClaim := { program := "ytehbpjkeflcanaa", sum := "5f9acc6fe210b48bc8390947ba2ac4685293dc66b153c9651f7266e0492a21df", func := "gavel/gavellaw01.WireSigned", spec := "wireSigned", unfollowed := true, recurses := true, apart := false }
def WireSignedSaid : Prop := wireSignedRow.holds Try.pinned (OpenSpec.ofChange wireSignedSpec)

/-- ITS FALSE NEIGHBOUR: 'it returns false'. Refute it at one input. -/
def wireSignedWrong : ChangeSpec := { name := "wireSigned", fn := fun _ => fun
  | [d1, d2] => { results := [.lit (.bool false)], args := [d1, d2] }
  | _ => none }
def WireSignedWrongFalsely : Prop := wireSignedRow.holds Try.pinned (OpenSpec.ofChange wireSignedWrong)

/-- 'gavellaw01.WireBatches': WHATEVER THE INPUT: true; the input reads as it did. -/
def wireBatchesSpec : ChangeSpec := { name := "wireBatches", fn := fun _ => fun
  | [d1, d2] => { results := [.lit (.bool true)], args := [d1, d2] }
  | _ => none }
def wireBatchesRow : OpenClaim := { program := "ytehbpjkeflcanaa", sum := "5f9acc6fe210b48bc8390947ba2ac4685293dc66b153c9651f7266e0492a21df", func := "gavel/gavellaw01.WireBatches", spec := "wireBatches", unfollowed := true, recurses := true, apart := false }
def WireBatchesSaid : Prop := wireBatchesRow.holds Try.pinned (OpenSpec.ofChange wireBatchesSpec)

/-- ITS FALSE NEIGHBOUR: 'it returns false'. Refute it at one input. -/
def wireBatchesWrong : ChangeSpec := { name := "wireBatches", fn := fun _ => fun
  | [d1, d2] => { results := [.lit (.bool false)], args := [d1, d2] }
  | _ => none }
def WireBatchesWrongFalsely : Prop := wireBatchesRow.holds Try.pinned (OpenSpec.ofChange wireBatchesWrong)

/-- 'gavellaw01.WireOps': WHATEVER THE INPUT: true; the input reads as it did. -/
def wireOpsSpec : ChangeSpec := { name := "wireOps", fn := fun _ => fun
  | [d1, d2] => { results := [.lit (.bool true)], args := [d1, d2] }
  | _ => none }
def wireOpsRow : OpenClaim := { program := "ytehbpjkeflcanaa", sum := "5f9acc6fe210b48bc8390947ba2ac4685293dc66b153c9651f7266e0492a21df", func := "gavel/gavellaw01.WireOps", spec := "wireOps", inPlace := ["math.Float64bits", "math.Float64frombits"], unfollowed := true, recurses := true, apart := false }
def WireOpsSaid : Prop := wireOpsRow.holds Try.pinned (OpenSpec.ofChange wireOpsSpec)

/-- ITS FALSE NEIGHBOUR: 'it returns false'. Refute it at one input. -/
def wireOpsWrong : ChangeSpec := { name := "wireOps", fn := fun _ => fun
  | [d1, d2] => { results := [.lit (.bool false)], args := [d1, d2] }
  | _ => none }
def WireOpsWrongFalsely : Prop := wireOpsRow.holds Try.pinned (OpenSpec.ofChange wireOpsWrong)

/-- 'gavellaw01.WireRecords': WHATEVER THE INPUT: true; the input reads as it did. -/
def wireRecordsSpec : ChangeSpec := { name := "wireRecords", fn := fun _ => fun
  | [d1, d2] => { results := [.lit (.bool true)], args := [d1, d2] }
  | _ => none }
def wireRecordsRow : OpenClaim := { program := "ytehbpjkeflcanaa", sum := "5f9acc6fe210b48bc8390947ba2ac4685293dc66b153c9651f7266e0492a21df", func := "gavel/gavellaw01.WireRecords", spec := "wireRecords", unfollowed := true, recurses := true, apart := false }
def WireRecordsSaid : Prop := wireRecordsRow.holds Try.pinned (OpenSpec.ofChange wireRecordsSpec)

/-- ITS FALSE NEIGHBOUR: 'it returns false'. Refute it at one input. -/
def wireRecordsWrong : ChangeSpec := { name := "wireRecords", fn := fun _ => fun
  | [d1, d2] => { results := [.lit (.bool false)], args := [d1, d2] }
  | _ => none }
def WireRecordsWrongFalsely : Prop := wireRecordsRow.holds Try.pinned (OpenSpec.ofChange wireRecordsWrong)

/-- 'gavellaw01.WireProofs': WHATEVER THE INPUT: true; the input reads as it did. -/
def wireProofsSpec : ChangeSpec := { name := "wireProofs", fn := fun _ => fun
  | [d1, d2] => { results := [.lit (.bool true)], args := [d1, d2] }
  | _ => none }
def wireProofsRow : OpenClaim := { program := "ytehbpjkeflcanaa", sum := "5f9acc6fe210b48bc8390947ba2ac4685293dc66b153c9651f7266e0492a21df", func := "gavel/gavellaw01.WireProofs", spec := "wireProofs", unfollowed := true, recurses := true, apart := false }
def WireProofsSaid : Prop := wireProofsRow.holds Try.pinned (OpenSpec.ofChange wireProofsSpec)

/-- ITS FALSE NEIGHBOUR: 'it returns false'. Refute it at one input. -/
def wireProofsWrong : ChangeSpec := { name := "wireProofs", fn := fun _ => fun
  | [d1, d2] => { results := [.lit (.bool false)], args := [d1, d2] }
  | _ => none }
def WireProofsWrongFalsely : Prop := wireProofsRow.holds Try.pinned (OpenSpec.ofChange wireProofsWrong)

/- THE SECOND FORM. 'bulk': how many values and letters a reading holds, each counted each time it is reached (what is shared counts as often as it is met; a slice's spare places count too). A statement '..UptoSaid' is the law's where the arguments, and the package variables that the reading takes, are together of bulk at most 1048576: NARROWER than '..Said'. Prove '..Said' where nothing that the law and all that it calls make is longer than what came in: it says more and counts as full. Else prove '..UptoSaid'. A law counts once. -/
mutual
def uptoBulk {H : Type} : DataW H → Nat
  | .lit (.string bytes) => bytes.length + 1
  | .lit _ => 1
  | .nil => 1
  | .ptr d => uptoBulk d + 1
  | .slice elems spare => uptoBulkAll elems + uptoBulkAll spare + 1
  | .agg parts => uptoBulkAll parts + 1
  | .iface _ d => uptoBulk d + 1
  | .map entries => uptoBulkEntries entries + 1
  | .held _ => 1
def uptoBulkAll {H : Type} : List (DataW H) → Nat
  | [] => 0
  | d :: r => uptoBulk d + uptoBulkAll r
def uptoBulkEntries {H : Type} : List (Lit × DataW H) → Nat
  | [] => 0
  | x :: r => uptoBulkEntry x + uptoBulkEntries r
def uptoBulkEntry {H : Type} : Lit × DataW H → Nat
  | (.string bytes, d) => bytes.length + uptoBulk d + 1
  | (_, d) => uptoBulk d + 1
 end
def uptoSmall : (H : Type) → List (DataW H) → Bool := fun _ ds => decide (uptoBulkAll ds ≤ 1048576)
def OpenSpec.upto (s : _root_.Go.ChangeSpec) : _root_.Go.OpenSpec := { _root_.Go.OpenSpec.ofChange s with cond := some uptoSmall }

/-- 'gavellaw01.WireRights', WHERE WHAT IT READS IS OF BULK AT MOST 1048576: true; the input reads as it did. -/
def wireRightsUptoRow : OpenClaim := { program := "ytehbpjkeflcanaa", sum := "5f9acc6fe210b48bc8390947ba2ac4685293dc66b153c9651f7266e0492a21df", func := "gavel/gavellaw01.WireRights", spec := "wireRights", unfollowed := true, recurses := true, apart := false, narrowed := true }
def WireRightsUptoSaid : Prop := wireRightsUptoRow.holds Try.pinned (OpenSpec.upto wireRightsSpec)

/-- 'gavellaw01.WireBytes', WHERE WHAT IT READS IS OF BULK AT MOST 1048576: true; the input reads as it did. -/
def wireBytesUptoRow : OpenClaim := { program := "ytehbpjkeflcanaa", sum := "5f9acc6fe210b48bc8390947ba2ac4685293dc66b153c9651f7266e0492a21df", func := "gavel/gavellaw01.WireBytes", spec := "wireBytes", unfollowed := true, recurses := true, apart := false, narrowed := true }
def WireBytesUptoSaid : Prop := wireBytesUptoRow.holds Try.pinned (OpenSpec.upto wireBytesSpec)

/-- 'gavellaw01.WireReads', WHERE WHAT IT READS IS OF BULK AT MOST 1048576: true; the input reads as it did. -/
def wireReadsUptoRow : OpenClaim := { program := "ytehbpjkeflcanaa", sum := "5f9acc6fe210b48bc8390947ba2ac4685293dc66b153c9651f7266e0492a21df", func := "gavel/gavellaw01.WireReads", spec := "wireReads", unfollowed := true, recurses := true, apart := false, narrowed := true }
def WireReadsUptoSaid : Prop := wireReadsUptoRow.holds Try.pinned (OpenSpec.upto wireReadsSpec)

/-- 'gavellaw01.WireBack', WHERE WHAT IT READS IS OF BULK AT MOST 1048576: true; the input reads as it did. -/
def wireBackUptoRow : OpenClaim := { program := "ytehbpjkeflcanaa", sum := "5f9acc6fe210b48bc8390947ba2ac4685293dc66b153c9651f7266e0492a21df", func := "gavel/gavellaw01.WireBack", spec := "wireBack", unfollowed := true, recurses := true, apart := false, narrowed := true }
def WireBackUptoSaid : Prop := wireBackUptoRow.holds Try.pinned (OpenSpec.upto wireBackSpec)

/-- 'gavellaw01.WireCanon', WHERE WHAT IT READS IS OF BULK AT MOST 1048576: true; the input reads as it did. -/
def wireCanonUptoRow : OpenClaim := { program := "ytehbpjkeflcanaa", sum := "5f9acc6fe210b48bc8390947ba2ac4685293dc66b153c9651f7266e0492a21df", func := "gavel/gavellaw01.WireCanon", spec := "wireCanon", unfollowed := true, recurses := true, apart := false, narrowed := true }
def WireCanonUptoSaid : Prop := wireCanonUptoRow.holds Try.pinned (OpenSpec.upto wireCanonSpec)

/-- 'gavellaw01.WireApart', WHERE WHAT IT READS IS OF BULK AT MOST 1048576: true; the input reads as it did. -/
def wireApartUptoRow : OpenClaim := { program := "ytehbpjkeflcanaa", sum := "5f9acc6fe210b48bc8390947ba2ac4685293dc66b153c9651f7266e0492a21df", func := "gavel/gavellaw01.WireApart", spec := "wireApart", unfollowed := true, recurses := true, apart := false, narrowed := true }
def WireApartUptoSaid : Prop := wireApartUptoRow.holds Try.pinned (OpenSpec.upto wireApartSpec)

/-- 'gavellaw01.WireInts', WHERE WHAT IT READS IS OF BULK AT MOST 1048576: true; the input reads as it did. -/
def wireIntsUptoRow : OpenClaim := { program := "ytehbpjkeflcanaa", sum := "5f9acc6fe210b48bc8390947ba2ac4685293dc66b153c9651f7266e0492a21df", func := "gavel/gavellaw01.WireInts", spec := "wireInts", unfollowed := true, recurses := true, apart := false, narrowed := true }
def WireIntsUptoSaid : Prop := wireIntsUptoRow.holds Try.pinned (OpenSpec.upto wireIntsSpec)

/-- 'gavellaw01.WireTexts', WHERE WHAT IT READS IS OF BULK AT MOST 1048576: true; the input reads as it did. -/
def wireTextsUptoRow : OpenClaim := { program := "ytehbpjkeflcanaa", sum := "5f9acc6fe210b48bc8390947ba2ac4685293dc66b153c9651f7266e0492a21df", func := "gavel/gavellaw01.WireTexts", spec := "wireTexts", unfollowed := true, recurses := true, apart := false, narrowed := true }
def WireTextsUptoSaid : Prop := wireTextsUptoRow.holds Try.pinned (OpenSpec.upto wireTextsSpec)

/-- 'gavellaw01.WireSigned', WHERE WHAT IT READS IS OF BULK AT MOST 1048576: true; the input reads as it did. -/
def wireSignedUptoRow : OpenClaim := { program := "ytehbpjkeflcanaa", sum := "5f9acc6fe210b48bc8390947ba2ac4685293dc66b153c9651f7266e0492a21df", func := "gavel/gavellaw01.WireSigned", spec := "wireSigned", unfollowed := true, recurses := true, apart := false, narrowed := true }
def WireSignedUptoSaid : Prop := wireSignedUptoRow.holds Try.pinned (OpenSpec.upto wireSignedSpec)

/-- 'gavellaw01.WireBatches', WHERE WHAT IT READS IS OF BULK AT MOST 1048576: true; the input reads as it did. -/
def wireBatchesUptoRow : OpenClaim := { program := "ytehbpjkeflcanaa", sum := "5f9acc6fe210b48bc8390947ba2ac4685293dc66b153c9651f7266e0492a21df", func := "gavel/gavellaw01.WireBatches", spec := "wireBatches", unfollowed := true, recurses := true, apart := false, narrowed := true }
def WireBatchesUptoSaid : Prop := wireBatchesUptoRow.holds Try.pinned (OpenSpec.upto wireBatchesSpec)

/-- 'gavellaw01.WireOps', WHERE WHAT IT READS IS OF BULK AT MOST 1048576: true; the input reads as it did. -/
def wireOpsUptoRow : OpenClaim := { program := "ytehbpjkeflcanaa", sum := "5f9acc6fe210b48bc8390947ba2ac4685293dc66b153c9651f7266e0492a21df", func := "gavel/gavellaw01.WireOps", spec := "wireOps", inPlace := ["math.Float64bits", "math.Float64frombits"], unfollowed := true, recurses := true, apart := false, narrowed := true }
def WireOpsUptoSaid : Prop := wireOpsUptoRow.holds Try.pinned (OpenSpec.upto wireOpsSpec)

/-- 'gavellaw01.WireRecords', WHERE WHAT IT READS IS OF BULK AT MOST 1048576: true; the input reads as it did. -/
def wireRecordsUptoRow : OpenClaim := { program := "ytehbpjkeflcanaa", sum := "5f9acc6fe210b48bc8390947ba2ac4685293dc66b153c9651f7266e0492a21df", func := "gavel/gavellaw01.WireRecords", spec := "wireRecords", unfollowed := true, recurses := true, apart := false, narrowed := true }
def WireRecordsUptoSaid : Prop := wireRecordsUptoRow.holds Try.pinned (OpenSpec.upto wireRecordsSpec)

/-- 'gavellaw01.WireProofs', WHERE WHAT IT READS IS OF BULK AT MOST 1048576: true; the input reads as it did. -/
def wireProofsUptoRow : OpenClaim := { program := "ytehbpjkeflcanaa", sum := "5f9acc6fe210b48bc8390947ba2ac4685293dc66b153c9651f7266e0492a21df", func := "gavel/gavellaw01.WireProofs", spec := "wireProofs", unfollowed := true, recurses := true, apart := false, narrowed := true }
def WireProofsUptoSaid : Prop := wireProofsUptoRow.holds Try.pinned (OpenSpec.upto wireProofsSpec)

end Rows
end Go.Proofs.Ytehbpjkeflcanaa
