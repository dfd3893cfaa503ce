/-
  No cell of these rows narrows 'for every input' (looked for: loops, veiled, ifaces, maps, wideKeys, modest, calm, conditions, laid).
  DERIVED. THE GIVEN ROWS OF THIS SEAT. 12 by the template 'for every input the law returns true; each argument reads behind the call as it read before'; 0 by the template 'total and deterministic' (their statements: YtbnghcjmfjmehaaTotals.lean).
  GIVEN WITH THE SEED: the statements are not yours to turn. If you find one false, say at which input.
  Laid BY PROGRAM, IN A SANDBOX (cutbox-rows.mjs): the forced cells as the released guide's own fill.sh prints them over the translation e970d146e8502507… (all of the seat's roots in one cut). By AI agents, Wed Nov 11 2026. No macro, syntax, notation, axiom, sorry.
-/
import Derived.Test.YtbnghcjmfjmehaaChecked
import GoSem.Claim
import GoSem.ClaimJoined
import GoSem.ClaimMapViews
import Derived.JoinedTies
import Derived.KernelRfl
namespace Go.Proofs.Ytbnghcjmfjmehaa
/- THE CELL 'sum', in the pinned program and in every row, IS THE sha256 OF THE DUMP (.gsa) THAT YtbnghcjmfjmehaaProg.lean LOADS. Nothing in Lean hashes anything: it is a label: what it is worth is what the hold of that sum in a sandbox is worth. -/
noncomputable def Try.pinned : Pinned := { name := "ytbnghcjmfjmehaa", sum := "e970d146e850250750ae3235dda896249a30dff49dd3e65c37a878811f9b1df8", checked := Try.checked }
namespace Rows
def none {H : Type} : Left H := { results := [], args := [] }

/-- 'laws.FnExactEqualBytes': WHATEVER THE INPUT: true; the input reads as it did. -/
def fnExactEqualBytesSpec : ChangeSpec := { name := "fnExactEqualBytes", fn := fun _ => fun
  | [d1, d2] => { results := [.lit (.bool true)], args := [d1, d2] }
  | _ => none }
def fnExactEqualBytesRow : OpenClaim := { program := "ytbnghcjmfjmehaa", sum := "e970d146e850250750ae3235dda896249a30dff49dd3e65c37a878811f9b1df8", func := "loop.example/g00513/laws.FnExactEqualBytes", spec := "fnExactEqualBytes", apart := false }
def FnExactEqualBytesSaid : Prop := fnExactEqualBytesRow.holds Try.pinned (OpenSpec.ofChange fnExactEqualBytesSpec)

/-- ITS FALSE NEIGHBOUR: 'it returns false'. Refute it at one input. -/
def fnExactEqualBytesWrong : ChangeSpec := { name := "fnExactEqualBytes", fn := fun _ => fun
  | [d1, d2] => { results := [.lit (.bool false)], args := [d1, d2] }
  | _ => none }
def FnExactEqualBytesWrongFalsely : Prop := fnExactEqualBytesRow.holds Try.pinned (OpenSpec.ofChange fnExactEqualBytesWrong)

/-- 'laws.FnExactLeadingIndex': WHATEVER THE INPUT: true; the input reads as it did. -/
def fnExactLeadingIndexSpec : ChangeSpec := { name := "fnExactLeadingIndex", fn := fun _ => fun
  | [d] => { results := [.lit (.bool true)], args := [d] }
  | _ => none }
def fnExactLeadingIndexRow : OpenClaim := { program := "ytbnghcjmfjmehaa", sum := "e970d146e850250750ae3235dda896249a30dff49dd3e65c37a878811f9b1df8", func := "loop.example/g00513/laws.FnExactLeadingIndex", spec := "fnExactLeadingIndex", unfollowed := true, recurses := true, apart := false }
def FnExactLeadingIndexSaid : Prop := fnExactLeadingIndexRow.holds Try.pinned (OpenSpec.ofChange fnExactLeadingIndexSpec)

/-- ITS FALSE NEIGHBOUR: 'it returns false'. Refute it at one input. -/
def fnExactLeadingIndexWrong : ChangeSpec := { name := "fnExactLeadingIndex", fn := fun _ => fun
  | [d] => { results := [.lit (.bool false)], args := [d] }
  | _ => none }
def FnExactLeadingIndexWrongFalsely : Prop := fnExactLeadingIndexRow.holds Try.pinned (OpenSpec.ofChange fnExactLeadingIndexWrong)

/-- 'laws.FnExactPowField': WHATEVER THE INPUT: true; the input reads as it did. -/
def fnExactPowFieldSpec : ChangeSpec := { name := "fnExactPowField", fn := fun _ => fun
  | [d1, d2] => { results := [.lit (.bool true)], args := [d1, d2] }
  | _ => none }
def fnExactPowFieldRow : OpenClaim := { program := "ytbnghcjmfjmehaa", sum := "e970d146e850250750ae3235dda896249a30dff49dd3e65c37a878811f9b1df8", func := "loop.example/g00513/laws.FnExactPowField", spec := "fnExactPowField", apart := false }
def FnExactPowFieldSaid : Prop := fnExactPowFieldRow.holds Try.pinned (OpenSpec.ofChange fnExactPowFieldSpec)

/-- ITS FALSE NEIGHBOUR: 'it returns false'. Refute it at one input. -/
def fnExactPowFieldWrong : ChangeSpec := { name := "fnExactPowField", fn := fun _ => fun
  | [d1, d2] => { results := [.lit (.bool false)], args := [d1, d2] }
  | _ => none }
def FnExactPowFieldWrongFalsely : Prop := fnExactPowFieldRow.holds Try.pinned (OpenSpec.ofChange fnExactPowFieldWrong)

/-- 'laws.FnExactIsValidVector': WHATEVER THE INPUT: true; the input reads as it did. -/
def fnExactIsValidVectorSpec : ChangeSpec := { name := "fnExactIsValidVector", fn := fun _ => fun
  | [d] => { results := [.lit (.bool true)], args := [d] }
  | _ => none }
def fnExactIsValidVectorRow : OpenClaim := { program := "ytbnghcjmfjmehaa", sum := "e970d146e850250750ae3235dda896249a30dff49dd3e65c37a878811f9b1df8", func := "loop.example/g00513/laws.FnExactIsValidVector", spec := "fnExactIsValidVector", apart := false }
def FnExactIsValidVectorSaid : Prop := fnExactIsValidVectorRow.holds Try.pinned (OpenSpec.ofChange fnExactIsValidVectorSpec)

/-- ITS FALSE NEIGHBOUR: 'it returns false'. Refute it at one input. -/
def fnExactIsValidVectorWrong : ChangeSpec := { name := "fnExactIsValidVector", fn := fun _ => fun
  | [d] => { results := [.lit (.bool false)], args := [d] }
  | _ => none }
def FnExactIsValidVectorWrongFalsely : Prop := fnExactIsValidVectorRow.holds Try.pinned (OpenSpec.ofChange fnExactIsValidVectorWrong)

/-- 'laws.FnExactEqualInts': WHATEVER THE INPUT: true; the input reads as it did. -/
def fnExactEqualIntsSpec : ChangeSpec := { name := "fnExactEqualInts", fn := fun _ => fun
  | [d1, d2] => { results := [.lit (.bool true)], args := [d1, d2] }
  | _ => none }
def fnExactEqualIntsRow : OpenClaim := { program := "ytbnghcjmfjmehaa", sum := "e970d146e850250750ae3235dda896249a30dff49dd3e65c37a878811f9b1df8", func := "loop.example/g00513/laws.FnExactEqualInts", spec := "fnExactEqualInts", apart := false }
def FnExactEqualIntsSaid : Prop := fnExactEqualIntsRow.holds Try.pinned (OpenSpec.ofChange fnExactEqualIntsSpec)

/-- ITS FALSE NEIGHBOUR: 'it returns false'. Refute it at one input. -/
def fnExactEqualIntsWrong : ChangeSpec := { name := "fnExactEqualInts", fn := fun _ => fun
  | [d1, d2] => { results := [.lit (.bool false)], args := [d1, d2] }
  | _ => none }
def FnExactEqualIntsWrongFalsely : Prop := fnExactEqualIntsRow.holds Try.pinned (OpenSpec.ofChange fnExactEqualIntsWrong)

/-- 'laws.FnExactMulGroup': WHATEVER THE INPUT: true; the input reads as it did. -/
def fnExactMulGroupSpec : ChangeSpec := { name := "fnExactMulGroup", fn := fun _ => fun
  | [d1, d2] => { results := [.lit (.bool true)], args := [d1, d2] }
  | _ => none }
def fnExactMulGroupRow : OpenClaim := { program := "ytbnghcjmfjmehaa", sum := "e970d146e850250750ae3235dda896249a30dff49dd3e65c37a878811f9b1df8", func := "loop.example/g00513/laws.FnExactMulGroup", spec := "fnExactMulGroup", apart := false }
def FnExactMulGroupSaid : Prop := fnExactMulGroupRow.holds Try.pinned (OpenSpec.ofChange fnExactMulGroupSpec)

/-- ITS FALSE NEIGHBOUR: 'it returns false'. Refute it at one input. -/
def fnExactMulGroupWrong : ChangeSpec := { name := "fnExactMulGroup", fn := fun _ => fun
  | [d1, d2] => { results := [.lit (.bool false)], args := [d1, d2] }
  | _ => none }
def FnExactMulGroupWrongFalsely : Prop := fnExactMulGroupRow.holds Try.pinned (OpenSpec.ofChange fnExactMulGroupWrong)

/-- 'laws.FnExactEqualVectors': WHATEVER THE INPUT: true; the input reads as it did. -/
def fnExactEqualVectorsSpec : ChangeSpec := { name := "fnExactEqualVectors", fn := fun _ => fun
  | [d1, d2] => { results := [.lit (.bool true)], args := [d1, d2] }
  | _ => none }
def fnExactEqualVectorsRow : OpenClaim := { program := "ytbnghcjmfjmehaa", sum := "e970d146e850250750ae3235dda896249a30dff49dd3e65c37a878811f9b1df8", func := "loop.example/g00513/laws.FnExactEqualVectors", spec := "fnExactEqualVectors", apart := false }
def FnExactEqualVectorsSaid : Prop := fnExactEqualVectorsRow.holds Try.pinned (OpenSpec.ofChange fnExactEqualVectorsSpec)

/-- ITS FALSE NEIGHBOUR: 'it returns false'. Refute it at one input. -/
def fnExactEqualVectorsWrong : ChangeSpec := { name := "fnExactEqualVectors", fn := fun _ => fun
  | [d1, d2] => { results := [.lit (.bool false)], args := [d1, d2] }
  | _ => none }
def FnExactEqualVectorsWrongFalsely : Prop := fnExactEqualVectorsRow.holds Try.pinned (OpenSpec.ofChange fnExactEqualVectorsWrong)

/-- 'laws.FnExactInverseField': WHATEVER THE INPUT: true; the input reads as it did. -/
def fnExactInverseFieldSpec : ChangeSpec := { name := "fnExactInverseField", fn := fun _ => fun
  | [d] => { results := [.lit (.bool true)], args := [d] }
  | _ => none }
def fnExactInverseFieldRow : OpenClaim := { program := "ytbnghcjmfjmehaa", sum := "e970d146e850250750ae3235dda896249a30dff49dd3e65c37a878811f9b1df8", func := "loop.example/g00513/laws.FnExactInverseField", spec := "fnExactInverseField", apart := false }
def FnExactInverseFieldSaid : Prop := fnExactInverseFieldRow.holds Try.pinned (OpenSpec.ofChange fnExactInverseFieldSpec)

/-- ITS FALSE NEIGHBOUR: 'it returns false'. Refute it at one input. -/
def fnExactInverseFieldWrong : ChangeSpec := { name := "fnExactInverseField", fn := fun _ => fun
  | [d] => { results := [.lit (.bool false)], args := [d] }
  | _ => none }
def FnExactInverseFieldWrongFalsely : Prop := fnExactInverseFieldRow.holds Try.pinned (OpenSpec.ofChange fnExactInverseFieldWrong)

/-- 'laws.FnExactPowGroup': WHATEVER THE INPUT: true; the input reads as it did. -/
def fnExactPowGroupSpec : ChangeSpec := { name := "fnExactPowGroup", fn := fun _ => fun
  | [d1, d2] => { results := [.lit (.bool true)], args := [d1, d2] }
  | _ => none }
def fnExactPowGroupRow : OpenClaim := { program := "ytbnghcjmfjmehaa", sum := "e970d146e850250750ae3235dda896249a30dff49dd3e65c37a878811f9b1df8", func := "loop.example/g00513/laws.FnExactPowGroup", spec := "fnExactPowGroup", apart := false }
def FnExactPowGroupSaid : Prop := fnExactPowGroupRow.holds Try.pinned (OpenSpec.ofChange fnExactPowGroupSpec)

/-- ITS FALSE NEIGHBOUR: 'it returns false'. Refute it at one input. -/
def fnExactPowGroupWrong : ChangeSpec := { name := "fnExactPowGroup", fn := fun _ => fun
  | [d1, d2] => { results := [.lit (.bool false)], args := [d1, d2] }
  | _ => none }
def FnExactPowGroupWrongFalsely : Prop := fnExactPowGroupRow.holds Try.pinned (OpenSpec.ofChange fnExactPowGroupWrong)

/-- 'laws.FnExactHash': WHATEVER THE INPUT: true; the input reads as it did. -/
def fnExactHashSpec : ChangeSpec := { name := "fnExactHash", fn := fun _ => fun
  | [d] => { results := [.lit (.bool true)], args := [d] }
  | _ => none }
def fnExactHashRow : OpenClaim := { program := "ytbnghcjmfjmehaa", sum := "e970d146e850250750ae3235dda896249a30dff49dd3e65c37a878811f9b1df8", func := "loop.example/g00513/laws.FnExactHash", spec := "fnExactHash", apart := false }
def FnExactHashSaid : Prop := fnExactHashRow.holds Try.pinned (OpenSpec.ofChange fnExactHashSpec)

/-- ITS FALSE NEIGHBOUR: 'it returns false'. Refute it at one input. -/
def fnExactHashWrong : ChangeSpec := { name := "fnExactHash", fn := fun _ => fun
  | [d] => { results := [.lit (.bool false)], args := [d] }
  | _ => none }
def FnExactHashWrongFalsely : Prop := fnExactHashRow.holds Try.pinned (OpenSpec.ofChange fnExactHashWrong)

/-- 'laws.FnExactUnitVector': WHATEVER THE INPUT: true; the input reads as it did. -/
def fnExactUnitVectorSpec : ChangeSpec := { name := "fnExactUnitVector", fn := fun _ => fun
  | [d1, d2] => { results := [.lit (.bool true)], args := [d1, d2] }
  | _ => none }
def fnExactUnitVectorRow : OpenClaim := { program := "ytbnghcjmfjmehaa", sum := "e970d146e850250750ae3235dda896249a30dff49dd3e65c37a878811f9b1df8", func := "loop.example/g00513/laws.FnExactUnitVector", spec := "fnExactUnitVector", apart := false }
def FnExactUnitVectorSaid : Prop := fnExactUnitVectorRow.holds Try.pinned (OpenSpec.ofChange fnExactUnitVectorSpec)

/-- ITS FALSE NEIGHBOUR: 'it returns false'. Refute it at one input. -/
def fnExactUnitVectorWrong : ChangeSpec := { name := "fnExactUnitVector", fn := fun _ => fun
  | [d1, d2] => { results := [.lit (.bool false)], args := [d1, d2] }
  | _ => none }
def FnExactUnitVectorWrongFalsely : Prop := fnExactUnitVectorRow.holds Try.pinned (OpenSpec.ofChange fnExactUnitVectorWrong)

/-- 'laws.FnExactBytesToInts': WHATEVER THE INPUT: true; the input reads as it did. -/
def fnExactBytesToIntsSpec : ChangeSpec := { name := "fnExactBytesToInts", fn := fun _ => fun
  | [d] => { results := [.lit (.bool true)], args := [d] }
  | _ => none }
def fnExactBytesToIntsRow : OpenClaim := { program := "ytbnghcjmfjmehaa", sum := "e970d146e850250750ae3235dda896249a30dff49dd3e65c37a878811f9b1df8", func := "loop.example/g00513/laws.FnExactBytesToInts", spec := "fnExactBytesToInts", apart := false }
def FnExactBytesToIntsSaid : Prop := fnExactBytesToIntsRow.holds Try.pinned (OpenSpec.ofChange fnExactBytesToIntsSpec)

/-- ITS FALSE NEIGHBOUR: 'it returns false'. Refute it at one input. -/
def fnExactBytesToIntsWrong : ChangeSpec := { name := "fnExactBytesToInts", fn := fun _ => fun
  | [d] => { results := [.lit (.bool false)], args := [d] }
  | _ => none }
def FnExactBytesToIntsWrongFalsely : Prop := fnExactBytesToIntsRow.holds Try.pinned (OpenSpec.ofChange fnExactBytesToIntsWrong)

/- THE SECOND FORM. 'bulk': how many values and letters a reading holds, each counted each time it is reached (what is shared counts as often as it is met; a slice's spare places count too). A statement '..UptoSaid' is the law's where the arguments, and the package variables that the reading takes, are together of bulk at most 1048576: NARROWER than '..Said'. Prove '..Said' where nothing that the law and all that it calls make is longer than what came in: it says more and counts as full. Else prove '..UptoSaid'. A law counts once. -/
mutual
def uptoBulk {H : Type} : DataW H → Nat
  | .lit (.string bytes) => bytes.length + 1
  | .lit _ => 1
  | .nil => 1
  | .ptr d => uptoBulk d + 1
  | .slice elems spare => uptoBulkAll elems + uptoBulkAll spare + 1
  | .agg parts => uptoBulkAll parts + 1
  | .iface _ d => uptoBulk d + 1
  | .map entries => uptoBulkEntries entries + 1
  | .held _ => 1
def uptoBulkAll {H : Type} : List (DataW H) → Nat
  | [] => 0
  | d :: r => uptoBulk d + uptoBulkAll r
def uptoBulkEntries {H : Type} : List (Lit × DataW H) → Nat
  | [] => 0
  | x :: r => uptoBulkEntry x + uptoBulkEntries r
def uptoBulkEntry {H : Type} : Lit × DataW H → Nat
  | (.string bytes, d) => bytes.length + uptoBulk d + 1
  | (_, d) => uptoBulk d + 1
 end
def uptoSmall : (H : Type) → List (DataW H) → Bool := fun _ ds => decide (uptoBulkAll ds ≤ 1048576)
def OpenSpec.upto (s : _root_.Go.ChangeSpec) : _root_.Go.OpenSpec := { _root_.Go.OpenSpec.ofChange s with cond := some uptoSmall }

/-- 'laws.FnExactEqualBytes', WHERE WHAT IT READS IS OF BULK AT MOST 1048576: true; the input reads as it did. -/
def fnExactEqualBytesUptoRow : OpenClaim := { program := "ytbnghcjmfjmehaa", sum := "e970d146e850250750ae3235dda896249a30dff49dd3e65c37a878811f9b1df8", func := "loop.example/g00513/laws.FnExactEqualBytes", spec := "fnExactEqualBytes", apart := false, narrowed := true }
def FnExactEqualBytesUptoSaid : Prop := fnExactEqualBytesUptoRow.holds Try.pinned (OpenSpec.upto fnExactEqualBytesSpec)

/-- 'laws.FnExactLeadingIndex', WHERE WHAT IT READS IS OF BULK AT MOST 1048576: true; the input reads as it did. -/
def fnExactLeadingIndexUptoRow : OpenClaim := { program := "ytbnghcjmfjmehaa", sum := "e970d146e850250750ae3235dda896249a30dff49dd3e65c37a878811f9b1df8", func := "loop.example/g00513/laws.FnExactLeadingIndex", spec := "fnExactLeadingIndex", unfollowed := true, recurses := true, apart := false, narrowed := true }
def FnExactLeadingIndexUptoSaid : Prop := fnExactLeadingIndexUptoRow.holds Try.pinned (OpenSpec.upto fnExactLeadingIndexSpec)

/-- 'laws.FnExactPowField', WHERE WHAT IT READS IS OF BULK AT MOST 1048576: true; the input reads as it did. -/
def fnExactPowFieldUptoRow : OpenClaim := { program := "ytbnghcjmfjmehaa", sum := "e970d146e850250750ae3235dda896249a30dff49dd3e65c37a878811f9b1df8", func := "loop.example/g00513/laws.FnExactPowField", spec := "fnExactPowField", apart := false, narrowed := true }
def FnExactPowFieldUptoSaid : Prop := fnExactPowFieldUptoRow.holds Try.pinned (OpenSpec.upto fnExactPowFieldSpec)

/-- 'laws.FnExactIsValidVector', WHERE WHAT IT READS IS OF BULK AT MOST 1048576: true; the input reads as it did. -/
def fnExactIsValidVectorUptoRow : OpenClaim := { program := "ytbnghcjmfjmehaa", sum := "e970d146e850250750ae3235dda896249a30dff49dd3e65c37a878811f9b1df8", func := "loop.example/g00513/laws.FnExactIsValidVector", spec := "fnExactIsValidVector", apart := false, narrowed := true }
def FnExactIsValidVectorUptoSaid : Prop := fnExactIsValidVectorUptoRow.holds Try.pinned (OpenSpec.upto fnExactIsValidVectorSpec)

/-- 'laws.FnExactEqualInts', WHERE WHAT IT READS IS OF BULK AT MOST 1048576: true; the input reads as it did. -/
def fnExactEqualIntsUptoRow : OpenClaim := { program := "ytbnghcjmfjmehaa", sum := "e970d146e850250750ae3235dda896249a30dff49dd3e65c37a878811f9b1df8", func := "loop.example/g00513/laws.FnExactEqualInts", spec := "fnExactEqualInts", apart := false, narrowed := true }
def FnExactEqualIntsUptoSaid : Prop := fnExactEqualIntsUptoRow.holds Try.pinned (OpenSpec.upto fnExactEqualIntsSpec)

/-- 'laws.FnExactMulGroup', WHERE WHAT IT READS IS OF BULK AT MOST 1048576: true; the input reads as it did. -/
def fnExactMulGroupUptoRow : OpenClaim := { program := "ytbnghcjmfjmehaa", sum := "e970d146e850250750ae3235dda896249a30dff49dd3e65c37a878811f9b1df8", func := "loop.example/g00513/laws.FnExactMulGroup", spec := "fnExactMulGroup", apart := false, narrowed := true }
def FnExactMulGroupUptoSaid : Prop := fnExactMulGroupUptoRow.holds Try.pinned (OpenSpec.upto fnExactMulGroupSpec)

/-- 'laws.FnExactEqualVectors', WHERE WHAT IT READS IS OF BULK AT MOST 1048576: true; the input reads as it did. -/
def fnExactEqualVectorsUptoRow : OpenClaim := { program := "ytbnghcjmfjmehaa", sum := "e970d146e850250750ae3235dda896249a30dff49dd3e65c37a878811f9b1df8", func := "loop.example/g00513/laws.FnExactEqualVectors", spec := "fnExactEqualVectors", apart := false, narrowed := true }
def FnExactEqualVectorsUptoSaid : Prop := fnExactEqualVectorsUptoRow.holds Try.pinned (OpenSpec.upto fnExactEqualVectorsSpec)

/-- 'laws.FnExactInverseField', WHERE WHAT IT READS IS OF BULK AT MOST 1048576: true; the input reads as it did. -/
def fnExactInverseFieldUptoRow : OpenClaim := { program := "ytbnghcjmfjmehaa", sum := "e970d146e850250750ae3235dda896249a30dff49dd3e65c37a878811f9b1df8", func := "loop.example/g00513/laws.FnExactInverseField", spec := "fnExactInverseField", apart := false, narrowed := true }
def FnExactInverseFieldUptoSaid : Prop := fnExactInverseFieldUptoRow.holds Try.pinned (OpenSpec.upto fnExactInverseFieldSpec)

/-- 'laws.FnExactPowGroup', WHERE WHAT IT READS IS OF BULK AT MOST 1048576: true; the input reads as it did. -/
def fnExactPowGroupUptoRow : OpenClaim := { program := "ytbnghcjmfjmehaa", sum := "e970d146e850250750ae3235dda896249a30dff49dd3e65c37a878811f9b1df8", func := "loop.example/g00513/laws.FnExactPowGroup", spec := "fnExactPowGroup", apart := false, narrowed := true }
def FnExactPowGroupUptoSaid : Prop := fnExactPowGroupUptoRow.holds Try.pinned (OpenSpec.upto fnExactPowGroupSpec)

/-- 'laws.FnExactHash', WHERE WHAT IT READS IS OF BULK AT MOST 1048576: true; the input reads as it did. -/
def fnExactHashUptoRow : OpenClaim := { program := "ytbnghcjmfjmehaa", sum := "e970d146e850250750ae3235dda896249a30dff49dd3e65c37a878811f9b1df8", func := "loop.example/g00513/laws.FnExactHash", spec := "fnExactHash", apart := false, narrowed := true }
def FnExactHashUptoSaid : Prop := fnExactHashUptoRow.holds Try.pinned (OpenSpec.upto fnExactHashSpec)

/-- 'laws.FnExactUnitVector', WHERE WHAT IT READS IS OF BULK AT MOST 1048576: true; the input reads as it did. -/
def fnExactUnitVectorUptoRow : OpenClaim := { program := "ytbnghcjmfjmehaa", sum := "e970d146e850250750ae3235dda896249a30dff49dd3e65c37a878811f9b1df8", func := "loop.example/g00513/laws.FnExactUnitVector", spec := "fnExactUnitVector", apart := false, narrowed := true }
def FnExactUnitVectorUptoSaid : Prop := fnExactUnitVectorUptoRow.holds Try.pinned (OpenSpec.upto fnExactUnitVectorSpec)

/-- 'laws.FnExactBytesToInts', WHERE WHAT IT READS IS OF BULK AT MOST 1048576: true; the input reads as it did. -/
def fnExactBytesToIntsUptoRow : OpenClaim := { program := "ytbnghcjmfjmehaa", sum := "e970d146e850250750ae3235dda896249a30dff49dd3e65c37a878811f9b1df8", func := "loop.example/g00513/laws.FnExactBytesToInts", spec := "fnExactBytesToInts", apart := false, narrowed := true }
def FnExactBytesToIntsUptoSaid : Prop := fnExactBytesToIntsUptoRow.holds Try.pinned (OpenSpec.upto fnExactBytesToIntsSpec)

end Rows
end Go.Proofs.Ytbnghcjmfjmehaa
