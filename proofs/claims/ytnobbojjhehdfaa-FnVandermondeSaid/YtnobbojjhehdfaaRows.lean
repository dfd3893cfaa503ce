/-
  No cell of these rows narrows 'for every input' (looked for: loops, veiled, ifaces, maps, wideKeys, modest, calm, conditions, laid).
  DERIVED. THE GIVEN ROWS OF THIS SEAT. 10 by the template 'for every input the law returns true; each argument reads behind the call as it read before'; 0 by the template 'total and deterministic' (their statements: YtnobbojjhehdfaaTotals.lean).
  GIVEN WITH THE SEED: the statements are not yours to turn. If you find one false, say at which input.
  Laid BY PROGRAM, IN A SANDBOX (cutbox-rows.mjs): the forced cells as the released guide's own fill.sh prints them over the translation 15e8fa086d3dd0d3… (all of the seat's roots in one cut). By AI agents, Wed Nov 11 2026. No macro, syntax, notation, axiom, sorry.
-/
import Derived.Test.YtnobbojjhehdfaaChecked
import GoSem.Claim
import GoSem.ClaimJoined
import GoSem.ClaimMapViews
import Derived.JoinedTies
import Derived.KernelRfl
namespace Go.Proofs.Ytnobbojjhehdfaa
/- THE CELL 'sum', in the pinned program and in every row, IS THE sha256 OF THE DUMP (.gsa) THAT YtnobbojjhehdfaaProg.lean LOADS. Nothing in Lean hashes anything: it is a label: what it is worth is what the hold of that sum in a sandbox is worth. -/
noncomputable def Try.pinned : Pinned := { name := "ytnobbojjhehdfaa", sum := "15e8fa086d3dd0d3c0f17992fd9b4ac4bb214b32a138a1af7f624e49b538a32d", checked := Try.checked }
namespace Rows
def none {H : Type} : Left H := { results := [], args := [] }

/-- 'laws.FnMatrices': WHATEVER THE INPUT: true; the input reads as it did. -/
def fnMatricesSpec : ChangeSpec := { name := "fnMatrices", fn := fun _ => fun
  | [d] => { results := [.lit (.bool true)], args := [d] }
  | _ => none }
def fnMatricesRow : OpenClaim := { program := "ytnobbojjhehdfaa", sum := "15e8fa086d3dd0d3c0f17992fd9b4ac4bb214b32a138a1af7f624e49b538a32d", func := "loop.example/g00513/laws.FnMatrices", spec := "fnMatrices", apart := false }
def FnMatricesSaid : Prop := fnMatricesRow.holds Try.pinned (OpenSpec.ofChange fnMatricesSpec)

/-- ITS FALSE NEIGHBOUR: 'it returns false'. Refute it at one input. -/
def fnMatricesWrong : ChangeSpec := { name := "fnMatrices", fn := fun _ => fun
  | [d] => { results := [.lit (.bool false)], args := [d] }
  | _ => none }
def FnMatricesWrongFalsely : Prop := fnMatricesRow.holds Try.pinned (OpenSpec.ofChange fnMatricesWrong)

/-- 'laws.FnField': WHATEVER THE INPUT: true; the input reads as it did. -/
def fnFieldSpec : ChangeSpec := { name := "fnField", fn := fun _ => fun
  | [d] => { results := [.lit (.bool true)], args := [d] }
  | _ => none }
def fnFieldRow : OpenClaim := { program := "ytnobbojjhehdfaa", sum := "15e8fa086d3dd0d3c0f17992fd9b4ac4bb214b32a138a1af7f624e49b538a32d", func := "loop.example/g00513/laws.FnField", spec := "fnField", apart := false }
def FnFieldSaid : Prop := fnFieldRow.holds Try.pinned (OpenSpec.ofChange fnFieldSpec)

/-- ITS FALSE NEIGHBOUR: 'it returns false'. Refute it at one input. -/
def fnFieldWrong : ChangeSpec := { name := "fnField", fn := fun _ => fun
  | [d] => { results := [.lit (.bool false)], args := [d] }
  | _ => none }
def FnFieldWrongFalsely : Prop := fnFieldRow.holds Try.pinned (OpenSpec.ofChange fnFieldWrong)

/-- 'laws.FnGroupElements': WHATEVER THE INPUT: true; the input reads as it did. -/
def fnGroupElementsSpec : ChangeSpec := { name := "fnGroupElements", fn := fun _ => fun
  | [d] => { results := [.lit (.bool true)], args := [d] }
  | _ => none }
def fnGroupElementsRow : OpenClaim := { program := "ytnobbojjhehdfaa", sum := "15e8fa086d3dd0d3c0f17992fd9b4ac4bb214b32a138a1af7f624e49b538a32d", func := "loop.example/g00513/laws.FnGroupElements", spec := "fnGroupElements", apart := false }
def FnGroupElementsSaid : Prop := fnGroupElementsRow.holds Try.pinned (OpenSpec.ofChange fnGroupElementsSpec)

/-- ITS FALSE NEIGHBOUR: 'it returns false'. Refute it at one input. -/
def fnGroupElementsWrong : ChangeSpec := { name := "fnGroupElements", fn := fun _ => fun
  | [d] => { results := [.lit (.bool false)], args := [d] }
  | _ => none }
def FnGroupElementsWrongFalsely : Prop := fnGroupElementsRow.holds Try.pinned (OpenSpec.ofChange fnGroupElementsWrong)

/-- 'laws.FnCipher': WHATEVER THE INPUT: true; the input reads as it did. -/
def fnCipherSpec : ChangeSpec := { name := "fnCipher", fn := fun _ => fun
  | [d] => { results := [.lit (.bool true)], args := [d] }
  | _ => none }
def fnCipherRow : OpenClaim := { program := "ytnobbojjhehdfaa", sum := "15e8fa086d3dd0d3c0f17992fd9b4ac4bb214b32a138a1af7f624e49b538a32d", func := "loop.example/g00513/laws.FnCipher", spec := "fnCipher", apart := false }
def FnCipherSaid : Prop := fnCipherRow.holds Try.pinned (OpenSpec.ofChange fnCipherSpec)

/-- ITS FALSE NEIGHBOUR: 'it returns false'. Refute it at one input. -/
def fnCipherWrong : ChangeSpec := { name := "fnCipher", fn := fun _ => fun
  | [d] => { results := [.lit (.bool false)], args := [d] }
  | _ => none }
def FnCipherWrongFalsely : Prop := fnCipherRow.holds Try.pinned (OpenSpec.ofChange fnCipherWrong)

/-- 'laws.FnKeyedHash': WHATEVER THE INPUT: true; the input reads as it did. -/
def fnKeyedHashSpec : ChangeSpec := { name := "fnKeyedHash", fn := fun _ => fun
  | [d] => { results := [.lit (.bool true)], args := [d] }
  | _ => none }
def fnKeyedHashRow : OpenClaim := { program := "ytnobbojjhehdfaa", sum := "15e8fa086d3dd0d3c0f17992fd9b4ac4bb214b32a138a1af7f624e49b538a32d", func := "loop.example/g00513/laws.FnKeyedHash", spec := "fnKeyedHash", apart := false }
def FnKeyedHashSaid : Prop := fnKeyedHashRow.holds Try.pinned (OpenSpec.ofChange fnKeyedHashSpec)

/-- ITS FALSE NEIGHBOUR: 'it returns false'. Refute it at one input. -/
def fnKeyedHashWrong : ChangeSpec := { name := "fnKeyedHash", fn := fun _ => fun
  | [d] => { results := [.lit (.bool false)], args := [d] }
  | _ => none }
def FnKeyedHashWrongFalsely : Prop := fnKeyedHashRow.holds Try.pinned (OpenSpec.ofChange fnKeyedHashWrong)

/-- 'laws.FnByteStrings': WHATEVER THE INPUT: true; the input reads as it did. -/
def fnByteStringsSpec : ChangeSpec := { name := "fnByteStrings", fn := fun _ => fun
  | [d] => { results := [.lit (.bool true)], args := [d] }
  | _ => none }
def fnByteStringsRow : OpenClaim := { program := "ytnobbojjhehdfaa", sum := "15e8fa086d3dd0d3c0f17992fd9b4ac4bb214b32a138a1af7f624e49b538a32d", func := "loop.example/g00513/laws.FnByteStrings", spec := "fnByteStrings", apart := false }
def FnByteStringsSaid : Prop := fnByteStringsRow.holds Try.pinned (OpenSpec.ofChange fnByteStringsSpec)

/-- ITS FALSE NEIGHBOUR: 'it returns false'. Refute it at one input. -/
def fnByteStringsWrong : ChangeSpec := { name := "fnByteStrings", fn := fun _ => fun
  | [d] => { results := [.lit (.bool false)], args := [d] }
  | _ => none }
def FnByteStringsWrongFalsely : Prop := fnByteStringsRow.holds Try.pinned (OpenSpec.ofChange fnByteStringsWrong)

/-- 'laws.FnVarints': WHATEVER THE INPUT: true; the input reads as it did. -/
def fnVarintsSpec : ChangeSpec := { name := "fnVarints", fn := fun _ => fun
  | [d] => { results := [.lit (.bool true)], args := [d] }
  | _ => none }
def fnVarintsRow : OpenClaim := { program := "ytnobbojjhehdfaa", sum := "15e8fa086d3dd0d3c0f17992fd9b4ac4bb214b32a138a1af7f624e49b538a32d", func := "loop.example/g00513/laws.FnVarints", spec := "fnVarints", apart := false }
def FnVarintsSaid : Prop := fnVarintsRow.holds Try.pinned (OpenSpec.ofChange fnVarintsSpec)

/-- ITS FALSE NEIGHBOUR: 'it returns false'. Refute it at one input. -/
def fnVarintsWrong : ChangeSpec := { name := "fnVarints", fn := fun _ => fun
  | [d] => { results := [.lit (.bool false)], args := [d] }
  | _ => none }
def FnVarintsWrongFalsely : Prop := fnVarintsRow.holds Try.pinned (OpenSpec.ofChange fnVarintsWrong)

/-- 'laws.FnCombinations': WHATEVER THE INPUT: true; the input reads as it did. -/
def fnCombinationsSpec : ChangeSpec := { name := "fnCombinations", fn := fun _ => fun
  | [d] => { results := [.lit (.bool true)], args := [d] }
  | _ => none }
def fnCombinationsRow : OpenClaim := { program := "ytnobbojjhehdfaa", sum := "15e8fa086d3dd0d3c0f17992fd9b4ac4bb214b32a138a1af7f624e49b538a32d", func := "loop.example/g00513/laws.FnCombinations", spec := "fnCombinations", apart := false }
def FnCombinationsSaid : Prop := fnCombinationsRow.holds Try.pinned (OpenSpec.ofChange fnCombinationsSpec)

/-- ITS FALSE NEIGHBOUR: 'it returns false'. Refute it at one input. -/
def fnCombinationsWrong : ChangeSpec := { name := "fnCombinations", fn := fun _ => fun
  | [d] => { results := [.lit (.bool false)], args := [d] }
  | _ => none }
def FnCombinationsWrongFalsely : Prop := fnCombinationsRow.holds Try.pinned (OpenSpec.ofChange fnCombinationsWrong)

/-- 'laws.FnVectors': WHATEVER THE INPUT: true; the input reads as it did. -/
def fnVectorsSpec : ChangeSpec := { name := "fnVectors", fn := fun _ => fun
  | [d] => { results := [.lit (.bool true)], args := [d] }
  | _ => none }
def fnVectorsRow : OpenClaim := { program := "ytnobbojjhehdfaa", sum := "15e8fa086d3dd0d3c0f17992fd9b4ac4bb214b32a138a1af7f624e49b538a32d", func := "loop.example/g00513/laws.FnVectors", spec := "fnVectors", unfollowed := true, recurses := true, apart := false }
def FnVectorsSaid : Prop := fnVectorsRow.holds Try.pinned (OpenSpec.ofChange fnVectorsSpec)

/-- ITS FALSE NEIGHBOUR: 'it returns false'. Refute it at one input. -/
def fnVectorsWrong : ChangeSpec := { name := "fnVectors", fn := fun _ => fun
  | [d] => { results := [.lit (.bool false)], args := [d] }
  | _ => none }
def FnVectorsWrongFalsely : Prop := fnVectorsRow.holds Try.pinned (OpenSpec.ofChange fnVectorsWrong)

/-- 'laws.FnVandermonde': WHATEVER THE INPUT: true; the input reads as it did. -/
def fnVandermondeSpec : ChangeSpec := { name := "fnVandermonde", fn := fun _ => fun
  | [d] => { results := [.lit (.bool true)], args := [d] }
  | _ => none }
def fnVandermondeRow : OpenClaim := { program := "ytnobbojjhehdfaa", sum := "15e8fa086d3dd0d3c0f17992fd9b4ac4bb214b32a138a1af7f624e49b538a32d", func := "loop.example/g00513/laws.FnVandermonde", spec := "fnVandermonde", apart := false }
def FnVandermondeSaid : Prop := fnVandermondeRow.holds Try.pinned (OpenSpec.ofChange fnVandermondeSpec)

/-- ITS FALSE NEIGHBOUR: 'it returns false'. Refute it at one input. -/
def fnVandermondeWrong : ChangeSpec := { name := "fnVandermonde", fn := fun _ => fun
  | [d] => { results := [.lit (.bool false)], args := [d] }
  | _ => none }
def FnVandermondeWrongFalsely : Prop := fnVandermondeRow.holds Try.pinned (OpenSpec.ofChange fnVandermondeWrong)

/- THE SECOND FORM. 'bulk': how many values and letters a reading holds, each counted each time it is reached (what is shared counts as often as it is met; a slice's spare places count too). A statement '..UptoSaid' is the law's where the arguments, and the package variables that the reading takes, are together of bulk at most 1048576: NARROWER than '..Said'. Prove '..Said' where nothing that the law and all that it calls make is longer than what came in: it says more and counts as full. Else prove '..UptoSaid'. A law counts once. -/
mutual
def uptoBulk {H : Type} : DataW H → Nat
  | .lit (.string bytes) => bytes.length + 1
  | .lit _ => 1
  | .nil => 1
  | .ptr d => uptoBulk d + 1
  | .slice elems spare => uptoBulkAll elems + uptoBulkAll spare + 1
  | .agg parts => uptoBulkAll parts + 1
  | .iface _ d => uptoBulk d + 1
  | .map entries => uptoBulkEntries entries + 1
  | .held _ => 1
def uptoBulkAll {H : Type} : List (DataW H) → Nat
  | [] => 0
  | d :: r => uptoBulk d + uptoBulkAll r
def uptoBulkEntries {H : Type} : List (Lit × DataW H) → Nat
  | [] => 0
  | x :: r => uptoBulkEntry x + uptoBulkEntries r
def uptoBulkEntry {H : Type} : Lit × DataW H → Nat
  | (.string bytes, d) => bytes.length + uptoBulk d + 1
  | (_, d) => uptoBulk d + 1
 end
def uptoSmall : (H : Type) → List (DataW H) → Bool := fun _ ds => decide (uptoBulkAll ds ≤ 1048576)
def OpenSpec.upto (s : _root_.Go.ChangeSpec) : _root_.Go.OpenSpec := { _root_.Go.OpenSpec.ofChange s with cond := some uptoSmall }

/-- 'laws.FnMatrices', WHERE WHAT IT READS IS OF BULK AT MOST 1048576: true; the input reads as it did. -/
def fnMatricesUptoRow : OpenClaim := { program := "ytnobbojjhehdfaa", sum := "15e8fa086d3dd0d3c0f17992fd9b4ac4bb214b32a138a1af7f624e49b538a32d", func := "loop.example/g00513/laws.FnMatrices", spec := "fnMatrices", apart := false, narrowed := true }
def FnMatricesUptoSaid : Prop := fnMatricesUptoRow.holds Try.pinned (OpenSpec.upto fnMatricesSpec)

/-- 'laws.FnField', WHERE WHAT IT READS IS OF BULK AT MOST 1048576: true; the input reads as it did. -/
def fnFieldUptoRow : OpenClaim := { program := "ytnobbojjhehdfaa", sum := "15e8fa086d3dd0d3c0f17992fd9b4ac4bb214b32a138a1af7f624e49b538a32d", func := "loop.example/g00513/laws.FnField", spec := "fnField", apart := false, narrowed := true }
def FnFieldUptoSaid : Prop := fnFieldUptoRow.holds Try.pinned (OpenSpec.upto fnFieldSpec)

/-- 'laws.FnGroupElements', WHERE WHAT IT READS IS OF BULK AT MOST 1048576: true; the input reads as it did. -/
def fnGroupElementsUptoRow : OpenClaim := { program := "ytnobbojjhehdfaa", sum := "15e8fa086d3dd0d3c0f17992fd9b4ac4bb214b32a138a1af7f624e49b538a32d", func := "loop.example/g00513/laws.FnGroupElements", spec := "fnGroupElements", apart := false, narrowed := true }
def FnGroupElementsUptoSaid : Prop := fnGroupElementsUptoRow.holds Try.pinned (OpenSpec.upto fnGroupElementsSpec)

/-- 'laws.FnCipher', WHERE WHAT IT READS IS OF BULK AT MOST 1048576: true; the input reads as it did. -/
def fnCipherUptoRow : OpenClaim := { program := "ytnobbojjhehdfaa", sum := "15e8fa086d3dd0d3c0f17992fd9b4ac4bb214b32a138a1af7f624e49b538a32d", func := "loop.example/g00513/laws.FnCipher", spec := "fnCipher", apart := false, narrowed := true }
def FnCipherUptoSaid : Prop := fnCipherUptoRow.holds Try.pinned (OpenSpec.upto fnCipherSpec)

/-- 'laws.FnKeyedHash', WHERE WHAT IT READS IS OF BULK AT MOST 1048576: true; the input reads as it did. -/
def fnKeyedHashUptoRow : OpenClaim := { program := "ytnobbojjhehdfaa", sum := "15e8fa086d3dd0d3c0f17992fd9b4ac4bb214b32a138a1af7f624e49b538a32d", func := "loop.example/g00513/laws.FnKeyedHash", spec := "fnKeyedHash", apart := false, narrowed := true }
def FnKeyedHashUptoSaid : Prop := fnKeyedHashUptoRow.holds Try.pinned (OpenSpec.upto fnKeyedHashSpec)

/-- 'laws.FnByteStrings', WHERE WHAT IT READS IS OF BULK AT MOST 1048576: true; the input reads as it did. -/
def fnByteStringsUptoRow : OpenClaim := { program := "ytnobbojjhehdfaa", sum := "15e8fa086d3dd0d3c0f17992fd9b4ac4bb214b32a138a1af7f624e49b538a32d", func := "loop.example/g00513/laws.FnByteStrings", spec := "fnByteStrings", apart := false, narrowed := true }
def FnByteStringsUptoSaid : Prop := fnByteStringsUptoRow.holds Try.pinned (OpenSpec.upto fnByteStringsSpec)

/-- 'laws.FnVarints', WHERE WHAT IT READS IS OF BULK AT MOST 1048576: true; the input reads as it did. -/
def fnVarintsUptoRow : OpenClaim := { program := "ytnobbojjhehdfaa", sum := "15e8fa086d3dd0d3c0f17992fd9b4ac4bb214b32a138a1af7f624e49b538a32d", func := "loop.example/g00513/laws.FnVarints", spec := "fnVarints", apart := false, narrowed := true }
def FnVarintsUptoSaid : Prop := fnVarintsUptoRow.holds Try.pinned (OpenSpec.upto fnVarintsSpec)

/-- 'laws.FnCombinations', WHERE WHAT IT READS IS OF BULK AT MOST 1048576: true; the input reads as it did. -/
def fnCombinationsUptoRow : OpenClaim := { program := "ytnobbojjhehdfaa", sum := "15e8fa086d3dd0d3c0f17992fd9b4ac4bb214b32a138a1af7f624e49b538a32d", func := "loop.example/g00513/laws.FnCombinations", spec := "fnCombinations", apart := false, narrowed := true }
def FnCombinationsUptoSaid : Prop := fnCombinationsUptoRow.holds Try.pinned (OpenSpec.upto fnCombinationsSpec)

/-- 'laws.FnVectors', WHERE WHAT IT READS IS OF BULK AT MOST 1048576: true; the input reads as it did. -/
def fnVectorsUptoRow : OpenClaim := { program := "ytnobbojjhehdfaa", sum := "15e8fa086d3dd0d3c0f17992fd9b4ac4bb214b32a138a1af7f624e49b538a32d", func := "loop.example/g00513/laws.FnVectors", spec := "fnVectors", unfollowed := true, recurses := true, apart := false, narrowed := true }
def FnVectorsUptoSaid : Prop := fnVectorsUptoRow.holds Try.pinned (OpenSpec.upto fnVectorsSpec)

/-- 'laws.FnVandermonde', WHERE WHAT IT READS IS OF BULK AT MOST 1048576: true; the input reads as it did. -/
def fnVandermondeUptoRow : OpenClaim := { program := "ytnobbojjhehdfaa", sum := "15e8fa086d3dd0d3c0f17992fd9b4ac4bb214b32a138a1af7f624e49b538a32d", func := "loop.example/g00513/laws.FnVandermonde", spec := "fnVandermonde", apart := false, narrowed := true }
def FnVandermondeUptoSaid : Prop := fnVandermondeUptoRow.holds Try.pinned (OpenSpec.upto fnVandermondeSpec)

end Rows
end Go.Proofs.Ytnobbojjhehdfaa
