/-
  No cell of these rows narrows 'for every input' (looked for: loops, veiled, ifaces, maps, wideKeys, modest, calm, conditions, laid).
  DERIVED. THE GIVEN ROWS OF THIS SEAT. 11 by the template 'for every input the law returns true; each argument reads behind the call as it read before'; 0 by the template 'total and deterministic' (their statements: YtlcepceomlfnbaaTotals.lean).
  GIVEN WITH THE SEED: the statements are not yours to turn. If you find one false, say at which input.
  Laid BY PROGRAM, IN A SANDBOX (cutbox-rows.mjs): the forced cells as the released guide's own fill.sh prints them over the translation 957cfb1c91f76b64… (all of the seat's roots in one cut). By AI agents, Wed Nov 11 2026. No macro, syntax, notation, axiom, sorry.
-/
import Derived.Test.YtlcepceomlfnbaaChecked
import GoSem.Claim
import GoSem.ClaimJoined
import GoSem.ClaimMapViews
import Derived.JoinedTies
import Derived.KernelRfl
namespace Go.Proofs.Ytlcepceomlfnbaa
/- THE CELL 'sum', in the pinned program and in every row, IS THE sha256 OF THE DUMP (.gsa) THAT YtlcepceomlfnbaaProg.lean LOADS. Nothing in Lean hashes anything: it is a label: what it is worth is what the hold of that sum in a sandbox is worth. -/
noncomputable def Try.pinned : Pinned := { name := "ytlcepceomlfnbaa", sum := "957cfb1c91f76b6437532b37311a86f82a42af4a714a8439d20608d7599e3654", checked := Try.checked }
namespace Rows
def none {H : Type} : Left H := { results := [], args := [] }

/-- 'laws.FnExactScaleVector': WHATEVER THE INPUT: true; the input reads as it did. -/
def fnExactScaleVectorSpec : ChangeSpec := { name := "fnExactScaleVector", fn := fun _ => fun
  | [d1, d2] => { results := [.lit (.bool true)], args := [d1, d2] }
  | _ => none }
def fnExactScaleVectorRow : OpenClaim := { program := "ytlcepceomlfnbaa", sum := "957cfb1c91f76b6437532b37311a86f82a42af4a714a8439d20608d7599e3654", func := "loop.example/g00513/laws.FnExactScaleVector", spec := "fnExactScaleVector", apart := false }
def FnExactScaleVectorSaid : Prop := fnExactScaleVectorRow.holds Try.pinned (OpenSpec.ofChange fnExactScaleVectorSpec)

/-- ITS FALSE NEIGHBOUR: 'it returns false'. Refute it at one input. -/
def fnExactScaleVectorWrong : ChangeSpec := { name := "fnExactScaleVector", fn := fun _ => fun
  | [d1, d2] => { results := [.lit (.bool false)], args := [d1, d2] }
  | _ => none }
def FnExactScaleVectorWrongFalsely : Prop := fnExactScaleVectorRow.holds Try.pinned (OpenSpec.ofChange fnExactScaleVectorWrong)

/-- 'laws.FnExactAddScaled': WHATEVER THE INPUT: true; the input reads as it did. -/
def fnExactAddScaledSpec : ChangeSpec := { name := "fnExactAddScaled", fn := fun _ => fun
  | [d1, d2, d3] => { results := [.lit (.bool true)], args := [d1, d2, d3] }
  | _ => none }
def fnExactAddScaledRow : OpenClaim := { program := "ytlcepceomlfnbaa", sum := "957cfb1c91f76b6437532b37311a86f82a42af4a714a8439d20608d7599e3654", func := "loop.example/g00513/laws.FnExactAddScaled", spec := "fnExactAddScaled", apart := false }
def FnExactAddScaledSaid : Prop := fnExactAddScaledRow.holds Try.pinned (OpenSpec.ofChange fnExactAddScaledSpec)

/-- ITS FALSE NEIGHBOUR: 'it returns false'. Refute it at one input. -/
def fnExactAddScaledWrong : ChangeSpec := { name := "fnExactAddScaled", fn := fun _ => fun
  | [d1, d2, d3] => { results := [.lit (.bool false)], args := [d1, d2, d3] }
  | _ => none }
def FnExactAddScaledWrongFalsely : Prop := fnExactAddScaledRow.holds Try.pinned (OpenSpec.ofChange fnExactAddScaledWrong)

/-- 'laws.FnExactIdentity': WHATEVER THE INPUT: true; the input reads as it did. -/
def fnExactIdentitySpec : ChangeSpec := { name := "fnExactIdentity", fn := fun _ => fun
  | [d] => { results := [.lit (.bool true)], args := [d] }
  | _ => none }
def fnExactIdentityRow : OpenClaim := { program := "ytlcepceomlfnbaa", sum := "957cfb1c91f76b6437532b37311a86f82a42af4a714a8439d20608d7599e3654", func := "loop.example/g00513/laws.FnExactIdentity", spec := "fnExactIdentity", apart := false }
def FnExactIdentitySaid : Prop := fnExactIdentityRow.holds Try.pinned (OpenSpec.ofChange fnExactIdentitySpec)

/-- ITS FALSE NEIGHBOUR: 'it returns false'. Refute it at one input. -/
def fnExactIdentityWrong : ChangeSpec := { name := "fnExactIdentity", fn := fun _ => fun
  | [d] => { results := [.lit (.bool false)], args := [d] }
  | _ => none }
def FnExactIdentityWrongFalsely : Prop := fnExactIdentityRow.holds Try.pinned (OpenSpec.ofChange fnExactIdentityWrong)

/-- 'laws.FnExactIsValidMatrix': WHATEVER THE INPUT: true; the input reads as it did. -/
def fnExactIsValidMatrixSpec : ChangeSpec := { name := "fnExactIsValidMatrix", fn := fun _ => fun
  | [d] => { results := [.lit (.bool true)], args := [d] }
  | _ => none }
def fnExactIsValidMatrixRow : OpenClaim := { program := "ytlcepceomlfnbaa", sum := "957cfb1c91f76b6437532b37311a86f82a42af4a714a8439d20608d7599e3654", func := "loop.example/g00513/laws.FnExactIsValidMatrix", spec := "fnExactIsValidMatrix", apart := false }
def FnExactIsValidMatrixSaid : Prop := fnExactIsValidMatrixRow.holds Try.pinned (OpenSpec.ofChange fnExactIsValidMatrixSpec)

/-- ITS FALSE NEIGHBOUR: 'it returns false'. Refute it at one input. -/
def fnExactIsValidMatrixWrong : ChangeSpec := { name := "fnExactIsValidMatrix", fn := fun _ => fun
  | [d] => { results := [.lit (.bool false)], args := [d] }
  | _ => none }
def FnExactIsValidMatrixWrongFalsely : Prop := fnExactIsValidMatrixRow.holds Try.pinned (OpenSpec.ofChange fnExactIsValidMatrixWrong)

/-- 'laws.FnExactAddVectors': WHATEVER THE INPUT: true; the input reads as it did. -/
def fnExactAddVectorsSpec : ChangeSpec := { name := "fnExactAddVectors", fn := fun _ => fun
  | [d1, d2] => { results := [.lit (.bool true)], args := [d1, d2] }
  | _ => none }
def fnExactAddVectorsRow : OpenClaim := { program := "ytlcepceomlfnbaa", sum := "957cfb1c91f76b6437532b37311a86f82a42af4a714a8439d20608d7599e3654", func := "loop.example/g00513/laws.FnExactAddVectors", spec := "fnExactAddVectors", apart := false }
def FnExactAddVectorsSaid : Prop := fnExactAddVectorsRow.holds Try.pinned (OpenSpec.ofChange fnExactAddVectorsSpec)

/-- ITS FALSE NEIGHBOUR: 'it returns false'. Refute it at one input. -/
def fnExactAddVectorsWrong : ChangeSpec := { name := "fnExactAddVectors", fn := fun _ => fun
  | [d1, d2] => { results := [.lit (.bool false)], args := [d1, d2] }
  | _ => none }
def FnExactAddVectorsWrongFalsely : Prop := fnExactAddVectorsRow.holds Try.pinned (OpenSpec.ofChange fnExactAddVectorsWrong)

/-- 'laws.FnExactEqualMatrices': WHATEVER THE INPUT: true; the input reads as it did. -/
def fnExactEqualMatricesSpec : ChangeSpec := { name := "fnExactEqualMatrices", fn := fun _ => fun
  | [d1, d2] => { results := [.lit (.bool true)], args := [d1, d2] }
  | _ => none }
def fnExactEqualMatricesRow : OpenClaim := { program := "ytlcepceomlfnbaa", sum := "957cfb1c91f76b6437532b37311a86f82a42af4a714a8439d20608d7599e3654", func := "loop.example/g00513/laws.FnExactEqualMatrices", spec := "fnExactEqualMatrices", unfollowed := true, recurses := true, apart := false }
def FnExactEqualMatricesSaid : Prop := fnExactEqualMatricesRow.holds Try.pinned (OpenSpec.ofChange fnExactEqualMatricesSpec)

/-- ITS FALSE NEIGHBOUR: 'it returns false'. Refute it at one input. -/
def fnExactEqualMatricesWrong : ChangeSpec := { name := "fnExactEqualMatrices", fn := fun _ => fun
  | [d1, d2] => { results := [.lit (.bool false)], args := [d1, d2] }
  | _ => none }
def FnExactEqualMatricesWrongFalsely : Prop := fnExactEqualMatricesRow.holds Try.pinned (OpenSpec.ofChange fnExactEqualMatricesWrong)

/-- 'laws.FnExactVandermonde': WHATEVER THE INPUT: true; the input reads as it did. -/
def fnExactVandermondeSpec : ChangeSpec := { name := "fnExactVandermonde", fn := fun _ => fun
  | [d1, d2] => { results := [.lit (.bool true)], args := [d1, d2] }
  | _ => none }
def fnExactVandermondeRow : OpenClaim := { program := "ytlcepceomlfnbaa", sum := "957cfb1c91f76b6437532b37311a86f82a42af4a714a8439d20608d7599e3654", func := "loop.example/g00513/laws.FnExactVandermonde", spec := "fnExactVandermonde", apart := false }
def FnExactVandermondeSaid : Prop := fnExactVandermondeRow.holds Try.pinned (OpenSpec.ofChange fnExactVandermondeSpec)

/-- ITS FALSE NEIGHBOUR: 'it returns false'. Refute it at one input. -/
def fnExactVandermondeWrong : ChangeSpec := { name := "fnExactVandermonde", fn := fun _ => fun
  | [d1, d2] => { results := [.lit (.bool false)], args := [d1, d2] }
  | _ => none }
def FnExactVandermondeWrongFalsely : Prop := fnExactVandermondeRow.holds Try.pinned (OpenSpec.ofChange fnExactVandermondeWrong)

/-- 'laws.FnExactCombine': WHATEVER THE INPUT: true; the input reads as it did. -/
def fnExactCombineSpec : ChangeSpec := { name := "fnExactCombine", fn := fun _ => fun
  | [d1, d2] => { results := [.lit (.bool true)], args := [d1, d2] }
  | _ => none }
def fnExactCombineRow : OpenClaim := { program := "ytlcepceomlfnbaa", sum := "957cfb1c91f76b6437532b37311a86f82a42af4a714a8439d20608d7599e3654", func := "loop.example/g00513/laws.FnExactCombine", spec := "fnExactCombine", apart := false }
def FnExactCombineSaid : Prop := fnExactCombineRow.holds Try.pinned (OpenSpec.ofChange fnExactCombineSpec)

/-- ITS FALSE NEIGHBOUR: 'it returns false'. Refute it at one input. -/
def fnExactCombineWrong : ChangeSpec := { name := "fnExactCombine", fn := fun _ => fun
  | [d1, d2] => { results := [.lit (.bool false)], args := [d1, d2] }
  | _ => none }
def FnExactCombineWrongFalsely : Prop := fnExactCombineRow.holds Try.pinned (OpenSpec.ofChange fnExactCombineWrong)

/-- 'laws.FnExactTranspose': WHATEVER THE INPUT: true; the input reads as it did. -/
def fnExactTransposeSpec : ChangeSpec := { name := "fnExactTranspose", fn := fun _ => fun
  | [d] => { results := [.lit (.bool true)], args := [d] }
  | _ => none }
def fnExactTransposeRow : OpenClaim := { program := "ytlcepceomlfnbaa", sum := "957cfb1c91f76b6437532b37311a86f82a42af4a714a8439d20608d7599e3654", func := "loop.example/g00513/laws.FnExactTranspose", spec := "fnExactTranspose", apart := false }
def FnExactTransposeSaid : Prop := fnExactTransposeRow.holds Try.pinned (OpenSpec.ofChange fnExactTransposeSpec)

/-- ITS FALSE NEIGHBOUR: 'it returns false'. Refute it at one input. -/
def fnExactTransposeWrong : ChangeSpec := { name := "fnExactTranspose", fn := fun _ => fun
  | [d] => { results := [.lit (.bool false)], args := [d] }
  | _ => none }
def FnExactTransposeWrongFalsely : Prop := fnExactTransposeRow.holds Try.pinned (OpenSpec.ofChange fnExactTransposeWrong)

/-- 'laws.FnExactMulMatrixVector': WHATEVER THE INPUT: true; the input reads as it did. -/
def fnExactMulMatrixVectorSpec : ChangeSpec := { name := "fnExactMulMatrixVector", fn := fun _ => fun
  | [d1, d2] => { results := [.lit (.bool true)], args := [d1, d2] }
  | _ => none }
def fnExactMulMatrixVectorRow : OpenClaim := { program := "ytlcepceomlfnbaa", sum := "957cfb1c91f76b6437532b37311a86f82a42af4a714a8439d20608d7599e3654", func := "loop.example/g00513/laws.FnExactMulMatrixVector", spec := "fnExactMulMatrixVector", apart := false }
def FnExactMulMatrixVectorSaid : Prop := fnExactMulMatrixVectorRow.holds Try.pinned (OpenSpec.ofChange fnExactMulMatrixVectorSpec)

/-- ITS FALSE NEIGHBOUR: 'it returns false'. Refute it at one input. -/
def fnExactMulMatrixVectorWrong : ChangeSpec := { name := "fnExactMulMatrixVector", fn := fun _ => fun
  | [d1, d2] => { results := [.lit (.bool false)], args := [d1, d2] }
  | _ => none }
def FnExactMulMatrixVectorWrongFalsely : Prop := fnExactMulMatrixVectorRow.holds Try.pinned (OpenSpec.ofChange fnExactMulMatrixVectorWrong)

/-- 'laws.FnExactMulMatrices': WHATEVER THE INPUT: true; the input reads as it did. -/
def fnExactMulMatricesSpec : ChangeSpec := { name := "fnExactMulMatrices", fn := fun _ => fun
  | [d1, d2] => { results := [.lit (.bool true)], args := [d1, d2] }
  | _ => none }
def fnExactMulMatricesRow : OpenClaim := { program := "ytlcepceomlfnbaa", sum := "957cfb1c91f76b6437532b37311a86f82a42af4a714a8439d20608d7599e3654", func := "loop.example/g00513/laws.FnExactMulMatrices", spec := "fnExactMulMatrices", apart := false }
def FnExactMulMatricesSaid : Prop := fnExactMulMatricesRow.holds Try.pinned (OpenSpec.ofChange fnExactMulMatricesSpec)

/-- ITS FALSE NEIGHBOUR: 'it returns false'. Refute it at one input. -/
def fnExactMulMatricesWrong : ChangeSpec := { name := "fnExactMulMatrices", fn := fun _ => fun
  | [d1, d2] => { results := [.lit (.bool false)], args := [d1, d2] }
  | _ => none }
def FnExactMulMatricesWrongFalsely : Prop := fnExactMulMatricesRow.holds Try.pinned (OpenSpec.ofChange fnExactMulMatricesWrong)

/- THE SECOND FORM. 'bulk': how many values and letters a reading holds, each counted each time it is reached (what is shared counts as often as it is met; a slice's spare places count too). A statement '..UptoSaid' is the law's where the arguments, and the package variables that the reading takes, are together of bulk at most 1048576: NARROWER than '..Said'. Prove '..Said' where nothing that the law and all that it calls make is longer than what came in: it says more and counts as full. Else prove '..UptoSaid'. A law counts once. -/
mutual
def uptoBulk {H : Type} : DataW H → Nat
  | .lit (.string bytes) => bytes.length + 1
  | .lit _ => 1
  | .nil => 1
  | .ptr d => uptoBulk d + 1
  | .slice elems spare => uptoBulkAll elems + uptoBulkAll spare + 1
  | .agg parts => uptoBulkAll parts + 1
  | .iface _ d => uptoBulk d + 1
  | .map entries => uptoBulkEntries entries + 1
  | .held _ => 1
def uptoBulkAll {H : Type} : List (DataW H) → Nat
  | [] => 0
  | d :: r => uptoBulk d + uptoBulkAll r
def uptoBulkEntries {H : Type} : List (Lit × DataW H) → Nat
  | [] => 0
  | x :: r => uptoBulkEntry x + uptoBulkEntries r
def uptoBulkEntry {H : Type} : Lit × DataW H → Nat
  | (.string bytes, d) => bytes.length + uptoBulk d + 1
  | (_, d) => uptoBulk d + 1
 end
def uptoSmall : (H : Type) → List (DataW H) → Bool := fun _ ds => decide (uptoBulkAll ds ≤ 1048576)
def OpenSpec.upto (s : _root_.Go.ChangeSpec) : _root_.Go.OpenSpec := { _root_.Go.OpenSpec.ofChange s with cond := some uptoSmall }

/-- 'laws.FnExactScaleVector', WHERE WHAT IT READS IS OF BULK AT MOST 1048576: true; the input reads as it did. -/
def fnExactScaleVectorUptoRow : OpenClaim := { program := "ytlcepceomlfnbaa", sum := "957cfb1c91f76b6437532b37311a86f82a42af4a714a8439d20608d7599e3654", func := "loop.example/g00513/laws.FnExactScaleVector", spec := "fnExactScaleVector", apart := false, narrowed := true }
def FnExactScaleVectorUptoSaid : Prop := fnExactScaleVectorUptoRow.holds Try.pinned (OpenSpec.upto fnExactScaleVectorSpec)

/-- 'laws.FnExactAddScaled', WHERE WHAT IT READS IS OF BULK AT MOST 1048576: true; the input reads as it did. -/
def fnExactAddScaledUptoRow : OpenClaim := { program := "ytlcepceomlfnbaa", sum := "957cfb1c91f76b6437532b37311a86f82a42af4a714a8439d20608d7599e3654", func := "loop.example/g00513/laws.FnExactAddScaled", spec := "fnExactAddScaled", apart := false, narrowed := true }
def FnExactAddScaledUptoSaid : Prop := fnExactAddScaledUptoRow.holds Try.pinned (OpenSpec.upto fnExactAddScaledSpec)

/-- 'laws.FnExactIdentity', WHERE WHAT IT READS IS OF BULK AT MOST 1048576: true; the input reads as it did. -/
def fnExactIdentityUptoRow : OpenClaim := { program := "ytlcepceomlfnbaa", sum := "957cfb1c91f76b6437532b37311a86f82a42af4a714a8439d20608d7599e3654", func := "loop.example/g00513/laws.FnExactIdentity", spec := "fnExactIdentity", apart := false, narrowed := true }
def FnExactIdentityUptoSaid : Prop := fnExactIdentityUptoRow.holds Try.pinned (OpenSpec.upto fnExactIdentitySpec)

/-- 'laws.FnExactIsValidMatrix', WHERE WHAT IT READS IS OF BULK AT MOST 1048576: true; the input reads as it did. -/
def fnExactIsValidMatrixUptoRow : OpenClaim := { program := "ytlcepceomlfnbaa", sum := "957cfb1c91f76b6437532b37311a86f82a42af4a714a8439d20608d7599e3654", func := "loop.example/g00513/laws.FnExactIsValidMatrix", spec := "fnExactIsValidMatrix", apart := false, narrowed := true }
def FnExactIsValidMatrixUptoSaid : Prop := fnExactIsValidMatrixUptoRow.holds Try.pinned (OpenSpec.upto fnExactIsValidMatrixSpec)

/-- 'laws.FnExactAddVectors', WHERE WHAT IT READS IS OF BULK AT MOST 1048576: true; the input reads as it did. -/
def fnExactAddVectorsUptoRow : OpenClaim := { program := "ytlcepceomlfnbaa", sum := "957cfb1c91f76b6437532b37311a86f82a42af4a714a8439d20608d7599e3654", func := "loop.example/g00513/laws.FnExactAddVectors", spec := "fnExactAddVectors", apart := false, narrowed := true }
def FnExactAddVectorsUptoSaid : Prop := fnExactAddVectorsUptoRow.holds Try.pinned (OpenSpec.upto fnExactAddVectorsSpec)

/-- 'laws.FnExactEqualMatrices', WHERE WHAT IT READS IS OF BULK AT MOST 1048576: true; the input reads as it did. -/
def fnExactEqualMatricesUptoRow : OpenClaim := { program := "ytlcepceomlfnbaa", sum := "957cfb1c91f76b6437532b37311a86f82a42af4a714a8439d20608d7599e3654", func := "loop.example/g00513/laws.FnExactEqualMatrices", spec := "fnExactEqualMatrices", unfollowed := true, recurses := true, apart := false, narrowed := true }
def FnExactEqualMatricesUptoSaid : Prop := fnExactEqualMatricesUptoRow.holds Try.pinned (OpenSpec.upto fnExactEqualMatricesSpec)

/-- 'laws.FnExactVandermonde', WHERE WHAT IT READS IS OF BULK AT MOST 1048576: true; the input reads as it did. -/
def fnExactVandermondeUptoRow : OpenClaim := { program := "ytlcepceomlfnbaa", sum := "957cfb1c91f76b6437532b37311a86f82a42af4a714a8439d20608d7599e3654", func := "loop.example/g00513/laws.FnExactVandermonde", spec := "fnExactVandermonde", apart := false, narrowed := true }
def FnExactVandermondeUptoSaid : Prop := fnExactVandermondeUptoRow.holds Try.pinned (OpenSpec.upto fnExactVandermondeSpec)

/-- 'laws.FnExactCombine', WHERE WHAT IT READS IS OF BULK AT MOST 1048576: true; the input reads as it did. -/
def fnExactCombineUptoRow : OpenClaim := { program := "ytlcepceomlfnbaa", sum := "957cfb1c91f76b6437532b37311a86f82a42af4a714a8439d20608d7599e3654", func := "loop.example/g00513/laws.FnExactCombine", spec := "fnExactCombine", apart := false, narrowed := true }
def FnExactCombineUptoSaid : Prop := fnExactCombineUptoRow.holds Try.pinned (OpenSpec.upto fnExactCombineSpec)

/-- 'laws.FnExactTranspose', WHERE WHAT IT READS IS OF BULK AT MOST 1048576: true; the input reads as it did. -/
def fnExactTransposeUptoRow : OpenClaim := { program := "ytlcepceomlfnbaa", sum := "957cfb1c91f76b6437532b37311a86f82a42af4a714a8439d20608d7599e3654", func := "loop.example/g00513/laws.FnExactTranspose", spec := "fnExactTranspose", apart := false, narrowed := true }
def FnExactTransposeUptoSaid : Prop := fnExactTransposeUptoRow.holds Try.pinned (OpenSpec.upto fnExactTransposeSpec)

/-- 'laws.FnExactMulMatrixVector', WHERE WHAT IT READS IS OF BULK AT MOST 1048576: true; the input reads as it did. -/
def fnExactMulMatrixVectorUptoRow : OpenClaim := { program := "ytlcepceomlfnbaa", sum := "957cfb1c91f76b6437532b37311a86f82a42af4a714a8439d20608d7599e3654", func := "loop.example/g00513/laws.FnExactMulMatrixVector", spec := "fnExactMulMatrixVector", apart := false, narrowed := true }
def FnExactMulMatrixVectorUptoSaid : Prop := fnExactMulMatrixVectorUptoRow.holds Try.pinned (OpenSpec.upto fnExactMulMatrixVectorSpec)

/-- 'laws.FnExactMulMatrices', WHERE WHAT IT READS IS OF BULK AT MOST 1048576: true; the input reads as it did. -/
def fnExactMulMatricesUptoRow : OpenClaim := { program := "ytlcepceomlfnbaa", sum := "957cfb1c91f76b6437532b37311a86f82a42af4a714a8439d20608d7599e3654", func := "loop.example/g00513/laws.FnExactMulMatrices", spec := "fnExactMulMatrices", apart := false, narrowed := true }
def FnExactMulMatricesUptoSaid : Prop := fnExactMulMatricesUptoRow.holds Try.pinned (OpenSpec.upto fnExactMulMatricesSpec)

end Rows
end Go.Proofs.Ytlcepceomlfnbaa
