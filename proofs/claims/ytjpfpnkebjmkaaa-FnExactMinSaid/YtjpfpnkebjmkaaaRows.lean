/-
  No cell of these rows narrows 'for every input' (looked for: loops, veiled, ifaces, maps, wideKeys, modest, calm, conditions, laid).
  DERIVED. THE GIVEN ROWS OF THIS SEAT. 12 by the template 'for every input the law returns true; each argument reads behind the call as it read before'; 0 by the template 'total and deterministic' (their statements: YtjpfpnkebjmkaaaTotals.lean).
  GIVEN WITH THE SEED: the statements are not yours to turn. If you find one false, say at which input.
  Laid BY PROGRAM, IN A SANDBOX (cutbox-rows.mjs): the forced cells as the released guide's own fill.sh prints them over the translation f8755c3778e65120… (all of the seat's roots in one cut). By AI agents, Wed Nov 11 2026. No macro, syntax, notation, axiom, sorry.
-/
import Derived.Test.YtjpfpnkebjmkaaaChecked
import GoSem.Claim
import GoSem.ClaimJoined
import GoSem.ClaimMapViews
import Derived.JoinedTies
import Derived.KernelRfl
namespace Go.Proofs.Ytjpfpnkebjmkaaa
/- THE CELL 'sum', in the pinned program and in every row, IS THE sha256 OF THE DUMP (.gsa) THAT YtjpfpnkebjmkaaaProg.lean LOADS. Nothing in Lean hashes anything: it is a label: what it is worth is what the hold of that sum in a sandbox is worth. -/
noncomputable def Try.pinned : Pinned := { name := "ytjpfpnkebjmkaaa", sum := "f8755c3778e65120e83767923b5cd9e8e66f263a6a8774a3da0c1d6b7279ae9f", checked := Try.checked }
namespace Rows
def none {H : Type} : Left H := { results := [], args := [] }

/-- 'laws.FnExactConstants': WHATEVER THE INPUT: true; the input reads as it did. -/
def fnExactConstantsSpec : ChangeSpec := { name := "fnExactConstants", fn := fun _ => fun
  | [] => { results := [.lit (.bool true)], args := [] }
  | _ => none }
def fnExactConstantsRow : OpenClaim := { program := "ytjpfpnkebjmkaaa", sum := "f8755c3778e65120e83767923b5cd9e8e66f263a6a8774a3da0c1d6b7279ae9f", func := "loop.example/g00513/laws.FnExactConstants", spec := "fnExactConstants", apart := false }
def FnExactConstantsSaid : Prop := fnExactConstantsRow.holds Try.pinned (OpenSpec.ofChange fnExactConstantsSpec)

/-- ITS FALSE NEIGHBOUR: 'it returns false'. Refute it at one input. -/
def fnExactConstantsWrong : ChangeSpec := { name := "fnExactConstants", fn := fun _ => fun
  | [] => { results := [.lit (.bool false)], args := [] }
  | _ => none }
def FnExactConstantsWrongFalsely : Prop := fnExactConstantsRow.holds Try.pinned (OpenSpec.ofChange fnExactConstantsWrong)

/-- 'laws.FnExactInRange': WHATEVER THE INPUT: true; the input reads as it did. -/
def fnExactInRangeSpec : ChangeSpec := { name := "fnExactInRange", fn := fun _ => fun
  | [d1, d2, d3] => { results := [.lit (.bool true)], args := [d1, d2, d3] }
  | _ => none }
def fnExactInRangeRow : OpenClaim := { program := "ytjpfpnkebjmkaaa", sum := "f8755c3778e65120e83767923b5cd9e8e66f263a6a8774a3da0c1d6b7279ae9f", func := "loop.example/g00513/laws.FnExactInRange", spec := "fnExactInRange", apart := false }
def FnExactInRangeSaid : Prop := fnExactInRangeRow.holds Try.pinned (OpenSpec.ofChange fnExactInRangeSpec)

/-- ITS FALSE NEIGHBOUR: 'it returns false'. Refute it at one input. -/
def fnExactInRangeWrong : ChangeSpec := { name := "fnExactInRange", fn := fun _ => fun
  | [d1, d2, d3] => { results := [.lit (.bool false)], args := [d1, d2, d3] }
  | _ => none }
def FnExactInRangeWrongFalsely : Prop := fnExactInRangeRow.holds Try.pinned (OpenSpec.ofChange fnExactInRangeWrong)

/-- 'laws.FnExactIsElement': WHATEVER THE INPUT: true; the input reads as it did. -/
def fnExactIsElementSpec : ChangeSpec := { name := "fnExactIsElement", fn := fun _ => fun
  | [d] => { results := [.lit (.bool true)], args := [d] }
  | _ => none }
def fnExactIsElementRow : OpenClaim := { program := "ytjpfpnkebjmkaaa", sum := "f8755c3778e65120e83767923b5cd9e8e66f263a6a8774a3da0c1d6b7279ae9f", func := "loop.example/g00513/laws.FnExactIsElement", spec := "fnExactIsElement", apart := false }
def FnExactIsElementSaid : Prop := fnExactIsElementRow.holds Try.pinned (OpenSpec.ofChange fnExactIsElementSpec)

/-- ITS FALSE NEIGHBOUR: 'it returns false'. Refute it at one input. -/
def fnExactIsElementWrong : ChangeSpec := { name := "fnExactIsElement", fn := fun _ => fun
  | [d] => { results := [.lit (.bool false)], args := [d] }
  | _ => none }
def FnExactIsElementWrongFalsely : Prop := fnExactIsElementRow.holds Try.pinned (OpenSpec.ofChange fnExactIsElementWrong)

/-- 'laws.FnExactIsValidKey': WHATEVER THE INPUT: true; the input reads as it did. -/
def fnExactIsValidKeySpec : ChangeSpec := { name := "fnExactIsValidKey", fn := fun _ => fun
  | [d] => { results := [.lit (.bool true)], args := [d] }
  | _ => none }
def fnExactIsValidKeyRow : OpenClaim := { program := "ytjpfpnkebjmkaaa", sum := "f8755c3778e65120e83767923b5cd9e8e66f263a6a8774a3da0c1d6b7279ae9f", func := "loop.example/g00513/laws.FnExactIsValidKey", spec := "fnExactIsValidKey", apart := false }
def FnExactIsValidKeySaid : Prop := fnExactIsValidKeyRow.holds Try.pinned (OpenSpec.ofChange fnExactIsValidKeySpec)

/-- ITS FALSE NEIGHBOUR: 'it returns false'. Refute it at one input. -/
def fnExactIsValidKeyWrong : ChangeSpec := { name := "fnExactIsValidKey", fn := fun _ => fun
  | [d] => { results := [.lit (.bool false)], args := [d] }
  | _ => none }
def FnExactIsValidKeyWrongFalsely : Prop := fnExactIsValidKeyRow.holds Try.pinned (OpenSpec.ofChange fnExactIsValidKeyWrong)

/-- 'laws.FnExactMax': WHATEVER THE INPUT: true; the input reads as it did. -/
def fnExactMaxSpec : ChangeSpec := { name := "fnExactMax", fn := fun _ => fun
  | [d1, d2] => { results := [.lit (.bool true)], args := [d1, d2] }
  | _ => none }
def fnExactMaxRow : OpenClaim := { program := "ytjpfpnkebjmkaaa", sum := "f8755c3778e65120e83767923b5cd9e8e66f263a6a8774a3da0c1d6b7279ae9f", func := "loop.example/g00513/laws.FnExactMax", spec := "fnExactMax", apart := false }
def FnExactMaxSaid : Prop := fnExactMaxRow.holds Try.pinned (OpenSpec.ofChange fnExactMaxSpec)

/-- ITS FALSE NEIGHBOUR: 'it returns false'. Refute it at one input. -/
def fnExactMaxWrong : ChangeSpec := { name := "fnExactMax", fn := fun _ => fun
  | [d1, d2] => { results := [.lit (.bool false)], args := [d1, d2] }
  | _ => none }
def FnExactMaxWrongFalsely : Prop := fnExactMaxRow.holds Try.pinned (OpenSpec.ofChange fnExactMaxWrong)

/-- 'laws.FnExactMin': WHATEVER THE INPUT: true; the input reads as it did. -/
def fnExactMinSpec : ChangeSpec := { name := "fnExactMin", fn := fun _ => fun
  | [d1, d2] => { results := [.lit (.bool true)], args := [d1, d2] }
  | _ => none }
def fnExactMinRow : OpenClaim := { program := "ytjpfpnkebjmkaaa", sum := "f8755c3778e65120e83767923b5cd9e8e66f263a6a8774a3da0c1d6b7279ae9f", func := "loop.example/g00513/laws.FnExactMin", spec := "fnExactMin", apart := false }
def FnExactMinSaid : Prop := fnExactMinRow.holds Try.pinned (OpenSpec.ofChange fnExactMinSpec)

/-- ITS FALSE NEIGHBOUR: 'it returns false'. Refute it at one input. -/
def fnExactMinWrong : ChangeSpec := { name := "fnExactMin", fn := fun _ => fun
  | [d1, d2] => { results := [.lit (.bool false)], args := [d1, d2] }
  | _ => none }
def FnExactMinWrongFalsely : Prop := fnExactMinRow.holds Try.pinned (OpenSpec.ofChange fnExactMinWrong)

/-- 'laws.FnExactCeilDiv': WHATEVER THE INPUT: true; the input reads as it did. -/
def fnExactCeilDivSpec : ChangeSpec := { name := "fnExactCeilDiv", fn := fun _ => fun
  | [d1, d2] => { results := [.lit (.bool true)], args := [d1, d2] }
  | _ => none }
def fnExactCeilDivRow : OpenClaim := { program := "ytjpfpnkebjmkaaa", sum := "f8755c3778e65120e83767923b5cd9e8e66f263a6a8774a3da0c1d6b7279ae9f", func := "loop.example/g00513/laws.FnExactCeilDiv", spec := "fnExactCeilDiv", apart := false }
def FnExactCeilDivSaid : Prop := fnExactCeilDivRow.holds Try.pinned (OpenSpec.ofChange fnExactCeilDivSpec)

/-- ITS FALSE NEIGHBOUR: 'it returns false'. Refute it at one input. -/
def fnExactCeilDivWrong : ChangeSpec := { name := "fnExactCeilDiv", fn := fun _ => fun
  | [d1, d2] => { results := [.lit (.bool false)], args := [d1, d2] }
  | _ => none }
def FnExactCeilDivWrongFalsely : Prop := fnExactCeilDivRow.holds Try.pinned (OpenSpec.ofChange fnExactCeilDivWrong)

/-- 'laws.FnExactMod': WHATEVER THE INPUT: true; the input reads as it did. -/
def fnExactModSpec : ChangeSpec := { name := "fnExactMod", fn := fun _ => fun
  | [d1, d2] => { results := [.lit (.bool true)], args := [d1, d2] }
  | _ => none }
def fnExactModRow : OpenClaim := { program := "ytjpfpnkebjmkaaa", sum := "f8755c3778e65120e83767923b5cd9e8e66f263a6a8774a3da0c1d6b7279ae9f", func := "loop.example/g00513/laws.FnExactMod", spec := "fnExactMod", apart := false }
def FnExactModSaid : Prop := fnExactModRow.holds Try.pinned (OpenSpec.ofChange fnExactModSpec)

/-- ITS FALSE NEIGHBOUR: 'it returns false'. Refute it at one input. -/
def fnExactModWrong : ChangeSpec := { name := "fnExactMod", fn := fun _ => fun
  | [d1, d2] => { results := [.lit (.bool false)], args := [d1, d2] }
  | _ => none }
def FnExactModWrongFalsely : Prop := fnExactModRow.holds Try.pinned (OpenSpec.ofChange fnExactModWrong)

/-- 'laws.FnExactAddField': WHATEVER THE INPUT: true; the input reads as it did. -/
def fnExactAddFieldSpec : ChangeSpec := { name := "fnExactAddField", fn := fun _ => fun
  | [d1, d2] => { results := [.lit (.bool true)], args := [d1, d2] }
  | _ => none }
def fnExactAddFieldRow : OpenClaim := { program := "ytjpfpnkebjmkaaa", sum := "f8755c3778e65120e83767923b5cd9e8e66f263a6a8774a3da0c1d6b7279ae9f", func := "loop.example/g00513/laws.FnExactAddField", spec := "fnExactAddField", apart := false }
def FnExactAddFieldSaid : Prop := fnExactAddFieldRow.holds Try.pinned (OpenSpec.ofChange fnExactAddFieldSpec)

/-- ITS FALSE NEIGHBOUR: 'it returns false'. Refute it at one input. -/
def fnExactAddFieldWrong : ChangeSpec := { name := "fnExactAddField", fn := fun _ => fun
  | [d1, d2] => { results := [.lit (.bool false)], args := [d1, d2] }
  | _ => none }
def FnExactAddFieldWrongFalsely : Prop := fnExactAddFieldRow.holds Try.pinned (OpenSpec.ofChange fnExactAddFieldWrong)

/-- 'laws.FnExactMulField': WHATEVER THE INPUT: true; the input reads as it did. -/
def fnExactMulFieldSpec : ChangeSpec := { name := "fnExactMulField", fn := fun _ => fun
  | [d1, d2] => { results := [.lit (.bool true)], args := [d1, d2] }
  | _ => none }
def fnExactMulFieldRow : OpenClaim := { program := "ytjpfpnkebjmkaaa", sum := "f8755c3778e65120e83767923b5cd9e8e66f263a6a8774a3da0c1d6b7279ae9f", func := "loop.example/g00513/laws.FnExactMulField", spec := "fnExactMulField", apart := false }
def FnExactMulFieldSaid : Prop := fnExactMulFieldRow.holds Try.pinned (OpenSpec.ofChange fnExactMulFieldSpec)

/-- ITS FALSE NEIGHBOUR: 'it returns false'. Refute it at one input. -/
def fnExactMulFieldWrong : ChangeSpec := { name := "fnExactMulField", fn := fun _ => fun
  | [d1, d2] => { results := [.lit (.bool false)], args := [d1, d2] }
  | _ => none }
def FnExactMulFieldWrongFalsely : Prop := fnExactMulFieldRow.holds Try.pinned (OpenSpec.ofChange fnExactMulFieldWrong)

/-- 'laws.FnExactSubField': WHATEVER THE INPUT: true; the input reads as it did. -/
def fnExactSubFieldSpec : ChangeSpec := { name := "fnExactSubField", fn := fun _ => fun
  | [d1, d2] => { results := [.lit (.bool true)], args := [d1, d2] }
  | _ => none }
def fnExactSubFieldRow : OpenClaim := { program := "ytjpfpnkebjmkaaa", sum := "f8755c3778e65120e83767923b5cd9e8e66f263a6a8774a3da0c1d6b7279ae9f", func := "loop.example/g00513/laws.FnExactSubField", spec := "fnExactSubField", apart := false }
def FnExactSubFieldSaid : Prop := fnExactSubFieldRow.holds Try.pinned (OpenSpec.ofChange fnExactSubFieldSpec)

/-- ITS FALSE NEIGHBOUR: 'it returns false'. Refute it at one input. -/
def fnExactSubFieldWrong : ChangeSpec := { name := "fnExactSubField", fn := fun _ => fun
  | [d1, d2] => { results := [.lit (.bool false)], args := [d1, d2] }
  | _ => none }
def FnExactSubFieldWrongFalsely : Prop := fnExactSubFieldRow.holds Try.pinned (OpenSpec.ofChange fnExactSubFieldWrong)

/-- 'laws.FnExactIsGroupElement': WHATEVER THE INPUT: true; the input reads as it did. -/
def fnExactIsGroupElementSpec : ChangeSpec := { name := "fnExactIsGroupElement", fn := fun _ => fun
  | [d] => { results := [.lit (.bool true)], args := [d] }
  | _ => none }
def fnExactIsGroupElementRow : OpenClaim := { program := "ytjpfpnkebjmkaaa", sum := "f8755c3778e65120e83767923b5cd9e8e66f263a6a8774a3da0c1d6b7279ae9f", func := "loop.example/g00513/laws.FnExactIsGroupElement", spec := "fnExactIsGroupElement", apart := false }
def FnExactIsGroupElementSaid : Prop := fnExactIsGroupElementRow.holds Try.pinned (OpenSpec.ofChange fnExactIsGroupElementSpec)

/-- ITS FALSE NEIGHBOUR: 'it returns false'. Refute it at one input. -/
def fnExactIsGroupElementWrong : ChangeSpec := { name := "fnExactIsGroupElement", fn := fun _ => fun
  | [d] => { results := [.lit (.bool false)], args := [d] }
  | _ => none }
def FnExactIsGroupElementWrongFalsely : Prop := fnExactIsGroupElementRow.holds Try.pinned (OpenSpec.ofChange fnExactIsGroupElementWrong)

/- THE SECOND FORM. 'bulk': how many values and letters a reading holds, each counted each time it is reached (what is shared counts as often as it is met; a slice's spare places count too). A statement '..UptoSaid' is the law's where the arguments, and the package variables that the reading takes, are together of bulk at most 1048576: NARROWER than '..Said'. Prove '..Said' where nothing that the law and all that it calls make is longer than what came in: it says more and counts as full. Else prove '..UptoSaid'. A law counts once. -/
mutual
def uptoBulk {H : Type} : DataW H → Nat
  | .lit (.string bytes) => bytes.length + 1
  | .lit _ => 1
  | .nil => 1
  | .ptr d => uptoBulk d + 1
  | .slice elems spare => uptoBulkAll elems + uptoBulkAll spare + 1
  | .agg parts => uptoBulkAll parts + 1
  | .iface _ d => uptoBulk d + 1
  | .map entries => uptoBulkEntries entries + 1
  | .held _ => 1
def uptoBulkAll {H : Type} : List (DataW H) → Nat
  | [] => 0
  | d :: r => uptoBulk d + uptoBulkAll r
def uptoBulkEntries {H : Type} : List (Lit × DataW H) → Nat
  | [] => 0
  | x :: r => uptoBulkEntry x + uptoBulkEntries r
def uptoBulkEntry {H : Type} : Lit × DataW H → Nat
  | (.string bytes, d) => bytes.length + uptoBulk d + 1
  | (_, d) => uptoBulk d + 1
 end
def uptoSmall : (H : Type) → List (DataW H) → Bool := fun _ ds => decide (uptoBulkAll ds ≤ 1048576)
def OpenSpec.upto (s : _root_.Go.ChangeSpec) : _root_.Go.OpenSpec := { _root_.Go.OpenSpec.ofChange s with cond := some uptoSmall }

/-- 'laws.FnExactConstants', WHERE WHAT IT READS IS OF BULK AT MOST 1048576: true; the input reads as it did. -/
def fnExactConstantsUptoRow : OpenClaim := { program := "ytjpfpnkebjmkaaa", sum := "f8755c3778e65120e83767923b5cd9e8e66f263a6a8774a3da0c1d6b7279ae9f", func := "loop.example/g00513/laws.FnExactConstants", spec := "fnExactConstants", apart := false, narrowed := true }
def FnExactConstantsUptoSaid : Prop := fnExactConstantsUptoRow.holds Try.pinned (OpenSpec.upto fnExactConstantsSpec)

/-- 'laws.FnExactInRange', WHERE WHAT IT READS IS OF BULK AT MOST 1048576: true; the input reads as it did. -/
def fnExactInRangeUptoRow : OpenClaim := { program := "ytjpfpnkebjmkaaa", sum := "f8755c3778e65120e83767923b5cd9e8e66f263a6a8774a3da0c1d6b7279ae9f", func := "loop.example/g00513/laws.FnExactInRange", spec := "fnExactInRange", apart := false, narrowed := true }
def FnExactInRangeUptoSaid : Prop := fnExactInRangeUptoRow.holds Try.pinned (OpenSpec.upto fnExactInRangeSpec)

/-- 'laws.FnExactIsElement', WHERE WHAT IT READS IS OF BULK AT MOST 1048576: true; the input reads as it did. -/
def fnExactIsElementUptoRow : OpenClaim := { program := "ytjpfpnkebjmkaaa", sum := "f8755c3778e65120e83767923b5cd9e8e66f263a6a8774a3da0c1d6b7279ae9f", func := "loop.example/g00513/laws.FnExactIsElement", spec := "fnExactIsElement", apart := false, narrowed := true }
def FnExactIsElementUptoSaid : Prop := fnExactIsElementUptoRow.holds Try.pinned (OpenSpec.upto fnExactIsElementSpec)

/-- 'laws.FnExactIsValidKey', WHERE WHAT IT READS IS OF BULK AT MOST 1048576: true; the input reads as it did. -/
def fnExactIsValidKeyUptoRow : OpenClaim := { program := "ytjpfpnkebjmkaaa", sum := "f8755c3778e65120e83767923b5cd9e8e66f263a6a8774a3da0c1d6b7279ae9f", func := "loop.example/g00513/laws.FnExactIsValidKey", spec := "fnExactIsValidKey", apart := false, narrowed := true }
def FnExactIsValidKeyUptoSaid : Prop := fnExactIsValidKeyUptoRow.holds Try.pinned (OpenSpec.upto fnExactIsValidKeySpec)

/-- 'laws.FnExactMax', WHERE WHAT IT READS IS OF BULK AT MOST 1048576: true; the input reads as it did. -/
def fnExactMaxUptoRow : OpenClaim := { program := "ytjpfpnkebjmkaaa", sum := "f8755c3778e65120e83767923b5cd9e8e66f263a6a8774a3da0c1d6b7279ae9f", func := "loop.example/g00513/laws.FnExactMax", spec := "fnExactMax", apart := false, narrowed := true }
def FnExactMaxUptoSaid : Prop := fnExactMaxUptoRow.holds Try.pinned (OpenSpec.upto fnExactMaxSpec)

/-- 'laws.FnExactMin', WHERE WHAT IT READS IS OF BULK AT MOST 1048576: true; the input reads as it did. -/
def fnExactMinUptoRow : OpenClaim := { program := "ytjpfpnkebjmkaaa", sum := "f8755c3778e65120e83767923b5cd9e8e66f263a6a8774a3da0c1d6b7279ae9f", func := "loop.example/g00513/laws.FnExactMin", spec := "fnExactMin", apart := false, narrowed := true }
def FnExactMinUptoSaid : Prop := fnExactMinUptoRow.holds Try.pinned (OpenSpec.upto fnExactMinSpec)

/-- 'laws.FnExactCeilDiv', WHERE WHAT IT READS IS OF BULK AT MOST 1048576: true; the input reads as it did. -/
def fnExactCeilDivUptoRow : OpenClaim := { program := "ytjpfpnkebjmkaaa", sum := "f8755c3778e65120e83767923b5cd9e8e66f263a6a8774a3da0c1d6b7279ae9f", func := "loop.example/g00513/laws.FnExactCeilDiv", spec := "fnExactCeilDiv", apart := false, narrowed := true }
def FnExactCeilDivUptoSaid : Prop := fnExactCeilDivUptoRow.holds Try.pinned (OpenSpec.upto fnExactCeilDivSpec)

/-- 'laws.FnExactMod', WHERE WHAT IT READS IS OF BULK AT MOST 1048576: true; the input reads as it did. -/
def fnExactModUptoRow : OpenClaim := { program := "ytjpfpnkebjmkaaa", sum := "f8755c3778e65120e83767923b5cd9e8e66f263a6a8774a3da0c1d6b7279ae9f", func := "loop.example/g00513/laws.FnExactMod", spec := "fnExactMod", apart := false, narrowed := true }
def FnExactModUptoSaid : Prop := fnExactModUptoRow.holds Try.pinned (OpenSpec.upto fnExactModSpec)

/-- 'laws.FnExactAddField', WHERE WHAT IT READS IS OF BULK AT MOST 1048576: true; the input reads as it did. -/
def fnExactAddFieldUptoRow : OpenClaim := { program := "ytjpfpnkebjmkaaa", sum := "f8755c3778e65120e83767923b5cd9e8e66f263a6a8774a3da0c1d6b7279ae9f", func := "loop.example/g00513/laws.FnExactAddField", spec := "fnExactAddField", apart := false, narrowed := true }
def FnExactAddFieldUptoSaid : Prop := fnExactAddFieldUptoRow.holds Try.pinned (OpenSpec.upto fnExactAddFieldSpec)

/-- 'laws.FnExactMulField', WHERE WHAT IT READS IS OF BULK AT MOST 1048576: true; the input reads as it did. -/
def fnExactMulFieldUptoRow : OpenClaim := { program := "ytjpfpnkebjmkaaa", sum := "f8755c3778e65120e83767923b5cd9e8e66f263a6a8774a3da0c1d6b7279ae9f", func := "loop.example/g00513/laws.FnExactMulField", spec := "fnExactMulField", apart := false, narrowed := true }
def FnExactMulFieldUptoSaid : Prop := fnExactMulFieldUptoRow.holds Try.pinned (OpenSpec.upto fnExactMulFieldSpec)

/-- 'laws.FnExactSubField', WHERE WHAT IT READS IS OF BULK AT MOST 1048576: true; the input reads as it did. -/
def fnExactSubFieldUptoRow : OpenClaim := { program := "ytjpfpnkebjmkaaa", sum := "f8755c3778e65120e83767923b5cd9e8e66f263a6a8774a3da0c1d6b7279ae9f", func := "loop.example/g00513/laws.FnExactSubField", spec := "fnExactSubField", apart := false, narrowed := true }
def FnExactSubFieldUptoSaid : Prop := fnExactSubFieldUptoRow.holds Try.pinned (OpenSpec.upto fnExactSubFieldSpec)

/-- 'laws.FnExactIsGroupElement', WHERE WHAT IT READS IS OF BULK AT MOST 1048576: true; the input reads as it did. -/
def fnExactIsGroupElementUptoRow : OpenClaim := { program := "ytjpfpnkebjmkaaa", sum := "f8755c3778e65120e83767923b5cd9e8e66f263a6a8774a3da0c1d6b7279ae9f", func := "loop.example/g00513/laws.FnExactIsGroupElement", spec := "fnExactIsGroupElement", apart := false, narrowed := true }
def FnExactIsGroupElementUptoSaid : Prop := fnExactIsGroupElementUptoRow.holds Try.pinned (OpenSpec.upto fnExactIsGroupElementSpec)

end Rows
end Go.Proofs.Ytjpfpnkebjmkaaa
