/-
  No cell of these rows narrows 'for every input' (looked for: loops, veiled, ifaces, maps, wideKeys, modest, calm, conditions, laid).
  DERIVED. THE GIVEN ROWS OF THIS SEAT. 12 by the template 'for every input the law returns true; each argument reads behind the call as it read before'; 0 by the template 'total and deterministic' (their statements: YtbcocjakpnhmaaaTotals.lean).
  GIVEN WITH THE SEED: the statements are not yours to turn. If you find one false, say at which input.
  Laid BY PROGRAM, IN A SANDBOX (cutbox-rows.mjs): the forced cells as the released guide's own fill.sh prints them over the translation 30afcca06115d6d1… (all of the seat's roots in one cut). By AI agents, Wed Nov 11 2026. No macro, syntax, notation, axiom, sorry.
-/
import Derived.Test.YtbcocjakpnhmaaaChecked
import GoSem.Claim
import GoSem.ClaimJoined
import GoSem.ClaimMapViews
import Derived.JoinedTies
import Derived.KernelRfl
namespace Go.Proofs.Ytbcocjakpnhmaaa
/- THE CELL 'sum', in the pinned program and in every row, IS THE sha256 OF THE DUMP (.gsa) THAT YtbcocjakpnhmaaaProg.lean LOADS. Nothing in Lean hashes anything: it is a label: what it is worth is what the hold of that sum in a sandbox is worth. -/
noncomputable def Try.pinned : Pinned := { name := "ytbcocjakpnhmaaa", sum := "30afcca06115d6d1aa1cf6e14ea6b486248e8a15ec4ca6473c967a76b37a8f08", checked := Try.checked }
namespace Rows
def none {H : Type} : Left H := { results := [], args := [] }

/-- 'laws.FnExactSameGrains': WHATEVER THE INPUT: true; the input reads as it did. -/
def fnExactSameGrainsSpec : ChangeSpec := { name := "fnExactSameGrains", fn := fun _ => fun
  | [d1, d2] => { results := [.lit (.bool true)], args := [d1, d2] }
  | _ => none }
def fnExactSameGrainsRow : OpenClaim := { program := "ytbcocjakpnhmaaa", sum := "30afcca06115d6d1aa1cf6e14ea6b486248e8a15ec4ca6473c967a76b37a8f08", func := "loop.example/g01247/laws.FnExactSameGrains", spec := "fnExactSameGrains", apart := false }
def FnExactSameGrainsSaid : Prop := fnExactSameGrainsRow.holds Try.pinned (OpenSpec.ofChange fnExactSameGrainsSpec)

/-- ITS FALSE NEIGHBOUR: 'it returns false'. Refute it at one input. -/
def fnExactSameGrainsWrong : ChangeSpec := { name := "fnExactSameGrains", fn := fun _ => fun
  | [d1, d2] => { results := [.lit (.bool false)], args := [d1, d2] }
  | _ => none }
def FnExactSameGrainsWrongFalsely : Prop := fnExactSameGrainsRow.holds Try.pinned (OpenSpec.ofChange fnExactSameGrainsWrong)

/-- 'laws.FnExactValidGrains': WHATEVER THE INPUT: true; the input reads as it did. -/
def fnExactValidGrainsSpec : ChangeSpec := { name := "fnExactValidGrains", fn := fun _ => fun
  | [d] => { results := [.lit (.bool true)], args := [d] }
  | _ => none }
def fnExactValidGrainsRow : OpenClaim := { program := "ytbcocjakpnhmaaa", sum := "30afcca06115d6d1aa1cf6e14ea6b486248e8a15ec4ca6473c967a76b37a8f08", func := "loop.example/g01247/laws.FnExactValidGrains", spec := "fnExactValidGrains", unfollowed := true, recurses := true, apart := false }
def FnExactValidGrainsSaid : Prop := fnExactValidGrainsRow.holds Try.pinned (OpenSpec.ofChange fnExactValidGrainsSpec)

/-- ITS FALSE NEIGHBOUR: 'it returns false'. Refute it at one input. -/
def fnExactValidGrainsWrong : ChangeSpec := { name := "fnExactValidGrains", fn := fun _ => fun
  | [d] => { results := [.lit (.bool false)], args := [d] }
  | _ => none }
def FnExactValidGrainsWrongFalsely : Prop := fnExactValidGrainsRow.holds Try.pinned (OpenSpec.ofChange fnExactValidGrainsWrong)

/-- 'laws.FnExactValidField': WHATEVER THE INPUT: true; the input reads as it did. -/
def fnExactValidFieldSpec : ChangeSpec := { name := "fnExactValidField", fn := fun _ => fun
  | [d] => { results := [.lit (.bool true)], args := [d] }
  | _ => none }
def fnExactValidFieldRow : OpenClaim := { program := "ytbcocjakpnhmaaa", sum := "30afcca06115d6d1aa1cf6e14ea6b486248e8a15ec4ca6473c967a76b37a8f08", func := "loop.example/g01247/laws.FnExactValidField", spec := "fnExactValidField", unfollowed := true, recurses := true, apart := false }
def FnExactValidFieldSaid : Prop := fnExactValidFieldRow.holds Try.pinned (OpenSpec.ofChange fnExactValidFieldSpec)

/-- ITS FALSE NEIGHBOUR: 'it returns false'. Refute it at one input. -/
def fnExactValidFieldWrong : ChangeSpec := { name := "fnExactValidField", fn := fun _ => fun
  | [d] => { results := [.lit (.bool false)], args := [d] }
  | _ => none }
def FnExactValidFieldWrongFalsely : Prop := fnExactValidFieldRow.holds Try.pinned (OpenSpec.ofChange fnExactValidFieldWrong)

/-- 'laws.FnExactFlatField': WHATEVER THE INPUT: true; the input reads as it did. -/
def fnExactFlatFieldSpec : ChangeSpec := { name := "fnExactFlatField", fn := fun _ => fun
  | [d1, d2, d3, d4] => { results := [.lit (.bool true)], args := [d1, d2, d3, d4] }
  | _ => none }
def fnExactFlatFieldRow : OpenClaim := { program := "ytbcocjakpnhmaaa", sum := "30afcca06115d6d1aa1cf6e14ea6b486248e8a15ec4ca6473c967a76b37a8f08", func := "loop.example/g01247/laws.FnExactFlatField", spec := "fnExactFlatField", unfollowed := true, recurses := true, apart := false }
def FnExactFlatFieldSaid : Prop := fnExactFlatFieldRow.holds Try.pinned (OpenSpec.ofChange fnExactFlatFieldSpec)

/-- ITS FALSE NEIGHBOUR: 'it returns false'. Refute it at one input. -/
def fnExactFlatFieldWrong : ChangeSpec := { name := "fnExactFlatField", fn := fun _ => fun
  | [d1, d2, d3, d4] => { results := [.lit (.bool false)], args := [d1, d2, d3, d4] }
  | _ => none }
def FnExactFlatFieldWrongFalsely : Prop := fnExactFlatFieldRow.holds Try.pinned (OpenSpec.ofChange fnExactFlatFieldWrong)

/-- 'laws.FnExactSumOfField': WHATEVER THE INPUT: true; the input reads as it did. -/
def fnExactSumOfFieldSpec : ChangeSpec := { name := "fnExactSumOfField", fn := fun _ => fun
  | [d] => { results := [.lit (.bool true)], args := [d] }
  | _ => none }
def fnExactSumOfFieldRow : OpenClaim := { program := "ytbcocjakpnhmaaa", sum := "30afcca06115d6d1aa1cf6e14ea6b486248e8a15ec4ca6473c967a76b37a8f08", func := "loop.example/g01247/laws.FnExactSumOfField", spec := "fnExactSumOfField", unfollowed := true, recurses := true, apart := false }
def FnExactSumOfFieldSaid : Prop := fnExactSumOfFieldRow.holds Try.pinned (OpenSpec.ofChange fnExactSumOfFieldSpec)

/-- ITS FALSE NEIGHBOUR: 'it returns false'. Refute it at one input. -/
def fnExactSumOfFieldWrong : ChangeSpec := { name := "fnExactSumOfField", fn := fun _ => fun
  | [d] => { results := [.lit (.bool false)], args := [d] }
  | _ => none }
def FnExactSumOfFieldWrongFalsely : Prop := fnExactSumOfFieldRow.holds Try.pinned (OpenSpec.ofChange fnExactSumOfFieldWrong)

/-- 'laws.FnExactCountAbove': WHATEVER THE INPUT: true; the input reads as it did. -/
def fnExactCountAboveSpec : ChangeSpec := { name := "fnExactCountAbove", fn := fun _ => fun
  | [d1, d2] => { results := [.lit (.bool true)], args := [d1, d2] }
  | _ => none }
def fnExactCountAboveRow : OpenClaim := { program := "ytbcocjakpnhmaaa", sum := "30afcca06115d6d1aa1cf6e14ea6b486248e8a15ec4ca6473c967a76b37a8f08", func := "loop.example/g01247/laws.FnExactCountAbove", spec := "fnExactCountAbove", unfollowed := true, recurses := true, apart := false }
def FnExactCountAboveSaid : Prop := fnExactCountAboveRow.holds Try.pinned (OpenSpec.ofChange fnExactCountAboveSpec)

/-- ITS FALSE NEIGHBOUR: 'it returns false'. Refute it at one input. -/
def fnExactCountAboveWrong : ChangeSpec := { name := "fnExactCountAbove", fn := fun _ => fun
  | [d1, d2] => { results := [.lit (.bool false)], args := [d1, d2] }
  | _ => none }
def FnExactCountAboveWrongFalsely : Prop := fnExactCountAboveRow.holds Try.pinned (OpenSpec.ofChange fnExactCountAboveWrong)

/-- 'laws.FnExactRangeOfField': WHATEVER THE INPUT: true; the input reads as it did. -/
def fnExactRangeOfFieldSpec : ChangeSpec := { name := "fnExactRangeOfField", fn := fun _ => fun
  | [d] => { results := [.lit (.bool true)], args := [d] }
  | _ => none }
def fnExactRangeOfFieldRow : OpenClaim := { program := "ytbcocjakpnhmaaa", sum := "30afcca06115d6d1aa1cf6e14ea6b486248e8a15ec4ca6473c967a76b37a8f08", func := "loop.example/g01247/laws.FnExactRangeOfField", spec := "fnExactRangeOfField", unfollowed := true, recurses := true, apart := false }
def FnExactRangeOfFieldSaid : Prop := fnExactRangeOfFieldRow.holds Try.pinned (OpenSpec.ofChange fnExactRangeOfFieldSpec)

/-- ITS FALSE NEIGHBOUR: 'it returns false'. Refute it at one input. -/
def fnExactRangeOfFieldWrong : ChangeSpec := { name := "fnExactRangeOfField", fn := fun _ => fun
  | [d] => { results := [.lit (.bool false)], args := [d] }
  | _ => none }
def FnExactRangeOfFieldWrongFalsely : Prop := fnExactRangeOfFieldRow.holds Try.pinned (OpenSpec.ofChange fnExactRangeOfFieldWrong)

/-- 'laws.FnExactSwapField': WHATEVER THE INPUT: true; the input reads as it did. -/
def fnExactSwapFieldSpec : ChangeSpec := { name := "fnExactSwapField", fn := fun _ => fun
  | [d] => { results := [.lit (.bool true)], args := [d] }
  | _ => none }
def fnExactSwapFieldRow : OpenClaim := { program := "ytbcocjakpnhmaaa", sum := "30afcca06115d6d1aa1cf6e14ea6b486248e8a15ec4ca6473c967a76b37a8f08", func := "loop.example/g01247/laws.FnExactSwapField", spec := "fnExactSwapField", unfollowed := true, recurses := true, apart := false }
def FnExactSwapFieldSaid : Prop := fnExactSwapFieldRow.holds Try.pinned (OpenSpec.ofChange fnExactSwapFieldSpec)

/-- ITS FALSE NEIGHBOUR: 'it returns false'. Refute it at one input. -/
def fnExactSwapFieldWrong : ChangeSpec := { name := "fnExactSwapField", fn := fun _ => fun
  | [d] => { results := [.lit (.bool false)], args := [d] }
  | _ => none }
def FnExactSwapFieldWrongFalsely : Prop := fnExactSwapFieldRow.holds Try.pinned (OpenSpec.ofChange fnExactSwapFieldWrong)

/-- 'laws.FnExactMirrorField': WHATEVER THE INPUT: true; the input reads as it did. -/
def fnExactMirrorFieldSpec : ChangeSpec := { name := "fnExactMirrorField", fn := fun _ => fun
  | [d] => { results := [.lit (.bool true)], args := [d] }
  | _ => none }
def fnExactMirrorFieldRow : OpenClaim := { program := "ytbcocjakpnhmaaa", sum := "30afcca06115d6d1aa1cf6e14ea6b486248e8a15ec4ca6473c967a76b37a8f08", func := "loop.example/g01247/laws.FnExactMirrorField", spec := "fnExactMirrorField", unfollowed := true, recurses := true, apart := false }
def FnExactMirrorFieldSaid : Prop := fnExactMirrorFieldRow.holds Try.pinned (OpenSpec.ofChange fnExactMirrorFieldSpec)

/-- ITS FALSE NEIGHBOUR: 'it returns false'. Refute it at one input. -/
def fnExactMirrorFieldWrong : ChangeSpec := { name := "fnExactMirrorField", fn := fun _ => fun
  | [d] => { results := [.lit (.bool false)], args := [d] }
  | _ => none }
def FnExactMirrorFieldWrongFalsely : Prop := fnExactMirrorFieldRow.holds Try.pinned (OpenSpec.ofChange fnExactMirrorFieldWrong)

/-- 'laws.FnExactScaleField': WHATEVER THE INPUT: true; the input reads as it did. -/
def fnExactScaleFieldSpec : ChangeSpec := { name := "fnExactScaleField", fn := fun _ => fun
  | [d1, d2] => { results := [.lit (.bool true)], args := [d1, d2] }
  | _ => none }
def fnExactScaleFieldRow : OpenClaim := { program := "ytbcocjakpnhmaaa", sum := "30afcca06115d6d1aa1cf6e14ea6b486248e8a15ec4ca6473c967a76b37a8f08", func := "loop.example/g01247/laws.FnExactScaleField", spec := "fnExactScaleField", unfollowed := true, recurses := true, apart := false }
def FnExactScaleFieldSaid : Prop := fnExactScaleFieldRow.holds Try.pinned (OpenSpec.ofChange fnExactScaleFieldSpec)

/-- ITS FALSE NEIGHBOUR: 'it returns false'. Refute it at one input. -/
def fnExactScaleFieldWrong : ChangeSpec := { name := "fnExactScaleField", fn := fun _ => fun
  | [d1, d2] => { results := [.lit (.bool false)], args := [d1, d2] }
  | _ => none }
def FnExactScaleFieldWrongFalsely : Prop := fnExactScaleFieldRow.holds Try.pinned (OpenSpec.ofChange fnExactScaleFieldWrong)

/-- 'laws.FnExactPutValue': WHATEVER THE INPUT: true; the input reads as it did. -/
def fnExactPutValueSpec : ChangeSpec := { name := "fnExactPutValue", fn := fun _ => fun
  | [d1, d2, d3, d4] => { results := [.lit (.bool true)], args := [d1, d2, d3, d4] }
  | _ => none }
def fnExactPutValueRow : OpenClaim := { program := "ytbcocjakpnhmaaa", sum := "30afcca06115d6d1aa1cf6e14ea6b486248e8a15ec4ca6473c967a76b37a8f08", func := "loop.example/g01247/laws.FnExactPutValue", spec := "fnExactPutValue", unfollowed := true, recurses := true, apart := false }
def FnExactPutValueSaid : Prop := fnExactPutValueRow.holds Try.pinned (OpenSpec.ofChange fnExactPutValueSpec)

/-- ITS FALSE NEIGHBOUR: 'it returns false'. Refute it at one input. -/
def fnExactPutValueWrong : ChangeSpec := { name := "fnExactPutValue", fn := fun _ => fun
  | [d1, d2, d3, d4] => { results := [.lit (.bool false)], args := [d1, d2, d3, d4] }
  | _ => none }
def FnExactPutValueWrongFalsely : Prop := fnExactPutValueRow.holds Try.pinned (OpenSpec.ofChange fnExactPutValueWrong)

/-- 'laws.FnExactNoiseField': WHATEVER THE INPUT: true; the input reads as it did. -/
def fnExactNoiseFieldSpec : ChangeSpec := { name := "fnExactNoiseField", fn := fun _ => fun
  | [d1, d2, d3, d4, d5] => { results := [.lit (.bool true)], args := [d1, d2, d3, d4, d5] }
  | _ => none }
def fnExactNoiseFieldRow : OpenClaim := { program := "ytbcocjakpnhmaaa", sum := "30afcca06115d6d1aa1cf6e14ea6b486248e8a15ec4ca6473c967a76b37a8f08", func := "loop.example/g01247/laws.FnExactNoiseField", spec := "fnExactNoiseField", unfollowed := true, recurses := true, apart := false }
def FnExactNoiseFieldSaid : Prop := fnExactNoiseFieldRow.holds Try.pinned (OpenSpec.ofChange fnExactNoiseFieldSpec)

/-- ITS FALSE NEIGHBOUR: 'it returns false'. Refute it at one input. -/
def fnExactNoiseFieldWrong : ChangeSpec := { name := "fnExactNoiseField", fn := fun _ => fun
  | [d1, d2, d3, d4, d5] => { results := [.lit (.bool false)], args := [d1, d2, d3, d4, d5] }
  | _ => none }
def FnExactNoiseFieldWrongFalsely : Prop := fnExactNoiseFieldRow.holds Try.pinned (OpenSpec.ofChange fnExactNoiseFieldWrong)

/- THE SECOND FORM. 'bulk': how many values and letters a reading holds, each counted each time it is reached (what is shared counts as often as it is met; a slice's spare places count too). A statement '..UptoSaid' is the law's where the arguments, and the package variables that the reading takes, are together of bulk at most 1048576: NARROWER than '..Said'. Prove '..Said' where nothing that the law and all that it calls make is longer than what came in: it says more and counts as full. Else prove '..UptoSaid'. A law counts once. -/
mutual
def uptoBulk {H : Type} : DataW H → Nat
  | .lit (.string bytes) => bytes.length + 1
  | .lit _ => 1
  | .nil => 1
  | .ptr d => uptoBulk d + 1
  | .slice elems spare => uptoBulkAll elems + uptoBulkAll spare + 1
  | .agg parts => uptoBulkAll parts + 1
  | .iface _ d => uptoBulk d + 1
  | .map entries => uptoBulkEntries entries + 1
  | .held _ => 1
def uptoBulkAll {H : Type} : List (DataW H) → Nat
  | [] => 0
  | d :: r => uptoBulk d + uptoBulkAll r
def uptoBulkEntries {H : Type} : List (Lit × DataW H) → Nat
  | [] => 0
  | x :: r => uptoBulkEntry x + uptoBulkEntries r
def uptoBulkEntry {H : Type} : Lit × DataW H → Nat
  | (.string bytes, d) => bytes.length + uptoBulk d + 1
  | (_, d) => uptoBulk d + 1
 end
def uptoSmall : (H : Type) → List (DataW H) → Bool := fun _ ds => decide (uptoBulkAll ds ≤ 1048576)
def OpenSpec.upto (s : _root_.Go.ChangeSpec) : _root_.Go.OpenSpec := { _root_.Go.OpenSpec.ofChange s with cond := some uptoSmall }

/-- 'laws.FnExactSameGrains', WHERE WHAT IT READS IS OF BULK AT MOST 1048576: true; the input reads as it did. -/
def fnExactSameGrainsUptoRow : OpenClaim := { program := "ytbcocjakpnhmaaa", sum := "30afcca06115d6d1aa1cf6e14ea6b486248e8a15ec4ca6473c967a76b37a8f08", func := "loop.example/g01247/laws.FnExactSameGrains", spec := "fnExactSameGrains", apart := false, narrowed := true }
def FnExactSameGrainsUptoSaid : Prop := fnExactSameGrainsUptoRow.holds Try.pinned (OpenSpec.upto fnExactSameGrainsSpec)

/-- 'laws.FnExactValidGrains', WHERE WHAT IT READS IS OF BULK AT MOST 1048576: true; the input reads as it did. -/
def fnExactValidGrainsUptoRow : OpenClaim := { program := "ytbcocjakpnhmaaa", sum := "30afcca06115d6d1aa1cf6e14ea6b486248e8a15ec4ca6473c967a76b37a8f08", func := "loop.example/g01247/laws.FnExactValidGrains", spec := "fnExactValidGrains", unfollowed := true, recurses := true, apart := false, narrowed := true }
def FnExactValidGrainsUptoSaid : Prop := fnExactValidGrainsUptoRow.holds Try.pinned (OpenSpec.upto fnExactValidGrainsSpec)

/-- 'laws.FnExactValidField', WHERE WHAT IT READS IS OF BULK AT MOST 1048576: true; the input reads as it did. -/
def fnExactValidFieldUptoRow : OpenClaim := { program := "ytbcocjakpnhmaaa", sum := "30afcca06115d6d1aa1cf6e14ea6b486248e8a15ec4ca6473c967a76b37a8f08", func := "loop.example/g01247/laws.FnExactValidField", spec := "fnExactValidField", unfollowed := true, recurses := true, apart := false, narrowed := true }
def FnExactValidFieldUptoSaid : Prop := fnExactValidFieldUptoRow.holds Try.pinned (OpenSpec.upto fnExactValidFieldSpec)

/-- 'laws.FnExactFlatField', WHERE WHAT IT READS IS OF BULK AT MOST 1048576: true; the input reads as it did. -/
def fnExactFlatFieldUptoRow : OpenClaim := { program := "ytbcocjakpnhmaaa", sum := "30afcca06115d6d1aa1cf6e14ea6b486248e8a15ec4ca6473c967a76b37a8f08", func := "loop.example/g01247/laws.FnExactFlatField", spec := "fnExactFlatField", unfollowed := true, recurses := true, apart := false, narrowed := true }
def FnExactFlatFieldUptoSaid : Prop := fnExactFlatFieldUptoRow.holds Try.pinned (OpenSpec.upto fnExactFlatFieldSpec)

/-- 'laws.FnExactSumOfField', WHERE WHAT IT READS IS OF BULK AT MOST 1048576: true; the input reads as it did. -/
def fnExactSumOfFieldUptoRow : OpenClaim := { program := "ytbcocjakpnhmaaa", sum := "30afcca06115d6d1aa1cf6e14ea6b486248e8a15ec4ca6473c967a76b37a8f08", func := "loop.example/g01247/laws.FnExactSumOfField", spec := "fnExactSumOfField", unfollowed := true, recurses := true, apart := false, narrowed := true }
def FnExactSumOfFieldUptoSaid : Prop := fnExactSumOfFieldUptoRow.holds Try.pinned (OpenSpec.upto fnExactSumOfFieldSpec)

/-- 'laws.FnExactCountAbove', WHERE WHAT IT READS IS OF BULK AT MOST 1048576: true; the input reads as it did. -/
def fnExactCountAboveUptoRow : OpenClaim := { program := "ytbcocjakpnhmaaa", sum := "30afcca06115d6d1aa1cf6e14ea6b486248e8a15ec4ca6473c967a76b37a8f08", func := "loop.example/g01247/laws.FnExactCountAbove", spec := "fnExactCountAbove", unfollowed := true, recurses := true, apart := false, narrowed := true }
def FnExactCountAboveUptoSaid : Prop := fnExactCountAboveUptoRow.holds Try.pinned (OpenSpec.upto fnExactCountAboveSpec)

/-- 'laws.FnExactRangeOfField', WHERE WHAT IT READS IS OF BULK AT MOST 1048576: true; the input reads as it did. -/
def fnExactRangeOfFieldUptoRow : OpenClaim := { program := "ytbcocjakpnhmaaa", sum := "30afcca06115d6d1aa1cf6e14ea6b486248e8a15ec4ca6473c967a76b37a8f08", func := "loop.example/g01247/laws.FnExactRangeOfField", spec := "fnExactRangeOfField", unfollowed := true, recurses := true, apart := false, narrowed := true }
def FnExactRangeOfFieldUptoSaid : Prop := fnExactRangeOfFieldUptoRow.holds Try.pinned (OpenSpec.upto fnExactRangeOfFieldSpec)

/-- 'laws.FnExactSwapField', WHERE WHAT IT READS IS OF BULK AT MOST 1048576: true; the input reads as it did. -/
def fnExactSwapFieldUptoRow : OpenClaim := { program := "ytbcocjakpnhmaaa", sum := "30afcca06115d6d1aa1cf6e14ea6b486248e8a15ec4ca6473c967a76b37a8f08", func := "loop.example/g01247/laws.FnExactSwapField", spec := "fnExactSwapField", unfollowed := true, recurses := true, apart := false, narrowed := true }
def FnExactSwapFieldUptoSaid : Prop := fnExactSwapFieldUptoRow.holds Try.pinned (OpenSpec.upto fnExactSwapFieldSpec)

/-- 'laws.FnExactMirrorField', WHERE WHAT IT READS IS OF BULK AT MOST 1048576: true; the input reads as it did. -/
def fnExactMirrorFieldUptoRow : OpenClaim := { program := "ytbcocjakpnhmaaa", sum := "30afcca06115d6d1aa1cf6e14ea6b486248e8a15ec4ca6473c967a76b37a8f08", func := "loop.example/g01247/laws.FnExactMirrorField", spec := "fnExactMirrorField", unfollowed := true, recurses := true, apart := false, narrowed := true }
def FnExactMirrorFieldUptoSaid : Prop := fnExactMirrorFieldUptoRow.holds Try.pinned (OpenSpec.upto fnExactMirrorFieldSpec)

/-- 'laws.FnExactScaleField', WHERE WHAT IT READS IS OF BULK AT MOST 1048576: true; the input reads as it did. -/
def fnExactScaleFieldUptoRow : OpenClaim := { program := "ytbcocjakpnhmaaa", sum := "30afcca06115d6d1aa1cf6e14ea6b486248e8a15ec4ca6473c967a76b37a8f08", func := "loop.example/g01247/laws.FnExactScaleField", spec := "fnExactScaleField", unfollowed := true, recurses := true, apart := false, narrowed := true }
def FnExactScaleFieldUptoSaid : Prop := fnExactScaleFieldUptoRow.holds Try.pinned (OpenSpec.upto fnExactScaleFieldSpec)

/-- 'laws.FnExactPutValue', WHERE WHAT IT READS IS OF BULK AT MOST 1048576: true; the input reads as it did. -/
def fnExactPutValueUptoRow : OpenClaim := { program := "ytbcocjakpnhmaaa", sum := "30afcca06115d6d1aa1cf6e14ea6b486248e8a15ec4ca6473c967a76b37a8f08", func := "loop.example/g01247/laws.FnExactPutValue", spec := "fnExactPutValue", unfollowed := true, recurses := true, apart := false, narrowed := true }
def FnExactPutValueUptoSaid : Prop := fnExactPutValueUptoRow.holds Try.pinned (OpenSpec.upto fnExactPutValueSpec)

/-- 'laws.FnExactNoiseField', WHERE WHAT IT READS IS OF BULK AT MOST 1048576: true; the input reads as it did. -/
def fnExactNoiseFieldUptoRow : OpenClaim := { program := "ytbcocjakpnhmaaa", sum := "30afcca06115d6d1aa1cf6e14ea6b486248e8a15ec4ca6473c967a76b37a8f08", func := "loop.example/g01247/laws.FnExactNoiseField", spec := "fnExactNoiseField", unfollowed := true, recurses := true, apart := false, narrowed := true }
def FnExactNoiseFieldUptoSaid : Prop := fnExactNoiseFieldUptoRow.holds Try.pinned (OpenSpec.upto fnExactNoiseFieldSpec)

end Rows
end Go.Proofs.Ytbcocjakpnhmaaa
