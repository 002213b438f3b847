/-
  No cell of these rows narrows 'for every input' (looked for: loops, veiled, ifaces, maps, wideKeys, modest, calm, conditions, laid).
  DERIVED. THE GIVEN ROWS OF THIS SEAT. 12 by the template 'for every input the law returns true; each argument reads behind the call as it read before'; 0 by the template 'total and deterministic' (their statements: YmbrdnTotals.lean).
  GIVEN WITH THE SEED: the statements are not yours to turn. If you find one false, say at which input.
  Laid BY PROGRAM, IN A SANDBOX (cutbox-rows.mjs): the forced cells as the released guide's own fill.sh prints them over the translation 11e28150bf5a38b1… (all of the seat's roots in one cut). By AI agents, Wed Nov 11 2026. No macro, syntax, notation, axiom, sorry.
-/
import Derived.Test.YmbrdnChecked
import GoSem.Claim
import GoSem.ClaimJoined
import GoSem.ClaimMapViews
import Derived.JoinedTies
import Derived.KernelRfl
namespace Go.Proofs.Ymbrdn
/- THE CELL 'sum', in the pinned program and in every row, IS THE sha256 OF THE DUMP (.gsa) THAT YmbrdnProg.lean LOADS. Nothing in Lean hashes anything: it is a label: what it is worth is what the hold of that sum in a sandbox is worth. -/
noncomputable def Ydnm.pinned : Pinned := { name := "ymbrdn", sum := "11e28150bf5a38b109aa489fe4adfe791e584310b6a9941ddcca58c429b06993", checked := Ydnm.checked }
namespace Rows
def none {H : Type} : Left H := { results := [], args := [] }

/-- 'levenshtein.LawS930020EExact': WHATEVER THE INPUT: true; the input reads as it did. -/
def lawS930020EExactSpec : ChangeSpec := { name := "lawS930020EExact", fn := fun _ => fun
  | [d] => { results := [.lit (.bool true)], args := [d] }
  | _ => none }
def lawS930020EExactRow : OpenClaim := { program := "ymbrdn", sum := "11e28150bf5a38b109aa489fe4adfe791e584310b6a9941ddcca58c429b06993", func := "example.com/own/levenshtein.LawS930020EExact", spec := "lawS930020EExact", apart := false }
def LawS930020EExactSaid : Prop := lawS930020EExactRow.holds Ydnm.pinned (OpenSpec.ofChange lawS930020EExactSpec)

/-- ITS FALSE NEIGHBOUR: 'it returns false'. Refute it at one input. -/
def lawS930020EExactWrong : ChangeSpec := { name := "lawS930020EExact", fn := fun _ => fun
  | [d] => { results := [.lit (.bool false)], args := [d] }
  | _ => none }
def LawS930020EExactWrongFalsely : Prop := lawS930020EExactRow.holds Ydnm.pinned (OpenSpec.ofChange lawS930020EExactWrong)

/-- 'levenshtein.LawS930020ETwice': WHATEVER THE INPUT: true; the input reads as it did. -/
def lawS930020ETwiceSpec : ChangeSpec := { name := "lawS930020ETwice", fn := fun _ => fun
  | [d] => { results := [.lit (.bool true)], args := [d] }
  | _ => none }
def lawS930020ETwiceRow : OpenClaim := { program := "ymbrdn", sum := "11e28150bf5a38b109aa489fe4adfe791e584310b6a9941ddcca58c429b06993", func := "example.com/own/levenshtein.LawS930020ETwice", spec := "lawS930020ETwice", apart := false }
def LawS930020ETwiceSaid : Prop := lawS930020ETwiceRow.holds Ydnm.pinned (OpenSpec.ofChange lawS930020ETwiceSpec)

/-- ITS FALSE NEIGHBOUR: 'it returns false'. Refute it at one input. -/
def lawS930020ETwiceWrong : ChangeSpec := { name := "lawS930020ETwice", fn := fun _ => fun
  | [d] => { results := [.lit (.bool false)], args := [d] }
  | _ => none }
def LawS930020ETwiceWrongFalsely : Prop := lawS930020ETwiceRow.holds Ydnm.pinned (OpenSpec.ofChange lawS930020ETwiceWrong)

/-- 'levenshtein.LawS930020EUndo': WHATEVER THE INPUT: true; the input reads as it did. -/
def lawS930020EUndoSpec : ChangeSpec := { name := "lawS930020EUndo", fn := fun _ => fun
  | [d] => { results := [.lit (.bool true)], args := [d] }
  | _ => none }
def lawS930020EUndoRow : OpenClaim := { program := "ymbrdn", sum := "11e28150bf5a38b109aa489fe4adfe791e584310b6a9941ddcca58c429b06993", func := "example.com/own/levenshtein.LawS930020EUndo", spec := "lawS930020EUndo", apart := false }
def LawS930020EUndoSaid : Prop := lawS930020EUndoRow.holds Ydnm.pinned (OpenSpec.ofChange lawS930020EUndoSpec)

/-- ITS FALSE NEIGHBOUR: 'it returns false'. Refute it at one input. -/
def lawS930020EUndoWrong : ChangeSpec := { name := "lawS930020EUndo", fn := fun _ => fun
  | [d] => { results := [.lit (.bool false)], args := [d] }
  | _ => none }
def LawS930020EUndoWrongFalsely : Prop := lawS930020EUndoRow.holds Ydnm.pinned (OpenSpec.ofChange lawS930020EUndoWrong)

/-- 'levenshtein.LawS930020FExact': WHATEVER THE INPUT: true; the input reads as it did. -/
def lawS930020FExactSpec : ChangeSpec := { name := "lawS930020FExact", fn := fun _ => fun
  | [d1, d2] => { results := [.lit (.bool true)], args := [d1, d2] }
  | _ => none }
def lawS930020FExactRow : OpenClaim := { program := "ymbrdn", sum := "11e28150bf5a38b109aa489fe4adfe791e584310b6a9941ddcca58c429b06993", func := "example.com/own/levenshtein.LawS930020FExact", spec := "lawS930020FExact", apart := false }
def LawS930020FExactSaid : Prop := lawS930020FExactRow.holds Ydnm.pinned (OpenSpec.ofChange lawS930020FExactSpec)

/-- ITS FALSE NEIGHBOUR: 'it returns false'. Refute it at one input. -/
def lawS930020FExactWrong : ChangeSpec := { name := "lawS930020FExact", fn := fun _ => fun
  | [d1, d2] => { results := [.lit (.bool false)], args := [d1, d2] }
  | _ => none }
def LawS930020FExactWrongFalsely : Prop := lawS930020FExactRow.holds Ydnm.pinned (OpenSpec.ofChange lawS930020FExactWrong)

/-- 'levenshtein.LawS930020FLeast': WHATEVER THE INPUT: true; the input reads as it did. -/
def lawS930020FLeastSpec : ChangeSpec := { name := "lawS930020FLeast", fn := fun _ => fun
  | [d1, d2] => { results := [.lit (.bool true)], args := [d1, d2] }
  | _ => none }
def lawS930020FLeastRow : OpenClaim := { program := "ymbrdn", sum := "11e28150bf5a38b109aa489fe4adfe791e584310b6a9941ddcca58c429b06993", func := "example.com/own/levenshtein.LawS930020FLeast", spec := "lawS930020FLeast", apart := false }
def LawS930020FLeastSaid : Prop := lawS930020FLeastRow.holds Ydnm.pinned (OpenSpec.ofChange lawS930020FLeastSpec)

/-- ITS FALSE NEIGHBOUR: 'it returns false'. Refute it at one input. -/
def lawS930020FLeastWrong : ChangeSpec := { name := "lawS930020FLeast", fn := fun _ => fun
  | [d1, d2] => { results := [.lit (.bool false)], args := [d1, d2] }
  | _ => none }
def LawS930020FLeastWrongFalsely : Prop := lawS930020FLeastRow.holds Ydnm.pinned (OpenSpec.ofChange lawS930020FLeastWrong)

/-- 'levenshtein.LawS930020FMetric': WHATEVER THE INPUT: true; the input reads as it did. -/
def lawS930020FMetricSpec : ChangeSpec := { name := "lawS930020FMetric", fn := fun _ => fun
  | [d1, d2] => { results := [.lit (.bool true)], args := [d1, d2] }
  | _ => none }
def lawS930020FMetricRow : OpenClaim := { program := "ymbrdn", sum := "11e28150bf5a38b109aa489fe4adfe791e584310b6a9941ddcca58c429b06993", func := "example.com/own/levenshtein.LawS930020FMetric", spec := "lawS930020FMetric", apart := false }
def LawS930020FMetricSaid : Prop := lawS930020FMetricRow.holds Ydnm.pinned (OpenSpec.ofChange lawS930020FMetricSpec)

/-- ITS FALSE NEIGHBOUR: 'it returns false'. Refute it at one input. -/
def lawS930020FMetricWrong : ChangeSpec := { name := "lawS930020FMetric", fn := fun _ => fun
  | [d1, d2] => { results := [.lit (.bool false)], args := [d1, d2] }
  | _ => none }
def LawS930020FMetricWrongFalsely : Prop := lawS930020FMetricRow.holds Ydnm.pinned (OpenSpec.ofChange lawS930020FMetricWrong)

/-- 'levenshtein.LawS930020GExact': WHATEVER THE INPUT: true; the input reads as it did. -/
def lawS930020GExactSpec : ChangeSpec := { name := "lawS930020GExact", fn := fun _ => fun
  | [d] => { results := [.lit (.bool true)], args := [d] }
  | _ => none }
def lawS930020GExactRow : OpenClaim := { program := "ymbrdn", sum := "11e28150bf5a38b109aa489fe4adfe791e584310b6a9941ddcca58c429b06993", func := "example.com/own/levenshtein.LawS930020GExact", spec := "lawS930020GExact", apart := false }
def LawS930020GExactSaid : Prop := lawS930020GExactRow.holds Ydnm.pinned (OpenSpec.ofChange lawS930020GExactSpec)

/-- ITS FALSE NEIGHBOUR: 'it returns false'. Refute it at one input. -/
def lawS930020GExactWrong : ChangeSpec := { name := "lawS930020GExact", fn := fun _ => fun
  | [d] => { results := [.lit (.bool false)], args := [d] }
  | _ => none }
def LawS930020GExactWrongFalsely : Prop := lawS930020GExactRow.holds Ydnm.pinned (OpenSpec.ofChange lawS930020GExactWrong)

/-- 'levenshtein.LawS930020GSplitInvert': WHATEVER THE INPUT: true; the input reads as it did. -/
def lawS930020GSplitInvertSpec : ChangeSpec := { name := "lawS930020GSplitInvert", fn := fun _ => fun
  | [d1, d2] => { results := [.lit (.bool true)], args := [d1, d2] }
  | _ => none }
def lawS930020GSplitInvertRow : OpenClaim := { program := "ymbrdn", sum := "11e28150bf5a38b109aa489fe4adfe791e584310b6a9941ddcca58c429b06993", func := "example.com/own/levenshtein.LawS930020GSplitInvert", spec := "lawS930020GSplitInvert", apart := false }
def LawS930020GSplitInvertSaid : Prop := lawS930020GSplitInvertRow.holds Ydnm.pinned (OpenSpec.ofChange lawS930020GSplitInvertSpec)

/-- ITS FALSE NEIGHBOUR: 'it returns false'. Refute it at one input. -/
def lawS930020GSplitInvertWrong : ChangeSpec := { name := "lawS930020GSplitInvert", fn := fun _ => fun
  | [d1, d2] => { results := [.lit (.bool false)], args := [d1, d2] }
  | _ => none }
def LawS930020GSplitInvertWrongFalsely : Prop := lawS930020GSplitInvertRow.holds Ydnm.pinned (OpenSpec.ofChange lawS930020GSplitInvertWrong)

/-- 'levenshtein.LawS930020GAligned': WHATEVER THE INPUT: true; the input reads as it did. -/
def lawS930020GAlignedSpec : ChangeSpec := { name := "lawS930020GAligned", fn := fun _ => fun
  | [d1, d2] => { results := [.lit (.bool true)], args := [d1, d2] }
  | _ => none }
def lawS930020GAlignedRow : OpenClaim := { program := "ymbrdn", sum := "11e28150bf5a38b109aa489fe4adfe791e584310b6a9941ddcca58c429b06993", func := "example.com/own/levenshtein.LawS930020GAligned", spec := "lawS930020GAligned", apart := false }
def LawS930020GAlignedSaid : Prop := lawS930020GAlignedRow.holds Ydnm.pinned (OpenSpec.ofChange lawS930020GAlignedSpec)

/-- ITS FALSE NEIGHBOUR: 'it returns false'. Refute it at one input. -/
def lawS930020GAlignedWrong : ChangeSpec := { name := "lawS930020GAligned", fn := fun _ => fun
  | [d1, d2] => { results := [.lit (.bool false)], args := [d1, d2] }
  | _ => none }
def LawS930020GAlignedWrongFalsely : Prop := lawS930020GAlignedRow.holds Ydnm.pinned (OpenSpec.ofChange lawS930020GAlignedWrong)

/-- 'levenshtein.LawS930020HExact': WHATEVER THE INPUT: true; the input reads as it did. -/
def lawS930020HExactSpec : ChangeSpec := { name := "lawS930020HExact", fn := fun _ => fun
  | [d1, d2, d3] => { results := [.lit (.bool true)], args := [d1, d2, d3] }
  | _ => none }
def lawS930020HExactRow : OpenClaim := { program := "ymbrdn", sum := "11e28150bf5a38b109aa489fe4adfe791e584310b6a9941ddcca58c429b06993", func := "example.com/own/levenshtein.LawS930020HExact", spec := "lawS930020HExact", apart := false }
def LawS930020HExactSaid : Prop := lawS930020HExactRow.holds Ydnm.pinned (OpenSpec.ofChange lawS930020HExactSpec)

/-- ITS FALSE NEIGHBOUR: 'it returns false'. Refute it at one input. -/
def lawS930020HExactWrong : ChangeSpec := { name := "lawS930020HExact", fn := fun _ => fun
  | [d1, d2, d3] => { results := [.lit (.bool false)], args := [d1, d2, d3] }
  | _ => none }
def LawS930020HExactWrongFalsely : Prop := lawS930020HExactRow.holds Ydnm.pinned (OpenSpec.ofChange lawS930020HExactWrong)

/-- 'levenshtein.LawS930020HMirror': WHATEVER THE INPUT: true; the input reads as it did. -/
def lawS930020HMirrorSpec : ChangeSpec := { name := "lawS930020HMirror", fn := fun _ => fun
  | [d1, d2] => { results := [.lit (.bool true)], args := [d1, d2] }
  | _ => none }
def lawS930020HMirrorRow : OpenClaim := { program := "ymbrdn", sum := "11e28150bf5a38b109aa489fe4adfe791e584310b6a9941ddcca58c429b06993", func := "example.com/own/levenshtein.LawS930020HMirror", spec := "lawS930020HMirror", apart := false }
def LawS930020HMirrorSaid : Prop := lawS930020HMirrorRow.holds Ydnm.pinned (OpenSpec.ofChange lawS930020HMirrorSpec)

/-- ITS FALSE NEIGHBOUR: 'it returns false'. Refute it at one input. -/
def lawS930020HMirrorWrong : ChangeSpec := { name := "lawS930020HMirror", fn := fun _ => fun
  | [d1, d2] => { results := [.lit (.bool false)], args := [d1, d2] }
  | _ => none }
def LawS930020HMirrorWrongFalsely : Prop := lawS930020HMirrorRow.holds Ydnm.pinned (OpenSpec.ofChange lawS930020HMirrorWrong)

/-- 'levenshtein.LawS930020HHamming': WHATEVER THE INPUT: true; the input reads as it did. -/
def lawS930020HHammingSpec : ChangeSpec := { name := "lawS930020HHamming", fn := fun _ => fun
  | [d1, d2] => { results := [.lit (.bool true)], args := [d1, d2] }
  | _ => none }
def lawS930020HHammingRow : OpenClaim := { program := "ymbrdn", sum := "11e28150bf5a38b109aa489fe4adfe791e584310b6a9941ddcca58c429b06993", func := "example.com/own/levenshtein.LawS930020HHamming", spec := "lawS930020HHamming", apart := false }
def LawS930020HHammingSaid : Prop := lawS930020HHammingRow.holds Ydnm.pinned (OpenSpec.ofChange lawS930020HHammingSpec)

/-- ITS FALSE NEIGHBOUR: 'it returns false'. Refute it at one input. -/
def lawS930020HHammingWrong : ChangeSpec := { name := "lawS930020HHamming", fn := fun _ => fun
  | [d1, d2] => { results := [.lit (.bool false)], args := [d1, d2] }
  | _ => none }
def LawS930020HHammingWrongFalsely : Prop := lawS930020HHammingRow.holds Ydnm.pinned (OpenSpec.ofChange lawS930020HHammingWrong)

end Rows
end Go.Proofs.Ymbrdn
