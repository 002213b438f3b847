/-
  No cell of these rows narrows 'for every input' (looked for: loops, veiled, ifaces, maps, wideKeys, modest, calm, conditions, laid).
  DERIVED. THE GIVEN ROWS OF THIS SEAT. 12 by the template 'for every input the law returns true; each argument reads behind the call as it read before'; 0 by the template 'total and deterministic' (their statements: YmbrdoTotals.lean).
  GIVEN WITH THE SEED: the statements are not yours to turn. If you find one false, say at which input.
  Laid BY PROGRAM, IN A SANDBOX (cutbox-rows.mjs): the forced cells as the released guide's own fill.sh prints them over the translation 3e7dd66406ce9f30… (all of the seat's roots in one cut). By AI agents, Wed Nov 11 2026. No macro, syntax, notation, axiom, sorry.
-/
import Derived.Test.YmbrdoChecked
import GoSem.Claim
import GoSem.ClaimJoined
import GoSem.ClaimMapViews
import Derived.JoinedTies
import Derived.KernelRfl
namespace Go.Proofs.Ymbrdo
/- THE CELL 'sum', in the pinned program and in every row, IS THE sha256 OF THE DUMP (.gsa) THAT YmbrdoProg.lean LOADS. Nothing in Lean hashes anything: it is a label: what it is worth is what the hold of that sum in a sandbox is worth. -/
noncomputable def Ydom.pinned : Pinned := { name := "ymbrdo", sum := "3e7dd66406ce9f308afd88b6ac3ba9ab919ca5f3fe8ae2d0fb80d79cc1f04131", checked := Ydom.checked }
namespace Rows
def none {H : Type} : Left H := { results := [], args := [] }

/-- 'levenshtein.LawS930020ICanonical': WHATEVER THE INPUT: true; the input reads as it did. -/
def lawS930020ICanonicalSpec : ChangeSpec := { name := "lawS930020ICanonical", fn := fun _ => fun
  | [d1, d2, d3, d4, d5] => { results := [.lit (.bool true)], args := [d1, d2, d3, d4, d5] }
  | _ => none }
def lawS930020ICanonicalRow : OpenClaim := { program := "ymbrdo", sum := "3e7dd66406ce9f308afd88b6ac3ba9ab919ca5f3fe8ae2d0fb80d79cc1f04131", func := "example.com/own/levenshtein.LawS930020ICanonical", spec := "lawS930020ICanonical", apart := false }
def LawS930020ICanonicalSaid : Prop := lawS930020ICanonicalRow.holds Ydom.pinned (OpenSpec.ofChange lawS930020ICanonicalSpec)

/-- ITS FALSE NEIGHBOUR: 'it returns false'. Refute it at one input. -/
def lawS930020ICanonicalWrong : ChangeSpec := { name := "lawS930020ICanonical", fn := fun _ => fun
  | [d1, d2, d3, d4, d5] => { results := [.lit (.bool false)], args := [d1, d2, d3, d4, d5] }
  | _ => none }
def LawS930020ICanonicalWrongFalsely : Prop := lawS930020ICanonicalRow.holds Ydom.pinned (OpenSpec.ofChange lawS930020ICanonicalWrong)

/-- 'levenshtein.LawS930020IInvert': WHATEVER THE INPUT: true; the input reads as it did. -/
def lawS930020IInvertSpec : ChangeSpec := { name := "lawS930020IInvert", fn := fun _ => fun
  | [d1, d2, d3, d4, d5] => { results := [.lit (.bool true)], args := [d1, d2, d3, d4, d5] }
  | _ => none }
def lawS930020IInvertRow : OpenClaim := { program := "ymbrdo", sum := "3e7dd66406ce9f308afd88b6ac3ba9ab919ca5f3fe8ae2d0fb80d79cc1f04131", func := "example.com/own/levenshtein.LawS930020IInvert", spec := "lawS930020IInvert", apart := false }
def LawS930020IInvertSaid : Prop := lawS930020IInvertRow.holds Ydom.pinned (OpenSpec.ofChange lawS930020IInvertSpec)

/-- ITS FALSE NEIGHBOUR: 'it returns false'. Refute it at one input. -/
def lawS930020IInvertWrong : ChangeSpec := { name := "lawS930020IInvert", fn := fun _ => fun
  | [d1, d2, d3, d4, d5] => { results := [.lit (.bool false)], args := [d1, d2, d3, d4, d5] }
  | _ => none }
def LawS930020IInvertWrongFalsely : Prop := lawS930020IInvertRow.holds Ydom.pinned (OpenSpec.ofChange lawS930020IInvertWrong)

/-- 'levenshtein.LawS930020IPrint': WHATEVER THE INPUT: true; the input reads as it did. -/
def lawS930020IPrintSpec : ChangeSpec := { name := "lawS930020IPrint", fn := fun _ => fun
  | [d1, d2, d3, d4, d5] => { results := [.lit (.bool true)], args := [d1, d2, d3, d4, d5] }
  | _ => none }
def lawS930020IPrintRow : OpenClaim := { program := "ymbrdo", sum := "3e7dd66406ce9f308afd88b6ac3ba9ab919ca5f3fe8ae2d0fb80d79cc1f04131", func := "example.com/own/levenshtein.LawS930020IPrint", spec := "lawS930020IPrint", apart := false }
def LawS930020IPrintSaid : Prop := lawS930020IPrintRow.holds Ydom.pinned (OpenSpec.ofChange lawS930020IPrintSpec)

/-- ITS FALSE NEIGHBOUR: 'it returns false'. Refute it at one input. -/
def lawS930020IPrintWrong : ChangeSpec := { name := "lawS930020IPrint", fn := fun _ => fun
  | [d1, d2, d3, d4, d5] => { results := [.lit (.bool false)], args := [d1, d2, d3, d4, d5] }
  | _ => none }
def LawS930020IPrintWrongFalsely : Prop := lawS930020IPrintRow.holds Ydom.pinned (OpenSpec.ofChange lawS930020IPrintWrong)

/-- 'levenshtein.LawS930020JMirror': WHATEVER THE INPUT: true; the input reads as it did. -/
def lawS930020JMirrorSpec : ChangeSpec := { name := "lawS930020JMirror", fn := fun _ => fun
  | [d] => { results := [.lit (.bool true)], args := [d] }
  | _ => none }
def lawS930020JMirrorRow : OpenClaim := { program := "ymbrdo", sum := "3e7dd66406ce9f308afd88b6ac3ba9ab919ca5f3fe8ae2d0fb80d79cc1f04131", func := "example.com/own/levenshtein.LawS930020JMirror", spec := "lawS930020JMirror", apart := false }
def LawS930020JMirrorSaid : Prop := lawS930020JMirrorRow.holds Ydom.pinned (OpenSpec.ofChange lawS930020JMirrorSpec)

/-- ITS FALSE NEIGHBOUR: 'it returns false'. Refute it at one input. -/
def lawS930020JMirrorWrong : ChangeSpec := { name := "lawS930020JMirror", fn := fun _ => fun
  | [d] => { results := [.lit (.bool false)], args := [d] }
  | _ => none }
def LawS930020JMirrorWrongFalsely : Prop := lawS930020JMirrorRow.holds Ydom.pinned (OpenSpec.ofChange lawS930020JMirrorWrong)

/-- 'levenshtein.LawS930020JWindow': WHATEVER THE INPUT: true; the input reads as it did. -/
def lawS930020JWindowSpec : ChangeSpec := { name := "lawS930020JWindow", fn := fun _ => fun
  | [d1, d2, d3] => { results := [.lit (.bool true)], args := [d1, d2, d3] }
  | _ => none }
def lawS930020JWindowRow : OpenClaim := { program := "ymbrdo", sum := "3e7dd66406ce9f308afd88b6ac3ba9ab919ca5f3fe8ae2d0fb80d79cc1f04131", func := "example.com/own/levenshtein.LawS930020JWindow", spec := "lawS930020JWindow", apart := false }
def LawS930020JWindowSaid : Prop := lawS930020JWindowRow.holds Ydom.pinned (OpenSpec.ofChange lawS930020JWindowSpec)

/-- ITS FALSE NEIGHBOUR: 'it returns false'. Refute it at one input. -/
def lawS930020JWindowWrong : ChangeSpec := { name := "lawS930020JWindow", fn := fun _ => fun
  | [d1, d2, d3] => { results := [.lit (.bool false)], args := [d1, d2, d3] }
  | _ => none }
def LawS930020JWindowWrongFalsely : Prop := lawS930020JWindowRow.holds Ydom.pinned (OpenSpec.ofChange lawS930020JWindowWrong)

/-- 'levenshtein.LawS930020JConcat': WHATEVER THE INPUT: true; the input reads as it did. -/
def lawS930020JConcatSpec : ChangeSpec := { name := "lawS930020JConcat", fn := fun _ => fun
  | [d1, d2] => { results := [.lit (.bool true)], args := [d1, d2] }
  | _ => none }
def lawS930020JConcatRow : OpenClaim := { program := "ymbrdo", sum := "3e7dd66406ce9f308afd88b6ac3ba9ab919ca5f3fe8ae2d0fb80d79cc1f04131", func := "example.com/own/levenshtein.LawS930020JConcat", spec := "lawS930020JConcat", apart := false }
def LawS930020JConcatSaid : Prop := lawS930020JConcatRow.holds Ydom.pinned (OpenSpec.ofChange lawS930020JConcatSpec)

/-- ITS FALSE NEIGHBOUR: 'it returns false'. Refute it at one input. -/
def lawS930020JConcatWrong : ChangeSpec := { name := "lawS930020JConcat", fn := fun _ => fun
  | [d1, d2] => { results := [.lit (.bool false)], args := [d1, d2] }
  | _ => none }
def LawS930020JConcatWrongFalsely : Prop := lawS930020JConcatRow.holds Ydom.pinned (OpenSpec.ofChange lawS930020JConcatWrong)

/-- 'levenshtein.LawS930020KMatched': WHATEVER THE INPUT: true; the input reads as it did. -/
def lawS930020KMatchedSpec : ChangeSpec := { name := "lawS930020KMatched", fn := fun _ => fun
  | [d] => { results := [.lit (.bool true)], args := [d] }
  | _ => none }
def lawS930020KMatchedRow : OpenClaim := { program := "ymbrdo", sum := "3e7dd66406ce9f308afd88b6ac3ba9ab919ca5f3fe8ae2d0fb80d79cc1f04131", func := "example.com/own/levenshtein.LawS930020KMatched", spec := "lawS930020KMatched", apart := false }
def LawS930020KMatchedSaid : Prop := lawS930020KMatchedRow.holds Ydom.pinned (OpenSpec.ofChange lawS930020KMatchedSpec)

/-- ITS FALSE NEIGHBOUR: 'it returns false'. Refute it at one input. -/
def lawS930020KMatchedWrong : ChangeSpec := { name := "lawS930020KMatched", fn := fun _ => fun
  | [d] => { results := [.lit (.bool false)], args := [d] }
  | _ => none }
def LawS930020KMatchedWrongFalsely : Prop := lawS930020KMatchedRow.holds Ydom.pinned (OpenSpec.ofChange lawS930020KMatchedWrong)

/-- 'levenshtein.LawS930020KEffect': WHATEVER THE INPUT: true; the input reads as it did. -/
def lawS930020KEffectSpec : ChangeSpec := { name := "lawS930020KEffect", fn := fun _ => fun
  | [d1, d2, d3] => { results := [.lit (.bool true)], args := [d1, d2, d3] }
  | _ => none }
def lawS930020KEffectRow : OpenClaim := { program := "ymbrdo", sum := "3e7dd66406ce9f308afd88b6ac3ba9ab919ca5f3fe8ae2d0fb80d79cc1f04131", func := "example.com/own/levenshtein.LawS930020KEffect", spec := "lawS930020KEffect", apart := false }
def LawS930020KEffectSaid : Prop := lawS930020KEffectRow.holds Ydom.pinned (OpenSpec.ofChange lawS930020KEffectSpec)

/-- ITS FALSE NEIGHBOUR: 'it returns false'. Refute it at one input. -/
def lawS930020KEffectWrong : ChangeSpec := { name := "lawS930020KEffect", fn := fun _ => fun
  | [d1, d2, d3] => { results := [.lit (.bool false)], args := [d1, d2, d3] }
  | _ => none }
def LawS930020KEffectWrongFalsely : Prop := lawS930020KEffectRow.holds Ydom.pinned (OpenSpec.ofChange lawS930020KEffectWrong)

/-- 'levenshtein.LawS930020KUndo': WHATEVER THE INPUT: true; the input reads as it did. -/
def lawS930020KUndoSpec : ChangeSpec := { name := "lawS930020KUndo", fn := fun _ => fun
  | [d1, d2] => { results := [.lit (.bool true)], args := [d1, d2] }
  | _ => none }
def lawS930020KUndoRow : OpenClaim := { program := "ymbrdo", sum := "3e7dd66406ce9f308afd88b6ac3ba9ab919ca5f3fe8ae2d0fb80d79cc1f04131", func := "example.com/own/levenshtein.LawS930020KUndo", spec := "lawS930020KUndo", apart := false }
def LawS930020KUndoSaid : Prop := lawS930020KUndoRow.holds Ydom.pinned (OpenSpec.ofChange lawS930020KUndoSpec)

/-- ITS FALSE NEIGHBOUR: 'it returns false'. Refute it at one input. -/
def lawS930020KUndoWrong : ChangeSpec := { name := "lawS930020KUndo", fn := fun _ => fun
  | [d1, d2] => { results := [.lit (.bool false)], args := [d1, d2] }
  | _ => none }
def LawS930020KUndoWrongFalsely : Prop := lawS930020KUndoRow.holds Ydom.pinned (OpenSpec.ofChange lawS930020KUndoWrong)

/-- 'levenshtein.LawS930020LReplay': WHATEVER THE INPUT: true; the input reads as it did. -/
def lawS930020LReplaySpec : ChangeSpec := { name := "lawS930020LReplay", fn := fun _ => fun
  | [d1, d2] => { results := [.lit (.bool true)], args := [d1, d2] }
  | _ => none }
def lawS930020LReplayRow : OpenClaim := { program := "ymbrdo", sum := "3e7dd66406ce9f308afd88b6ac3ba9ab919ca5f3fe8ae2d0fb80d79cc1f04131", func := "example.com/own/levenshtein.LawS930020LReplay", spec := "lawS930020LReplay", apart := false }
def LawS930020LReplaySaid : Prop := lawS930020LReplayRow.holds Ydom.pinned (OpenSpec.ofChange lawS930020LReplaySpec)

/-- ITS FALSE NEIGHBOUR: 'it returns false'. Refute it at one input. -/
def lawS930020LReplayWrong : ChangeSpec := { name := "lawS930020LReplay", fn := fun _ => fun
  | [d1, d2] => { results := [.lit (.bool false)], args := [d1, d2] }
  | _ => none }
def LawS930020LReplayWrongFalsely : Prop := lawS930020LReplayRow.holds Ydom.pinned (OpenSpec.ofChange lawS930020LReplayWrong)

/-- 'levenshtein.LawS930020LLeast': WHATEVER THE INPUT: true; the input reads as it did. -/
def lawS930020LLeastSpec : ChangeSpec := { name := "lawS930020LLeast", fn := fun _ => fun
  | [d1, d2] => { results := [.lit (.bool true)], args := [d1, d2] }
  | _ => none }
def lawS930020LLeastRow : OpenClaim := { program := "ymbrdo", sum := "3e7dd66406ce9f308afd88b6ac3ba9ab919ca5f3fe8ae2d0fb80d79cc1f04131", func := "example.com/own/levenshtein.LawS930020LLeast", spec := "lawS930020LLeast", apart := false }
def LawS930020LLeastSaid : Prop := lawS930020LLeastRow.holds Ydom.pinned (OpenSpec.ofChange lawS930020LLeastSpec)

/-- ITS FALSE NEIGHBOUR: 'it returns false'. Refute it at one input. -/
def lawS930020LLeastWrong : ChangeSpec := { name := "lawS930020LLeast", fn := fun _ => fun
  | [d1, d2] => { results := [.lit (.bool false)], args := [d1, d2] }
  | _ => none }
def LawS930020LLeastWrongFalsely : Prop := lawS930020LLeastRow.holds Ydom.pinned (OpenSpec.ofChange lawS930020LLeastWrong)

/-- 'levenshtein.LawS930020LChoice': WHATEVER THE INPUT: true; the input reads as it did. -/
def lawS930020LChoiceSpec : ChangeSpec := { name := "lawS930020LChoice", fn := fun _ => fun
  | [d1, d2] => { results := [.lit (.bool true)], args := [d1, d2] }
  | _ => none }
def lawS930020LChoiceRow : OpenClaim := { program := "ymbrdo", sum := "3e7dd66406ce9f308afd88b6ac3ba9ab919ca5f3fe8ae2d0fb80d79cc1f04131", func := "example.com/own/levenshtein.LawS930020LChoice", spec := "lawS930020LChoice", apart := false }
def LawS930020LChoiceSaid : Prop := lawS930020LChoiceRow.holds Ydom.pinned (OpenSpec.ofChange lawS930020LChoiceSpec)

/-- ITS FALSE NEIGHBOUR: 'it returns false'. Refute it at one input. -/
def lawS930020LChoiceWrong : ChangeSpec := { name := "lawS930020LChoice", fn := fun _ => fun
  | [d1, d2] => { results := [.lit (.bool false)], args := [d1, d2] }
  | _ => none }
def LawS930020LChoiceWrongFalsely : Prop := lawS930020LChoiceRow.holds Ydom.pinned (OpenSpec.ofChange lawS930020LChoiceWrong)

end Rows
end Go.Proofs.Ymbrdo
