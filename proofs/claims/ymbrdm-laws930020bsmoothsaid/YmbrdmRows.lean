/-
  No cell of these rows narrows 'for every input' (looked for: loops, veiled, ifaces, maps, wideKeys, modest, calm, conditions, laid).
  DERIVED. THE GIVEN ROWS OF THIS SEAT. 12 by the template 'for every input the law returns true; each argument reads behind the call as it read before'; 0 by the template 'total and deterministic' (their statements: YmbrdmTotals.lean).
  GIVEN WITH THE SEED: the statements are not yours to turn. If you find one false, say at which input.
  Laid BY PROGRAM, IN A SANDBOX (cutbox-rows.mjs): the forced cells as the released guide's own fill.sh prints them over the translation bf9a85f28a07f6fa… (all of the seat's roots in one cut). By AI agents, Wed Nov 11 2026. No macro, syntax, notation, axiom, sorry.
-/
import Derived.Test.YmbrdmChecked
import GoSem.Claim
import GoSem.ClaimJoined
import GoSem.ClaimMapViews
import Derived.JoinedTies
import Derived.KernelRfl
namespace Go.Proofs.Ymbrdm
/- THE CELL 'sum', in the pinned program and in every row, IS THE sha256 OF THE DUMP (.gsa) THAT YmbrdmProg.lean LOADS. Nothing in Lean hashes anything: it is a label: what it is worth is what the hold of that sum in a sandbox is worth. -/
noncomputable def Ydmm.pinned : Pinned := { name := "ymbrdm", sum := "bf9a85f28a07f6fa8c601fb715cae34b835fef81a6c30a7789305a67dc34ed96", checked := Ydmm.checked }
namespace Rows
def none {H : Type} : Left H := { results := [], args := [] }

/-- 'levenshtein.LawS930020AExact': WHATEVER THE INPUT: true; the input reads as it did. -/
def lawS930020AExactSpec : ChangeSpec := { name := "lawS930020AExact", fn := fun _ => fun
  | [d1, d2, d3] => { results := [.lit (.bool true)], args := [d1, d2, d3] }
  | _ => none }
def lawS930020AExactRow : OpenClaim := { program := "ymbrdm", sum := "bf9a85f28a07f6fa8c601fb715cae34b835fef81a6c30a7789305a67dc34ed96", func := "example.com/own/levenshtein.LawS930020AExact", spec := "lawS930020AExact", apart := false }
def LawS930020AExactSaid : Prop := lawS930020AExactRow.holds Ydmm.pinned (OpenSpec.ofChange lawS930020AExactSpec)

/-- ITS FALSE NEIGHBOUR: 'it returns false'. Refute it at one input. -/
def lawS930020AExactWrong : ChangeSpec := { name := "lawS930020AExact", fn := fun _ => fun
  | [d1, d2, d3] => { results := [.lit (.bool false)], args := [d1, d2, d3] }
  | _ => none }
def LawS930020AExactWrongFalsely : Prop := lawS930020AExactRow.holds Ydmm.pinned (OpenSpec.ofChange lawS930020AExactWrong)

/-- 'levenshtein.LawS930020ABounds': WHATEVER THE INPUT: true; the input reads as it did. -/
def lawS930020ABoundsSpec : ChangeSpec := { name := "lawS930020ABounds", fn := fun _ => fun
  | [d1, d2] => { results := [.lit (.bool true)], args := [d1, d2] }
  | _ => none }
def lawS930020ABoundsRow : OpenClaim := { program := "ymbrdm", sum := "bf9a85f28a07f6fa8c601fb715cae34b835fef81a6c30a7789305a67dc34ed96", func := "example.com/own/levenshtein.LawS930020ABounds", spec := "lawS930020ABounds", apart := false }
def LawS930020ABoundsSaid : Prop := lawS930020ABoundsRow.holds Ydmm.pinned (OpenSpec.ofChange lawS930020ABoundsSpec)

/-- ITS FALSE NEIGHBOUR: 'it returns false'. Refute it at one input. -/
def lawS930020ABoundsWrong : ChangeSpec := { name := "lawS930020ABounds", fn := fun _ => fun
  | [d1, d2] => { results := [.lit (.bool false)], args := [d1, d2] }
  | _ => none }
def LawS930020ABoundsWrongFalsely : Prop := lawS930020ABoundsRow.holds Ydmm.pinned (OpenSpec.ofChange lawS930020ABoundsWrong)

/-- 'levenshtein.LawS930020ASymmetric': WHATEVER THE INPUT: true; the input reads as it did. -/
def lawS930020ASymmetricSpec : ChangeSpec := { name := "lawS930020ASymmetric", fn := fun _ => fun
  | [d1, d2, d3] => { results := [.lit (.bool true)], args := [d1, d2, d3] }
  | _ => none }
def lawS930020ASymmetricRow : OpenClaim := { program := "ymbrdm", sum := "bf9a85f28a07f6fa8c601fb715cae34b835fef81a6c30a7789305a67dc34ed96", func := "example.com/own/levenshtein.LawS930020ASymmetric", spec := "lawS930020ASymmetric", apart := false }
def LawS930020ASymmetricSaid : Prop := lawS930020ASymmetricRow.holds Ydmm.pinned (OpenSpec.ofChange lawS930020ASymmetricSpec)

/-- ITS FALSE NEIGHBOUR: 'it returns false'. Refute it at one input. -/
def lawS930020ASymmetricWrong : ChangeSpec := { name := "lawS930020ASymmetric", fn := fun _ => fun
  | [d1, d2, d3] => { results := [.lit (.bool false)], args := [d1, d2, d3] }
  | _ => none }
def LawS930020ASymmetricWrongFalsely : Prop := lawS930020ASymmetricRow.holds Ydmm.pinned (OpenSpec.ofChange lawS930020ASymmetricWrong)

/-- 'levenshtein.LawS930020BBest': WHATEVER THE INPUT: true; the input reads as it did. -/
def lawS930020BBestSpec : ChangeSpec := { name := "lawS930020BBest", fn := fun _ => fun
  | [d1, d2, d3, d4, d5] => { results := [.lit (.bool true)], args := [d1, d2, d3, d4, d5] }
  | _ => none }
def lawS930020BBestRow : OpenClaim := { program := "ymbrdm", sum := "bf9a85f28a07f6fa8c601fb715cae34b835fef81a6c30a7789305a67dc34ed96", func := "example.com/own/levenshtein.LawS930020BBest", spec := "lawS930020BBest", apart := false }
def LawS930020BBestSaid : Prop := lawS930020BBestRow.holds Ydmm.pinned (OpenSpec.ofChange lawS930020BBestSpec)

/-- ITS FALSE NEIGHBOUR: 'it returns false'. Refute it at one input. -/
def lawS930020BBestWrong : ChangeSpec := { name := "lawS930020BBest", fn := fun _ => fun
  | [d1, d2, d3, d4, d5] => { results := [.lit (.bool false)], args := [d1, d2, d3, d4, d5] }
  | _ => none }
def LawS930020BBestWrongFalsely : Prop := lawS930020BBestRow.holds Ydmm.pinned (OpenSpec.ofChange lawS930020BBestWrong)

/-- 'levenshtein.LawS930020BSingle': WHATEVER THE INPUT: true; the input reads as it did. -/
def lawS930020BSingleSpec : ChangeSpec := { name := "lawS930020BSingle", fn := fun _ => fun
  | [d1, d2, d3, d4] => { results := [.lit (.bool true)], args := [d1, d2, d3, d4] }
  | _ => none }
def lawS930020BSingleRow : OpenClaim := { program := "ymbrdm", sum := "bf9a85f28a07f6fa8c601fb715cae34b835fef81a6c30a7789305a67dc34ed96", func := "example.com/own/levenshtein.LawS930020BSingle", spec := "lawS930020BSingle", apart := false }
def LawS930020BSingleSaid : Prop := lawS930020BSingleRow.holds Ydmm.pinned (OpenSpec.ofChange lawS930020BSingleSpec)

/-- ITS FALSE NEIGHBOUR: 'it returns false'. Refute it at one input. -/
def lawS930020BSingleWrong : ChangeSpec := { name := "lawS930020BSingle", fn := fun _ => fun
  | [d1, d2, d3, d4] => { results := [.lit (.bool false)], args := [d1, d2, d3, d4] }
  | _ => none }
def LawS930020BSingleWrongFalsely : Prop := lawS930020BSingleRow.holds Ydmm.pinned (OpenSpec.ofChange lawS930020BSingleWrong)

/-- 'levenshtein.LawS930020BSmooth': WHATEVER THE INPUT: true; the input reads as it did. -/
def lawS930020BSmoothSpec : ChangeSpec := { name := "lawS930020BSmooth", fn := fun _ => fun
  | [d1, d2, d3, d4, d5, d6] => { results := [.lit (.bool true)], args := [d1, d2, d3, d4, d5, d6] }
  | _ => none }
def lawS930020BSmoothRow : OpenClaim := { program := "ymbrdm", sum := "bf9a85f28a07f6fa8c601fb715cae34b835fef81a6c30a7789305a67dc34ed96", func := "example.com/own/levenshtein.LawS930020BSmooth", spec := "lawS930020BSmooth", apart := false }
def LawS930020BSmoothSaid : Prop := lawS930020BSmoothRow.holds Ydmm.pinned (OpenSpec.ofChange lawS930020BSmoothSpec)

/-- ITS FALSE NEIGHBOUR: 'it returns false'. Refute it at one input. -/
def lawS930020BSmoothWrong : ChangeSpec := { name := "lawS930020BSmooth", fn := fun _ => fun
  | [d1, d2, d3, d4, d5, d6] => { results := [.lit (.bool false)], args := [d1, d2, d3, d4, d5, d6] }
  | _ => none }
def LawS930020BSmoothWrongFalsely : Prop := lawS930020BSmoothRow.holds Ydmm.pinned (OpenSpec.ofChange lawS930020BSmoothWrong)

/-- 'levenshtein.LawS930020CLeast': WHATEVER THE INPUT: true; the input reads as it did. -/
def lawS930020CLeastSpec : ChangeSpec := { name := "lawS930020CLeast", fn := fun _ => fun
  | [d1, d2, d3] => { results := [.lit (.bool true)], args := [d1, d2, d3] }
  | _ => none }
def lawS930020CLeastRow : OpenClaim := { program := "ymbrdm", sum := "bf9a85f28a07f6fa8c601fb715cae34b835fef81a6c30a7789305a67dc34ed96", func := "example.com/own/levenshtein.LawS930020CLeast", spec := "lawS930020CLeast", apart := false }
def LawS930020CLeastSaid : Prop := lawS930020CLeastRow.holds Ydmm.pinned (OpenSpec.ofChange lawS930020CLeastSpec)

/-- ITS FALSE NEIGHBOUR: 'it returns false'. Refute it at one input. -/
def lawS930020CLeastWrong : ChangeSpec := { name := "lawS930020CLeast", fn := fun _ => fun
  | [d1, d2, d3] => { results := [.lit (.bool false)], args := [d1, d2, d3] }
  | _ => none }
def LawS930020CLeastWrongFalsely : Prop := lawS930020CLeastRow.holds Ydmm.pinned (OpenSpec.ofChange lawS930020CLeastWrong)

/-- 'levenshtein.LawS930020CGreatestBound': WHATEVER THE INPUT: true; the input reads as it did. -/
def lawS930020CGreatestBoundSpec : ChangeSpec := { name := "lawS930020CGreatestBound", fn := fun _ => fun
  | [d1, d2, d3, d4] => { results := [.lit (.bool true)], args := [d1, d2, d3, d4] }
  | _ => none }
def lawS930020CGreatestBoundRow : OpenClaim := { program := "ymbrdm", sum := "bf9a85f28a07f6fa8c601fb715cae34b835fef81a6c30a7789305a67dc34ed96", func := "example.com/own/levenshtein.LawS930020CGreatestBound", spec := "lawS930020CGreatestBound", apart := false }
def LawS930020CGreatestBoundSaid : Prop := lawS930020CGreatestBoundRow.holds Ydmm.pinned (OpenSpec.ofChange lawS930020CGreatestBoundSpec)

/-- ITS FALSE NEIGHBOUR: 'it returns false'. Refute it at one input. -/
def lawS930020CGreatestBoundWrong : ChangeSpec := { name := "lawS930020CGreatestBound", fn := fun _ => fun
  | [d1, d2, d3, d4] => { results := [.lit (.bool false)], args := [d1, d2, d3, d4] }
  | _ => none }
def LawS930020CGreatestBoundWrongFalsely : Prop := lawS930020CGreatestBoundRow.holds Ydmm.pinned (OpenSpec.ofChange lawS930020CGreatestBoundWrong)

/-- 'levenshtein.LawS930020COrder': WHATEVER THE INPUT: true; the input reads as it did. -/
def lawS930020COrderSpec : ChangeSpec := { name := "lawS930020COrder", fn := fun _ => fun
  | [d1, d2, d3] => { results := [.lit (.bool true)], args := [d1, d2, d3] }
  | _ => none }
def lawS930020COrderRow : OpenClaim := { program := "ymbrdm", sum := "bf9a85f28a07f6fa8c601fb715cae34b835fef81a6c30a7789305a67dc34ed96", func := "example.com/own/levenshtein.LawS930020COrder", spec := "lawS930020COrder", apart := false }
def LawS930020COrderSaid : Prop := lawS930020COrderRow.holds Ydmm.pinned (OpenSpec.ofChange lawS930020COrderSpec)

/-- ITS FALSE NEIGHBOUR: 'it returns false'. Refute it at one input. -/
def lawS930020COrderWrong : ChangeSpec := { name := "lawS930020COrder", fn := fun _ => fun
  | [d1, d2, d3] => { results := [.lit (.bool false)], args := [d1, d2, d3] }
  | _ => none }
def LawS930020COrderWrongFalsely : Prop := lawS930020COrderRow.holds Ydmm.pinned (OpenSpec.ofChange lawS930020COrderWrong)

/-- 'levenshtein.LawS930020DPrints': WHATEVER THE INPUT: true; the input reads as it did. -/
def lawS930020DPrintsSpec : ChangeSpec := { name := "lawS930020DPrints", fn := fun _ => fun
  | [d] => { results := [.lit (.bool true)], args := [d] }
  | _ => none }
def lawS930020DPrintsRow : OpenClaim := { program := "ymbrdm", sum := "bf9a85f28a07f6fa8c601fb715cae34b835fef81a6c30a7789305a67dc34ed96", func := "example.com/own/levenshtein.LawS930020DPrints", spec := "lawS930020DPrints", apart := false }
def LawS930020DPrintsSaid : Prop := lawS930020DPrintsRow.holds Ydmm.pinned (OpenSpec.ofChange lawS930020DPrintsSpec)

/-- ITS FALSE NEIGHBOUR: 'it returns false'. Refute it at one input. -/
def lawS930020DPrintsWrong : ChangeSpec := { name := "lawS930020DPrints", fn := fun _ => fun
  | [d] => { results := [.lit (.bool false)], args := [d] }
  | _ => none }
def LawS930020DPrintsWrongFalsely : Prop := lawS930020DPrintsRow.holds Ydmm.pinned (OpenSpec.ofChange lawS930020DPrintsWrong)

/-- 'levenshtein.LawS930020DRefuses': WHATEVER THE INPUT: true; the input reads as it did. -/
def lawS930020DRefusesSpec : ChangeSpec := { name := "lawS930020DRefuses", fn := fun _ => fun
  | [d1, d2, d3, d4, d5, d6] => { results := [.lit (.bool true)], args := [d1, d2, d3, d4, d5, d6] }
  | _ => none }
def lawS930020DRefusesRow : OpenClaim := { program := "ymbrdm", sum := "bf9a85f28a07f6fa8c601fb715cae34b835fef81a6c30a7789305a67dc34ed96", func := "example.com/own/levenshtein.LawS930020DRefuses", spec := "lawS930020DRefuses", apart := false }
def LawS930020DRefusesSaid : Prop := lawS930020DRefusesRow.holds Ydmm.pinned (OpenSpec.ofChange lawS930020DRefusesSpec)

/-- ITS FALSE NEIGHBOUR: 'it returns false'. Refute it at one input. -/
def lawS930020DRefusesWrong : ChangeSpec := { name := "lawS930020DRefuses", fn := fun _ => fun
  | [d1, d2, d3, d4, d5, d6] => { results := [.lit (.bool false)], args := [d1, d2, d3, d4, d5, d6] }
  | _ => none }
def LawS930020DRefusesWrongFalsely : Prop := lawS930020DRefusesRow.holds Ydmm.pinned (OpenSpec.ofChange lawS930020DRefusesWrong)

/-- 'levenshtein.LawS930020DRoundTrip': WHATEVER THE INPUT: true; the input reads as it did. -/
def lawS930020DRoundTripSpec : ChangeSpec := { name := "lawS930020DRoundTrip", fn := fun _ => fun
  | [d] => { results := [.lit (.bool true)], args := [d] }
  | _ => none }
def lawS930020DRoundTripRow : OpenClaim := { program := "ymbrdm", sum := "bf9a85f28a07f6fa8c601fb715cae34b835fef81a6c30a7789305a67dc34ed96", func := "example.com/own/levenshtein.LawS930020DRoundTrip", spec := "lawS930020DRoundTrip", apart := false }
def LawS930020DRoundTripSaid : Prop := lawS930020DRoundTripRow.holds Ydmm.pinned (OpenSpec.ofChange lawS930020DRoundTripSpec)

/-- ITS FALSE NEIGHBOUR: 'it returns false'. Refute it at one input. -/
def lawS930020DRoundTripWrong : ChangeSpec := { name := "lawS930020DRoundTrip", fn := fun _ => fun
  | [d] => { results := [.lit (.bool false)], args := [d] }
  | _ => none }
def LawS930020DRoundTripWrongFalsely : Prop := lawS930020DRoundTripRow.holds Ydmm.pinned (OpenSpec.ofChange lawS930020DRoundTripWrong)

end Rows
end Go.Proofs.Ymbrdm
