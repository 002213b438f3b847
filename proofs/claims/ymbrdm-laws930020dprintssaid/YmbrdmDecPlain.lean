/-
  WHAT Decode COMPUTES, IN PLAIN DATA.
-/
import Derived.Test.YmbrdmBuild
namespace Go.Proofs.Ymbrdm
open Go.RowKit

/-- The op that is printed by a kind byte other than the substitute's and one byte more. -/
def op2 (c x : Int) : OpT := ⟨c, if c = 43 then 0 else x, if c = 45 then 0 else x⟩

def decT : List Int → Option (List OpT)
  | [] => some []
  | [_] => none
  | [c, x] => if c = 126 then none else if validT (op2 c x) then some [op2 c x] else none
  | c :: x :: y :: r =>
    if c = 126 then (if validT ⟨126, x, y⟩ then (decT r).map (fun l => ⟨126, x, y⟩ :: l) else none)
    else if validT (op2 c x) then (decT (y :: r)).map (fun l => op2 c x :: l) else none

theorem decT_two (c x : Int) (r : List Int) (h : c ≠ 126) : decT (c :: x :: r) = if validT (op2 c x) then (decT r).map (fun l => op2 c x :: l) else none := by
  cases r with
  | nil => simp [decT, h]
  | cons y r => simp [decT, h]
theorem decT_three (x y : Int) (r : List Int) : decT (126 :: x :: y :: r) = if validT ⟨126, x, y⟩ then (decT r).map (fun l => ⟨126, x, y⟩ :: l) else none := by
  simp [decT]

/-- So far: the whole decodes to what has been gathered and what the rest decodes to. -/
def DecSo (zs : List Int) (i : Nat) (acc : List OpT) : Prop := decT zs = (decT (zs.drop i)).map (fun l => acc ++ l)

theorem decSo_zero (zs : List Int) : DecSo zs 0 [] := by simp [DecSo]
theorem decSo_end {zs : List Int} {i : Nat} {acc : List OpT} (h : DecSo zs i acc) (hi : zs.length ≤ i) : decT zs = some acc := by
  rw [h, List.drop_eq_nil_of_le hi]; simp [decT]

theorem drop_get {zs : List Int} {i : Nat} {c : Int} (h : zs[i]? = some c) : zs.drop i = c :: zs.drop (i + 1) := by
  obtain ⟨hi, rfl⟩ := List.getElem?_eq_some_iff.1 h
  exact List.drop_eq_getElem_cons hi

theorem decSo_two {zs : List Int} {i : Nat} {acc : List OpT} {c x : Int} (h : DecSo zs i acc) (h0 : zs[i]? = some c) (h1 : zs[i + 1]? = some x) (hc : c ≠ 126) :
    (validT (op2 c x) = true → DecSo zs (i + 2) (acc ++ [op2 c x])) ∧ (validT (op2 c x) = false → decT zs = none) := by
  unfold DecSo at *
  rw [drop_get h0, drop_get h1, decT_two _ _ _ hc] at h
  refine ⟨fun hv => ?_, fun hv => ?_⟩
  · rw [h, hv]
    simp [Option.map_map, Function.comp_def]
  · rw [h, hv]; simp
theorem decSo_three {zs : List Int} {i : Nat} {acc : List OpT} {x y : Int} (h : DecSo zs i acc) (h0 : zs[i]? = some 126) (h1 : zs[i + 1]? = some x) (h2 : zs[i + 2]? = some y) :
    (validT ⟨126, x, y⟩ = true → DecSo zs (i + 3) (acc ++ [⟨126, x, y⟩])) ∧ (validT ⟨126, x, y⟩ = false → decT zs = none) := by
  unfold DecSo at *
  rw [drop_get h0, drop_get h1, drop_get h2, decT_three] at h
  refine ⟨fun hv => ?_, fun hv => ?_⟩
  · rw [h, hv]
    simp [Option.map_map, Function.comp_def]
  · rw [h, hv]; simp
theorem decSo_short2 {zs : List Int} {i : Nat} {acc : List OpT} {c : Int} (h : DecSo zs i acc) (h0 : zs[i]? = some c) (hl : zs.length < i + 2) : decT zs = none := by
  unfold DecSo at h
  rw [drop_get h0, List.drop_eq_nil_of_le (by omega)] at h
  simpa [decT] using h
theorem decSo_short3 {zs : List Int} {i : Nat} {acc : List OpT} (h : DecSo zs i acc) (h0 : zs[i]? = some 126) (hl : zs.length < i + 3) : decT zs = none := by
  by_cases h2 : zs.length < i + 2
  · exact decSo_short2 h h0 h2
  · unfold DecSo at h
    obtain ⟨x, hx⟩ := op_at (os := zs) (k := i + 1) (by omega)
    rw [drop_get h0, drop_get hx, List.drop_eq_nil_of_le (by omega)] at h
    simpa [decT] using h
end Go.Proofs.Ymbrdm
