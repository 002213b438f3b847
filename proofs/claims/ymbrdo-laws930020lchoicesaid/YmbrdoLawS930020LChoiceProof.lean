/-
  'Rows.LawS930020LChoiceSaid' out of the walk 'lchoice_walk': the row's step, after the guide's template.
-/
import Derived.Test.YmbrdoLChoice
namespace Go.Proofs.Ymbrdo.lawS930020LChoice
open Go.ChangeShapes Go.WideShapes Go.ChangeAt Go.RowKit
set_option linter.unusedVariables false

set_option maxRecDepth 100000 in
theorem lifted (os : Os) (started : os.Started) (H : Type) (enc : TypeId × Value → H) :
    ReturnsInHanded {} Ydom.checked os 14 .any (Rows.lawS930020LChoiceSpec.pre6 enc Ydom.prog Ydom.f14 Rows.lawS930020LChoiceRow.domain false) (Rows.lawS930020LChoiceSpec.post enc Ydom.prog Ydom.f14 false true false false) := by
  refine returnsInHanded_of_change (C := Ydom.checked) own started (by kernel_rfl) Ydom.func14
    (ChangeSpec.witness6 (enc := enc) (C := Ydom.checked) false ⟨#[], #[.slice none 0 0, .slice none 0 0], []⟩ 8 (by kernel_rfl) (by kernel_rfl) (by kernel_rfl) (by kernel_rfl)) ?_
  intro W base args ds gs before hval0 hW hcnd _
  have hval : ∀ (j : Nat) t v, Ydom.f14.params[j]? = some t → args[j]? = some v → Value.okWide Ydom.prog W .any base t v := hval0
  have hW' := hW
  obtain ⟨p, q, hA0, hV, rfl, hfz, hnd⟩ := hW
  have hA : DataW.TrodAll enc Ydom.prog W 0 (fun _ => true) true Ydom.f14.params.toList args.toList ds p := hA0
  rw [Ydom.params14] at hA hval
  obtain ⟨v0, vs0, d0, ds0, p0, q0, hargs, rfl, rfl, h0, r0⟩ := trodAll_cons hA
  obtain ⟨v1, vs1, d1, ds1, p1, q1, rfl, rfl, rfl, h1, r1⟩ := trodAll_cons r0
  obtain ⟨rfl, rfl, rfl⟩ := trodAll_nil r1
  obtain rfl : args = #[v0, v1] := by cases args; simp_all
  obtain ⟨rfl, rfl⟩ := trodVars_none hV
  obtain ⟨a0, len0, cap0, rfl⟩ := okWide_slice Ydom.underlying30 (hval 0 30 v0 rfl rfl)
  have k0 := h0
  have lt0 : ∀ x ∈ p0, x.block < W.heap.size := by obtain ⟨m, hm⟩ := k0; exact DataW.trod_lt m _ _ _ hm
  obtain ⟨z0, e0, b0, w0, nil0⟩ : ∃ zs : List Int, zs.length = len0 ∧ (∀ z ∈ zs, (Lit.int .u8 z).wf = true) ∧ Row W a0 (zs.map (Value.int .u8)) ∧ (a0 = none → len0 = 0 ∧ cap0 = 0) := by
    obtain ⟨fuel, hf⟩ := h0
    exact open_row Ydom.underlying30 Ydom.underlying5 (by kernel_rfl) (by simpa [Value.cells] using hf)
  have cl0 : len0 ≤ cap0 := by
    obtain ⟨fuel, hf⟩ := h0
    exact open_cap Ydom.underlying30 Ydom.underlying5 (by kernel_rfl) (by simpa [Value.cells] using hf)
  subst e0
  obtain ⟨a1, len1, cap1, rfl⟩ := okWide_slice Ydom.underlying30 (hval 1 30 v1 rfl rfl)
  have k1 := h1
  have lt1 : ∀ x ∈ p1, x.block < W.heap.size := by obtain ⟨m, hm⟩ := k1; exact DataW.trod_lt m _ _ _ hm
  obtain ⟨z1, e1, b1, w1, nil1⟩ : ∃ zs : List Int, zs.length = len1 ∧ (∀ z ∈ zs, (Lit.int .u8 z).wf = true) ∧ Row W a1 (zs.map (Value.int .u8)) ∧ (a1 = none → len1 = 0 ∧ cap1 = 0) := by
    obtain ⟨fuel, hf⟩ := h1
    exact open_row Ydom.underlying30 Ydom.underlying5 (by kernel_rfl) (by simpa [Value.cells] using hf)
  have cl1 : len1 ≤ cap1 := by
    obtain ⟨fuel, hf⟩ := h1
    exact open_cap Ydom.underlying30 Ydom.underlying5 (by kernel_rfl) (by simpa [Value.cells] using hf)
  subst e1
  clear hA0 hval0
  refine (lchoice_walk a0 cap0 z0 a1 cap1 z1 W w0 b0 nil0 cl0 w1 b1 nil1 cl1).mono fun e W' ⟨he, bel⟩ => ?_
  subst he
  exact ⟨_, rfl, _, _, _, [], _, [], hW', trodAll_mk1 (shut_bool Ydom.underlying4 _), (trodAll_cons_mk (Below.trod laidOut (by kernel_rfl) (of_decide_eq_true (by kernel_rfl)) k0 bel lt0) (trodAll_cons_mk (Below.trod laidOut (by kernel_rfl) (of_decide_eq_true (by kernel_rfl)) k1 bel lt1) trodAll_mk0)), rfl, bel.frame _, fun h => by cases h⟩

theorem over : Rows.lawS930020LChoiceRow.holds Ydom.pinned (OpenSpec.ofChange Rows.lawS930020LChoiceSpec) :=
  OpenClaim.holds_of_wide 14 Ydom.f14 rfl rfl rfl rfl rfl rfl rfl ⟨rfl, rfl, rfl, rfl, rfl⟩ rfl rfl rfl rfl rfl (by kernel_rfl) Ydom.func14 (by kernel_rfl)
    (of_decide_eq_true (by kernel_rfl)) (by unfold Func.isWrapper; first | (rw [if_pos (by decide +kernel)]; kernel_rfl) | (rw [if_neg (by decide +kernel)]; exact ⟨rfl, rfl⟩))
    (fun os started H enc _ => lifted os started H enc)

/-- THE STATEMENT -/
theorem proved : Rows.LawS930020LChoiceSaid := over
#print axioms proved
end Go.Proofs.Ymbrdo.lawS930020LChoice
