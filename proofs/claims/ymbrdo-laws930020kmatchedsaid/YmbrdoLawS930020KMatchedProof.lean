/-
  'Rows.LawS930020KMatchedSaid' out of the walk 'kmatched_walk': the row's step, after the guide's template.
-/
import Derived.Test.YmbrdoKMatched
namespace Go.Proofs.Ymbrdo.lawS930020KMatched
open Go.ChangeShapes Go.WideShapes Go.ChangeAt Go.RowKit
set_option linter.unusedVariables false

set_option maxRecDepth 100000 in
theorem lifted (os : Os) (started : os.Started) (H : Type) (enc : TypeId × Value → H) :
    ReturnsInHanded {} Ydom.checked os 9 .any (Rows.lawS930020KMatchedSpec.pre6 enc Ydom.prog Ydom.f9 Rows.lawS930020KMatchedRow.domain false) (Rows.lawS930020KMatchedSpec.post enc Ydom.prog Ydom.f9 false true false false) := by
  refine returnsInHanded_of_change (C := Ydom.checked) own started (by kernel_rfl) Ydom.func9
    (ChangeSpec.witness6 (enc := enc) (C := Ydom.checked) false ⟨#[], #[.slice none 0 0], []⟩ 8 (by kernel_rfl) (by kernel_rfl) (by kernel_rfl) (by kernel_rfl)) ?_
  intro W base args ds gs before hval0 hW hcnd _
  have hval : ∀ (j : Nat) t v, Ydom.f9.params[j]? = some t → args[j]? = some v → Value.okWide Ydom.prog W .any base t v := hval0
  have hW' := hW
  obtain ⟨p, q, hA0, hV, rfl, hfz, hnd⟩ := hW
  have hA : DataW.TrodAll enc Ydom.prog W 0 (fun _ => true) true Ydom.f9.params.toList args.toList ds p := hA0
  rw [Ydom.params9] at hA hval
  obtain ⟨v0, vs0, d0, ds0, p0, q0, hargs, rfl, rfl, h0, r0⟩ := trodAll_cons hA
  obtain ⟨rfl, rfl, rfl⟩ := trodAll_nil r0
  obtain rfl : args = #[v0] := by cases args; simp_all
  obtain ⟨rfl, rfl⟩ := trodVars_none hV
  obtain ⟨a0, len0, cap0, rfl⟩ := okWide_slice Ydom.underlying38 (hval 0 38 v0 rfl rfl)
  have k0 := h0
  have lt0 : ∀ x ∈ p0, x.block < W.heap.size := by obtain ⟨m, hm⟩ := k0; exact DataW.trod_lt m _ _ _ hm
  obtain ⟨z0, e0, b0, w0, nil0⟩ : ∃ zs : List St4, zs.length = len0 ∧ (∀ z ∈ zs, St4Ok z) ∧ Row W a0 (st4C zs) ∧ (a0 = none → len0 = 0 ∧ cap0 = 0) := by
    obtain ⟨fuel, hf⟩ := h0
    obtain ⟨cs, c1, c2, c3, c4⟩ := open_flat (s := 4) (u := 5) Ydom.underlying38 Ydom.underlying40 (by kernel_rfl) rfl (by
      intro i f h
      match i, h with
      | 0, h => simp at h; subst h; exact ⟨rfl, rfl⟩
      | 1, h => simp at h; subst h; exact ⟨rfl, rfl⟩
      | 2, h => simp at h; subst h; exact ⟨rfl, rfl⟩
      | 3, h => simp at h; subst h; exact ⟨rfl, rfl⟩
      | i + 4, h => simp at h) Ydom.underlying5 (by kernel_rfl) (by simpa [Value.cells] using hf)
    obtain ⟨zs, z1, z2, z3⟩ := st4_of_flat _ cs c1 c2
    exact ⟨zs, z1, z3, z2 ▸ c3, c4⟩
  subst e0
  clear hA0 hval0
  refine (kmatched_walk a0 cap0 z0 W w0 b0 nil0).mono fun e W' ⟨he, bel⟩ => ?_
  subst he
  exact ⟨_, rfl, _, _, _, [], _, [], hW', trodAll_mk1 (shut_bool Ydom.underlying4 _), (trodAll_cons_mk (Below.trod laidOut (by kernel_rfl) (of_decide_eq_true (by kernel_rfl)) k0 bel lt0) trodAll_mk0), rfl, bel.frame _, fun h => by cases h⟩

theorem over : Rows.lawS930020KMatchedRow.holds Ydom.pinned (OpenSpec.ofChange Rows.lawS930020KMatchedSpec) :=
  OpenClaim.holds_of_wide 9 Ydom.f9 rfl rfl rfl rfl rfl rfl rfl ⟨rfl, rfl, rfl, rfl, rfl⟩ rfl rfl rfl rfl rfl (by kernel_rfl) Ydom.func9 (by kernel_rfl)
    (of_decide_eq_true (by kernel_rfl)) (by unfold Func.isWrapper; first | (rw [if_pos (by decide +kernel)]; kernel_rfl) | (rw [if_neg (by decide +kernel)]; exact ⟨rfl, rfl⟩))
    (fun os started H enc _ => lifted os started H enc)

/-- THE STATEMENT -/
theorem proved : Rows.LawS930020KMatchedSaid := over
#print axioms proved
end Go.Proofs.Ymbrdo.lawS930020KMatched
