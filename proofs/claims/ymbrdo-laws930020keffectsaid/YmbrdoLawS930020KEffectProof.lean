/-
  'Rows.LawS930020KEffectSaid' out of the walk 'keffect_walk': the row's step, after the guide's template.
-/
import Derived.Test.YmbrdoKEffect
namespace Go.Proofs.Ymbrdo.lawS930020KEffect
open Go.ChangeShapes Go.WideShapes Go.ChangeAt Go.RowKit
set_option linter.unusedVariables false

set_option maxRecDepth 100000 in
theorem lifted (os : Os) (started : os.Started) (H : Type) (enc : TypeId × Value → H) :
    ReturnsInHanded {} Ydom.checked os 10 .any (Rows.lawS930020KEffectSpec.pre6 enc Ydom.prog Ydom.f10 Rows.lawS930020KEffectRow.domain false) (Rows.lawS930020KEffectSpec.post enc Ydom.prog Ydom.f10 false true false false) := by
  refine returnsInHanded_of_change (C := Ydom.checked) own started (by kernel_rfl) Ydom.func10
    (ChangeSpec.witness6 (enc := enc) (C := Ydom.checked) false ⟨#[], #[.slice none 0 0, .slice none 0 0, .int .u8 0], []⟩ 8 (by kernel_rfl) (by kernel_rfl) (by kernel_rfl) (by kernel_rfl)) ?_
  intro W base args ds gs before hval0 hW hcnd _
  have hval : ∀ (j : Nat) t v, Ydom.f10.params[j]? = some t → args[j]? = some v → Value.okWide Ydom.prog W .any base t v := hval0
  have hW' := hW
  obtain ⟨p, q, hA0, hV, rfl, hfz, hnd⟩ := hW
  have hA : DataW.TrodAll enc Ydom.prog W 0 (fun _ => true) true Ydom.f10.params.toList args.toList ds p := hA0
  rw [Ydom.params10] at hA hval
  obtain ⟨v0, vs0, d0, ds0, p0, q0, hargs, rfl, rfl, h0, r0⟩ := trodAll_cons hA
  obtain ⟨v1, vs1, d1, ds1, p1, q1, rfl, rfl, rfl, h1, r1⟩ := trodAll_cons r0
  obtain ⟨v2, vs2, d2, ds2, p2, q2, rfl, rfl, rfl, h2, r2⟩ := trodAll_cons r1
  obtain ⟨rfl, rfl, rfl⟩ := trodAll_nil r2
  obtain rfl : args = #[v0, v1, v2] := by cases args; simp_all
  obtain ⟨rfl, rfl⟩ := trodVars_none hV
  obtain ⟨a0, len0, cap0, rfl⟩ := okWide_slice Ydom.underlying28 (hval 0 28 v0 rfl rfl)
  have k0 := h0
  have lt0 : ∀ x ∈ p0, x.block < W.heap.size := by obtain ⟨m, hm⟩ := k0; exact DataW.trod_lt m _ _ _ hm
  obtain ⟨z0, e0, b0, w0, nil0⟩ : ∃ zs : List OpT, zs.length = len0 ∧ (∀ z ∈ zs, OpOk z) ∧ Row W a0 (opsC zs) ∧ (a0 = none → len0 = 0 ∧ cap0 = 0) := by
    obtain ⟨fuel, hf⟩ := h0
    obtain ⟨cs, c1, c2, c3, c4⟩ := open_flat (s := 3) (u := 5) Ydom.underlying28 Ydom.underlying23 (by kernel_rfl) rfl (by
      intro i f h
      match i, h with
      | 0, h => simp at h; subst h; exact ⟨rfl, rfl⟩
      | 1, h => simp at h; subst h; exact ⟨rfl, rfl⟩
      | 2, h => simp at h; subst h; exact ⟨rfl, rfl⟩
      | i + 3, h => simp at h) Ydom.underlying5 (by kernel_rfl) (by simpa [Value.cells] using hf)
    obtain ⟨zs, z1, z2, z3⟩ := ops_of_flat _ cs c1 c2
    exact ⟨zs, z1, z3, z2 ▸ c3, c4⟩
  subst e0
  obtain ⟨a1, len1, cap1, rfl⟩ := okWide_slice Ydom.underlying28 (hval 1 28 v1 rfl rfl)
  have k1 := h1
  have lt1 : ∀ x ∈ p1, x.block < W.heap.size := by obtain ⟨m, hm⟩ := k1; exact DataW.trod_lt m _ _ _ hm
  obtain ⟨z1, e1, b1, w1, nil1⟩ : ∃ zs : List OpT, zs.length = len1 ∧ (∀ z ∈ zs, OpOk z) ∧ Row W a1 (opsC zs) ∧ (a1 = none → len1 = 0 ∧ cap1 = 0) := by
    obtain ⟨fuel, hf⟩ := h1
    obtain ⟨cs, c1, c2, c3, c4⟩ := open_flat (s := 3) (u := 5) Ydom.underlying28 Ydom.underlying23 (by kernel_rfl) rfl (by
      intro i f h
      match i, h with
      | 0, h => simp at h; subst h; exact ⟨rfl, rfl⟩
      | 1, h => simp at h; subst h; exact ⟨rfl, rfl⟩
      | 2, h => simp at h; subst h; exact ⟨rfl, rfl⟩
      | i + 3, h => simp at h) Ydom.underlying5 (by kernel_rfl) (by simpa [Value.cells] using hf)
    obtain ⟨zs, z1, z2, z3⟩ := ops_of_flat _ cs c1 c2
    exact ⟨zs, z1, z3, z2 ▸ c3, c4⟩
  subst e1
  obtain ⟨a2, rfl, rfl, rfl, w2⟩ := open_int Ydom.underlying5 (hval 2 5 v2 rfl rfl) h2
  clear hA0 hval0
  refine (keffect_walk a0 cap0 z0 a1 cap1 z1 a2 W w0 b0 nil0 w1 b1 nil1 w2).mono fun e W' ⟨he, bel⟩ => ?_
  subst he
  exact ⟨_, rfl, _, _, _, [], _, [], hW', trodAll_mk1 (shut_bool Ydom.underlying4 _), (trodAll_cons_mk (Below.trod laidOut (by kernel_rfl) (of_decide_eq_true (by kernel_rfl)) k0 bel lt0) (trodAll_cons_mk (Below.trod laidOut (by kernel_rfl) (of_decide_eq_true (by kernel_rfl)) k1 bel lt1) (trodAll_cons_mk (shut_int Ydom.underlying5 w2) trodAll_mk0))), rfl, bel.frame _, fun h => by cases h⟩

theorem over : Rows.lawS930020KEffectRow.holds Ydom.pinned (OpenSpec.ofChange Rows.lawS930020KEffectSpec) :=
  OpenClaim.holds_of_wide 10 Ydom.f10 rfl rfl rfl rfl rfl rfl rfl ⟨rfl, rfl, rfl, rfl, rfl⟩ rfl rfl rfl rfl rfl (by kernel_rfl) Ydom.func10 (by kernel_rfl)
    (of_decide_eq_true (by kernel_rfl)) (by unfold Func.isWrapper; first | (rw [if_pos (by decide +kernel)]; kernel_rfl) | (rw [if_neg (by decide +kernel)]; exact ⟨rfl, rfl⟩))
    (fun os started H enc _ => lifted os started H enc)

/-- THE STATEMENT -/
theorem proved : Rows.LawS930020KEffectSaid := over
#print axioms proved
end Go.Proofs.Ymbrdo.lawS930020KEffect
