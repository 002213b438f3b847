/-
  'Rows.LawS930020BSmoothSaid' out of the walk 'bsmooth_walk': the row's step, after the guide's template.
-/
import Derived.Test.YmbrdmBSmooth
namespace Go.Proofs.Ymbrdm.lawS930020BSmooth
open Go.ChangeShapes Go.WideShapes Go.ChangeAt Go.RowKit
set_option linter.unusedVariables false

set_option maxRecDepth 100000 in
theorem lifted (os : Os) (started : os.Started) (H : Type) (enc : TypeId × Value → H) :
    ReturnsInHanded {} Ydmm.checked os 8 .any (Rows.lawS930020BSmoothSpec.pre6 enc Ydmm.prog Ydmm.f8 Rows.lawS930020BSmoothRow.domain false) (Rows.lawS930020BSmoothSpec.post enc Ydmm.prog Ydmm.f8 false true false false) := by
  refine returnsInHanded_of_change (C := Ydmm.checked) own started (by kernel_rfl) Ydmm.func8
    (ChangeSpec.witness6 (enc := enc) (C := Ydmm.checked) false ⟨#[], #[.int .i32 0, .slice none 0 0, .slice none 0 0, .int .u8 0, .int .u8 0, .int .i64 0], []⟩ 8 (by kernel_rfl) (by kernel_rfl) (by kernel_rfl) (by kernel_rfl)) ?_
  intro W base args ds gs before hval0 hW hcnd _
  have hval : ∀ (j : Nat) t v, Ydmm.f8.params[j]? = some t → args[j]? = some v → Value.okWide Ydmm.prog W .any base t v := hval0
  have hW' := hW
  obtain ⟨p, q, hA0, hV, rfl, hfz, hnd⟩ := hW
  have hA : DataW.TrodAll enc Ydmm.prog W 0 (fun _ => true) true Ydmm.f8.params.toList args.toList ds p := hA0
  rw [Ydmm.params8] at hA hval
  obtain ⟨v0, vs0, d0, ds0, p0, q0, hargs, rfl, rfl, h0, r0⟩ := trodAll_cons hA
  obtain ⟨v1, vs1, d1, ds1, p1, q1, rfl, rfl, rfl, h1, r1⟩ := trodAll_cons r0
  obtain ⟨v2, vs2, d2, ds2, p2, q2, rfl, rfl, rfl, h2, r2⟩ := trodAll_cons r1
  obtain ⟨v3, vs3, d3, ds3, p3, q3, rfl, rfl, rfl, h3, r3⟩ := trodAll_cons r2
  obtain ⟨v4, vs4, d4, ds4, p4, q4, rfl, rfl, rfl, h4, r4⟩ := trodAll_cons r3
  obtain ⟨v5, vs5, d5, ds5, p5, q5, rfl, rfl, rfl, h5, r5⟩ := trodAll_cons r4
  obtain ⟨rfl, rfl, rfl⟩ := trodAll_nil r5
  obtain rfl : args = #[v0, v1, v2, v3, v4, v5] := by cases args; simp_all
  obtain ⟨rfl, rfl⟩ := trodVars_none hV
  obtain ⟨a0, rfl, rfl, rfl, w0⟩ := open_int Ydmm.underlying21 (hval 0 21 v0 rfl rfl) h0
  obtain ⟨a1, len1, cap1, rfl⟩ := okWide_slice Ydmm.underlying22 (hval 1 22 v1 rfl rfl)
  have k1 := h1
  have lt1 : ∀ x ∈ p1, x.block < W.heap.size := by obtain ⟨m, hm⟩ := k1; exact DataW.trod_lt m _ _ _ hm
  obtain ⟨z1, e1, b1, w1, nil1⟩ : ∃ zs : List Int, zs.length = len1 ∧ (∀ z ∈ zs, (Lit.int .u8 z).wf = true) ∧ Row W a1 (zs.map (Value.int .u8)) ∧ (a1 = none → len1 = 0 ∧ cap1 = 0) := by
    obtain ⟨fuel, hf⟩ := h1
    exact open_row Ydmm.underlying22 Ydmm.underlying5 (by kernel_rfl) (by simpa [Value.cells] using hf)
  subst e1
  obtain ⟨a2, len2, cap2, rfl⟩ := okWide_slice Ydmm.underlying22 (hval 2 22 v2 rfl rfl)
  have k2 := h2
  have lt2 : ∀ x ∈ p2, x.block < W.heap.size := by obtain ⟨m, hm⟩ := k2; exact DataW.trod_lt m _ _ _ hm
  obtain ⟨z2, e2, b2, w2, nil2⟩ : ∃ zs : List Int, zs.length = len2 ∧ (∀ z ∈ zs, (Lit.int .u8 z).wf = true) ∧ Row W a2 (zs.map (Value.int .u8)) ∧ (a2 = none → len2 = 0 ∧ cap2 = 0) := by
    obtain ⟨fuel, hf⟩ := h2
    exact open_row Ydmm.underlying22 Ydmm.underlying5 (by kernel_rfl) (by simpa [Value.cells] using hf)
  subst e2
  obtain ⟨a3, rfl, rfl, rfl, w3⟩ := open_int Ydmm.underlying5 (hval 3 5 v3 rfl rfl) h3
  obtain ⟨a4, rfl, rfl, rfl, w4⟩ := open_int Ydmm.underlying5 (hval 4 5 v4 rfl rfl) h4
  obtain ⟨a5, rfl, rfl, rfl, w5⟩ := open_int Ydmm.underlying3 (hval 5 3 v5 rfl rfl) h5
  clear hA0 hval0
  refine (bsmooth_walk a0 a1 cap1 z1 a2 cap2 z2 a3 a4 a5 W w0 w1 b1 nil1 w2 b2 nil2 w3 w4 w5).mono fun e W' ⟨he, bel⟩ => ?_
  subst he
  exact ⟨_, rfl, _, _, _, [], _, [], hW', trodAll_mk1 (shut_bool Ydmm.underlying4 _), (trodAll_cons_mk (shut_int Ydmm.underlying21 w0) (trodAll_cons_mk (Below.trod laidOut (by kernel_rfl) (of_decide_eq_true (by kernel_rfl)) k1 bel lt1) (trodAll_cons_mk (Below.trod laidOut (by kernel_rfl) (of_decide_eq_true (by kernel_rfl)) k2 bel lt2) (trodAll_cons_mk (shut_int Ydmm.underlying5 w3) (trodAll_cons_mk (shut_int Ydmm.underlying5 w4) (trodAll_cons_mk (shut_int Ydmm.underlying3 w5) trodAll_mk0)))))), rfl, bel.frame _, fun h => by cases h⟩

theorem over : Rows.lawS930020BSmoothRow.holds Ydmm.pinned (OpenSpec.ofChange Rows.lawS930020BSmoothSpec) :=
  OpenClaim.holds_of_wide 8 Ydmm.f8 rfl rfl rfl rfl rfl rfl rfl ⟨rfl, rfl, rfl, rfl, rfl⟩ rfl rfl rfl rfl rfl (by kernel_rfl) Ydmm.func8 (by kernel_rfl)
    (of_decide_eq_true (by kernel_rfl)) (by unfold Func.isWrapper; first | (rw [if_pos (by decide +kernel)]; kernel_rfl) | (rw [if_neg (by decide +kernel)]; exact ⟨rfl, rfl⟩))
    (fun os started H enc _ => lifted os started H enc)

/-- THE STATEMENT -/
theorem proved : Rows.LawS930020BSmoothSaid := over
#print axioms proved
end Go.Proofs.Ymbrdm.lawS930020BSmooth
