/-
  THE SHELL OF A PROOF OF 'Rows.LawS930020HExactSaid' ('example.com/own/levenshtein.LawS930020HExact'), WRITTEN BY PROGRAM (proof-skeleton.mjs) off the guide's own print for that function.
  ALL BUT THE WALK IS THE GUIDE's TEMPLATE at this function's number and types.
-/
import Derived.Test.YmbrdnRows
import Derived.WalkKit
import Derived.ProofKit
import Derived.OpenShut
import Derived.ShutString
import Derived.Handy
namespace Go.Proofs.Ymbrdn.lawS930020HExact
open Go.ChangeShapes Go.WideShapes Go.ChangeAt Go.RowKit
open Go.ChangeMaps (open_string shut_string)
set_option linter.unusedVariables false      -- a walk need not use every 'w<i>' (that an integer argument fits its kind)

theorem own : ownKnob Ydnm.prog.godebug = none := by kernel_rfl

/-! ### STEP 1: THE WALK: the Go text returns true. 'Grown w w'': the world has at most new blocks (Derived/RowKit3.lean). Part the cases AHEAD of 'go_enter' where a test parts the walk; take each callee by a contract of your own. -/
theorem walk (a0 : Int) (a1 : Int) (a2 : Bool) (w0 : (Lit.int .u8 a0).wf = true) (w1 : (Lit.int .u8 a1).wf = true) (w : World) :
    Calls Ydnm.prog 12 #[.int .u8 a0, .int .u8 a1, .bool a2] w fun e w' => e = .returned (.bool true) ∧ Grown w w' := by
  have b0 := bounds_u8 w0
  have b1 := bounds_u8 w1
  have hsame : (bits .xor .u8 a0 a0 == 0) = true := by
    rw [u8_xor a0 a0 b0.1 (by omega) b0.1 (by omega)]; simp
  cases a2 with
  | true =>
    go_enter Ydnm.func12, Ydnm.ntmps12
    go_wp2
    all_goals (go_ret; exact ⟨rfl, by go_grown⟩)
  | false =>
    by_cases hs : a0 = a1
    · subst hs
      go_enter Ydnm.func12, Ydnm.ntmps12
      go_wp2
      all_goals (go_ret; exact ⟨rfl, by go_grown⟩)
    · have hne : (a0 == a1) = false := by simp [hs]
      have hx : (bits .xor .u8 a0 a1 == 0) = false := by
        rw [u8_xor a0 a1 b0.1 (by omega) b1.1 (by omega)]
        simp only [beq_eq_false_iff_ne, ne_eq]
        intro h
        have h2 : a0.toNat ^^^ a1.toNat = 0 := by omega
        have h3 : a0.toNat ^^^ (a0.toNat ^^^ a1.toNat) = a0.toNat := by rw [h2]; simp
        rw [← Nat.xor_assoc, Nat.xor_self, Nat.zero_xor] at h3
        omega
      clear hsame hs
      go_enter Ydnm.func12, Ydnm.ntmps12
      go_wp2
      all_goals (go_ret; exact ⟨rfl, by go_grown⟩)

/-! ### THE ROW's STEP: WRITTEN OUT: LEAVE IT -/
set_option maxRecDepth 100000 in
theorem lifted (os : Os) (started : os.Started) (H : Type) (enc : TypeId × Value → H) :
    ReturnsInHanded {} Ydnm.checked os 12 .any (Rows.lawS930020HExactSpec.pre6 enc Ydnm.prog Ydnm.f12 Rows.lawS930020HExactRow.domain false) (Rows.lawS930020HExactSpec.post enc Ydnm.prog Ydnm.f12 false true false false) := by
  refine returnsInHanded_of_change (C := Ydnm.checked) own started (by kernel_rfl) Ydnm.func12
    (ChangeSpec.witness6 (enc := enc) (C := Ydnm.checked) false ⟨#[], #[.int .u8 0, .int .u8 0, .bool false], []⟩ 8 (by kernel_rfl) (by kernel_rfl) (by kernel_rfl) (by kernel_rfl)) ?_
  intro W base args ds gs before hval0 hW hcnd _
  have hval : ∀ (j : Nat) t v, Ydnm.f12.params[j]? = some t → args[j]? = some v → Value.okWide Ydnm.prog W .any base t v := hval0
  have hW' := hW
  obtain ⟨p, q, hA0, hV, rfl, hfz, hnd⟩ := hW
  have hA : DataW.TrodAll enc Ydnm.prog W 0 (fun _ => true) true Ydnm.f12.params.toList args.toList ds p := hA0
  rw [Ydnm.params12] at hA hval
  obtain ⟨v0, vs0, d0, ds0, p0, q0, hargs, rfl, rfl, h0, r0⟩ := trodAll_cons hA
  obtain ⟨v1, vs1, d1, ds1, p1, q1, rfl, rfl, rfl, h1, r1⟩ := trodAll_cons r0
  obtain ⟨v2, vs2, d2, ds2, p2, q2, rfl, rfl, rfl, h2, r2⟩ := trodAll_cons r1
  obtain ⟨rfl, rfl, rfl⟩ := trodAll_nil r2
  obtain rfl : args = #[v0, v1, v2] := by cases args; simp_all
  obtain ⟨rfl, rfl⟩ := trodVars_none hV
  obtain ⟨a0, rfl, rfl, rfl, w0⟩ := open_int Ydnm.underlying5 (hval 0 5 v0 rfl rfl) h0
  obtain ⟨a1, rfl, rfl, rfl, w1⟩ := open_int Ydnm.underlying5 (hval 1 5 v1 rfl rfl) h1
  obtain ⟨a2, rfl, rfl, rfl⟩ := open_bool Ydnm.underlying4 (hval 2 4 v2 rfl rfl) h2
  clear hA0 hval0
  simp only [List.append_nil] at hW'
  refine (walk a0 a1 a2 w0 w1 W).mono fun e W' ⟨he, hg⟩ => ?_
  subst he
  exact ⟨_, rfl, post_of_same (pa := []) (pv := []) hW' (fun _ _ _ => (trodAll_cons_mk (shut_bool Ydnm.underlying4 _) trodAll_mk0)) (fun sp _ => (trodAll_cons_mk (shut_int Ydnm.underlying5 w0) (trodAll_cons_mk (shut_int Ydnm.underlying5 w1) (trodAll_cons_mk (shut_bool Ydnm.underlying4 _) trodAll_mk0)))) (fun _ _ => rfl) rfl
    (hg.frame _) hg.2.1 (ok_one (by kernel_rfl) rfl (okWide_bool_mk Ydnm.underlying4 _))⟩

theorem over : Rows.lawS930020HExactRow.holds Ydnm.pinned (OpenSpec.ofChange Rows.lawS930020HExactSpec) :=
  OpenClaim.holds_of_wide 12 Ydnm.f12 rfl rfl rfl rfl rfl rfl rfl ⟨rfl, rfl, rfl, rfl, rfl⟩ rfl rfl rfl rfl rfl (by kernel_rfl) Ydnm.func12 (by kernel_rfl)
    (of_decide_eq_true (by kernel_rfl)) (by unfold Func.isWrapper; first | (rw [if_pos (by decide +kernel)]; kernel_rfl) | (rw [if_neg (by decide +kernel)]; exact ⟨rfl, rfl⟩))
    (fun os started H enc _ => lifted os started H enc)

/-- ████ THE STATEMENT ████ -/
theorem proved : Rows.LawS930020HExactSaid :=
  over
#print axioms proved
end Go.Proofs.Ymbrdn.lawS930020HExact
