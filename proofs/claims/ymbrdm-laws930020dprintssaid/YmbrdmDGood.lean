/-
  THE WALK OF zzs930020dgood; a step maps onto a valid op.
-/
import Derived.Test.YmbrdmBuild
namespace Go.Proofs.Ymbrdm
open Go.ChangeShapes Go.WideShapes Go.ChangeAt Go.RowKit

/-- The step (Sel, X, Y) as an op. -/
def dgT (s : OpT) : OpT :=
  if s.kind % 4 == 0 then ⟨61, s.old, s.old⟩ else if s.kind % 4 == 1 then ⟨126, s.old, if s.new == s.old then bits .xor .u8 s.old 1 else s.new⟩
  else if s.kind % 4 == 2 then ⟨43, 0, s.new⟩ else ⟨45, s.old, 0⟩

theorem xor_one_ne (x : Int) (h : 0 ≤ x ∧ x ≤ 255) : bits .xor .u8 x 1 ≠ x := by
  rw [u8_xor x 1 h.1 (by omega) (by omega) (by omega)]
  intro e
  have e2 : x.toNat ^^^ 1 = x.toNat := by
    have : ((x.toNat ^^^ (1 : Int).toNat : Nat) : Int) = (x.toNat : Int) := by rw [e]; omega
    exact Int.ofNat.inj this
  have e3 : x.toNat ^^^ (x.toNat ^^^ 1) = 0 := by rw [e2, Nat.xor_self]
  rw [← Nat.xor_assoc, Nat.xor_self, Nat.zero_xor] at e3
  omega

theorem dg_valid (s : OpT) (h : OpOk s) : validT (dgT s) = true := by
  unfold dgT
  split
  · simp [validT]
  · split
    · by_cases he : s.new = s.old
      · have hx := xor_one_ne s.old h.2.1
        have hx' : ¬ s.old = bits .xor .u8 s.old 1 := fun e => hx e.symm
        simp [validT, he, hx']
      · have hne : ¬ s.old = s.new := fun e => he e.symm
        simp [validT, he, hne]
    · split <;> simp [validT]

set_option linter.unusedVariables false in
theorem dgood_calls (k x y : Int) (w : World) (h0 : 0 ≤ k ∧ k ≤ 255) (h1 : 0 ≤ x ∧ x ≤ 255) (h2 : 0 ≤ y ∧ y ≤ 255) :
    Calls Ydmm.prog 23 #[.agg #[.int .u8 k, .int .u8 x, .int .u8 y]] w fun e w' => e = .returned (.agg #[.int .u8 (dgT ⟨k, x, y⟩).kind, .int .u8 (dgT ⟨k, x, y⟩).old, .int .u8 (dgT ⟨k, x, y⟩).new]) ∧ Below w.heap.size w w' := by
  go_enter Ydmm.func23, Ydmm.ntmps23
  go_wp2
  all_goals go_returns
  all_goals exact ⟨by simp [dgT, *], by go_grown⟩
end Go.Proofs.Ymbrdm
