/-
  Decode READS BACK WHAT Encode PRINTS, IN PLAIN DATA.
-/
import Derived.Test.YmbrdmDecPlain
import Derived.Test.YmbrdmEncode
namespace Go.Proofs.Ymbrdm

theorem dec_enc1 (o : OpT) (r : List Int) (h : validT o = true) : decT (enc1 o ++ r) = (decT r).map (fun l => o :: l) := by
  obtain ⟨k, x, y⟩ := o
  by_cases h43 : k = 43
  · subst h43
    have hx : x = 0 := by simpa [validT] using h
    subst hx
    show decT (43 :: y :: r) = _
    rw [decT_two _ _ _ (by decide)]
    simp [op2, validT]
  · by_cases h126 : k = 126
    · subst h126
      show decT (126 :: x :: y :: r) = _
      rw [decT_three, h]
      simp
    · have e1 : enc1 ⟨k, x, y⟩ = [k, x] := by simp [enc1, h43, h126]
      rw [e1]
      show decT (k :: x :: r) = _
      rw [decT_two _ _ _ h126]
      have e2 : op2 k x = ⟨k, x, y⟩ := by
        by_cases h45 : k = 45
        · subst h45
          have hy : y = 0 := by simpa [validT] using h
          subst hy
          simp [op2]
        · by_cases h61 : k = 61
          · subst h61
            have hy : x = y := by simpa [validT] using h
            subst hy
            simp [op2]
          · simp [validT, h43, h126, h45, h61] at h
      rw [e2, h]
      simp

theorem dec_enc (os : List OpT) (h : ∀ o ∈ os, validT o = true) : decT (encT os) = some os := by
  induction os with
  | nil => rfl
  | cons o os ih =>
    simp only [encT]
    rw [dec_enc1 o _ (h o (by simp)), ih (fun p hp => h p (by simp [hp]))]
    rfl
end Go.Proofs.Ymbrdm
