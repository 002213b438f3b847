/-
  A TABLE KEPT IN ONE ROW: row p, column q at place p * W + q.
-/
import Derived.Test.YmbrdmDp
namespace Go.Proofs.Ymbrdm

theorem place_inj {W p q p' q' : Nat} (h : p' * W + q' = p * W + q) (hq : q < W) (hq' : q' < W) : p' = p ∧ q' = q := by
  have h1 : (p' * W + q') / W = (p * W + q) / W := by rw [h]
  have hW : 0 < W := by omega
  rw [Nat.mul_comm p' W, Nat.mul_comm p W, Nat.mul_add_div hW, Nat.mul_add_div hW, Nat.div_eq_of_lt hq, Nat.div_eq_of_lt hq'] at h1
  have e : p' = p := by omega
  subst e
  exact ⟨rfl, by omega⟩

/-- Rows below p are filled, and row p up to column q. -/
def Filled (O I : List Int) (W p q : Nat) (F : Nat → Int) : Prop := ∀ p' q', q' < W → (p' < p ∨ (p' = p ∧ q' < q)) → F (p' * W + q') = dp O I p' q'

theorem filled_zero (O I : List Int) (W : Nat) (F : Nat → Int) : Filled O I W 0 0 F := fun p' q' _ h => by omega
theorem filled_step {O I : List Int} {W p q m : Nat} {F : Nat → Int} {v : Int} (h : Filled O I W p q F) (hq : q < W) (hm : m = p * W + q) (hv : v = dp O I p q) : Filled O I W p (q + 1) (fun j => if j = m then v else F j) := by
  intro p' q' hq' hc
  subst hm hv
  by_cases he : p' * W + q' = p * W + q
  · obtain ⟨rfl, rfl⟩ := place_inj he hq hq'
    simp
  · simp only [if_neg he]
    refine h p' q' hq' ?_
    rcases hc with hc | ⟨rfl, hc⟩
    · exact .inl hc
    · refine .inr ⟨rfl, ?_⟩
      rcases Nat.lt_or_ge q' q with h1 | h1
      · exact h1
      · exact absurd (by rw [show q' = q by omega]) he
theorem filled_row {O I : List Int} {W p : Nat} {F : Nat → Int} (h : Filled O I W p W F) : Filled O I W (p + 1) 0 F := by
  intro p' q' hq' hc
  refine h p' q' hq' ?_
  rcases hc with hc | ⟨_, hc⟩
  · rcases Nat.lt_or_ge p' p with h1 | h1
    · exact .inl h1
    · exact .inr ⟨by omega, hq'⟩
  · omega

theorem place_lt {W R p q : Nat} (hp : p < R) (hq : q < W) : p * W + q < W * R := by
  have h1 : p * W + W ≤ R * W := by
    rw [← Nat.succ_mul]
    exact Nat.mul_le_mul_right W hp
  rw [Nat.mul_comm W R]
  omega
end Go.Proofs.Ymbrdm
