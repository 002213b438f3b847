/-
  THE TABLE OF EDIT DISTANCES, IN PLAIN DATA: no Go in sight.
-/
import Derived.Test.YmbrdoFill
namespace Go.Proofs.Ymbrdo

/-- Neighbours differ by at most one. -/
def Smooth (P : Nat → Int) (n : Nat) : Prop := ∀ j, j < n → P (j + 1) ≤ P j + 1 ∧ P j ≤ P (j + 1) + 1

/-- The new row beside the old one. -/
theorem next_smooth (P : Nat → Int) (c : Int) (zs : List Int) (n : Nat) (h : Smooth P n) : ∀ j, j ≤ n → nextAt P c zs j ≤ P j + 1 ∧ P j ≤ nextAt P c zs j + 1 ∧
    (j < n → P j ≤ nextAt P c zs (j + 1) ∧ nextAt P c zs (j + 1) ≤ P j + 1 ∧ (zs[j]? = some c → nextAt P c zs (j + 1) = P j) ∧
      (zs[j]? ≠ some c → nextAt P c zs (j + 1) = mn3 (P j) (P (j + 1)) (nextAt P c zs j) + 1) ∧ nextAt P c zs (j + 1) ≤ nextAt P c zs j + 1 ∧ nextAt P c zs j ≤ nextAt P c zs (j + 1) + 1) := by
  intro j
  induction j with
  | zero =>
    intro _
    refine ⟨by simp [nextAt], by simp only [nextAt]; omega, fun h0 => ?_⟩
    have h1 := h 0 h0
    simp only [nextAt, mn3]
    by_cases hz : zs[0]? = some c
    · simp only [hz, if_true]
      refine ⟨by omega, by omega, fun _ => by omega, fun hn => absurd rfl hn, by omega, by omega⟩
    · rw [if_neg hz]
      refine ⟨by omega, by omega, fun e => absurd e hz, fun _ => by omega, by omega, by omega⟩
  | succ j ih =>
    intro hj
    obtain ⟨a1, a2, a3⟩ := ih (by omega)
    obtain ⟨b1, b2, b3, b4, b5, b6⟩ := a3 (by omega)
    have h1 := h j (by omega)
    have c1 : nextAt P c zs (j + 1) ≤ P (j + 1) + 1 := by simp only [nextAt, mn3]; omega
    refine ⟨c1, by omega, fun hlt => ?_⟩
    have h2 := h (j + 1) hlt
    have e : nextAt P c zs (j + 1 + 1) = mn3 (P (j + 1) + (if zs[j + 1]? = some c then 0 else 1)) (P (j + 1 + 1) + 1) (nextAt P c zs (j + 1) + 1) := rfl
    rw [e]
    simp only [mn3]
    by_cases hz : zs[j + 1]? = some c
    · simp only [hz, if_true]
      refine ⟨by omega, by omega, fun _ => by omega, fun hn => absurd rfl hn, by omega, by omega⟩
    · rw [if_neg hz]
      refine ⟨by omega, by omega, fun e => absurd e hz, fun _ => by omega, by omega, by omega⟩

/-- Row i of the table for a and b. -/
def dp (a b : List Int) : Nat → Nat → Int
  | 0 => fun j => j
  | i + 1 => nextAt (dp a b i) (a.getD i 0) b

theorem dp_smooth (a b : List Int) (n : Nat) : ∀ i, Smooth (dp a b i) n
  | 0 => fun j _ => by simp only [dp]; omega
  | i + 1 => fun j hj => by
    obtain ⟨_, _, h⟩ := next_smooth (dp a b i) (a.getD i 0) b n (dp_smooth a b n i) j (by omega)
    obtain ⟨_, _, _, _, h5, h6⟩ := h hj
    exact ⟨h5, h6⟩

theorem dp_row (a b : List Int) (i : Nat) {c : Int} (h : a[i]? = some c) : dp a b (i + 1) = nextAt (dp a b i) c b := by
  simp only [dp, List.getD, h, Option.getD_some]

theorem dp_zero (a b : List Int) (i : Nat) : dp a b i 0 = i := by
  induction i with
  | zero => rfl
  | succ i ih => simp only [dp, nextAt]; rw [ih]; omega

theorem dp_step {a b : List Int} {i j : Nat} {c d : Int} (ha : a[i]? = some c) (hb : b[j]? = some d) :
    dp a b (i + 1) (j + 1) = if c = d then dp a b i j else mn3 (dp a b i j) (dp a b i (j + 1)) (dp a b (i + 1) j) + 1 := by
  obtain ⟨_, _, h⟩ := next_smooth (dp a b i) c b (j + 1) (dp_smooth a b (j + 1) i) j (by omega)
  obtain ⟨_, _, h3, h4, _, _⟩ := h (by omega)
  rw [dp_row a b i ha]
  by_cases hcd : c = d
  · rw [if_pos hcd]
    exact h3 (by rw [hb, hcd])
  · rw [if_neg hcd]
    exact h4 (by rw [hb]; intro e; exact hcd (Option.some.inj e).symm)

theorem dp_diag (a b : List Int) (i j : Nat) : dp a b i j ≤ dp a b (i + 1) (j + 1) ∧ dp a b (i + 1) (j + 1) ≤ dp a b i j + 1 := by
  obtain ⟨_, _, h⟩ := next_smooth (dp a b i) (a.getD i 0) b (j + 1) (dp_smooth a b (j + 1) i) j (by omega)
  obtain ⟨h1, h2, _⟩ := h (by omega)
  exact ⟨h1, h2⟩
theorem dp_down (a b : List Int) (i j : Nat) : dp a b (i + 1) j ≤ dp a b i j + 1 ∧ dp a b i j ≤ dp a b (i + 1) j + 1 := by
  obtain ⟨h1, h2, _⟩ := next_smooth (dp a b i) (a.getD i 0) b j (dp_smooth a b j i) j (Nat.le_refl _)
  exact ⟨h1, h2⟩
theorem dp_side (a b : List Int) (i j : Nat) : dp a b i (j + 1) ≤ dp a b i j + 1 ∧ dp a b i j ≤ dp a b i (j + 1) + 1 := dp_smooth a b (j + 1) i j (by omega)

theorem dp_le (a b : List Int) : ∀ i j : Nat, dp a b i j ≤ max (i : Int) j
  | 0, j => by simp only [dp]; omega
  | i + 1, 0 => by rw [dp_zero]; omega
  | i + 1, j + 1 => by
    have h1 := (dp_diag a b i j).2
    have h2 := dp_le a b i j
    omega

theorem dp_ge (a b : List Int) : ∀ i j : Nat, (i : Int) - j ≤ dp a b i j ∧ (j : Int) - i ≤ dp a b i j
  | 0, j => by simp only [dp]; omega
  | i + 1, 0 => by rw [dp_zero]; omega
  | i + 1, j + 1 => by
    have h1 := (dp_diag a b i j).1
    have h2 := dp_ge a b i j
    omega

theorem dp_nonneg (a b : List Int) (i j : Nat) : 0 ≤ dp a b i j := by
  have := dp_ge a b i j
  omega

theorem dp_symm (a b : List Int) : ∀ i j, i ≤ a.length → j ≤ b.length → dp a b i j = dp b a j i
  | 0, j, _, _ => by rw [dp_zero]; rfl
  | i + 1, 0, _, _ => by rw [dp_zero]; rfl
  | i + 1, j + 1, hi, hj => by
    obtain ⟨c, hc⟩ := op_at (os := a) (k := i) (by omega)
    obtain ⟨d, hd⟩ := op_at (os := b) (k := j) (by omega)
    have h1 := dp_symm a b i j (by omega) (by omega)
    have h2 := dp_symm a b i (j + 1) (by omega) (by omega)
    have h3 := dp_symm a b (i + 1) j (by omega) (by omega)
    rw [dp_step hc hd, dp_step hd hc, h1, h2, h3]
    by_cases hcd : c = d
    · rw [if_pos hcd, if_pos hcd.symm]
    · rw [if_neg hcd, if_neg (fun e => hcd e.symm)]
      simp only [mn3]
      omega

theorem dp_self_zero (a b : List Int) : ∀ i, i ≤ a.length → i ≤ b.length → (∀ k, k < i → a[k]? = b[k]?) → dp a b i i = 0
  | 0, _, _, _ => rfl
  | i + 1, ha, hb, h => by
    obtain ⟨c, hc⟩ := op_at (os := a) (k := i) (by omega)
    have hd : b[i]? = some c := by rw [← h i (by omega)]; exact hc
    rw [dp_step hc hd, if_pos rfl]
    exact dp_self_zero a b i (by omega) (by omega) (fun k hk => h k (by omega))

theorem dp_zero_same (a b : List Int) : ∀ i, i ≤ a.length → i ≤ b.length → dp a b i i = 0 → ∀ k, k < i → a[k]? = b[k]?
  | 0, _, _, _ => fun k hk => absurd hk (Nat.not_lt_zero _)
  | i + 1, ha, hb, h => by
    obtain ⟨c, hc⟩ := op_at (os := a) (k := i) (by omega)
    obtain ⟨d, hd⟩ := op_at (os := b) (k := i) (by omega)
    rw [dp_step hc hd] at h
    by_cases hcd : c = d
    · rw [if_pos hcd] at h
      have ih := dp_zero_same a b i (by omega) (by omega) h
      intro k hk
      by_cases hki : k = i
      · subst hki; rw [hc, hd, hcd]
      · exact ih k (by omega)
    · rw [if_neg hcd] at h
      have h1 := dp_nonneg a b i i
      have h2 := dp_nonneg a b i (i + 1)
      have h3 := dp_nonneg a b (i + 1) i
      simp only [mn3] at h
      omega

/-- The distance is zero exactly for equal lists. -/
theorem dp_eq_zero (a b : List Int) : dp a b a.length b.length = 0 ↔ a = b := by
  constructor
  · intro h
    have hl : a.length = b.length := by have := dp_ge a b a.length b.length; omega
    rw [← hl] at h
    have hk := dp_zero_same a b a.length (Nat.le_refl _) (by omega) h
    apply List.ext_getElem?
    intro k
    by_cases hka : k < a.length
    · exact hk k hka
    · rw [List.getElem?_eq_none (by omega), List.getElem?_eq_none (by omega)]
  · intro h
    subst h
    exact dp_self_zero a a a.length (Nat.le_refl _) (Nat.le_refl _) (fun _ _ => rfl)

/-- Row minima never go down. -/
theorem dp_rows (a b : List Int) (n : Nat) (L : Int) (i : Nat) (h : ∀ j, j ≤ n → L < dp a b i j) : ∀ d j, j ≤ n → L < dp a b (i + d) j
  | 0, j, hj => h j hj
  | d + 1, j, hj => by
    have ih := dp_rows a b n L i h d
    have := nextAt_ge (dp a b (i + d)) (a.getD (i + d) 0) b (L + 1) (n + 1) (fun q hq => by have := ih q (by omega); omega) j (by omega)
    rw [← Nat.add_assoc]
    show L < nextAt (dp a b (i + d)) (a.getD (i + d) 0) b j
    omega
end Go.Proofs.Ymbrdo
