/-
  Script IN PLAIN DATA: the way back through the table.
-/
import Derived.Test.YmbrdoKPlain
import Derived.Test.YmbrdoDp
namespace Go.Proofs.Ymbrdo


/-- The script of the prefixes, read from left to right: what is said of it, step by step from its end. -/
inductive Back (a b : List Int) : Nat → Nat → List OpT → Prop
  | nil : Back a b 0 0 []
  | keep {i j os c} : Back a b i j os → a[i]? = some c → b[j]? = some c → Back a b (i + 1) (j + 1) (os ++ [⟨61, c, c⟩])
  | sub {i j os c d} : Back a b i j os → a[i]? = some c → b[j]? = some d → c ≠ d → dp a b (i + 1) (j + 1) = dp a b i j + 1 → Back a b (i + 1) (j + 1) (os ++ [⟨126, c, d⟩])
  | del {i j os c} : Back a b i j os → a[i]? = some c → (∀ j', j = j' + 1 → b[j']? ≠ some c ∧ dp a b (i + 1) j ≠ dp a b i j' + 1) → dp a b (i + 1) j = dp a b i j + 1 → Back a b (i + 1) j (os ++ [⟨45, c, 0⟩])
  | ins {i j os d} : Back a b i j os → b[j]? = some d → (∀ i', i = i' + 1 → a[i']? ≠ some d ∧ dp a b i (j + 1) ≠ dp a b i' j + 1 ∧ dp a b i (j + 1) ≠ dp a b i' (j + 1) + 1) → dp a b i (j + 1) = dp a b i j + 1 → Back a b i (j + 1) (os ++ [⟨43, 0, d⟩])

theorem back_valid {a b : List Int} {i j : Nat} {os : List OpT} (h : Back a b i j os) : os.all validT = true := by
  induction h with
  | nil => rfl
  | keep _ _ _ ih => rw [List.all_append, ih]; simp [validT]
  | sub _ _ _ hn _ ih => rw [List.all_append, ih]; simp [validT, hn]
  | del _ _ _ _ ih => rw [List.all_append, ih]; simp [validT]
  | ins _ _ _ _ ih => rw [List.all_append, ih]; simp [validT]

theorem back_reads {a b : List Int} {i j : Nat} {os : List OpT} (h : Back a b i j os) : readsT os = a.take i := by
  induction h with
  | nil => rfl
  | keep _ hc _ ih => rw [readsT_append, ih, take_succ_get hc]; simp [readsT]
  | sub _ hc _ _ _ ih => rw [readsT_append, ih, take_succ_get hc]; simp [readsT]
  | del _ hc _ _ ih => rw [readsT_append, ih, take_succ_get hc]; simp [readsT]
  | ins _ _ _ _ ih => rw [readsT_append, ih]; simp [readsT]

theorem back_writes {a b : List Int} {i j : Nat} {os : List OpT} (h : Back a b i j os) : writesT os = b.take j := by
  induction h with
  | nil => rfl
  | keep _ _ hd ih => rw [writesT_append, ih, take_succ_get hd]; simp [writesT]
  | sub _ _ hd _ _ ih => rw [writesT_append, ih, take_succ_get hd]; simp [writesT]
  | del _ _ _ _ ih => rw [writesT_append, ih]; simp [writesT]
  | ins _ hd _ _ ih => rw [writesT_append, ih, take_succ_get hd]; simp [writesT]

theorem back_cost {a b : List Int} {i j : Nat} {os : List OpT} (h : Back a b i j os) : (costOf os : Int) = dp a b i j := by
  induction h with
  | nil => rfl
  | keep _ hc hd ih =>
    rw [costOf_append, dp_step hc hd, if_pos rfl, ← ih]
    simp [costOf]
  | sub _ _ _ _ he ih => rw [costOf_append, he, ← ih]; simp [costOf]
  | del _ _ _ he ih => rw [costOf_append, he, ← ih]; simp [costOf]
  | ins _ _ _ he ih => rw [costOf_append, he, ← ih]; simp [costOf]

theorem back_len {a b : List Int} {i j : Nat} {os : List OpT} (h : Back a b i j os) : os.length ≤ i + j := by
  induction h with
  | nil => simp
  | keep _ _ _ ih => simp; omega
  | sub _ _ _ _ _ ih => simp; omega
  | del _ _ _ _ ih => simp; omega
  | ins _ _ _ _ ih => simp; omega

/-- The way back so far: whatever leads to (i, j), followed by what has been found (last op first), leads to the end. -/
def Trail (a b : List Int) (i j : Nat) (out : List OpT) : Prop := ∀ os, Back a b i j os → Back a b a.length b.length (os ++ out.reverse)

theorem trail_start (a b : List Int) : Trail a b a.length b.length [] := fun os h => by simpa using h
theorem trail_end {a b : List Int} {out : List OpT} (h : Trail a b 0 0 out) : Back a b a.length b.length out.reverse := by simpa using h [] .nil
theorem trail_step {a b : List Int} {i j i' j' : Nat} {out : List OpT} {o : OpT} (h : Trail a b i j out) (hs : ∀ os, Back a b i' j' os → Back a b i j (os ++ [o])) : Trail a b i' j' (out ++ [o]) := by
  intro os hos
  have := h _ (hs os hos)
  simpa using this

/-- The last choice: neither of the two others, so an insert. -/
theorem last_ins {a b : List Int} {i j : Nat} {c d : Int} (hc : a[i]? = some c) (hd : b[j]? = some d) (hne : c ≠ d) (h1 : dp a b (i + 1) (j + 1) ≠ dp a b i j + 1) (h2 : dp a b (i + 1) (j + 1) ≠ dp a b i (j + 1) + 1) :
    dp a b (i + 1) (j + 1) = dp a b (i + 1) j + 1 := by
  rw [dp_step hc hd, if_neg hne] at h1 h2 ⊢
  simp only [mn3] at h1 h2 ⊢
  omega
theorem top_ins (a b : List Int) (j : Nat) : dp a b 0 (j + 1) = dp a b 0 j + 1 := by simp only [dp]; push_cast; rfl
theorem side_del (a b : List Int) (i : Nat) : dp a b (i + 1) 0 = dp a b i 0 + 1 := by rw [dp_zero, dp_zero]; push_cast; rfl

/-- The table of prefixes is a part of the table. -/
theorem dp_take (a b : List Int) (m n : Nat) : ∀ i j, i ≤ m → j ≤ n → dp (a.take m) (b.take n) i j = dp a b i j
  | 0, _, _, _ => rfl
  | i + 1, j, hi, hj => by
    have e : (a.take m).getD i 0 = a.getD i 0 := by
      simp only [List.getD, List.getElem?_take]
      rw [if_pos (by omega)]
    show nextAt (dp (a.take m) (b.take n) i) ((a.take m).getD i 0) (b.take n) j = nextAt (dp a b i) (a.getD i 0) b j
    rw [e]
    have key : ∀ j, j ≤ n → nextAt (dp (a.take m) (b.take n) i) (a.getD i 0) (b.take n) j = nextAt (dp a b i) (a.getD i 0) b j := by
      intro j
      induction j with
      | zero => intro _; simp only [nextAt]; rw [dp_take a b m n i 0 (by omega) (by omega)]
      | succ j ih =>
        intro hj
        simp only [nextAt]
        have et : (b.take n)[j]? = b[j]? := by rw [List.getElem?_take]; exact if_pos (by omega)
        rw [ih (by omega), dp_take a b m n i j (by omega) (by omega), dp_take a b m n i (j + 1) (by omega) hj, et]
    exact key j hj
end Go.Proofs.Ymbrdo
