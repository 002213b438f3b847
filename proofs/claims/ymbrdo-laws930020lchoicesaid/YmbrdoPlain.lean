/-
  PLAIN FUNCTIONS ON OPS: what the Go functions compute. No Go is walked here.
-/
import Derived.Test.YmbrdoOpen
namespace Go.Proofs.Ymbrdo

/-- Valid. -/
def validT (o : OpT) : Bool :=
  if o.kind = 61 then o.old == o.new else if o.kind = 126 then o.old != o.new else if o.kind = 43 then o.old == 0 else if o.kind = 45 then o.new == 0 else false

/-- pair. -/
def pairT (x y : Int) : OpT := ⟨if x = y then 61 else 126, x, y⟩

/-- Invert, one op. -/
def invT (o : OpT) : OpT := ⟨if o.kind = 43 then 45 else if o.kind = 45 then 43 else o.kind, o.new, o.old⟩

/-- Cost. -/
def costOf : List OpT → Nat
  | [] => 0
  | o :: os => (if o.kind = 61 then 0 else 1) + costOf os

theorem costOf_append (a b : List OpT) : costOf (a ++ b) = costOf a + costOf b := by
  induction a with
  | nil => simp [costOf]
  | cons o a ih => simp only [List.cons_append, costOf, ih]; omega

theorem costOf_le (a : List OpT) : costOf a ≤ a.length := by
  induction a with
  | nil => simp [costOf]
  | cons o a ih => simp only [costOf, List.length_cons]; split <;> omega

theorem costOf_take_le (a : List OpT) (k : Nat) : costOf (a.take k) ≤ k := Nat.le_trans (costOf_le _) (List.length_take_le _ _)

theorem costOf_take_succ {os : List OpT} {k : Nat} {o : OpT} (h : os[k]? = some o) : costOf (os.take (k + 1)) = costOf (os.take k) + (if o.kind = 61 then 0 else 1) := by
  rw [take_succ_get h, costOf_append]; rfl

/-- The bytes that a script reads, and those that it writes. -/
def readsT : List OpT → List Int
  | [] => []
  | o :: os => if o.kind = 43 then readsT os else o.old :: readsT os
def writesT : List OpT → List Int
  | [] => []
  | o :: os => if o.kind = 45 then writesT os else o.new :: writesT os

theorem readsT_append (a b : List OpT) : readsT (a ++ b) = readsT a ++ readsT b := by
  induction a with
  | nil => rfl
  | cons o a ih => simp only [List.cons_append, readsT, ih]; split <;> rfl
theorem writesT_append (a b : List OpT) : writesT (a ++ b) = writesT a ++ writesT b := by
  induction a with
  | nil => rfl
  | cons o a ih => simp only [List.cons_append, writesT, ih]; split <;> rfl
theorem readsT_le (a : List OpT) : (readsT a).length ≤ a.length := by
  induction a with
  | nil => simp [readsT]
  | cons o a ih => simp only [readsT]; split <;> simp only [List.length_cons] <;> omega
theorem writesT_le (a : List OpT) : (writesT a).length ≤ a.length := by
  induction a with
  | nil => simp [writesT]
  | cons o a ih => simp only [writesT]; split <;> simp only [List.length_cons] <;> omega
theorem readsT_take_le (a : List OpT) (k : Nat) : (readsT (a.take k)).length ≤ k := Nat.le_trans (readsT_le _) (List.length_take_le _ _)
theorem writesT_take_le (a : List OpT) (k : Nat) : (writesT (a.take k)).length ≤ k := Nat.le_trans (writesT_le _) (List.length_take_le _ _)
theorem readsT_take_succ {os : List OpT} {k : Nat} {o : OpT} (h : os[k]? = some o) : readsT (os.take (k + 1)) = readsT (os.take k) ++ (if o.kind = 43 then [] else [o.old]) := by
  rw [take_succ_get h, readsT_append]; simp only [readsT]
theorem writesT_take_succ {os : List OpT} {k : Nat} {o : OpT} (h : os[k]? = some o) : writesT (os.take (k + 1)) = writesT (os.take k) ++ (if o.kind = 45 then [] else [o.new]) := by
  rw [take_succ_get h, writesT_append]; simp only [writesT]

theorem readsT_inv (os : List OpT) : readsT (os.map invT) = writesT os := by
  induction os with
  | nil => rfl
  | cons o os ih =>
    simp only [List.map_cons, readsT, writesT, ih, invT]
    by_cases h1 : o.kind = 43
    · simp [h1]
    · by_cases h2 : o.kind = 45
      · simp [h2]
      · simp [h1, h2]
theorem writesT_inv (os : List OpT) : writesT (os.map invT) = readsT os := by
  induction os with
  | nil => rfl
  | cons o os ih =>
    simp only [List.map_cons, readsT, writesT, ih, invT]
    by_cases h1 : o.kind = 43
    · simp [h1]
    · by_cases h2 : o.kind = 45
      · simp [h2]
      · simp [h1, h2]
theorem valid_inv (o : OpT) : validT (invT o) = validT o := by
  simp only [validT, invT]
  by_cases h1 : o.kind = 43
  · simp [h1]
  · by_cases h2 : o.kind = 45
    · simp [h2]
    · by_cases h3 : o.kind = 61
      · simp [h3, eq_comm, BEq.comm]
      · by_cases h4 : o.kind = 126
        · simp [h4, bne, BEq.comm]
        · simp [h1, h2, h3, h4]
theorem inv_inv (o : OpT) : invT (invT o) = o := by
  obtain ⟨k, x, y⟩ := o
  simp only [invT, OpT.mk.injEq, and_self, and_true]
  by_cases h1 : k = 43
  · simp [h1]
  · by_cases h2 : k = 45
    · simp [h2]
    · simp [h1, h2]
theorem cost_inv (os : List OpT) : costOf (os.map invT) = costOf os := by
  induction os with
  | nil => rfl
  | cons o os ih =>
    simp only [List.map_cons, costOf, ih, invT]
    by_cases h1 : o.kind = 43
    · simp [h1]
    · by_cases h2 : o.kind = 45
      · simp [h2]
      · simp [h1, h2]
end Go.Proofs.Ymbrdo
