/-
  A TABLE OF ROWS, EACH IN A BLOCK OF ITS OWN.
-/
import Derived.Test.YmbrdoLDist
import Derived.Test.YmbrdoBuf
namespace Go.Proofs.Ymbrdo
open Go.ChangeShapes Go.WideShapes Go.ChangeAt Go.RowKit

theorem infoRow : (Ydom.prog.info? 53).map (fun i => (i.zero, i.size, i.bytes)) = some (some (.slice none 0 0), 1, 24) := by kernel_rfl

/-- The row of the values f 0, f 1, .. -/
def valsF (f : Nat → Value) (n : Nat) : List Value := (List.range n).map f
theorem valsF_length (f : Nat → Value) (n : Nat) : (valsF f n).length = n := by simp [valsF]
theorem valsF_get (f : Nat → Value) {n j : Nat} (h : j < n) : (valsF f n)[j]? = some (f j) := by simp [valsF, h]
theorem valsF_congr {f g : Nat → Value} {n : Nat} (h : ∀ j, j < n → f j = g j) : valsF f n = valsF g n := by
  unfold valsF
  exact List.map_congr_left fun j hj => by rw [h j (List.mem_range.1 hj)]
theorem valsF_set (f : Nat → Value) (n k : Nat) (v : Value) : (valsF f n).set k v = valsF (fun j => if j = k then v else f j) n := by
  apply List.ext_getElem?
  intro j
  by_cases hj : j < n
  · rw [valsF_get _ hj]
    by_cases hk : k = j
    · subst hk
      rw [List.getElem?_set_self (by rw [valsF_length]; exact hj)]
      simp
    · rw [List.getElem?_set_ne hk, valsF_get _ hj, if_neg (fun e => hk e.symm)]
  · rw [List.getElem?_eq_none (by simp [valsF]; omega), List.getElem?_eq_none (by rw [valsF_length]; omega)]
theorem valsF_made (v : Value) (n : Nat) : (madeCells #[v] n).toList = valsF (fun _ => v) n := by
  have := toList_madeCells_one v n
  rw [this, valsF]
  apply List.ext_getElem?
  intro j
  by_cases hj : j < n <;> simp [hj]

/-- The first k places hold rows, the others nil. -/
def rowV (N : Nat) (gs : Nat → Nat) (k j : Nat) : Value := if j < k then .slice (some ⟨gs j, 0, none⟩) N N else .slice none 0 0

theorem rowV_set (N : Nat) (gs : Nat → Nat) (k g M : Nat) : (valsF (rowV N gs k) M).set k (.slice (some ⟨g, 0, none⟩) N N) = valsF (rowV N (fun j => if j = k then g else gs j) (k + 1)) M := by
  rw [valsF_set]
  apply valsF_congr
  intro j _
  unfold rowV
  by_cases h : j = k
  · rw [if_pos h, if_pos (by omega)]
    simp only [if_pos h]
  · rw [if_neg h]
    by_cases h2 : j < k
    · rw [if_pos h2, if_pos (by omega)]
      simp only [if_neg h]
    · rw [if_neg h2, if_neg (by omega)]

/-- k rows of N numbers, each in a block of its own, behind the block g. -/
def RowsOK (w : World) (base g N k : Nat) (gs : Nat → Nat) (F : Nat → Nat → Int) : Prop :=
  ∀ j, j < k → g < gs j ∧ (∀ i, i < j → gs i < gs j) ∧ w.ownsRow base 3 1 (.slice (some ⟨gs j, 0, none⟩) N N) N (intsF (F j) N)

theorem RowsOK.ne {w : World} {base g N k : Nat} {gs : Nat → Nat} {F : Nat → Nat → Int} (h : RowsOK w base g N k gs F) {i j : Nat} (hi : i < k) (hj : j < k) (hne : i ≠ j) : gs i ≠ gs j := by
  rcases Nat.lt_or_gt_of_ne hne with hl | hl
  · have := (h j hj).2.1 i hl; omega
  · have := (h i hi).2.1 j hl; omega

/-- A change in no row's block, or in none at all. -/
theorem RowsOK.kept {w w' : World} {base g N k : Nat} {gs : Nat → Nat} {F : Nat → Nat → Int} {row : Option Nat} (h : RowsOK w base g N k gs F) (hg : w.grownBy w' row) (hne : ∀ j, j < k → row ≠ some (gs j)) : RowsOK w' base g N k gs F :=
  fun j hj => ⟨(h j hj).1, (h j hj).2.1, (h j hj).2.2.kept hg (.inr (by simpa [Value.ownBlock] using Ne.symm (hne j hj)))⟩

theorem RowsOK.draw {w : World} {base g N k : Nat} {gs : Nat → Nat} {F : Nat → Nat → Int} (h : RowsOK w base g N k gs F) : RowsOK w.drew base g N k gs F :=
  fun j hj => ⟨(h j hj).1, (h j hj).2.1, (h j hj).2.2.drew⟩

/-- One row more. -/
theorem RowsOK.more {w w2 : World} {base g N k q : Nat} {gs : Nat → Nat} {F : Nat → Nat → Int} {f : Nat → Int} (h : RowsOK w base g N k gs F) (hg : w.grownBy w2 (some g)) (hgq : g < q)
    (hlt : ∀ i, i < k → gs i < q) (ho : w2.ownsRow base 3 1 (.slice (some ⟨q, 0, none⟩) N N) N (intsF f N)) (hF : F k = f) : RowsOK w2 base g N (k + 1) (fun j => if j = k then q else gs j) F := by
  intro j hj
  by_cases hjk : j = k
  · subst hjk
    refine ⟨by simp; exact hgq, fun i hi => ?_, ?_⟩
    · simp only
      rw [if_neg (by omega), if_pos trivial]
      exact hlt i hi
    · simp only [if_true]
      rw [hF]
      exact ho
  · have hj' : j < k := by omega
    obtain ⟨h1, h2, h3⟩ := h j hj'
    simp only
    rw [if_neg hjk]
    refine ⟨h1, fun i hi => ?_, h3.kept hg (.inr (by simp [Value.ownBlock]; omega))⟩
    rw [if_neg (by omega)]
    exact h2 i hi

/-- Row r is written anew. -/
theorem RowsOK.write {w w' : World} {base g N k r : Nat} {gs : Nat → Nat} {F F' : Nat → Nat → Int} {f : Nat → Int} (h : RowsOK w base g N k gs F) (hr : r < k) (hg : w.grownBy w' (some (gs r)))
    (ho : w'.ownsRow base 3 1 (.slice (some ⟨gs r, 0, none⟩) N N) N (intsF f N)) (hF : ∀ j, j < k → intsF (F' j) N = if j = r then intsF f N else intsF (F j) N) : RowsOK w' base g N k gs F' := by
  intro j hj
  obtain ⟨h1, h2, h3⟩ := h j hj
  refine ⟨h1, h2, ?_⟩
  rw [hF j hj]
  by_cases hjr : j = r
  · subst hjr
    rw [if_pos rfl]
    exact ho
  · rw [if_neg hjr]
    exact h3.kept hg (.inr (by simp only [Value.ownBlock, ne_eq, Option.some.injEq]; exact h.ne hj hr hjr))

theorem own_vals_cell {w : World} {base e g n cap : Nat} {f : Nat → Value} (h : w.ownsRow base e 1 (.slice (some ⟨g, 0, none⟩) n cap) n (valsF f n)) {k : Nat} (hk : k < n) : w.cell? ⟨g, k, none⟩ = some (f k) := by
  rw [h.cellAt k (by omega)]
  exact valsF_get f hk
end Go.Proofs.Ymbrdo
