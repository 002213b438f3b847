/-
  Compose IN PLAIN DATA.
-/
import Derived.Test.YmbrdoPlain
namespace Go.Proofs.Ymbrdo

/-- What two met ops come to. -/
def midT (p q : OpT) : List OpT :=
  if p.kind ≠ 43 ∧ q.kind ≠ 45 then [pairT p.old q.new] else if p.kind ≠ 43 then [⟨45, p.old, 0⟩] else if q.kind ≠ 45 then [⟨43, 0, q.new⟩] else []

def compT : List OpT → List OpT → Option (List OpT)
  | [], [] => some []
  | p :: s, [] => if validT p = false then none else if p.kind = 45 then (compT s []).map (p :: ·) else none
  | [], q :: t => if validT q = false then none else if q.kind = 43 then (compT [] t).map (q :: ·) else none
  | p :: s, q :: t => if validT p = false then none else if validT q = false then none else if p.kind = 45 then (compT s (q :: t)).map (p :: ·) else if q.kind = 43 then (compT (p :: s) t).map (q :: ·) else if p.new = q.old then (compT s t).map (midT p q ++ ·) else none
termination_by s t => s.length + t.length

/-- So far: what is left composes to the rest. -/
def CompSo (s t : List OpT) (i j : Nat) (acc : List OpT) : Prop := compT s t = (compT (s.drop i) (t.drop j)).map (acc ++ ·)

theorem drop_at {α : Type} {s : List α} {i : Nat} {p : α} (h : s[i]? = some p) : s.drop i = p :: s.drop (i + 1) := by
  have hl : i < s.length := by
    rcases Nat.lt_or_ge i s.length with h1 | h1
    · exact h1
    · rw [List.getElem?_eq_none h1] at h; cases h
  rw [List.drop_eq_getElem_cons hl]
  rw [List.getElem?_eq_getElem hl] at h
  rw [Option.some.inj h]
theorem drop_end {α : Type} {s : List α} {i : Nat} (h : s.length ≤ i) : s.drop i = [] := List.drop_eq_nil_of_le h

theorem map_app (r : Option (List OpT)) (a b : List OpT) : (r.map (b ++ ·)).map (a ++ ·) = r.map ((a ++ b) ++ ·) := by
  cases r <;> simp
theorem map_cons (r : Option (List OpT)) (a : List OpT) (p : OpT) : (r.map (p :: ·)).map (a ++ ·) = r.map ((a ++ [p]) ++ ·) := by
  cases r <;> simp

theorem so_zero (s t : List OpT) : CompSo s t 0 0 [] := by
  unfold CompSo
  cases h : compT s t <;> simp [h]

section
variable {s t : List OpT} {i j : Nat} {acc : List OpT} {p q : OpT}

theorem so_end (h : CompSo s t i j acc) (hi : s.length ≤ i) (hj : t.length ≤ j) : compT s t = some acc := by
  unfold CompSo at h
  rw [h, drop_end hi, drop_end hj]
  simp [compT]

theorem so_badp (h : CompSo s t i j acc) (hp : s[i]? = some p) (hv : validT p = false) : compT s t = none := by
  unfold CompSo at h
  rw [h, drop_at hp]
  cases hq : t.drop j <;> simp [compT, hv]

theorem so_badq (h : CompSo s t i j acc) (hq : t[j]? = some q) (hv : validT q = false) : compT s t = none := by
  unfold CompSo at h
  rw [h, drop_at hq]
  cases hp : s.drop i <;> simp [compT, hv]

theorem so_del0 (h : CompSo s t i j acc) (hp : s[i]? = some p) (hj : t.length ≤ j) (hv : validT p = true) (hk : p.kind = 45) : CompSo s t (i + 1) j (acc ++ [p]) := by
  unfold CompSo at h ⊢
  rw [h, drop_at hp, drop_end hj]
  simp only [compT, hv, hk]
  rw [if_neg (by decide), if_pos trivial, map_cons]
theorem so_del (h : CompSo s t i j acc) (hp : s[i]? = some p) (hq : t[j]? = some q) (hv : validT p = true) (hw : validT q = true) (hk : p.kind = 45) : CompSo s t (i + 1) j (acc ++ [p]) := by
  unfold CompSo at h ⊢
  rw [h, drop_at hp, drop_at hq]
  simp only [compT, hv, hw, hk]
  rw [if_neg (by decide), if_neg (by decide), if_pos trivial, map_cons]
theorem so_ins0 (h : CompSo s t i j acc) (hi : s.length ≤ i) (hq : t[j]? = some q) (hw : validT q = true) (hk : q.kind = 43) : CompSo s t i (j + 1) (acc ++ [q]) := by
  unfold CompSo at h ⊢
  rw [h, drop_at hq, drop_end hi]
  simp only [compT, hw, hk]
  rw [if_neg (by decide), if_pos trivial, map_cons]
theorem so_ins (h : CompSo s t i j acc) (hp : s[i]? = some p) (hq : t[j]? = some q) (hv : validT p = true) (hw : validT q = true) (hkp : p.kind ≠ 45) (hk : q.kind = 43) : CompSo s t i (j + 1) (acc ++ [q]) := by
  unfold CompSo at h ⊢
  rw [h, drop_at hp, drop_at hq]
  simp only [compT, hv, hw]
  rw [if_neg (by decide), if_neg (by decide), if_neg hkp, if_pos hk, map_cons]
theorem so_stop1 (h : CompSo s t i j acc) (hp : s[i]? = some p) (hj : t.length ≤ j) (hk : p.kind ≠ 45) : compT s t = none := by
  unfold CompSo at h
  rw [h, drop_at hp, drop_end hj]
  simp only [compT, if_neg hk]
  split <;> rfl
theorem so_stop2 (h : CompSo s t i j acc) (hi : s.length ≤ i) (hq : t[j]? = some q) (hk : q.kind ≠ 43) : compT s t = none := by
  unfold CompSo at h
  rw [h, drop_at hq, drop_end hi]
  simp only [compT, if_neg hk]
  split <;> rfl
theorem so_stop3 (h : CompSo s t i j acc) (hp : s[i]? = some p) (hq : t[j]? = some q) (hkp : p.kind ≠ 45) (hk : q.kind ≠ 43) (hn : p.new ≠ q.old) : compT s t = none := by
  unfold CompSo at h
  rw [h, drop_at hp, drop_at hq]
  simp only [compT, if_neg hk, if_neg hkp, if_neg hn]
  split
  · rfl
  · split <;> rfl
theorem so_mid (h : CompSo s t i j acc) (hp : s[i]? = some p) (hq : t[j]? = some q) (hv : validT p = true) (hw : validT q = true) (hkp : p.kind ≠ 45) (hk : q.kind ≠ 43) (hn : p.new = q.old) : CompSo s t (i + 1) (j + 1) (acc ++ midT p q) := by
  unfold CompSo at h ⊢
  rw [h, drop_at hp, drop_at hq]
  simp only [compT, hv, hw]
  rw [if_neg (by decide), if_neg (by decide), if_neg hkp, if_neg hk, if_pos hn, map_app]
end
end Go.Proofs.Ymbrdo
