/-
  WHAT A COMPOSED SCRIPT DOES, IN PLAIN DATA.
-/
import Derived.Test.YmbrdoCompPlain
namespace Go.Proofs.Ymbrdo

theorem valid_ins {q : OpT} (h : validT q = true) (hk : q.kind = 43) : q.old = 0 := by
  simp [validT, hk] at h; exact h
theorem valid_del {q : OpT} (h : validT q = true) (hk : q.kind = 45) : q.new = 0 := by
  simp [validT, hk] at h; exact h
theorem valid_kinds {q : OpT} (h : validT q = true) : q.kind = 61 ∨ q.kind = 126 ∨ q.kind = 43 ∨ q.kind = 45 := by
  by_cases h1 : q.kind = 61
  · exact .inl h1
  · by_cases h2 : q.kind = 126
    · exact .inr (.inl h2)
    · by_cases h3 : q.kind = 43
      · exact .inr (.inr (.inl h3))
      · by_cases h4 : q.kind = 45
        · exact .inr (.inr (.inr h4))
        · simp [validT, h1, h2, h3, h4] at h
theorem valid_keep {q : OpT} (h : validT q = true) (hk : q.kind = 61) : q.old = q.new := by
  simp [validT, hk] at h; exact h
theorem valid_pair (x y : Int) : validT (pairT x y) = true := by
  by_cases h : x = y
  · simp [validT, pairT, h]
  · simp [validT, pairT, h]
theorem pair_kind (x y : Int) : (pairT x y).kind ≠ 43 ∧ (pairT x y).kind ≠ 45 := by
  unfold pairT
  constructor <;> (simp only; split <;> decide)

theorem readsT_cons (o : OpT) (os : List OpT) : readsT (o :: os) = (if o.kind = 43 then [] else [o.old]) ++ readsT os := by
  have := readsT_append [o] os
  simp only [List.singleton_append] at this
  rw [this]
  simp [readsT]
theorem writesT_cons (o : OpT) (os : List OpT) : writesT (o :: os) = (if o.kind = 45 then [] else [o.new]) ++ writesT os := by
  have := writesT_append [o] os
  simp only [List.singleton_append] at this
  rw [this]
  simp [writesT]
theorem costOf_cons (o : OpT) (os : List OpT) : costOf (o :: os) = (if o.kind = 61 then 0 else 1) + costOf os := by
  have := costOf_append [o] os
  simp only [List.singleton_append] at this
  rw [this]
  simp [costOf]

/-- What the middle does. -/
theorem mid_does {p q : OpT} (hp : validT p = true) (hq : validT q = true) (hn : p.new = q.old) :
    (midT p q).all validT = true ∧ readsT (midT p q) = (if p.kind = 43 then [] else [p.old]) ∧ writesT (midT p q) = (if q.kind = 45 then [] else [q.new]) ∧
      costOf (midT p q) ≤ (if p.kind = 61 then 0 else 1) + (if q.kind = 61 then 0 else 1) := by
  by_cases a : p.kind = 43
  · by_cases b : q.kind = 45
    · simp [midT, a, b, readsT, writesT, costOf]
    · simp [midT, a, b, readsT, writesT, costOf, validT]
  · by_cases b : q.kind = 45
    · simp [midT, a, b, readsT, writesT, costOf, validT]
    · have e : midT p q = [pairT p.old q.new] := by simp [midT, a, b]
      rw [e]
      obtain ⟨k1, k2⟩ := pair_kind p.old q.new
      refine ⟨by simp [valid_pair], ?_, ?_, ?_⟩
      · simp only [readsT, a, if_false, if_neg k1]
        rfl
      · simp only [writesT, b, if_false, if_neg k2]
        rfl
      · by_cases c : p.kind = 61
        · by_cases d : q.kind = 61
          · have : p.old = q.new := by rw [valid_keep hp c, hn, valid_keep hq d]
            simp [costOf, pairT, this]
          · simp only [costOf, if_neg d]
            split <;> omega
        · simp only [costOf, if_neg c]
          split <;> omega

/-- When it succeeds. -/
theorem comp_ok : ∀ (s t : List OpT), (compT s t).isSome = (s.all validT && t.all validT && (writesT s == readsT t))
  | [], [] => by simp [compT, writesT, readsT]
  | p :: s, [] => by
    have ih := comp_ok s []
    simp only [compT]
    by_cases hv : validT p = true
    · by_cases hk : p.kind = 45
      · simp only [hv, hk, if_true]
        rw [if_neg (by decide)]
        simp only [Option.isSome_map, ih]
        rw [writesT_cons, if_pos hk]
        simp [hv]
      · rw [if_neg (by rw [hv]; decide), if_neg hk, writesT_cons, if_neg hk]
        simp [readsT]
    · rw [if_pos (by simpa using hv)]
      simp [hv]
  | [], q :: t => by
    have ih := comp_ok [] t
    simp only [compT]
    by_cases hv : validT q = true
    · by_cases hk : q.kind = 43
      · simp only [hv, hk, if_true]
        rw [if_neg (by decide)]
        simp only [Option.isSome_map, ih]
        rw [readsT_cons, if_pos hk]
        simp [hv]
      · rw [if_neg (by rw [hv]; decide), if_neg hk, readsT_cons, if_neg hk]
        simp [writesT]
    · rw [if_pos (by simpa using hv)]
      simp [hv]
  | p :: s, q :: t => by
    simp only [compT]
    by_cases hv : validT p = true
    · by_cases hw : validT q = true
      · rw [if_neg (by rw [hv]; decide), if_neg (by rw [hw]; decide)]
        by_cases hk : p.kind = 45
        · have ih := comp_ok s (q :: t)
          rw [if_pos hk, Option.isSome_map, ih, writesT_cons, if_pos hk]
          simp [hv]
        · rw [if_neg hk]
          by_cases hk2 : q.kind = 43
          · have ih := comp_ok (p :: s) t
            rw [if_pos hk2, Option.isSome_map, ih, readsT_cons, if_pos hk2]
            simp [hw]
          · rw [if_neg hk2, writesT_cons, readsT_cons, if_neg hk, if_neg hk2]
            by_cases hn : p.new = q.old
            · have ih := comp_ok s t
              rw [if_pos hn, Option.isSome_map, ih, hn]
              simp [hv, hw]
            · rw [if_neg hn]
              simp [hn]
      · rw [if_neg (by rw [hv]; decide), if_pos (by simpa using hw)]
        simp [hw]
    · rw [if_pos (by simpa using hv)]
      simp [hv]
termination_by s t => s.length + t.length

def Does (s t r : List OpT) : Prop := r.all validT = true ∧ readsT r = readsT s ∧ writesT r = writesT t ∧ costOf r ≤ costOf s + costOf t

theorem comp_does : ∀ (s t r : List OpT), compT s t = some r → Does s t r
  | [], [], r => by
    intro h
    simp [compT] at h
    subst h
    exact ⟨rfl, rfl, rfl, Nat.le_refl _⟩
  | p :: s, [], r => by
    intro h
    simp only [compT] at h
    by_cases hv : validT p = false
    · rw [if_pos hv] at h; cases h
    · rw [if_neg hv] at h
      by_cases hk : p.kind = 45
      · rw [if_pos hk] at h
        rw [Option.map_eq_some_iff] at h
        obtain ⟨r', hr, rfl⟩ := h
        obtain ⟨h1, h2, h3, h4⟩ := comp_does s [] r' hr
        refine ⟨by simp [h1, hv], by rw [readsT_cons, readsT_cons, h2], by rw [writesT_cons, if_pos hk, h3]; rfl, ?_⟩
        rw [costOf_cons, costOf_cons]
        omega
      · rw [if_neg hk] at h; cases h
  | [], q :: t, r => by
    intro h
    simp only [compT] at h
    by_cases hv : validT q = false
    · rw [if_pos hv] at h; cases h
    · rw [if_neg hv] at h
      by_cases hk : q.kind = 43
      · rw [if_pos hk] at h
        rw [Option.map_eq_some_iff] at h
        obtain ⟨r', hr, rfl⟩ := h
        obtain ⟨h1, h2, h3, h4⟩ := comp_does [] t r' hr
        refine ⟨by simp [h1, hv], by rw [readsT_cons, if_pos hk, h2]; rfl, by rw [writesT_cons, writesT_cons, h3], ?_⟩
        rw [costOf_cons, costOf_cons]
        omega
      · rw [if_neg hk] at h; cases h
  | p :: s, q :: t, r => by
    intro h
    simp only [compT] at h
    by_cases hv : validT p = false
    · rw [if_pos hv] at h; cases h
    · rw [if_neg hv] at h
      by_cases hw : validT q = false
      · rw [if_pos hw] at h; cases h
      · rw [if_neg hw] at h
        by_cases hk : p.kind = 45
        · rw [if_pos hk, Option.map_eq_some_iff] at h
          obtain ⟨r', hr, rfl⟩ := h
          obtain ⟨h1, h2, h3, h4⟩ := comp_does s (q :: t) r' hr
          refine ⟨by simp [h1, hv], by rw [readsT_cons, readsT_cons p, h2], by rw [writesT_cons, if_pos hk, h3]; rfl, ?_⟩
          rw [costOf_cons, costOf_cons p]
          omega
        · rw [if_neg hk] at h
          by_cases hk2 : q.kind = 43
          · rw [if_pos hk2, Option.map_eq_some_iff] at h
            obtain ⟨r', hr, rfl⟩ := h
            obtain ⟨h1, h2, h3, h4⟩ := comp_does (p :: s) t r' hr
            refine ⟨by simp [h1, hw], by rw [readsT_cons, if_pos hk2, h2]; rfl, by rw [writesT_cons, writesT_cons q, h3], ?_⟩
            rw [costOf_cons, costOf_cons q]
            omega
          · rw [if_neg hk2] at h
            by_cases hn : p.new = q.old
            · rw [if_pos hn, Option.map_eq_some_iff] at h
              obtain ⟨r', hr, rfl⟩ := h
              obtain ⟨h1, h2, h3, h4⟩ := comp_does s t r' hr
              obtain ⟨m1, m2, m3, m4⟩ := mid_does (by simpa using hv) (by simpa using hw) hn
              refine ⟨by rw [List.all_append, m1, h1]; rfl, by rw [readsT_append, readsT_cons, m2, h2], by rw [writesT_append, writesT_cons, m3, h3], ?_⟩
              rw [costOf_append, costOf_cons, costOf_cons]
              omega
            · rw [if_neg hn] at h; cases h
termination_by s t => s.length + t.length

/-- The deletes of a script. -/
def delsT : List OpT → Nat
  | [] => 0
  | o :: os => (if o.kind = 45 then 1 else 0) + delsT os

theorem delsT_append (a b : List OpT) : delsT (a ++ b) = delsT a + delsT b := by
  induction a with
  | nil => simp [delsT]
  | cons o os ih => simp only [List.cons_append, delsT, ih]; omega
theorem delsT_take_succ {os : List OpT} {k : Nat} {o : OpT} (h : os[k]? = some o) : delsT (os.take (k + 1)) = delsT (os.take k) + (if o.kind = 45 then 1 else 0) := by
  rw [take_succ_get h, delsT_append]
  simp [delsT]
theorem delsT_le (os : List OpT) : delsT os ≤ os.length := by
  induction os with
  | nil => simp [delsT]
  | cons o os ih => simp only [delsT, List.length_cons]; split <;> omega

theorem inv_del {d : OpT} (h : d.kind = 45) : (invT d).kind = 43 := by simp [invT, h]
theorem inv_kind {d : OpT} (h : d.kind ≠ 45) : (invT d).kind ≠ 43 := by
  simp only [invT]
  split
  · decide
  · assumption

theorem undo_end : ∀ (D r : List OpT), (∀ d ∈ D, d.kind = 45) → compT [] (D.map invT) = some r → costOf r = D.length
  | [], r => by
    intro _ h
    simp [compT] at h
    subst h
    rfl
  | d :: D, r => by
    intro hD h
    have hd : (invT d).kind = 43 := inv_del (hD d (by simp))
    simp only [List.map_cons, compT] at h
    by_cases hv : validT (invT d) = false
    · rw [if_pos hv] at h; cases h
    · rw [if_neg hv, if_pos hd, Option.map_eq_some_iff] at h
      obtain ⟨r', hr, rfl⟩ := h
      have := undo_end D r' (fun x hx => hD x (by simp [hx])) hr
      rw [costOf_cons, this, hd]
      simp
      omega

theorem mid_undo {p : OpT} (h : p.kind ≠ 45) : costOf (midT p (invT p)) = 0 := by
  by_cases a : p.kind = 43
  · simp [midT, invT, a, costOf]
  · have e : midT p (invT p) = [pairT p.old p.old] := by simp [midT, invT, a, h]
    rw [e]
    simp [costOf, pairT]

theorem undo_cost : ∀ (s D r : List OpT), (∀ d ∈ D, d.kind = 45) → compT s (D.map invT ++ s.map invT) = some r → costOf r = 2 * delsT s + D.length
  | [], D, r => by
    intro hD h
    rw [List.map_nil, List.append_nil] at h
    rw [undo_end D r hD h]
    simp [delsT]
  | p :: s, D, r => by
    intro hD h
    by_cases hk : p.kind = 45
    · have key : ∃ r', compT s ((D ++ [p]).map invT ++ s.map invT) = some r' ∧ r = p :: r' := by
        have e : (D ++ [p]).map invT ++ s.map invT = D.map invT ++ (p :: s).map invT := by simp
        rw [e]
        cases hl : D.map invT ++ (p :: s).map invT with
        | nil => simp at hl
        | cons q t =>
          rw [hl] at h
          simp only [compT] at h
          by_cases hv : validT p = false
          · rw [if_pos hv] at h; cases h
          · rw [if_neg hv] at h
            by_cases hw : validT q = false
            · rw [if_pos hw] at h; cases h
            · rw [if_neg hw, if_pos hk, Option.map_eq_some_iff] at h
              obtain ⟨r', hr, he⟩ := h
              exact ⟨r', hr, he.symm⟩
      obtain ⟨r', hr, rfl⟩ := key
      have := undo_cost s (D ++ [p]) r' (fun d hd => by
        rw [List.mem_append] at hd
        rcases hd with hd | hd
        · exact hD d hd
        · simp at hd; rw [hd]; exact hk) hr
      rw [costOf_cons, this]
      simp only [delsT, hk, List.length_append, List.length_cons, List.length_nil, if_true]
      rw [if_neg (by decide)]
      omega
    · match D, hD with
      | [], _ =>
        simp only [List.map_nil, List.nil_append, List.map_cons, compT] at h
        by_cases hv : validT p = false
        · rw [if_pos hv] at h; cases h
        · rw [if_neg hv] at h
          by_cases hw : validT (invT p) = false
          · rw [if_pos hw] at h; cases h
          · rw [if_neg hw, if_neg hk, if_neg (inv_kind hk), if_pos (by simp [invT]), Option.map_eq_some_iff] at h
            obtain ⟨r', hr, rfl⟩ := h
            have := undo_cost s [] r' (by simp) (by simpa using hr)
            rw [costOf_append, mid_undo hk, this]
            simp [delsT, hk]
      | d :: D, hD =>
        have hd : (invT d).kind = 43 := inv_del (hD d (by simp))
        simp only [List.map_cons, List.cons_append, compT] at h
        by_cases hv : validT p = false
        · rw [if_pos hv] at h; cases h
        · rw [if_neg hv] at h
          by_cases hw : validT (invT d) = false
          · rw [if_pos hw] at h; cases h
          · rw [if_neg hw, if_neg hk, if_pos hd, Option.map_eq_some_iff] at h
            obtain ⟨r', hr, rfl⟩ := h
            have := undo_cost (p :: s) D r' (fun x hx => hD x (by simp [hx])) (by simpa using hr)
            rw [costOf_cons, this, hd]
            simp
            omega
termination_by s D => s.length * 2 + D.length

theorem mid_len (p q : OpT) : (midT p q).length ≤ 1 := by
  unfold midT
  split
  · simp
  · split
    · simp
    · split <;> simp

theorem comp_len : ∀ (s t r : List OpT), compT s t = some r → r.length ≤ s.length + t.length
  | [], [], r => by
    intro h
    simp [compT] at h
    subst h
    simp
  | p :: s, [], r => by
    intro h
    simp only [compT] at h
    by_cases hv : validT p = false
    · rw [if_pos hv] at h; cases h
    · rw [if_neg hv] at h
      by_cases hk : p.kind = 45
      · rw [if_pos hk, Option.map_eq_some_iff] at h
        obtain ⟨r', hr, rfl⟩ := h
        have := comp_len s [] r' hr
        simp only [List.length_cons, List.length_nil] at this ⊢
        omega
      · rw [if_neg hk] at h; cases h
  | [], q :: t, r => by
    intro h
    simp only [compT] at h
    by_cases hv : validT q = false
    · rw [if_pos hv] at h; cases h
    · rw [if_neg hv] at h
      by_cases hk : q.kind = 43
      · rw [if_pos hk, Option.map_eq_some_iff] at h
        obtain ⟨r', hr, rfl⟩ := h
        have := comp_len [] t r' hr
        simp only [List.length_cons, List.length_nil] at this ⊢
        omega
      · rw [if_neg hk] at h; cases h
  | p :: s, q :: t, r => by
    intro h
    simp only [compT] at h
    by_cases hv : validT p = false
    · rw [if_pos hv] at h; cases h
    · rw [if_neg hv] at h
      by_cases hw : validT q = false
      · rw [if_pos hw] at h; cases h
      · rw [if_neg hw] at h
        by_cases hk : p.kind = 45
        · rw [if_pos hk, Option.map_eq_some_iff] at h
          obtain ⟨r', hr, rfl⟩ := h
          have := comp_len s (q :: t) r' hr
          simp only [List.length_cons] at this ⊢
          omega
        · rw [if_neg hk] at h
          by_cases hk2 : q.kind = 43
          · rw [if_pos hk2, Option.map_eq_some_iff] at h
            obtain ⟨r', hr, rfl⟩ := h
            have := comp_len (p :: s) t r' hr
            simp only [List.length_cons] at this ⊢
            omega
          · rw [if_neg hk2] at h
            by_cases hn : p.new = q.old
            · rw [if_pos hn, Option.map_eq_some_iff] at h
              obtain ⟨r', hr, rfl⟩ := h
              have := comp_len s t r' hr
              have := mid_len p q
              simp only [List.length_cons, List.length_append] at this ⊢
              omega
            · rw [if_neg hn] at h; cases h
termination_by s t => s.length + t.length
end Go.Proofs.Ymbrdo
