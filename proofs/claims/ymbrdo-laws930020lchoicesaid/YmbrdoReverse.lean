/-
  THE WALK OF reverse: a window of a row of ops that may be written is mirrored.
-/
import Derived.Test.YmbrdoAid
import Derived.BigRegion
namespace Go.Proofs.Ymbrdo
open Go.ChangeShapes Go.WideShapes Go.ChangeAt Go.RowKit

/-- So far: the first k and the last k ops of the window have changed places. -/
def Mir (qs : List OpT) (lo n k : Nat) (ps : List OpT) : Prop :=
  ∀ p : Nat, ps[p]? = if lo ≤ p ∧ p < lo + n ∧ (p < lo + k ∨ lo + n ≤ p + k) then qs[lo + lo + n - 1 - p]? else qs[p]?
/-- The window from lo on, n ops long, is mirrored; all else is as it was. -/
def Rev (qs : List OpT) (lo n : Nat) (ps : List OpT) : Prop :=
  ∀ p : Nat, ps[p]? = if lo ≤ p ∧ p < lo + n then qs[lo + lo + n - 1 - p]? else qs[p]?

theorem mir_zero (qs : List OpT) (lo n : Nat) : Mir qs lo n 0 qs := by
  intro p
  split
  · omega
  · rfl

theorem mir_step {qs ps : List OpT} {lo n k m : Nat} {x y : OpT} (h : Mir qs lo n k ps) (hkm : k + m + 1 = n) (hlt : k < m) (hl : lo + n ≤ ps.length) (hx : ps[lo + k]? = some x) (hy : ps[lo + m]? = some y) :
    Mir qs lo n (k + 1) ((ps.set (lo + k) y).set (lo + m) x) := by
  have hx' : qs[lo + k]? = some x := by have := h (lo + k); rw [if_neg (by omega)] at this; rw [← this]; exact hx
  have hy' : qs[lo + m]? = some y := by have := h (lo + m); rw [if_neg (by omega)] at this; rw [← this]; exact hy
  intro p
  by_cases h1 : p = lo + m
  · subst h1
    rw [List.getElem?_set_self (by simp; omega), if_pos (by omega), show lo + lo + n - 1 - (lo + m) = lo + k by omega, hx']
  · rw [List.getElem?_set_ne (by omega)]
    by_cases h2 : p = lo + k
    · subst h2
      rw [List.getElem?_set_self (by omega), if_pos (by omega), show lo + lo + n - 1 - (lo + k) = lo + m by omega, hy']
    · rw [List.getElem?_set_ne (by omega), h p]
      by_cases h3 : lo ≤ p ∧ p < lo + n ∧ (p < lo + k ∨ lo + n ≤ p + k)
      · rw [if_pos h3, if_pos (by omega)]
      · rw [if_neg h3, if_neg (by omega)]

theorem mir_end {qs ps : List OpT} {lo n k m : Nat} (h : Mir qs lo n k ps) (hkm : k + m + 1 = n) (hge : ¬ k < m) : Rev qs lo n ps := by
  intro p
  rw [h p]
  by_cases h1 : lo ≤ p ∧ p < lo + n
  · rw [if_pos h1]
    by_cases h3 : p < lo + k ∨ lo + n ≤ p + k
    · rw [if_pos ⟨h1.1, h1.2, h3⟩]
    · rw [if_neg (by omega), show lo + lo + n - 1 - p = p by omega]
  · rw [if_neg h1, if_neg (by omega)]

theorem rev_len {qs ps : List OpT} {lo n : Nat} (h : Rev qs lo n ps) (hl : lo + n ≤ qs.length) : ps.length = qs.length := by
  apply Nat.le_antisymm
  · rcases Nat.lt_or_ge qs.length ps.length with hlt | hge
    · have h1 := h qs.length
      rw [if_neg (by omega), List.getElem?_eq_none (Nat.le_refl _)] at h1
      rw [List.getElem?_eq_none_iff] at h1
      omega
    · exact hge
  · rcases Nat.lt_or_ge ps.length qs.length with hlt | hge
    · have h1 := h ps.length
      rw [List.getElem?_eq_none (Nat.le_refl _)] at h1
      split at h1
      · have := List.getElem?_eq_none_iff.1 h1.symm
        omega
      · have := List.getElem?_eq_none_iff.1 h1.symm
        omega
    · exact hge

theorem grown_drew {w w' : World} {row : Option Nat} (h : w.grownBy w' row) : w.grownBy w'.drew row := ⟨h.os, h.tape, h.output, h.size, h.block⟩

/-- Nothing to do. -/
theorem reverse_short (a : Option Addr) (n c : Nat) (w : World) (hn : n ≤ 1) :
    Calls Ydom.prog 21 #[.slice a n c] w fun e w' => e = .returned (.tuple #[]) ∧ w' = w := by
  have i1 : ¬ (0 : Int) < (n : Int) - 1 := by omega
  go_enter Ydom.func21, Ydom.ntmps21
  go_wp2
  refine wp_loop_rounds 1 ?_
  rw [rounds_succ]
  go_wp2
  go_end0
  exact ⟨rfl, rfl⟩

theorem reverse_calls (base g off lo n c N cap : Nat) (qs : List OpT) (w : World) (hn : 2 ≤ n) (hoff : off = lo * 3) (hlo : lo + n ≤ N) (hN : N ≤ 1048576)
    (hown : w.ownsRow base 23 3 (.slice (some ⟨g, 0, none⟩) N cap) N (opsC qs)) :
    Calls Ydom.prog 21 #[.slice (some ⟨g, off, none⟩) n c] w fun e w' => e = .returned (.tuple #[]) ∧
      ∃ ps : List OpT, w'.ownsRow base 23 3 (.slice (some ⟨g, 0, none⟩) N cap) N (opsC ps) ∧ Rev qs lo n ps ∧ w.grownBy w' (some g) := by
  have HOFF : Hid (off = lo * 3) := hoff
  clear hoff
  go_enter Ydom.func21, Ydom.ntmps21
  go_wp2
  go_loopw [2, 3] (fun i j wr => ∃ (k m : Nat) (ps : List OpT), k + m + 1 = n ∧ i = .int .i64 k ∧ j = .int .i64 m ∧ wr.ownsRow base 23 3 (.slice (some ⟨g, 0, none⟩) N cap) N (opsC ps) ∧ Mir qs lo n k ps ∧ w.grownBy wr (some g)) (fun i _ _ => n - (intOf i).toNat)
  case atStart => exact ⟨0, n - 1, qs, by omega, rfl, by go_num, hown, mir_zero _ _ _, World.grownBy.refl _ _⟩
  case round =>
    obtain ⟨k, m, ps, hkm, rfl, rfl, ho, hmir, hgr⟩ := hrel
    have hpl := own_ops_len ho
    by_cases hlt : k < m
    · obtain ⟨p, hp⟩ := op_at (os := ps) (k := lo + k) (by omega)
      obtain ⟨q, hq⟩ := op_at (os := ps) (k := lo + m) (by omega)
      have e1 : (lo + k) * 3 = off + k * 3 := by rw [HOFF.out]; omega
      have e2 : (lo + m) * 3 = off + m * 3 := by rw [HOFF.out]; omega
      obtain ⟨c0, c1, c2⟩ := own_ops_cells ho hp
      obtain ⟨d0, d1, d2⟩ := own_ops_cells ho hq
      have f0 := ho.frozenAt (off + k * 3)
      have f1 := ho.frozenAt (off + k * 3 + 1)
      have f2 := ho.frozenAt (off + k * 3 + 2)
      have f3 := ho.frozenAt (off + m * 3)
      have f4 := ho.frozenAt (off + m * 3 + 1)
      have f5 := ho.frozenAt (off + m * 3 + 2)
      rw [e1] at c0 c1 c2
      rw [e2] at d0 d1 d2
      have i1 : (k : Int) < (n : Int) := by omega
      have i2 : (m : Int) < (n : Int) := by omega
      have i3 : (k : Int) < (m : Int) := by omega
      have HO : Hid (wr.ownsRow base 23 3 (.slice (some ⟨g, 0, none⟩) N cap) N (opsC ps)) := ho
      have HK : Hid (k + m + 1 = n) := hkm
      have HM : Hid (Mir qs lo n (k + 1) ((ps.set (lo + k) q).set (lo + m) p)) := mir_step hmir hkm hlt (by omega) hp hq
      have E1 : Hid ((lo + k) * 3 = off + k * 3) := e1
      have E2 : Hid ((lo + m) * 3 = off + m * 3) := e2
      clear ho hp hq e1 e2 hkm hown hmir
      go_wp2
      go_region
      go_wp2
      go_roundw
      case rel =>
        have hk0 := HK.out
        obtain ⟨r1, r2⟩ := own_ops_store HO.out (lo + k) q.kind q.old q.new
        obtain ⟨r3, r4⟩ := own_ops_store r1 (lo + m) p.kind p.old p.new
        rw [E1.out, E2.out] at r3 r4
        rw [E1.out] at r2
        exact ⟨k + 1, m - 1, _, by omega, congrArg (Value.int .i64) (by omega), congrArg (Value.int .i64) (by omega), r3.drew, HM.out, grown_drew (grown_trans (grown_trans hgr r2) r4)⟩
      case measure => have hk0 := HK.out; simp [intOf]; omega
    · have i1 : ¬ (k : Int) < (m : Int) := by omega
      have HR : Hid (Rev qs lo n ps) := mir_end hmir hkm hlt
      clear hmir hkm
      go_wp2
      go_end0
      exact ⟨rfl, ps, ho, HR.out, hgr⟩
end Go.Proofs.Ymbrdo
