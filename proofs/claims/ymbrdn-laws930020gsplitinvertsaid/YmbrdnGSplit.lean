/-
  THE WALK OF LawS930020GSplitInvert.
-/
import Derived.Test.YmbrdnGBuild
import Derived.Test.YmbrdnCost
import Derived.Test.YmbrdnInvert
namespace Go.Proofs.Ymbrdn
open Go.ChangeShapes Go.WideShapes Go.ChangeAt Go.RowKit
theorem gsplit_walk (a : Option Addr) (cap : Nat) (sts : List OpT) (c : Int) (w : World) (h : Row w a (opsC sts)) (hok : ∀ z ∈ sts, OpOk z) (hnil : a = none → sts.length = 0 ∧ cap = 0) (wc : (Lit.int .u16 c).wf = true) :
    Calls Ydnm.prog 10 #[.slice a sts.length cap, .int .u16 c] w fun e w' => e = .returned (.bool true) ∧ Below w.heap.size w w' := by
  by_cases hbig : 1024 < sts.length
  · go_enter Ydnm.func10, Ydnm.ntmps10
    go_wp2
    go_ret
    exact ⟨rfl, Below.refl _ _⟩
  obtain ⟨os, hos⟩ : ∃ os, os = sts.map gT := ⟨_, rfl⟩
  have hle : sts.length ≤ os.length := by rw [hos]; simp
  have hle' : os.length ≤ sts.length := by rw [hos]; simp
  have G : Hid (∀ w', Row w' a (opsC sts) → Calls Ydnm.prog 25 #[.slice a sts.length cap] w' (RetOps w' os)) := fun w' hw => by
    rw [hos]; exact gbuild_calls a cap sts w' hw hok hnil (by omega)
  clear hok hnil hos
  have hc := bounds_u16 wc
  go_enter Ydnm.func10, Ydnm.ntmps10
  go_wp2_with fail
  refine (G.out w h).mono ?_
  rintro e w1 ⟨a1, cap1, rfl, hcap, r1, b1⟩
  clear h G
  have hnn := Int.emod_nonneg c (show (os.length : Int) + 1 ≠ 0 by omega)
  obtain ⟨k, hk⟩ : ∃ k : Nat, c % ((os.length : Int) + 1) = k := ⟨(c % ((os.length : Int) + 1)).toNat, by omega⟩
  have hkl : k ≤ os.length := by
    have := Int.emod_lt_of_pos c (show (0 : Int) < (os.length : Int) + 1 by omega)
    omega
  have C1 : Hid (∀ w', Row w' a1 (opsC os) → Calls Ydnm.prog 26 #[.slice a1 k cap1] w' fun e w'' => e = .returned (.int .i64 (costOf (os.take k))) ∧ Below w'.heap.size w' w'') := fun w' hw => by
    have := cost_calls a1 cap1 (os.take k) w' (by rw [opsC_take]; exact hw.head _) (by simp; omega)
    rwa [List.length_take, Nat.min_eq_left hkl] at this
  obtain ⟨ad, had⟩ : ∃ ad, (if cap1 = k then a1 else Option.map (fun x => x.add (k * 3)) a1) = ad := ⟨_, rfl⟩
  have C2 : Hid (∀ w', Row w' a1 (opsC os) → Calls Ydnm.prog 26 #[.slice ad (os.length - k) (cap1 - k)] w' fun e w'' => e = .returned (.int .i64 (costOf (os.drop k))) ∧ Below w'.heap.size w' w'') := fun w' hw => by
    have := cost_calls ad (cap1 - k) (os.drop k) w' (by rw [opsC_drop, ← had]; exact hw.rest (fun e => by rw [opsC_length]; omega)) (by simp; omega)
    rwa [List.length_drop] at this
  have E : Hid (costOf (os.take k) + costOf (os.drop k) = costOf os) := by
    show costOf (os.take k) + costOf (os.drop k) = costOf os
    rw [← costOf_append, List.take_append_drop]
  have hc1 := costOf_le (os.take k)
  have hc2 := costOf_le (os.drop k)
  rw [List.length_take] at hc1
  rw [List.length_drop] at hc2
  go_wp2_with fail
  refine (cost_calls a1 cap1 os w1 r1 (by omega)).mono ?_
  rintro e w2 ⟨rfl, b2⟩
  have r2 := r1.below b2 (Nat.le_refl _)
  have hB : Below w.heap.size w w2 := b1.trans (b2.mono b1.size)
  have hcl := costOf_le os
  clear r1 b1 b2
  go_wp2_with fail
  have r2' : Row w2.drew a1 (opsC os) := r2.below (Below.refl _ _).drew (Nat.le_refl _)
  have hB' : Below w.heap.size w w2.drew := hB.drew
  clear r2 hB
  have i1 : (k : Int) ≤ (cap1 : Int) := by omega
  have i2 : (k : Int) ≤ (os.length : Int) := by omega
  have i3 : (0 : Int) ≤ (k : Int) := by omega
  go_region_with (first
    | (go_at_call_of 26 (Value.slice a1 k cap1); refine (C1.out _ (by first | exact r2' | exact Row.below r2' (by assumption) (Nat.le_refl _))).mono ?_; rintro e w3 ⟨rfl, b3⟩)
    | (go_at_call 26; refine (C2.out _ (by first | exact r2' | exact Row.below r2' (by assumption) (Nat.le_refl _))).mono ?_; rintro e w4 ⟨rfl, b4⟩))
  have r4 := (r2'.below b3 (Nat.le_refl _)).below b4 (Nat.le_refl _)
  have hB4 : Below w.heap.size w w4 := (hB'.trans (b3.mono hB'.size)).trans (b4.mono (Nat.le_trans hB'.size b3.size))
  have hcmp : (costOf os : Int) = (costOf (os.take k) : Int) + (costOf (os.drop k) : Int) := by
    have := E.out
    omega
  have hcmp' : ((costOf os : Int) != IntKind.i64.wrap ((costOf (os.take k) : Int) + (costOf (os.drop k) : Int))) = false := by
    rw [← hcmp, IntWalk.i64_in _ (by omega)]; simp
  clear hcmp
  obtain ⟨inv, hinv⟩ : ∃ inv, inv = os.map invT := ⟨_, rfl⟩
  have ecost : costOf inv = costOf os := by rw [hinv, cost_inv]
  have hil : inv.length = os.length := by rw [hinv, List.length_map]
  have I : Hid (∀ w', Row w' a1 (opsC os) → Calls Ydnm.prog 16 #[.slice a1 os.length cap1] w' (RetOps w' inv)) := fun w' hw => by
    refine (invert_calls a1 cap1 os w' hw (by omega)).mono ?_
    rintro e w'' ⟨g, rfl, ho, hb⟩
    refine ⟨some ⟨g, 0, none⟩, os.length, by rw [hil], by omega, ?_, hb⟩
    rw [hinv]
    exact row_of_own ho
  have hil1 : inv.length ≤ os.length := by omega
  have EC : Hid (costOf inv = costOf os) := ecost
  clear r2' hB' b3 b4 C1 C2 hinv ecost hil had
  go_wp2_with fail
  refine (I.out _ r4).mono ?_
  rintro e w5 ⟨a5, cap5, rfl, hc5, r5, b5⟩
  go_wp2_with fail
  refine (cost_calls a5 cap5 inv w5 r5 (by omega)).mono ?_
  rintro e w6 ⟨rfl, b6⟩
  rw [EC.out]
  go_wp2
  go_ret
  exact ⟨by simp, (hB4.trans (b5.mono hB4.size)).trans (b6.mono (Nat.le_trans hB4.size b5.size))⟩
end Go.Proofs.Ymbrdn
