/-
  THE WALK OF LawS930020GExact.
-/
import Derived.Test.YmbrdnGBuild
import Derived.Test.YmbrdnCost
namespace Go.Proofs.Ymbrdn
open Go.ChangeShapes Go.WideShapes Go.ChangeAt Go.RowKit
theorem gexact_walk (a : Option Addr) (cap : Nat) (sts : List OpT) (w : World) (h : Row w a (opsC sts)) (hok : ∀ z ∈ sts, OpOk z) (hnil : a = none → sts.length = 0 ∧ cap = 0) :
    Calls Ydnm.prog 9 #[.slice a sts.length cap] w fun e w' => e = .returned (.bool true) ∧ Below w.heap.size w w' := by
  by_cases hbig : 1024 < sts.length
  · go_enter Ydnm.func9, Ydnm.ntmps9
    go_wp2
    go_ret
    exact ⟨rfl, Below.refl _ _⟩
  obtain ⟨os, hos⟩ : ∃ os, os = sts.map gT := ⟨_, rfl⟩
  have hle : sts.length ≤ os.length := by rw [hos]; simp
  have hle' : os.length ≤ sts.length := by rw [hos]; simp
  have G : Hid (∀ w', Row w' a (opsC sts) → Calls Ydnm.prog 25 #[.slice a sts.length cap] w' (RetOps w' os)) := fun w' hw => by
    rw [hos]; exact gbuild_calls a cap sts w' hw hok hnil (by omega)
  clear hok hnil hos
  go_enter Ydnm.func9, Ydnm.ntmps9
  go_wp2_with fail
  refine (G.out w h).mono ?_
  rintro e w1 ⟨a1, cap1, rfl, -, r1, b1⟩
  go_wp2_with fail
  refine (G.out w1 (h.below b1 (Nat.le_refl _))).mono ?_
  rintro e w2 ⟨a2, cap2, rfl, -, r2, b2⟩
  have r1' := r1.below b2 (Nat.le_refl _)
  clear r1
  go_wp2_with fail
  refine (cost_calls a1 cap1 os w2 r1' (by omega)).mono ?_
  rintro e w3 ⟨rfl, b3⟩
  have s1 := r1'.below b3 (Nat.le_refl _)
  have s2 := r2.below b3 (Nat.le_refl _)
  have hB : Below w.heap.size w w3 := (b1.trans (b2.mono b1.size)).trans (b3.mono (Nat.le_trans b1.size b2.size))
  clear r1' r2 b1 b2 b3 h G
  go_wp2
  go_loopw [6, 7] (fun v i wr => ∃ k : Nat, k ≤ sts.length ∧ i = .int .i64 k ∧ v = .int .i64 ((sts.length : Int) - (k : Int) + (costOf (os.take k) : Int)) ∧ Below w.heap.size w wr ∧ Row wr a1 (opsC os) ∧ Row wr a2 (opsC os)) (fun _ i _ => sts.length - (intOf i).toNat)
  case atStart => exact ⟨0, Nat.zero_le _, rfl, by simp [costOf], hB, s1, s2⟩
  case round =>
    clear s1 s2 hB
    obtain ⟨k, hk, rfl, rfl, hb, s1, s2⟩ := hrel
    by_cases hlt : k < sts.length
    · obtain ⟨b1, off1, rfl, hc1⟩ := s1.ops (by omega)
      obtain ⟨b2, off2, rfl, hc2⟩ := s2.ops (by omega)
      obtain ⟨o, ho⟩ := op_at (os := os) (k := k) (by omega)
      obtain ⟨c0, c1, c2⟩ := hc1 k o ho
      obtain ⟨d0, d1, d2⟩ := hc2 k o ho
      have E1 : Hid (costOf (os.take (k + 1)) = costOf (os.take k) + (if o.kind = 61 then 0 else 1)) := costOf_take_succ ho
      have hcl := costOf_take_le os k
      have S1 : Hid _ := s1
      have S2 : Hid _ := s2
      clear hc1 hc2 ho s1 s2
      have hlt' : (k : Int) < (sts.length : Int) := by omega
      by_cases hkd : o.kind = 61
      · have hkd' : (o.kind == 61) = true := by simp [hkd]
        go_wp2
        go_quiet (fail)
        go_wp2
        go_roundw
        case rel => exact ⟨k + 1, by omega, by go_num, congrArg (Value.int .i64) (by have e := E1.out; rw [if_pos hkd] at e; omega), below_dn hb _, Row.dn S1.out _, Row.dn S2.out _⟩
        case measure => simp [intOf]; omega
      · have hkd' : (o.kind == 61) = false := by simp [hkd]
        go_wp2
        go_quiet (fail)
        go_wp2
        go_roundw
        case rel => exact ⟨k + 1, by omega, by go_num, congrArg (Value.int .i64) (by have e := E1.out; rw [if_neg hkd] at e; omega), below_dn hb _, Row.dn S1.out _, Row.dn S2.out _⟩
        case measure => simp [intOf]; omega
    · have hge : ¬ (k : Int) < (sts.length : Int) := by omega
      obtain rfl : k = sts.length := by omega
      have ht : os.take sts.length = os := List.take_of_length_le hle'
      go_wp2
      go_ret
      exact ⟨by simp, hb⟩
end Go.Proofs.Ymbrdn
