/-
  THE WALK OF LawS930020LLeast.
-/
import Derived.Test.YmbrdoScript2
namespace Go.Proofs.Ymbrdo
open Go.ChangeShapes Go.WideShapes Go.ChangeAt Go.RowKit

set_option linter.unusedVariables false in
set_option maxHeartbeats 2000000 in
set_option maxRecDepth 100000 in
theorem lleast_walk (a : Option Addr) (ca : Nat) (x : List Int) (b : Option Addr) (cb : Nat) (y : List Int) (w : World) (hx : Row w a (bytesC x)) (bx : ∀ z ∈ x, (Lit.int .u8 z).wf = true) (nx : a = none → x.length = 0 ∧ ca = 0)
    (hy : Row w b (bytesC y)) (bY : ∀ z ∈ y, (Lit.int .u8 z).wf = true) (ny : b = none → y.length = 0 ∧ cb = 0) :
    Calls Ydom.prog 13 #[.slice a x.length ca, .slice b y.length cb] w fun e w' => e = .returned (.bool true) ∧ Below w.heap.size w w' := by
  clear bx nx bY ny
  by_cases h1 : 256 < x.length
  · go_enter Ydom.func13, Ydom.ntmps13
    go_wp2
    go_ret
    exact ⟨rfl, Below.refl _ _⟩
  by_cases h2 : 256 < y.length
  · go_enter Ydom.func13, Ydom.ntmps13
    go_wp2
    go_ret
    exact ⟨rfl, Below.refl _ _⟩
  go_enter Ydom.func13, Ydom.ntmps13
  go_wp2_with fail
  refine (script_calls a b ca cb x y w hx hy (by omega) (by omega)).mono ?_
  rintro e w1 ⟨os, a1, c1, rfl, r1, bk, b1⟩
  have hl := back_len bk
  have hl' : os.length ≤ 512 := by omega
  have HC : Hid ((costOf os : Int) = dp x y x.length y.length) := back_cost bk
  clear bk hl
  go_wp2
  go_loopw [6, 7] (fun v i wr => ∃ k : Nat, k ≤ os.length ∧ i = .int .i64 k ∧ v = .int .i64 (costOf (os.take k)) ∧ wr = w1) (fun _ i _ => os.length - (intOf i).toNat)
  case atStart => exact ⟨0, Nat.zero_le _, rfl, rfl, rfl⟩
  case round =>
    obtain ⟨k, hk, rfl, rfl, rfl⟩ := hrel
    by_cases hlt : k < os.length
    · obtain ⟨b9, off, rfl, hc⟩ := r1.ops (by omega)
      obtain ⟨o, ho⟩ := op_at hlt
      obtain ⟨c0, c1', c2⟩ := hc k o ho
      have hcl := costOf_take_le os k
      have E1 : Hid (costOf (os.take (k + 1)) = costOf (os.take k) + (if o.kind = 61 then 0 else 1)) := costOf_take_succ ho
      have i1 : (k : Int) < (os.length : Int) := by omega
      obtain ⟨D, hD⟩ : ∃ D, D = costOf (os.take k) := ⟨_, rfl⟩
      rw [← hD] at hcl ⊢
      have ED : Hid (D = costOf (os.take k)) := hD
      clear hc ho hD hx hy
      by_cases hkd : o.kind = 61
      · have hkd' : (o.kind != 61) = false := by simp [hkd]
        go_wp2
        go_roundw
        case rel => exact ⟨k + 1, by omega, by go_num, by rw [E1.out, if_pos hkd, ← ED.out]; rfl, trivial⟩
        case measure => simp [intOf]; omega
      · have hkd' : (o.kind != 61) = true := by simp [hkd]
        go_wp2
        go_roundw
        case rel => exact ⟨k + 1, by omega, by go_num, by rw [E1.out, if_neg hkd, ← ED.out]; rfl, trivial⟩
        case measure => simp [intOf]; omega
    · have hge : ¬ (k : Int) < (os.length : Int) := by omega
      obtain rfl : k = os.length := by omega
      rw [List.take_length, HC.out]
      have hx1 := hx.below b1 (Nat.le_refl _)
      have hy1 := hy.below b1 (Nat.le_refl _)
      clear r1 hx hy
      go_wp2_with fail
      refine (ldist_calls a b ca cb x y wr hx1 hy1 (by omega) (by omega)).mono ?_
      rintro e w2 ⟨rfl, b2⟩
      have B2 : Below w.heap.size w w2 := b1.trans (b2.mono b1.size)
      clear b1 b2 hx1 hy1
      go_wp2
      go_ret
      exact ⟨by simp, B2⟩
end Go.Proofs.Ymbrdo
