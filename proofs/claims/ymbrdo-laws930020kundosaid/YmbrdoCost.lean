/-
  THE WALK OF Cost (and of its twin by hand).
-/
import Derived.Test.YmbrdoPlain
namespace Go.Proofs.Ymbrdo
open Go.ChangeShapes Go.WideShapes Go.ChangeAt Go.RowKit

theorem cost_calls (a : Option Addr) (cap : Nat) (os : List OpT) (w : World) (h : Row w a (opsC os)) (hl : os.length ≤ 1048576) :
    Calls Ydom.prog 30 #[.slice a os.length cap] w fun e w' => e = .returned (.int .i64 (costOf os)) ∧ Below w.heap.size w w' := by
  go_enter Ydom.func30, Ydom.ntmps30
  go_wp2
  go_loopw [3, 8] (fun v i wr => ∃ k : Nat, k ≤ os.length ∧ i = .int .i64 k ∧ v = .int .i64 (costOf (os.take k)) ∧ Below w.heap.size w wr) (fun _ i _ => os.length - (intOf i).toNat)
  case atStart => exact ⟨0, Nat.zero_le _, rfl, rfl, Below.refl _ _⟩
  case round =>
    obtain ⟨k, hk, rfl, rfl, hb⟩ := hrel
    by_cases hlt : k < os.length
    · obtain ⟨b, off, rfl, hc⟩ := (h.below hb (Nat.le_refl _)).ops (by omega)
      obtain ⟨o, ho⟩ := op_at hlt
      obtain ⟨c0, c1, c2⟩ := hc k o ho
      have hcl := costOf_take_le os k
      have E1 : Hid (costOf (os.take (k + 1)) = costOf (os.take k) + (if o.kind = 61 then 0 else 1)) := costOf_take_succ ho
      have hsz := hb.size
      clear hc h ho
      by_cases hkd : o.kind = 61
      · have hkd' : (o.kind == 61) = true := by simp [hkd]
        go_wp2
        go_roundw
        case rel => exact ⟨k + 1, by omega, by go_num, by rw [E1.out, if_pos hkd]; rfl, hb.alloc hsz _⟩
        case measure => simp [intOf]; omega
      · have hkd' : (o.kind == 61) = false := by simp [hkd]
        go_wp2
        go_roundw
        case rel => exact ⟨k + 1, by omega, by go_num, by rw [E1.out, if_neg hkd]; rfl, hb.alloc hsz _⟩
        case measure => simp [intOf]; omega
    · have hge : ¬ (k : Int) < (os.length : Int) := by omega
      obtain rfl : k = os.length := by omega
      go_wp2
      go_ret
      exact ⟨by simp, hb⟩
end Go.Proofs.Ymbrdo
