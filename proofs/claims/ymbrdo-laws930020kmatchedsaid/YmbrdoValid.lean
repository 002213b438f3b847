/-
  THE WALK OF (Op).Valid.
-/
import Derived.Test.YmbrdoPlain
namespace Go.Proofs.Ymbrdo
open Go.ChangeShapes Go.WideShapes Go.ChangeAt Go.RowKit

theorem valid_calls (k x y : Int) (w : World) :
    Calls Ydom.prog 17 #[.agg #[.int .u8 k, .int .u8 x, .int .u8 y]] w fun e w' => e = .returned (.bool (validT ⟨k, x, y⟩)) ∧ Below w.heap.size w w' := by
  by_cases h1 : k = 61
  · subst h1
    go_enter Ydom.func17, Ydom.ntmps17
    go_wp2
    go_ret
    exact ⟨by simp [validT], by go_grown⟩
  · have t1 : (k == 61) = false := by simp [h1]
    by_cases h2 : k = 126
    · subst h2
      clear t1 h1
      go_enter Ydom.func17, Ydom.ntmps17
      go_wp2
      go_ret
      exact ⟨by simp [validT, bne], by go_grown⟩
    · have t2 : (k == 126) = false := by simp [h2]
      by_cases h3 : k = 43
      · subst h3
        clear t1 t2 h1 h2
        go_enter Ydom.func17, Ydom.ntmps17
        go_wp2
        go_ret
        exact ⟨by simp [validT], by go_grown⟩
      · have t3 : (k == 43) = false := by simp [h3]
        by_cases h4 : k = 45
        · subst h4
          clear t1 t2 t3 h1 h2 h3
          go_enter Ydom.func17, Ydom.ntmps17
          go_wp2
          go_ret
          exact ⟨by simp [validT], by go_grown⟩
        · have t4 : (k == 45) = false := by simp [h4]
          have e : validT ⟨k, x, y⟩ = false := by simp [validT, h1, h2, h3, h4]
          rw [e]
          clear h1 h2 h3 h4 e
          go_enter Ydom.func17, Ydom.ntmps17
          go_wp2
          go_ret
          exact ⟨rfl, by go_grown⟩
end Go.Proofs.Ymbrdo
