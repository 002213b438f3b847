/-
  THE WALK OF pair.
-/
import Derived.Test.YmbrdoPlain
namespace Go.Proofs.Ymbrdo
open Go.ChangeShapes Go.WideShapes Go.ChangeAt Go.RowKit

theorem pair_calls (x y : Int) (w : World) :
    Calls Ydom.prog 16 #[.int .u8 x, .int .u8 y] w fun e w' => e = .returned (.agg #[.int .u8 (pairT x y).kind, .int .u8 x, .int .u8 y]) ∧
      w' = w.alloc (.cells #[.int .u8 (pairT x y).kind, .int .u8 x, .int .u8 y] 23) := by
  by_cases h : x = y
  · have e : (pairT x y).kind = 61 := by simp [pairT, h]
    have t : (x == y) = true := by simp [h]
    rw [e]
    clear h e
    go_enter Ydom.func16, Ydom.ntmps16
    go_wp2
    go_returns
    exact ⟨rfl, rfl⟩
  · have e : (pairT x y).kind = 126 := by simp [pairT, h]
    have t : (x == y) = false := by simp [h]
    rw [e]
    clear h e
    go_enter Ydom.func16, Ydom.ntmps16
    go_wp2
    go_returns
    exact ⟨rfl, rfl⟩
end Go.Proofs.Ymbrdo
