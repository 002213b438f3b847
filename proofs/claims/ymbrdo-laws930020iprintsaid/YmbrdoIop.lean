/-
  THE WALK OF zzs930020iop: it answers some op of three bytes.
-/
import Derived.Test.YmbrdoBuild
namespace Go.Proofs.Ymbrdo
open Go.ChangeShapes Go.WideShapes Go.ChangeAt Go.RowKit

theorem opOk_mk {k x y : Int} (h1 : 0 ≤ k ∧ k ≤ 255) (h2 : 0 ≤ x ∧ x ≤ 255) (h3 : 0 ≤ y ∧ y ≤ 255) : OpOk ⟨k, x, y⟩ := ⟨h1, h2, h3⟩

/-- Some op of three bytes comes back. -/
def RetOp (w : World) (e : Ending) (w' : World) : Prop :=
  ∃ k x y : Int, e = .returned (.agg #[.int .u8 k, .int .u8 x, .int .u8 y]) ∧ OpOk ⟨k, x, y⟩ ∧ Below w.heap.size w w'

set_option maxHeartbeats 4000000 in
theorem iop_calls (sel raw shape x y : Int) (w : World) (h0 : 0 ≤ sel ∧ sel ≤ 255) (h1 : 0 ≤ raw ∧ raw ≤ 255) (h2 : 0 ≤ shape ∧ shape ≤ 255) (h3 : 0 ≤ x ∧ x ≤ 255) (h4 : 0 ≤ y ∧ y ≤ 255) :
    Calls Ydom.prog 15 #[.int .u8 sel, .int .u8 raw, .int .u8 shape, .int .u8 x, .int .u8 y] w (RetOp w) := by
  go_enter Ydom.func15, Ydom.ntmps15
  go_wp2
  all_goals go_returns
  all_goals exact ⟨_, _, _, rfl, opOk_mk (by omega) (by omega) (by omega), by go_grown⟩
end Go.Proofs.Ymbrdo
