/-
  WHAT A BUILDER OF OPS LEAVES; one store of an op in a round.
-/
import Derived.Test.YmbrdoPlain
namespace Go.Proofs.Ymbrdo
open Go.ChangeShapes Go.WideShapes Go.ChangeAt Go.RowKit

theorem infoOp : (Ydom.prog.info? 23).map (fun i => (i.zero, i.size, i.bytes)) = some (some (.agg #[.int .u8 0, .int .u8 0, .int .u8 0]), 3, 3) := by kernel_rfl
theorem infoU8 : (Ydom.prog.info? 5).map (fun i => (i.zero, i.size, i.bytes)) = some (some (.int .u8 0), 1, 1) := by kernel_rfl
theorem infoInt : (Ydom.prog.info? 3).map (fun i => (i.zero, i.size, i.bytes)) = some (some (.int .i64 0), 1, 8) := by kernel_rfl

/-- A slice of ops comes back; nothing that was there has turned. -/
def RetOps (w : World) (os : List OpT) (e : Ending) (w' : World) : Prop :=
  ∃ a cap, e = .returned (.slice a os.length cap) ∧ os.length ≤ cap ∧ Row w' a (opsC os) ∧ Below w.heap.size w w'

/-- A slice of ops in new memory comes back, which may be written. -/
def RetOwnOps (w : World) (os : List OpT) (e : Ending) (w' : World) : Prop :=
  ∃ g cap, e = .returned (.slice (some ⟨g, 0, none⟩) os.length cap) ∧ w'.ownsRow w.heap.size 23 3 (.slice (some ⟨g, 0, none⟩) os.length cap) os.length (opsC os) ∧ Below w.heap.size w w'

/-- A slice of bytes comes back. -/
def RetBytes (w : World) (zs : List Int) (e : Ending) (w' : World) : Prop :=
  ∃ a cap, e = .returned (.slice a zs.length cap) ∧ Row w' a (bytesC zs) ∧ Below w.heap.size w w'

/-- The round's content: the first k places hold what they shall. -/
def Upto (f : Nat → Option OpT) (k : Nat) (qs : List OpT) : Prop := ∀ j, j < k → qs[j]? = f j

theorem upto_step {f : Nat → Option OpT} {k : Nat} {qs : List OpT} {o : OpT} (h : Upto f k qs) (hk : k < qs.length) (ho : f k = some o) : Upto f (k + 1) (qs.set k o) := by
  intro j hj
  by_cases hjk : j = k
  · subst hjk
    rw [List.getElem?_set_self hk, ho]
  · rw [List.getElem?_set_ne (by omega)]
    exact h j (by omega)

theorem upto_zero (f : Nat → Option OpT) (qs : List OpT) : Upto f 0 qs := fun _ h => absurd h (Nat.not_lt_zero _)

theorem upto_done {os : List OpT} {qs : List OpT} (h : Upto (fun j => os[j]?) os.length qs) (hl : qs.length = os.length) : qs = os := by
  apply List.ext_getElem?
  intro j
  by_cases hj : j < os.length
  · exact h j hj
  · rw [List.getElem?_eq_none (by omega), List.getElem?_eq_none (by omega)]

end Go.Proofs.Ymbrdo
