/-
  THE WALK OF LawS930020IInvert.
-/
import Derived.Test.YmbrdoIop
import Derived.Test.YmbrdoInvert
import Derived.Test.YmbrdoValid
import Derived.Test.YmbrdoLater
namespace Go.Proofs.Ymbrdo
open Go.ChangeShapes Go.WideShapes Go.ChangeAt Go.RowKit

set_option maxHeartbeats 1000000 in
theorem iinv_walk (a0 a1 a2 a3 a4 : Int) (w : World) (w0 : (Lit.int .u8 a0).wf = true) (w1 : (Lit.int .u8 a1).wf = true) (w2 : (Lit.int .u8 a2).wf = true) (w3 : (Lit.int .u8 a3).wf = true) (w4 : (Lit.int .u8 a4).wf = true) :
    Calls Ydom.prog 4 #[.int .u8 a0, .int .u8 a1, .int .u8 a2, .int .u8 a3, .int .u8 a4] w fun e w' => e = .returned (.bool true) ∧ Below w.heap.size w w' := by
  go_enter Ydom.func4, Ydom.ntmps4
  go_wp2_with fail
  refine (iop_calls a0 a1 a2 a3 a4 w (bounds_u8 w0) (bounds_u8 w1) (bounds_u8 w2) (bounds_u8 w3) (bounds_u8 w4)).mono ?_
  rintro e v1 ⟨k, x, y, rfl, -, b1⟩
  clear w0 w1 w2 w3 w4
  go_wp2_with fail
  obtain ⟨v2, hv2⟩ : ∃ v2, v2 = (v1.alloc (Obj.cells #[Value.int IntKind.u8 k, Value.int IntKind.u8 x, Value.int IntKind.u8 y] 23)).alloc (Obj.cells #[Value.int IntKind.u8 k, Value.int IntKind.u8 x, Value.int IntKind.u8 y] 23) := ⟨_, rfl⟩
  rw [← hv2]
  have c0 : v2.cell? ⟨v1.heap.size, 0, none⟩ = some (.int .u8 k) := by rw [hv2]; simp
  have c1 : v2.cell? ⟨v1.heap.size, 1, none⟩ = some (.int .u8 x) := by rw [hv2]; simp
  have c2 : v2.cell? ⟨v1.heap.size, 2, none⟩ = some (.int .u8 y) := by rw [hv2]; simp
  have r2 : Row v2 (some ⟨v1.heap.size + 1, 0, none⟩) (opsC [⟨k, x, y⟩]) := by
    refine .inr ⟨_, _, rfl, fun j v hj => ?_⟩
    match j, hj with
    | 0, hj => simp [opsC] at hj; subst hj; rw [hv2]; simp
    | 1, hj => simp [opsC] at hj; subst hj; rw [hv2]; simp
    | 2, hj => simp [opsC] at hj; subst hj; rw [hv2]; simp
    | j + 3, hj => simp [opsC] at hj
  have b2 : Below w.heap.size w v2 := by rw [hv2]; exact (b1.alloc b1.size _).alloc (by simp; have := b1.size; omega) _
  clear hv2 b1
  refine (invert_calls (some ⟨v1.heap.size + 1, 0, none⟩) 1 [⟨k, x, y⟩] v2 r2 (by simp)).mono ?_
  rintro e v3 ⟨g, rfl, ho, b3⟩
  obtain ⟨⟨k', x', y'⟩, ho'⟩ : ∃ o, o = invT ⟨k, x, y⟩ := ⟨_, rfl⟩
  have hvv : validT ⟨k', x', y'⟩ = validT ⟨k, x, y⟩ := by rw [ho', valid_inv]
  simp only [List.map_cons, List.map_nil, ← ho'] at ho
  obtain ⟨g0, g1, g2⟩ := own_ops_cells ho (k := 0) (o := ⟨k', x', y'⟩) rfl
  have d0 : v3.cell? ⟨v1.heap.size, 0, none⟩ = some (.int .u8 k) := by rw [b3.cell (World.block_lt_of_cell? v2 _ c0)]; exact c0
  have d1 : v3.cell? ⟨v1.heap.size, 1, none⟩ = some (.int .u8 x) := by rw [b3.cell (World.block_lt_of_cell? v2 _ c1)]; exact c1
  have d2 : v3.cell? ⟨v1.heap.size, 2, none⟩ = some (.int .u8 y) := by rw [b3.cell (World.block_lt_of_cell? v2 _ c2)]; exact c2
  have q0 := Later.cell d0
  have q1 := Later.cell d1
  have q2 := Later.cell d2
  have p0 := Later.cell g0
  have p1 := Later.cell g1
  have p2 := Later.cell g2
  simp only [Nat.zero_mul, Nat.zero_add] at p0 p1 p2
  have b4 : Below w.heap.size w v3 := b2.trans (b3.mono b2.size)
  have hne : Nonempty (Later v3) := ⟨⟨v3, Below.refl _ _⟩⟩
  have V1 : Hid (∀ w', Calls Ydom.prog 17 #[.agg #[.int .u8 k', .int .u8 x', .int .u8 y']] w' fun e w'' => e = .returned (.bool (validT ⟨k, x, y⟩)) ∧ Below w'.heap.size w' w'') := fun w' => by
    rw [← hvv]; exact valid_calls k' x' y' w'
  clear hvv ho' ho g0 g1 g2 d0 d1 d2 c0 c1 c2 r2 b2 b3
  go_wp2_with fail
  refine wp_region_later (by kernel_rfl) (by kernel_rfl) ?_
  repeat (go_big_quiet_step (first
    | (go_at_call_of 17 k'; exact calls_later (V1.out _))
    | (go_at_call 17; exact calls_later (valid_calls _ _ _ _))))
  refine wpQuiet_nil ?_
  rintro _ ⟨q, rfl⟩
  go_wp2
  go_ret
  exact ⟨by simp, b4.trans (q.below.mono b4.size)⟩
end Go.Proofs.Ymbrdo
