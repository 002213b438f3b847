/-
  THE WALK OF LawS930020ICanonical.
-/
import Derived.Test.YmbrdoIop
import Derived.Test.YmbrdoPair
import Derived.Test.YmbrdoValid
import Derived.Test.YmbrdoLater
namespace Go.Proofs.Ymbrdo
open Go.ChangeShapes Go.WideShapes Go.ChangeAt Go.RowKit

theorem pair_pure (x y : Int) (w : World) :
    Calls Ydom.prog 16 #[.int .u8 x, .int .u8 y] w fun e w' => e = .returned (.agg #[.int .u8 (pairT x y).kind, .int .u8 x, .int .u8 y]) ∧ Below w.heap.size w w' :=
  (pair_calls x y w).mono fun e w' ⟨he, hw⟩ => ⟨he, by rw [hw]; exact (Below.refl _ _).alloc (Nat.le_refl _) _⟩

theorem ican_cases (k x y p : Int) (hp : p = (pairT x y).kind) :
    ((k == p) = true ∧ validT ⟨k, x, y⟩ = true) ∨
    ((k == p) = false ∧ (k == 43) = true ∧ (x == 0) = true ∧ validT ⟨k, x, y⟩ = true) ∨
    ((k == p) = false ∧ (k == 43) = false ∧ (k == 45) = true ∧ (y == 0) = true ∧ validT ⟨k, x, y⟩ = true) ∨
    ((k == p) = false ∧ (k == 43) = false ∧ (k == 45) = true ∧ (y == 0) = false ∧ validT ⟨k, x, y⟩ = false) ∨
    ((k == p) = false ∧ (k == 43) = true ∧ (x == 0) = false ∧ (k == 45) = false ∧ validT ⟨k, x, y⟩ = false) ∨
    ((k == p) = false ∧ (k == 43) = false ∧ (k == 45) = false ∧ validT ⟨k, x, y⟩ = false) := by
  subst hp
  by_cases h1 : k = 61
  · subst h1
    by_cases hxy : x = y <;> simp [pairT, validT, hxy]
  · by_cases h2 : k = 126
    · subst h2
      by_cases hxy : x = y <;> simp [pairT, validT, hxy]
    · have hk : (k == (pairT x y).kind) = false := by
        simp only [pairT, beq_eq_false_iff_ne]
        split <;> assumption
      generalize (pairT x y).kind = p at hk ⊢
      by_cases h3 : k = 43
      · subst h3
        by_cases hx : x = 0 <;> simp [hk, validT, hx]
      · by_cases h4 : k = 45
        · subst h4
          by_cases hy : y = 0 <;> simp [hk, validT, hy]
        · simp [hk, validT, h1, h2, h3, h4]

set_option maxHeartbeats 1000000 in
theorem ican_walk (a0 a1 a2 a3 a4 : Int) (w : World) (w0 : (Lit.int .u8 a0).wf = true) (w1 : (Lit.int .u8 a1).wf = true) (w2 : (Lit.int .u8 a2).wf = true) (w3 : (Lit.int .u8 a3).wf = true) (w4 : (Lit.int .u8 a4).wf = true) :
    Calls Ydom.prog 3 #[.int .u8 a0, .int .u8 a1, .int .u8 a2, .int .u8 a3, .int .u8 a4] w fun e w' => e = .returned (.bool true) ∧ Below w.heap.size w w' := by
  go_enter Ydom.func3, Ydom.ntmps3
  go_wp2_with fail
  refine (iop_calls a0 a1 a2 a3 a4 w (bounds_u8 w0) (bounds_u8 w1) (bounds_u8 w2) (bounds_u8 w3) (bounds_u8 w4)).mono ?_
  rintro e v1 ⟨k, x, y, rfl, -, b1⟩
  clear w0 w1 w2 w3 w4
  obtain ⟨p, hp⟩ : ∃ p, p = (pairT x y).kind := ⟨_, rfl⟩
  have PP : Hid (∀ w', Calls Ydom.prog 16 #[.int .u8 x, .int .u8 y] w' fun e w'' => e = .returned (.agg #[.int .u8 p, .int .u8 x, .int .u8 y]) ∧ Below w'.heap.size w' w'') := fun w' => by
    rw [hp]; exact pair_pure x y w'
  have hcs := ican_cases k x y p hp
  clear hp
  go_wp2_with fail
  obtain ⟨v2, hv2⟩ : ∃ v2, v2 = v1.alloc (Obj.cells #[Value.int IntKind.u8 k, Value.int IntKind.u8 x, Value.int IntKind.u8 y] 23) := ⟨_, rfl⟩
  rw [← hv2]
  have c0 : v2.cell? ⟨v1.heap.size, 0, none⟩ = some (.int .u8 k) := by rw [hv2]; simp
  have c1 : v2.cell? ⟨v1.heap.size, 1, none⟩ = some (.int .u8 x) := by rw [hv2]; simp
  have c2 : v2.cell? ⟨v1.heap.size, 2, none⟩ = some (.int .u8 y) := by rw [hv2]; simp
  have q0 := Later.cell c0
  have q1 := Later.cell c1
  have q2 := Later.cell c2
  have b2 : Below w.heap.size w v2 := by rw [hv2]; exact b1.alloc b1.size _
  have hne : Nonempty (Later v2) := ⟨⟨v2, Below.refl _ _⟩⟩
  clear hv2 c0 c1 c2 b1
  rcases hcs with ⟨h1, hv⟩ | ⟨h1, h2, h3, hv⟩ | ⟨h1, h2, h3, h4, hv⟩ | ⟨h1, h2, h3, h4, hv⟩ | ⟨h1, h2, h3, h4, hv⟩ | ⟨h1, h2, h3, hv⟩
  all_goals
    refine wp_region_later (by kernel_rfl) (by kernel_rfl) ?_
    repeat (go_big_quiet_step (first | (go_at_call 16; exact calls_later (PP.out _))))
    refine wpQuiet_nil ?_
    rintro _ ⟨q, rfl⟩
    go_wp2_with fail
    refine (valid_calls k x y q.now).mono ?_
    rintro e v3 ⟨rfl, b3⟩
    rw [hv]
    go_wp2
    go_ret
    exact ⟨rfl, (b2.trans (q.below.mono b2.size)).trans (b3.mono (Nat.le_trans b2.size q.below.size))⟩
end Go.Proofs.Ymbrdo
