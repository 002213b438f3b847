/-
  THE WALK OF LawS930020FExact.
-/
import Derived.Test.YmbrdnFTable
import Derived.Test.YmbrdnLater
namespace Go.Proofs.Ymbrdn
open Go.ChangeShapes Go.WideShapes Go.ChangeAt Go.RowKit

set_option linter.unusedVariables false in
theorem fexact_walk (a : Option Addr) (ca : Nat) (x : List Int) (b : Option Addr) (cb : Nat) (y : List Int) (w : World) (hx : Row w a (bytesC x)) (bx : ∀ z ∈ x, (Lit.int .u8 z).wf = true) (nx : a = none → x.length = 0 ∧ ca = 0)
    (hy : Row w b (bytesC y)) (bya : ∀ z ∈ y, (Lit.int .u8 z).wf = true) (ny : b = none → y.length = 0 ∧ cb = 0) :
    Calls Ydnm.prog 6 #[.slice a x.length ca, .slice b y.length cb] w fun e w' => e = .returned (.bool true) ∧ Below w.heap.size w w' := by
  clear bx bya nx ny
  by_cases h1 : 256 < x.length
  · go_enter Ydnm.func6, Ydnm.ntmps6
    go_wp2
    go_ret
    exact ⟨rfl, Below.refl _ _⟩
  by_cases h2 : 256 < y.length
  · go_enter Ydnm.func6, Ydnm.ntmps6
    go_wp2
    go_ret
    exact ⟨rfl, Below.refl _ _⟩
  obtain ⟨d, hd⟩ : ∃ d, d = dp x y x.length y.length := ⟨_, rfl⟩
  have D1 : Hid (∀ w', Row w' a (bytesC x) → Row w' b (bytesC y) → Calls Ydnm.prog 22 #[.slice a x.length ca, .slice b y.length cb] w' fun e w'' => e = .returned (.int .i64 d) ∧ Below w'.heap.size w' w'') := fun w' h h' => by
    rw [hd]; exact distance_calls a b ca cb x y w' h h' (by omega) (by omega)
  have D2 : Hid (∀ w', Row w' a (bytesC x) → Row w' b (bytesC y) → Calls Ydnm.prog 23 #[.slice a x.length ca, .slice b y.length cb] w' fun e w'' => e = .returned (.int .i64 d) ∧ Below w'.heap.size w' w'') := fun w' h h' => by
    rw [hd, dp_symm x y x.length y.length (Nat.le_refl _) (Nat.le_refl _)]; exact ftable_calls a b ca cb x y w' h h' (by omega) (by omega)
  clear hd
  go_enter Ydnm.func6, Ydnm.ntmps6
  go_wp2_with fail
  refine (D1.out w hx hy).mono ?_
  rintro e w1 ⟨rfl, b1⟩
  go_wp2_with fail
  refine (D2.out w1 (hx.below b1 (Nat.le_refl _)) (hy.below b1 (Nat.le_refl _))).mono ?_
  rintro e w2 ⟨rfl, b2⟩
  go_wp2
  go_ret
  exact ⟨by simp, b1.trans (b2.mono b1.size)⟩
end Go.Proofs.Ymbrdn
