/-
  THE WALK OF LawS930020FMetric.
-/
import Derived.Test.YmbrdnDistance
import Derived.Test.YmbrdnFSame
namespace Go.Proofs.Ymbrdn
open Go.ChangeShapes Go.WideShapes Go.ChangeAt Go.RowKit

set_option linter.unusedVariables false in
theorem fmetric_walk (a : Option Addr) (ca : Nat) (x : List Int) (b : Option Addr) (cb : Nat) (y : List Int) (w : World) (hx : Row w a (bytesC x)) (bx : ∀ z ∈ x, (Lit.int .u8 z).wf = true) (nx : a = none → x.length = 0 ∧ ca = 0)
    (hy : Row w b (bytesC y)) (bya : ∀ z ∈ y, (Lit.int .u8 z).wf = true) (ny : b = none → y.length = 0 ∧ cb = 0) :
    Calls Ydnm.prog 8 #[.slice a x.length ca, .slice b y.length cb] w fun e w' => e = .returned (.bool true) ∧ Below w.heap.size w w' := by
  clear bx bya nx ny
  by_cases h1 : 256 < x.length
  · go_enter Ydnm.func8, Ydnm.ntmps8
    go_wp2
    go_ret
    exact ⟨rfl, Below.refl _ _⟩
  by_cases h2 : 256 < y.length
  · go_enter Ydnm.func8, Ydnm.ntmps8
    go_wp2
    go_ret
    exact ⟨rfl, Below.refl _ _⟩
  obtain ⟨d, hd⟩ : ∃ d, d = dp x y x.length y.length := ⟨_, rfl⟩
  have D1 : Hid (∀ w', Row w' a (bytesC x) → Row w' b (bytesC y) → Calls Ydnm.prog 22 #[.slice a x.length ca, .slice b y.length cb] w' fun e w'' => e = .returned (.int .i64 d) ∧ Below w'.heap.size w' w'') := fun w' h h' => by
    rw [hd]; exact distance_calls a b ca cb x y w' h h' (by omega) (by omega)
  have D2 : Hid (∀ w', Row w' a (bytesC x) → Row w' b (bytesC y) → Calls Ydnm.prog 22 #[.slice b y.length cb, .slice a x.length ca] w' fun e w'' => e = .returned (.int .i64 d) ∧ Below w'.heap.size w' w'') := fun w' h h' => by
    rw [hd, dp_symm x y x.length y.length (Nat.le_refl _) (Nat.le_refl _)]; exact distance_calls b a cb ca y x w' h' h (by omega) (by omega)
  have t1 : (x == y) = (d == 0) := by
    rw [Bool.eq_iff_iff, beq_iff_eq, beq_iff_eq, hd]
    exact (dp_eq_zero x y).symm
  have S1 : Hid (∀ w', Row w' a (bytesC x) → Row w' b (bytesC y) → Calls Ydnm.prog 24 #[.slice a x.length ca, .slice b y.length cb] w' fun e w'' => e = .returned (.bool (d == 0)) ∧ Below w'.heap.size w' w'') := fun w' h h' => by
    rw [← t1]; exact samebytes_calls a b ca cb x y w' h h' (by omega)
  have g1 := dp_ge x y x.length y.length
  have g2 := dp_le x y x.length y.length
  rw [← hd] at g1 g2
  clear hd t1
  go_enter Ydnm.func8, Ydnm.ntmps8
  go_wp2_with fail
  refine (D1.out w hx hy).mono ?_
  rintro e w1 ⟨rfl, b1⟩
  go_wp2_with fail
  refine (D2.out w1 (hx.below b1 (Nat.le_refl _)) (hy.below b1 (Nat.le_refl _))).mono ?_
  rintro e w2 ⟨rfl, b2⟩
  have B2 : Below w.heap.size w w2 := b1.trans (b2.mono b1.size)
  clear b1 b2
  go_wp2_with fail
  refine (S1.out w2 (hx.below B2 (Nat.le_refl _)) (hy.below B2 (Nat.le_refl _))).mono ?_
  rintro e w3 ⟨rfl, b3⟩
  have B3 : Below w.heap.size w w3 := B2.trans (b3.mono B2.size)
  clear b3 B2 hx hy D1 D2 S1
  by_cases h3 : x.length < y.length
  · have j1 : (x.length : Int) < (y.length : Int) := by omega
    have j2 : (y.length : Int) - (x.length : Int) ≤ d := by omega
    have j3 : d ≤ (y.length : Int) := by omega
    clear g1 g2
    go_wp2
    go_ret
    exact ⟨by simp, B3⟩
  · have j1 : ¬ (x.length : Int) < (y.length : Int) := by omega
    have j2 : (x.length : Int) - (y.length : Int) ≤ d := by omega
    have j3 : d ≤ (x.length : Int) := by omega
    clear g1 g2
    go_wp2
    go_ret
    exact ⟨by simp, B3⟩
end Go.Proofs.Ymbrdn
