/-
  THE WALKS OF LawS930020AExact, LawS930020ABounds.
-/
import Derived.Test.YmbrdmWithin
import Derived.Test.YmbrdmFSame
namespace Go.Proofs.Ymbrdm
open Go.ChangeShapes Go.WideShapes Go.ChangeAt Go.RowKit

set_option linter.unusedVariables false in
theorem aexact_walk (a : Option Addr) (ca : Nat) (x : List Int) (b : Option Addr) (cb : Nat) (y : List Int) (lim : Int) (w : World) (hx : Row w a (bytesC x)) (bx : ∀ z ∈ x, (Lit.int .u8 z).wf = true) (nx : a = none → x.length = 0 ∧ ca = 0)
    (hy : Row w b (bytesC y)) (bya : ∀ z ∈ y, (Lit.int .u8 z).wf = true) (ny : b = none → y.length = 0 ∧ cb = 0) (wl : (Lit.int .i64 lim).wf = true) :
    Calls Ydmm.prog 3 #[.slice a x.length ca, .slice b y.length cb, .int .i64 lim] w fun e w' => e = .returned (.bool true) ∧ Below w.heap.size w w' := by
  clear bx bya nx ny wl
  by_cases h1 : 256 < x.length
  · go_enter Ydmm.func3, Ydmm.ntmps3
    go_wp2
    go_ret
    exact ⟨rfl, Below.refl _ _⟩
  by_cases h2 : 256 < y.length
  · go_enter Ydmm.func3, Ydmm.ntmps3
    go_wp2
    go_ret
    exact ⟨rfl, Below.refl _ _⟩
  obtain ⟨d, hd⟩ : ∃ d, d = dp x y x.length y.length := ⟨_, rfl⟩
  have D1 : Hid (Calls Ydmm.prog 15 #[.slice a x.length ca, .slice b y.length cb] w fun e w'' => e = .returned (.int .i64 d) ∧ Below w.heap.size w w'') := by
    show Calls Ydmm.prog 15 #[.slice a x.length ca, .slice b y.length cb] w fun e w'' => e = .returned (.int .i64 d) ∧ Below w.heap.size w w''
    rw [hd]; exact adist_calls a b ca cb x y w hx hy (by omega) (by omega)
  have W1 : Hid (∀ w' l, Row w' a (bytesC x) → Row w' b (bytesC y) → Calls Ydmm.prog 16 #[.slice a x.length ca, .slice b y.length cb, .int .i64 l] w' fun e w'' => e = .returned (.bool (decide (d ≤ l))) ∧ Below w'.heap.size w' w'') := fun w' l h h' => by
    rw [hd]; exact within_calls a b ca cb x y l w' h h' (by omega) (by omega)
  have g1 := dp_nonneg x y x.length y.length
  have g2 := dp_le x y x.length y.length
  rw [← hd] at g1 g2
  have g3 : d ≤ 256 := by omega
  clear hd g2
  go_enter Ydmm.func3, Ydmm.ntmps3
  go_wp2_with fail
  refine D1.out.mono ?_
  rintro e w1 ⟨rfl, b1⟩
  go_wp2_with fail
  refine (W1.out w1 lim (hx.below b1 (Nat.le_refl _)) (hy.below b1 (Nat.le_refl _))).mono ?_
  rintro e w2 ⟨rfl, b2⟩
  have B2 : Below w.heap.size w w2 := b1.trans (b2.mono b1.size)
  clear b1 b2 D1
  go_wp2_with fail
  refine (W1.out w2 d (hx.below B2 (Nat.le_refl _)) (hy.below B2 (Nat.le_refl _))).mono ?_
  rintro e w3 ⟨rfl, b3⟩
  have B3 : Below w.heap.size w w3 := B2.trans (b3.mono B2.size)
  have e1 : decide (d ≤ d) = true := decide_eq_true (Int.le_refl _)
  rw [e1]
  clear b3 B2 e1
  go_wp2_with fail
  refine (W1.out w3 (d - 1) (hx.below B3 (Nat.le_refl _)) (hy.below B3 (Nat.le_refl _))).mono ?_
  rintro e w4 ⟨rfl, b4⟩
  have B4 : Below w.heap.size w w4 := B3.trans (b4.mono B3.size)
  have e1 : decide (d ≤ d - 1) = false := decide_eq_false (by omega)
  rw [e1]
  clear b4 B3 e1 W1 hx hy
  go_wp2
  go_ret
  exact ⟨rfl, B4⟩

set_option linter.unusedVariables false in
theorem abounds_walk (a : Option Addr) (ca : Nat) (x : List Int) (b : Option Addr) (cb : Nat) (y : List Int) (w : World) (hx : Row w a (bytesC x)) (bx : ∀ z ∈ x, (Lit.int .u8 z).wf = true) (nx : a = none → x.length = 0 ∧ ca = 0)
    (hy : Row w b (bytesC y)) (bya : ∀ z ∈ y, (Lit.int .u8 z).wf = true) (ny : b = none → y.length = 0 ∧ cb = 0) :
    Calls Ydmm.prog 4 #[.slice a x.length ca, .slice b y.length cb] w fun e w' => e = .returned (.bool true) ∧ Below w.heap.size w w' := by
  clear bx bya nx ny
  by_cases h1 : 1024 < x.length
  · go_enter Ydmm.func4, Ydmm.ntmps4
    go_wp2
    go_ret
    exact ⟨rfl, Below.refl _ _⟩
  by_cases h2 : 1024 < y.length
  · go_enter Ydmm.func4, Ydmm.ntmps4
    go_wp2
    go_ret
    exact ⟨rfl, Below.refl _ _⟩
  obtain ⟨d, hd⟩ : ∃ d, d = dp x y x.length y.length := ⟨_, rfl⟩
  have W0 : Hid (∀ w', Row w' a (bytesC x) → Calls Ydmm.prog 16 #[.slice a x.length ca, .slice a x.length ca, .int .i64 0] w' fun e w'' => e = .returned (.bool true) ∧ Below w'.heap.size w' w'') := fun w' h => by
    have := within_calls a a ca ca x x 0 w' h h (by omega) (by omega)
    rwa [(dp_eq_zero x x).2 rfl] at this
  have W1 : Hid (∀ w' l, Row w' a (bytesC x) → Row w' b (bytesC y) → Calls Ydmm.prog 16 #[.slice a x.length ca, .slice b y.length cb, .int .i64 l] w' fun e w'' => e = .returned (.bool (decide (d ≤ l))) ∧ Below w'.heap.size w' w'') := fun w' l h h' => by
    rw [hd]; exact within_calls a b ca cb x y l w' h h' (by omega) (by omega)
  have g0 := dp_nonneg x y x.length y.length
  have g1 := dp_ge x y x.length y.length
  have g2 := dp_le x y x.length y.length
  rw [← hd] at g0 g1 g2
  have t1 : (x == y) = decide (d ≤ 0) := by
    rw [Bool.eq_iff_iff, beq_iff_eq, decide_eq_true_eq, ← dp_eq_zero x y, ← hd]
    omega
  have S1 : Hid (∀ w', Row w' a (bytesC x) → Row w' b (bytesC y) → Calls Ydmm.prog 17 #[.slice a x.length ca, .slice b y.length cb] w' fun e w'' => e = .returned (.bool (decide (d ≤ 0))) ∧ Below w'.heap.size w' w'') := fun w' h h' => by
    rw [← t1]; exact samebytes_calls a b ca cb x y w' h h' (by omega)
  clear hd t1
  go_enter Ydmm.func4, Ydmm.ntmps4
  go_wp2_with fail
  refine (W0.out w hx).mono ?_
  rintro e w1 ⟨rfl, b1⟩
  go_wp2_with fail
  refine (W1.out w1 0 (hx.below b1 (Nat.le_refl _)) (hy.below b1 (Nat.le_refl _))).mono ?_
  rintro e w2 ⟨rfl, b2⟩
  have B2 : Below w.heap.size w w2 := b1.trans (b2.mono b1.size)
  clear b1 b2 W0
  go_wp2_with fail
  refine (S1.out w2 (hx.below B2 (Nat.le_refl _)) (hy.below B2 (Nat.le_refl _))).mono ?_
  rintro e w3 ⟨rfl, b3⟩
  have B3 : Below w.heap.size w w3 := B2.trans (b3.mono B2.size)
  clear b3 B2 S1
  by_cases h3 : x.length < y.length
  · have j1 : (x.length : Int) < (y.length : Int) := by omega
    have e1 : decide (d ≤ (y.length : Int)) = true := decide_eq_true (by omega)
    have e2 : decide (d ≤ (y.length : Int) - (x.length : Int) - 1) = false := decide_eq_false (by omega)
    have E1 : Hid (decide (d ≤ (y.length : Int)) = true) := e1
    have E2 : Hid (decide (d ≤ (y.length : Int) - (x.length : Int) - 1) = false) := e2
    clear g1 g2 e1 e2
    go_wp2_with fail
    refine (W1.out w3 (y.length : Int) (hx.below B3 (Nat.le_refl _)) (hy.below B3 (Nat.le_refl _))).mono ?_
    rintro e w4 ⟨rfl, b4⟩
    have B4 : Below w.heap.size w w4 := B3.trans (b4.mono B3.size)
    rw [E1.out]
    go_wp2_with fail
    refine (W1.out w4 ((y.length : Int) - (x.length : Int) - 1) (hx.below B4 (Nat.le_refl _)) (hy.below B4 (Nat.le_refl _))).mono ?_
    rintro e w5 ⟨rfl, b5⟩
    rw [E2.out]
    go_wp2
    go_ret
    exact ⟨rfl, B4.trans (b5.mono B4.size)⟩
  · have j1 : ¬ (x.length : Int) < (y.length : Int) := by omega
    have e1 : decide (d ≤ (x.length : Int)) = true := decide_eq_true (by omega)
    have e2 : decide (d ≤ (x.length : Int) - (y.length : Int) - 1) = false := decide_eq_false (by omega)
    have E1 : Hid (decide (d ≤ (x.length : Int)) = true) := e1
    have E2 : Hid (decide (d ≤ (x.length : Int) - (y.length : Int) - 1) = false) := e2
    clear g1 g2 e1 e2
    go_wp2_with fail
    refine (W1.out w3 (x.length : Int) (hx.below B3 (Nat.le_refl _)) (hy.below B3 (Nat.le_refl _))).mono ?_
    rintro e w4 ⟨rfl, b4⟩
    have B4 : Below w.heap.size w w4 := B3.trans (b4.mono B3.size)
    rw [E1.out]
    go_wp2_with fail
    refine (W1.out w4 ((x.length : Int) - (y.length : Int) - 1) (hx.below B4 (Nat.le_refl _)) (hy.below B4 (Nat.le_refl _))).mono ?_
    rintro e w5 ⟨rfl, b5⟩
    rw [E2.out]
    go_wp2
    go_ret
    exact ⟨rfl, B4.trans (b5.mono B4.size)⟩
end Go.Proofs.Ymbrdm
