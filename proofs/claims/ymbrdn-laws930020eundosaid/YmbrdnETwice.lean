/-
  THE WALK OF LawS930020ETwice.
-/
import Derived.Test.YmbrdnEBuild
import Derived.Test.YmbrdnInvert
import Derived.Test.YmbrdnESame
namespace Go.Proofs.Ymbrdn
open Go.ChangeShapes Go.WideShapes Go.ChangeAt Go.RowKit

theorem invert_ops (a : Option Addr) (cap : Nat) (os inv : List OpT) (hinv : inv = os.map invT) (w : World) (h : Row w a (opsC os)) (hl : os.length ≤ 1048576) :
    Calls Ydnm.prog 16 #[.slice a os.length cap] w (RetOps w inv) := by
  have hil : inv.length = os.length := by rw [hinv, List.length_map]
  refine (invert_calls a cap os w h hl).mono ?_
  rintro e w'' ⟨g, rfl, ho, hb⟩
  refine ⟨some ⟨g, 0, none⟩, os.length, by rw [hil], by omega, ?_, hb⟩
  rw [hinv]
  exact row_of_own ho

theorem etwice_walk (a : Option Addr) (cap : Nat) (sts : List St4) (w : World) (h : Row w a (st4C sts)) (hok : ∀ z ∈ sts, St4Ok z) (hnil : a = none → sts.length = 0 ∧ cap = 0) :
    Calls Ydnm.prog 4 #[.slice a sts.length cap] w fun e w' => e = .returned (.bool true) ∧ Below w.heap.size w w' := by
  by_cases hbig : 1024 < sts.length
  · go_enter Ydnm.func4, Ydnm.ntmps4
    go_wp2
    go_ret
    exact ⟨rfl, Below.refl _ _⟩
  obtain ⟨os, hos⟩ : ∃ os, os = sts.map eT := ⟨_, rfl⟩
  have hle : os.length ≤ sts.length := by rw [hos]; simp
  have G : Hid (∀ w', Row w' a (st4C sts) → Calls Ydnm.prog 15 #[.slice a sts.length cap] w' (RetFresh w' os)) := fun w' hw => by
    rw [hos]; exact ebuild_calls a cap sts w' hw hok hnil (by omega)
  clear hok hnil hos
  obtain ⟨inv, hinv⟩ : ∃ inv, inv = os.map invT := ⟨_, rfl⟩
  have hil : inv.length ≤ os.length := by rw [hinv]; simp
  have hback : os = inv.map invT := by
    rw [hinv, List.map_map]
    conv => lhs; rw [← List.map_id os]
    exact List.map_congr_left fun o _ => (inv_inv o).symm
  have I1 : Hid (∀ w' a' c', Row w' a' (opsC os) → Calls Ydnm.prog 16 #[.slice a' os.length c'] w' (RetOps w' inv)) := fun w' a' c' hw => invert_ops a' c' os inv hinv w' hw (by omega)
  have I2 : Hid (∀ w' a' c', Row w' a' (opsC inv) → Calls Ydnm.prog 16 #[.slice a' inv.length c'] w' (RetOps w' os)) := fun w' a' c' hw => invert_ops a' c' inv os hback w' hw (by omega)
  clear hinv hback
  go_enter Ydnm.func4, Ydnm.ntmps4
  go_wp2_with fail
  refine (G.out w h).mono ?_
  rintro e w1 ⟨a1, c1, rfl, r1, -, b1⟩
  go_wp2_with fail
  refine (I1.out w1 a1 c1 r1).mono ?_
  rintro e w2 ⟨a2, c2, rfl, -, r2, b2⟩
  go_wp2_with fail
  refine (I2.out w2 a2 c2 r2).mono ?_
  rintro e w3 ⟨a3, c3, rfl, -, r3, b3⟩
  have B3 : Below w.heap.size w w3 := (b1.trans (b2.mono b1.size)).trans (b3.mono (Nat.le_trans b1.size b2.size))
  clear r1 r2 b1 b2 b3
  go_wp2_with fail
  refine (G.out w3 (h.below B3 (Nat.le_refl _))).mono ?_
  rintro e w4 ⟨a4, c4, rfl, r4, -, b4⟩
  go_wp2_with fail
  refine (eequal_same a3 a4 c3 c4 os w4 (r3.below b4 (Nat.le_refl _)) r4 (by omega)).mono ?_
  rintro e w5 ⟨rfl, b5⟩
  go_wp2
  go_ret
  exact ⟨rfl, (B3.trans (b4.mono B3.size)).trans (b5.mono (Nat.le_trans B3.size b4.size))⟩
end Go.Proofs.Ymbrdn
