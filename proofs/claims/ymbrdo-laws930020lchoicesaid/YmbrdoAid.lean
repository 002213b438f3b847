/-
  SMALL LAWS ON NEW BLOCKS AND OWNED ROWS.
-/
import Derived.Test.YmbrdoBuild
namespace Go.Proofs.Ymbrdo
open Go.ChangeShapes Go.WideShapes Go.ChangeAt Go.RowKit

theorem own_keep {w w' : World} {base e size n : Nat} {v : Value} {xs : List Value} (h : w.ownsRow base e size v n xs) (hb : Below w.heap.size w w') : w'.ownsRow base e size v n xs :=
  h.kept (row := none) ⟨hb.os, hb.tape, hb.output, hb.size, fun k hk _ => hb.block k hk⟩ (by cases hv : v.ownBlock <;> simp)
theorem own_val {w : World} {base e size n : Nat} {v : Value} {xs : List Value} (h : w.ownsRow base e size v n xs) : ∃ a cap, v = .slice a n cap := by
  rcases h.2 with ⟨h1, h2⟩ | ⟨g, cap, cur, h1, _⟩
  · exact ⟨none, 0, by rw [h1, h2]⟩
  · exact ⟨_, cap, h1⟩
theorem al_old {w : World} {p : Addr} {v : Value} (o : Obj) (h : w.cell? p = some v) : (w.alloc o).cell? p = some v := by
  rw [World.cell?_of_block (Below.heap_alloc w o p.block (World.block_lt_of_cell? w _ h))]; exact h
theorem al_new (w : World) {cs : Array Value} (e : Nat) {j : Nat} {v : Value} (h : cs[j]? = some v) : (w.alloc (.cells cs e)).cell? ⟨w.heap.size, j, none⟩ = some v := by
  rw [World.cell?_alloc_new]; exact h
theorem op_cells1 (w : World) (e : Nat) (k x y : Int) : ∀ j u, (opsC [⟨k, x, y⟩])[j]? = some u → (w.alloc (.cells #[.int .u8 k, .int .u8 x, .int .u8 y] e)).cell? ((⟨w.heap.size, 0, none⟩ : Addr).add j) = some u := by
  intro j u hj
  rw [Addr.add_lit]
  match j, hj with
  | 0, hj => simp [opsC] at hj; subst hj; simp
  | 1, hj => simp [opsC] at hj; subst hj; simp
  | 2, hj => simp [opsC] at hj; subst hj; simp
  | j + 3, hj => simp [opsC] at hj
theorem op_one1 (k x y : Int) : ∀ u ∈ opsC [⟨k, x, y⟩], u.oneCell' = true := by
  intro u hu
  simp [opsC] at hu
  rcases hu with rfl | rfl | rfl <;> rfl
theorem byte_cells1 (w : World) (e : Nat) (x : Int) : ∀ j u, (bytesC [x])[j]? = some u → (w.alloc (.cells #[.int .u8 x] e)).cell? ((⟨w.heap.size, 0, none⟩ : Addr).add j) = some u := by
  intro j u hj
  rw [Addr.add_lit]
  match j, hj with
  | 0, hj => simp [bytesC] at hj; subst hj; simp
  | j + 1, hj => simp [bytesC] at hj
theorem byte_one1 (zs : List Int) : ∀ u ∈ bytesC zs, u.oneCell' = true := by
  intro u hu
  obtain ⟨z, _, rfl⟩ := List.mem_map.1 hu
  rfl
theorem Row.below' {w w' : World} {a : Option Addr} {cs : List Value} (h : Row w a cs) (hb : Below w.heap.size w w') : Row w' a cs := h.below hb (Nat.le_refl _)
theorem bytesC_append (a b : List Int) : bytesC (a ++ b) = bytesC a ++ bytesC b := by simp [bytesC]
end Go.Proofs.Ymbrdo
