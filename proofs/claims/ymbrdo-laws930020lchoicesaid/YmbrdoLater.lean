/-
  A REGION THAT DRAWS ITS ORDER, READS, AND CALLS FUNCTIONS THAT LEAVE WHAT WAS THERE AS IT WAS (they may make blocks of their own): one walk in the order of the text serves every order: the guide's 'wp_region_quiet' at the class 'whatever world in which all that was there is as it was'.
-/
import Derived.Test.YmbrdoBuild
namespace Go.Proofs.Ymbrdo
open Go.ChangeShapes Go.WideShapes Go.ChangeAt Go.RowKit

structure Later (w : World) where
  now : World
  below : Below w.heap.size w now

theorem wp_region_later {P : Program} {id : Nat} {Q : Exit → Act → World → Prop} {a : Act} {w : World} {l : List Oper} (hm : P.follows .mixedOrders = true) (hB : Region.lexB .any l.toArray = true)
    (h : wpQuiet P l.toArray (fun w' => ∃ q : Later w, w' = q.now) (fun a' => ∀ w', (∃ q : Later w, w' = q.now) → Q .normal a' w') l a) : (Code.region id l.toArray true).wp P Q a w :=
  wp_region_quiet (C := fun w' => ∃ q : Later w, w' = q.now) hm hB ⟨⟨_, (Below.refl w.heap.size w).drew⟩, rfl⟩ (by simpa using h)

/-- A callee's contract, met in a later world. -/
theorem calls_later {P : Program} {f : FuncId} {args : Array Value} {w : World} {q : Later w} {v : Value}
    (h : Calls P f args q.now fun e w' => e = .returned v ∧ Below q.now.heap.size q.now w') : Calls P f args q.now fun e w'' => e = .returned v ∧ ∃ q' : Later w, w'' = q'.now :=
  h.mono fun _ w' ⟨he, hb⟩ => ⟨he, ⟨w', q.below.trans (hb.mono q.below.size)⟩, rfl⟩

theorem Later.cell {w : World} {p : Addr} {v : Value} (h : w.cell? p = some v) (q : Later w) : q.now.cell? p = some v := by
  rw [q.below.cell (World.block_lt_of_cell? w _ h)]; exact h

theorem Later.row {w : World} {a : Option Addr} {cs : List Value} (h : Row w a cs) (q : Later w) : Row q.now a cs := h.below q.below (Nat.le_refl _)
end Go.Proofs.Ymbrdo
