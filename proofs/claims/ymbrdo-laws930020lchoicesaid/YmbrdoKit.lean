/-
  PLAIN PREDICATES ON MEMORY THAT ALL WALKS OF THIS SEAT SHARE. No Go function is walked here.
-/
import Derived.Test.YmbrdoRows
import Derived.WalkKit
import Derived.ProofKit
import Derived.OpenShut
import Derived.ShutString
import Derived.ChangeOld
import Derived.Below
import Derived.Carry
import Derived.Handy
import Derived.BigQuiet
import Derived.Deep.QuietTactic
import Derived.Deep.RegionWith
import Derived.Deep.Slices
import Derived.WalkSpells
import Derived.WalkSmall
import Derived.Lib.SliceRun
namespace Go.Proofs.Ymbrdo
open Go.ChangeShapes Go.WideShapes Go.ChangeAt Go.RowKit

/-- One edit step as plain data. -/
structure OpT where
  kind : Int
  old : Int
  new : Int

def bytesC (zs : List Int) : List Value := zs.map (Value.int .u8)
def intsC (zs : List Int) : List Value := zs.map (Value.int .i64)
def opsC : List OpT → List Value
  | [] => []
  | o :: os => .int .u8 o.kind :: .int .u8 o.old :: .int .u8 o.new :: opsC os

theorem bytesC_length (zs : List Int) : (bytesC zs).length = zs.length := by simp [bytesC]
theorem intsC_length (zs : List Int) : (intsC zs).length = zs.length := by simp [intsC]
theorem opsC_length (os : List OpT) : (opsC os).length = os.length * 3 := by
  induction os with
  | nil => rfl
  | cons o os ih => simp only [opsC, List.length_cons, ih]; omega

theorem opsC_append (a b : List OpT) : opsC (a ++ b) = opsC a ++ opsC b := by
  induction a with
  | nil => rfl
  | cons o a ih => simp only [List.cons_append, opsC, ih]

theorem opsC_get {os : List OpT} {i : Nat} {o : OpT} (h : os[i]? = some o) :
    (opsC os)[i * 3]? = some (.int .u8 o.kind) ∧ (opsC os)[i * 3 + 1]? = some (.int .u8 o.old) ∧ (opsC os)[i * 3 + 2]? = some (.int .u8 o.new) := by
  induction os generalizing i with
  | nil => simp at h
  | cons p os ih =>
    cases i with
    | zero => simp at h; subst h; simp [opsC]
    | succ i =>
      have := ih (by simpa using h)
      rw [show (i + 1) * 3 = i * 3 + 3 by omega]
      simpa [opsC] using this

/-- The slice address 'a' leads to the cells cs (nothing is said where cs is empty). -/
def Row (w : World) (a : Option Addr) (cs : List Value) : Prop :=
  cs = [] ∨ ∃ b off, a = some ⟨b, off, none⟩ ∧ ∀ j v, cs[j]? = some v → w.cell? ⟨b, off + j, none⟩ = some v

theorem Row.below {w w' : World} {a : Option Addr} {cs : List Value} {B : Nat} (h : Row w a cs) (hb : Below B w w') (hB : w.heap.size ≤ B) : Row w' a cs := by
  rcases h with h | ⟨b, off, ha, hc⟩
  · exact .inl h
  · refine .inr ⟨b, off, ha, fun j v hj => ?_⟩
    have h1 := hc j v hj
    rw [hb.cell (Nat.lt_of_lt_of_le (World.block_lt_of_cell? w _ h1) hB)]
    exact h1

theorem Row.nil (w : World) (a : Option Addr) : Row w a [] := .inl rfl

theorem below_dn {B : Nat} {w w' : World} (h : Below B w w') (n : Nat) : Below B w (w'.drewN n) := below_drewN h n
theorem Row.dn {w : World} {a : Option Addr} {cs : List Value} (h : Row w a cs) (n : Nat) : Row (w.drewN n) a cs := h.below (below_drewN (Below.refl w.heap.size w) n) (Nat.le_refl _)
theorem own_dn {w : World} {base e size : Nat} {v : Value} {n : Nat} {xs : List Value} (h : w.ownsRow base e size v n xs) (q : Nat) : (w.drewN q).ownsRow base e size v n xs := h

theorem opsC_drop (os : List OpT) (k : Nat) : opsC (os.drop k) = (opsC os).drop (k * 3) := by
  induction k generalizing os with
  | zero => simp
  | succ k ih =>
    cases os with
    | nil => simp [opsC]
    | cons o os =>
      rw [show (k + 1) * 3 = k * 3 + 1 + 1 + 1 by omega]
      simp only [List.drop_succ_cons, opsC, ih]
theorem opsC_take (os : List OpT) (k : Nat) : opsC (os.take k) = (opsC os).take (k * 3) := by
  induction k generalizing os with
  | zero => simp [opsC]
  | succ k ih =>
    cases os with
    | nil => simp [opsC]
    | cons o os =>
      rw [show (k + 1) * 3 = k * 3 + 1 + 1 + 1 by omega]
      simp only [List.take_succ_cons, opsC, ih]

/-- The head of a row; its rest behind a cut ('s[:k]', 's[k:]'): the address as the model writes it. -/
theorem Row.head {w : World} {a : Option Addr} {cs : List Value} (h : Row w a cs) (m : Nat) : Row w a (cs.take m) := by
  rcases h with rfl | ⟨b, off, ha, hc⟩
  · exact .inl (by simp)
  · refine .inr ⟨b, off, ha, fun j v hj => hc j v ?_⟩
    rw [List.getElem?_take] at hj
    split at hj
    · exact hj
    · cases hj
theorem Row.rest {w : World} {a : Option Addr} {cs : List Value} (h : Row w a cs) {m : Nat} {P : Prop} [Decidable P] (hP : P → cs.length ≤ m) :
    Row w (if P then a else a.map (fun x => x.add m)) (cs.drop m) := by
  by_cases hp : P
  · rw [if_pos hp]
    exact .inl (List.drop_eq_nil_of_le (hP hp))
  · rw [if_neg hp]
    rcases h with rfl | ⟨b, off, rfl, hc⟩
    · exact .inl (by simp)
    · refine .inr ⟨b, off + m, by rw [Option.map_some, Addr.add_lit], fun j v hj => ?_⟩
      rw [List.getElem?_drop] at hj
      rw [Nat.add_assoc]
      exact hc _ v hj

/-- What the call owns is a row. -/
theorem row_of_own {w : World} {base e size n cap : Nat} {a : Option Addr} {xs : List Value} (h : w.ownsRow base e size (.slice a n cap) n xs) : Row w a xs := by
  rcases h.2 with ⟨h1, h2⟩ | ⟨g, cap', cur, h1, hb, hg, hn, hm, hs, ht⟩
  · subst h2
    exact .inl (List.eq_nil_of_length_eq_zero (by simpa using h.1))
  · simp only [Value.slice.injEq] at h1
    obtain ⟨rfl, -, rfl⟩ := h1
    refine .inr ⟨g, 0, rfl, fun j v hj => ?_⟩
    have := h.cells (g := g) rfl j v hj
    rwa [Addr.add_lit] at this

/-- A cell of a row of single cells (bytes, ints). -/
theorem Row.one {w : World} {a : Option Addr} {cs : List Value} (h : Row w a cs) (hne : cs ≠ []) :
    ∃ b off, a = some ⟨b, off, none⟩ ∧ ∀ j v, cs[j]? = some v → w.cell? ⟨b, off + j, none⟩ = some v := by
  rcases h with h | h
  · exact absurd h hne
  · exact h

/-- Bytes, ints: the address and the cells. -/
theorem Row.bytes {w : World} {a : Option Addr} {zs : List Int} (h : Row w a (bytesC zs)) (hne : 0 < zs.length) :
    ∃ b off, a = some ⟨b, off, none⟩ ∧ ∀ (j : Nat) (z : Int), zs[j]? = some z → w.cell? ⟨b, off + j, none⟩ = some (.int .u8 z) := by
  obtain ⟨b, off, ha, hc⟩ := h.one (by intro e; have := congrArg List.length e; rw [bytesC_length, List.length_nil] at this; omega)
  exact ⟨b, off, ha, fun j z hj => hc j _ (by simp [bytesC, hj])⟩

theorem Row.ints {w : World} {a : Option Addr} {zs : List Int} (h : Row w a (intsC zs)) (hne : 0 < zs.length) :
    ∃ b off, a = some ⟨b, off, none⟩ ∧ ∀ (j : Nat) (z : Int), zs[j]? = some z → w.cell? ⟨b, off + j, none⟩ = some (.int .i64 z) := by
  obtain ⟨b, off, ha, hc⟩ := h.one (by intro e; have := congrArg List.length e; rw [intsC_length, List.length_nil] at this; omega)
  exact ⟨b, off, ha, fun j z hj => hc j _ (by simp [intsC, hj])⟩

/-- Ops: the address and the three cells of each op. -/
theorem Row.ops {w : World} {a : Option Addr} {os : List OpT} (h : Row w a (opsC os)) (hne : 0 < os.length) :
    ∃ b off, a = some ⟨b, off, none⟩ ∧ ∀ i o, os[i]? = some o → w.cell? ⟨b, off + i * 3, none⟩ = some (.int .u8 o.kind) ∧
      w.cell? ⟨b, off + i * 3 + 1, none⟩ = some (.int .u8 o.old) ∧ w.cell? ⟨b, off + i * 3 + 2, none⟩ = some (.int .u8 o.new) := by
  obtain ⟨b, off, ha, hc⟩ := h.one (by intro e; have := congrArg List.length e; rw [opsC_length, List.length_nil] at this; omega)
  refine ⟨b, off, ha, fun i o ho => ?_⟩
  obtain ⟨h1, h2, h3⟩ := opsC_get ho
  exact ⟨hc _ _ h1, by simpa [Nat.add_assoc] using hc _ _ h2, by simpa [Nat.add_assoc] using hc _ _ h3⟩

theorem opsC_set (qs : List OpT) (k : Nat) (o : OpT) : opsC (qs.set k o) =
    (((opsC qs).set (k * 3) (.int .u8 o.kind)).set (k * 3 + 1) (.int .u8 o.old)).set (k * 3 + 2) (.int .u8 o.new) := by
  induction qs generalizing k with
  | nil => rfl
  | cons q qs ih =>
    cases k with
    | zero => rfl
    | succ k =>
      rw [show (k + 1) * 3 = k * 3 + 1 + 1 + 1 by omega]
      simp only [List.set_cons_succ, opsC, ih]

theorem bytesC_set (zs : List Int) (k : Nat) (x : Int) : bytesC (zs.set k x) = (bytesC zs).set k (.int .u8 x) := by simp [bytesC, List.map_set]
theorem intsC_set (zs : List Int) (k : Nat) (x : Int) : intsC (zs.set k x) = (intsC zs).set k (.int .i64 x) := by simp [intsC, List.map_set]

def zeroOp : OpT := ⟨0, 0, 0⟩
theorem made_ops (n : Nat) : (madeCells #[.int .u8 0, .int .u8 0, .int .u8 0] (n * 3)).toList = opsC (List.replicate n zeroOp) := by
  apply List.ext_getElem?
  intro j
  by_cases hj : j < n * 3
  · obtain ⟨i, t, rfl, ht⟩ : ∃ i t, j = i * 3 + t ∧ t < 3 := ⟨j / 3, j % 3, by omega, by omega⟩
    obtain ⟨h1, h2, h3⟩ := opsC_get (os := List.replicate n zeroOp) (i := i) (o := zeroOp) (by rw [List.getElem?_replicate, if_pos (by omega)])
    have e : (madeCells #[Value.int .u8 0, .int .u8 0, .int .u8 0] (n * 3)).toList[i * 3 + t]? = some (.int .u8 0) := by
      match t, ht with
      | 0, _ => have hj' : i * 3 < n * 3 := hj; simp [madeCells, hj']
      | 1, _ => simp [madeCells, hj, show (i * 3 + 1) % 3 = 1 by omega]
      | 2, _ => simp [madeCells, hj, show (i * 3 + 2) % 3 = 2 by omega]
    rw [e]
    match t, ht with
    | 0, _ => exact h1.symm
    | 1, _ => exact h2.symm
    | 2, _ => exact h3.symm
  · rw [List.getElem?_eq_none (by simp [madeCells]; omega), List.getElem?_eq_none (by rw [opsC_length]; simp; omega)]

theorem made_ints (n : Nat) : (madeCells #[.int .i64 0] (n * 1)).toList = intsC (List.replicate n 0) := by
  rw [toList_madeCells_one, intsC, List.map_replicate, Nat.mul_one]
theorem made_bytes (n : Nat) : (madeCells #[.int .u8 0] (n * 1)).toList = bytesC (List.replicate n 0) := by
  rw [toList_madeCells_one, bytesC, List.map_replicate, Nat.mul_one]

theorem grown_trans {a b c : World} {row : Option Nat} (h : a.grownBy b row) (k : b.grownBy c row) : a.grownBy c row :=
  ⟨k.os.trans h.os, k.tape.trans h.tape, k.output.trans h.output, Nat.le_trans h.size k.size, fun i hi hn => (k.block i (Nat.lt_of_lt_of_le hi h.size) hn).trans (h.block i hi hn)⟩

/-- A store of one op into an owned row of ops. -/
theorem own_ops_store {w : World} {base e g n cap : Nat} {qs : List OpT} (h : w.ownsRow base e 3 (.slice (some ⟨g, 0, none⟩) n cap) n (opsC qs)) (k : Nat) (x y z : Int) :
    (((w.setCell ⟨g, k * 3, none⟩ (.int .u8 x)).setCell ⟨g, k * 3 + 1, none⟩ (.int .u8 y)).setCell ⟨g, k * 3 + 2, none⟩ (.int .u8 z)).ownsRow base e 3 (.slice (some ⟨g, 0, none⟩) n cap) n (opsC (qs.set k ⟨x, y, z⟩)) ∧
      w.grownBy (((w.setCell ⟨g, k * 3, none⟩ (.int .u8 x)).setCell ⟨g, k * 3 + 1, none⟩ (.int .u8 y)).setCell ⟨g, k * 3 + 2, none⟩ (.int .u8 z)) (some g) := by
  obtain ⟨h1, g1⟩ := h.stored (k * 3) (.int .u8 x)
  obtain ⟨h2, g2⟩ := h1.stored (k * 3 + 1) (.int .u8 y)
  obtain ⟨h3, g3⟩ := h2.stored (k * 3 + 2) (.int .u8 z)
  refine ⟨?_, grown_trans (grown_trans g1 g2) g3⟩
  rw [opsC_set]
  exact h3

theorem own_len {w : World} {base e size n : Nat} {v : Value} {xs : List Value} (h : w.ownsRow base e size v n xs) : xs.length = n * size := h.1

theorem own_ops_len {w : World} {base e n : Nat} {v : Value} {qs : List OpT} (h : w.ownsRow base e 3 v n (opsC qs)) : qs.length = n := by
  have := h.1
  rw [opsC_length] at this
  omega

/-- The three cells of op k of an owned row, as the walk asks for them at a load. -/
theorem own_ops_cells {w : World} {base e g n cap : Nat} {qs : List OpT} (h : w.ownsRow base e 3 (.slice (some ⟨g, 0, none⟩) n cap) n (opsC qs)) {k : Nat} {o : OpT} (hk : qs[k]? = some o) :
    w.cell? ⟨g, k * 3, none⟩ = some (.int .u8 o.kind) ∧ w.cell? ⟨g, k * 3 + 1, none⟩ = some (.int .u8 o.old) ∧ w.cell? ⟨g, k * 3 + 2, none⟩ = some (.int .u8 o.new) := by
  obtain ⟨h1, h2, h3⟩ := opsC_get hk
  have hl := own_ops_len h
  have hkl := (List.getElem?_eq_some_iff.1 hk).1
  exact ⟨by rw [h.cellAt _ (by omega)]; exact h1, by rw [h.cellAt _ (by omega)]; exact h2, by rw [h.cellAt _ (by omega)]; exact h3⟩

theorem own_lt {w : World} {base e size g n cap : Nat} {xs : List Value} (h : w.ownsRow base e size (.slice (some ⟨g, 0, none⟩) n cap) n xs) : base ≤ g ∧ g < w.heap.size := h.lt g rfl

/-- An op that is there. -/
theorem op_at {α : Type} {os : List α} {k : Nat} (h : k < os.length) : ∃ o, os[k]? = some o := ⟨os[k], by simp [h]⟩

theorem take_succ_get {α : Type} {os : List α} {k : Nat} {o : α} (h : os[k]? = some o) : os.take (k + 1) = os.take k ++ [o] := by
  rw [List.take_add_one, h]; rfl

end Go.Proofs.Ymbrdo
