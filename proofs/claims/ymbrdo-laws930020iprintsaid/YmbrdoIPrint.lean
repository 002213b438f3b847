/-
  THE WALK OF LawS930020IPrint.
-/
import Derived.Test.YmbrdoIop
import Derived.Test.YmbrdoDecode
import Derived.Test.YmbrdoValid
import Derived.Test.YmbrdoLater
namespace Go.Proofs.Ymbrdo
open Go.ChangeShapes Go.WideShapes Go.ChangeAt Go.RowKit

theorem row_of_cells {w : World} {b : Nat} {cs : List Value} (h : ∀ j v, cs[j]? = some v → w.cell? ⟨b, j, none⟩ = some v) : Row w (some ⟨b, 0, none⟩) cs := .inr ⟨b, 0, rfl, fun j v hj => by rw [Nat.zero_add]; exact h j v hj⟩
theorem alloc_old {w : World} {p : Addr} {v : Value} (o : Obj) (h : w.cell? p = some v) : (w.alloc o).cell? p = some v := by
  rw [World.cell?_of_block (Below.heap_alloc w o p.block (World.block_lt_of_cell? w _ h))]; exact h
theorem alloc_new (w : World) {cs : Array Value} (e : Nat) {j : Nat} {v : Value} (h : cs[j]? = some v) : (w.alloc (.cells cs e)).cell? ⟨w.heap.size, j, none⟩ = some v := by
  rw [World.cell?_alloc_new]; exact h
theorem row_new (w : World) (cs : List Value) (e : Nat) : Row (w.alloc (.cells cs.toArray e)) (some ⟨w.heap.size, 0, none⟩) cs :=
  row_of_cells fun j v hj => alloc_new w e (by simpa using hj)

set_option maxHeartbeats 4000000 in
theorem iprint_walk (a0 a1 a2 a3 a4 : Int) (w : World) (w0 : (Lit.int .u8 a0).wf = true) (w1 : (Lit.int .u8 a1).wf = true) (w2 : (Lit.int .u8 a2).wf = true) (w3 : (Lit.int .u8 a3).wf = true) (w4 : (Lit.int .u8 a4).wf = true) :
    Calls Ydom.prog 5 #[.int .u8 a0, .int .u8 a1, .int .u8 a2, .int .u8 a3, .int .u8 a4] w fun e w' => e = .returned (.bool true) ∧ Below w.heap.size w w' := by
  go_enter Ydom.func5, Ydom.ntmps5
  go_wp2_with fail
  refine (iop_calls a0 a1 a2 a3 a4 w (bounds_u8 w0) (bounds_u8 w1) (bounds_u8 w2) (bounds_u8 w3) (bounds_u8 w4)).mono ?_
  rintro e v1 ⟨k, x, y, rfl, -, b1⟩
  clear w0 w1 w2 w3 w4
  by_cases h43 : k = 43
  · subst h43
    by_cases hx : x = 0
    · subst hx
      have hd : decT [43, y] = some [⟨43, 0, y⟩] := by simp [decT, op2, validT]
      have hvd : validT ⟨43, 0, y⟩ = true := by simp [validT]
      have HD : Hid (decT [43, y] = some [⟨43, 0, y⟩]) := hd
      have HV : Hid (validT ⟨43, 0, y⟩ = true) := hvd
      clear hd hvd
      go_wp2_with fail
      obtain ⟨v2, hv2⟩ : ∃ v2, v2 = ((v1.alloc (Obj.cells #[Value.int IntKind.u8 43, Value.int IntKind.u8 0, Value.int IntKind.u8 y] 23)).alloc (Obj.cells #[Value.int IntKind.u8 43, Value.int IntKind.u8 0] 5)).alloc (Obj.cells #[Value.int IntKind.u8 43, Value.int IntKind.u8 y] 5) := ⟨_, rfl⟩
      rw [← hv2]
      have r2 : Row v2 (some ⟨v1.heap.size + 1 + 1, 0, none⟩) (bytesC [43, y]) := by rw [hv2]; have := row_new (((v1.alloc (Obj.cells #[Value.int IntKind.u8 43, Value.int IntKind.u8 0, Value.int IntKind.u8 y] 23)).alloc (Obj.cells #[Value.int IntKind.u8 43, Value.int IntKind.u8 0] 5))) (bytesC [43, y]) 5; simpa [bytesC] using this
      have c0 : v2.cell? ⟨v1.heap.size, 0, none⟩ = some (.int .u8 43) := by rw [hv2]; exact alloc_old _ (alloc_old _ (alloc_new _ _ rfl))
      have c1 : v2.cell? ⟨v1.heap.size, 1, none⟩ = some (.int .u8 0) := by rw [hv2]; exact alloc_old _ (alloc_old _ (alloc_new _ _ rfl))
      have c2 : v2.cell? ⟨v1.heap.size, 2, none⟩ = some (.int .u8 y) := by rw [hv2]; exact alloc_old _ (alloc_old _ (alloc_new _ _ rfl))
      have b2 : Below w.heap.size w v2 := by rw [hv2]; exact ((b1.alloc b1.size _).alloc (by simp; have := b1.size; omega) _).alloc (by simp; have := b1.size; omega) _
      clear hv2 b1
      refine (decode_calls (some ⟨v1.heap.size + 1 + 1, 0, none⟩) 2 [43, y] v2 r2 (by simp)).mono ?_
      intro e v3 hR
      rw [HD.out] at hR
      obtain ⟨a', cap', rfl, r3, b3⟩ := hR
      obtain ⟨b', off', rfl, hc⟩ := r3.ops (by simp)
      obtain ⟨g0, g1, g2⟩ := hc 0 _ rfl
      simp only [Nat.zero_mul, Nat.add_zero] at g0 g1 g2
      clear hc r3
      have d0 : v3.cell? ⟨v1.heap.size, 0, none⟩ = some (.int .u8 43) := by rw [b3.cell (World.block_lt_of_cell? v2 _ c0)]; exact c0
      have d1 : v3.cell? ⟨v1.heap.size, 1, none⟩ = some (.int .u8 0) := by rw [b3.cell (World.block_lt_of_cell? v2 _ c1)]; exact c1
      have d2 : v3.cell? ⟨v1.heap.size, 2, none⟩ = some (.int .u8 y) := by rw [b3.cell (World.block_lt_of_cell? v2 _ c2)]; exact c2
      have b4 : Below w.heap.size w v3 := b2.trans (b3.mono b2.size)
      clear r2 c0 c1 c2 b2 b3
      go_wp2_with fail
      go_quiet (fail)
      go_wp2_with fail
      refine (valid_calls 43 0 y _).mono ?_
      rintro e v4 ⟨rfl, b5⟩
      rw [HV.out]
      go_wp2
      go_ret
      exact ⟨rfl, (below_dn b4 _).trans (b5.mono b4.size)⟩
    · have hx' : ¬ 0 = x := fun h => hx h.symm
      have hd : decT [43, y] = some [⟨43, 0, y⟩] := by simp [decT, op2, validT]
      have hvd : validT ⟨43, x, y⟩ = false := by simp [validT, hx]
      have HD : Hid (decT [43, y] = some [⟨43, 0, y⟩]) := hd
      have HV : Hid (validT ⟨43, x, y⟩ = false) := hvd
      clear hd hvd
      go_wp2_with fail
      obtain ⟨v2, hv2⟩ : ∃ v2, v2 = ((v1.alloc (Obj.cells #[Value.int IntKind.u8 43, Value.int IntKind.u8 x, Value.int IntKind.u8 y] 23)).alloc (Obj.cells #[Value.int IntKind.u8 43, Value.int IntKind.u8 x] 5)).alloc (Obj.cells #[Value.int IntKind.u8 43, Value.int IntKind.u8 y] 5) := ⟨_, rfl⟩
      rw [← hv2]
      have r2 : Row v2 (some ⟨v1.heap.size + 1 + 1, 0, none⟩) (bytesC [43, y]) := by rw [hv2]; have := row_new (((v1.alloc (Obj.cells #[Value.int IntKind.u8 43, Value.int IntKind.u8 x, Value.int IntKind.u8 y] 23)).alloc (Obj.cells #[Value.int IntKind.u8 43, Value.int IntKind.u8 x] 5))) (bytesC [43, y]) 5; simpa [bytesC] using this
      have c0 : v2.cell? ⟨v1.heap.size, 0, none⟩ = some (.int .u8 43) := by rw [hv2]; exact alloc_old _ (alloc_old _ (alloc_new _ _ rfl))
      have c1 : v2.cell? ⟨v1.heap.size, 1, none⟩ = some (.int .u8 x) := by rw [hv2]; exact alloc_old _ (alloc_old _ (alloc_new _ _ rfl))
      have c2 : v2.cell? ⟨v1.heap.size, 2, none⟩ = some (.int .u8 y) := by rw [hv2]; exact alloc_old _ (alloc_old _ (alloc_new _ _ rfl))
      have b2 : Below w.heap.size w v2 := by rw [hv2]; exact ((b1.alloc b1.size _).alloc (by simp; have := b1.size; omega) _).alloc (by simp; have := b1.size; omega) _
      clear hv2 b1
      refine (decode_calls (some ⟨v1.heap.size + 1 + 1, 0, none⟩) 2 [43, y] v2 r2 (by simp)).mono ?_
      intro e v3 hR
      rw [HD.out] at hR
      obtain ⟨a', cap', rfl, r3, b3⟩ := hR
      obtain ⟨b', off', rfl, hc⟩ := r3.ops (by simp)
      obtain ⟨g0, g1, g2⟩ := hc 0 _ rfl
      simp only [Nat.zero_mul, Nat.add_zero] at g0 g1 g2
      clear hc r3
      have d0 : v3.cell? ⟨v1.heap.size, 0, none⟩ = some (.int .u8 43) := by rw [b3.cell (World.block_lt_of_cell? v2 _ c0)]; exact c0
      have d1 : v3.cell? ⟨v1.heap.size, 1, none⟩ = some (.int .u8 x) := by rw [b3.cell (World.block_lt_of_cell? v2 _ c1)]; exact c1
      have d2 : v3.cell? ⟨v1.heap.size, 2, none⟩ = some (.int .u8 y) := by rw [b3.cell (World.block_lt_of_cell? v2 _ c2)]; exact c2
      have b4 : Below w.heap.size w v3 := b2.trans (b3.mono b2.size)
      clear r2 c0 c1 c2 b2 b3
      go_wp2_with fail
      go_quiet (fail)
      go_wp2_with fail
      refine (valid_calls 43 x y _).mono ?_
      rintro e v4 ⟨rfl, b5⟩
      rw [HV.out]
      go_wp2
      go_ret
      exact ⟨rfl, (below_dn b4 _).trans (b5.mono b4.size)⟩
  by_cases h126 : k = 126
  · subst h126
    by_cases hxy : x = y
    · subst hxy
      have hd : decT [126, x, x] = none := by simp [decT, validT]
      have hvd : validT ⟨126, x, x⟩ = false := by simp [validT]
      have HD : Hid (decT [126, x, x] = none) := hd
      have HV : Hid (validT ⟨126, x, x⟩ = false) := hvd
      clear hd hvd
      go_wp2_with fail
      obtain ⟨v2, hv2⟩ : ∃ v2, v2 = ((v1.alloc (Obj.cells #[Value.int IntKind.u8 126, Value.int IntKind.u8 x, Value.int IntKind.u8 x] 23)).alloc (Obj.cells #[Value.int IntKind.u8 126, Value.int IntKind.u8 x] 5)).alloc (Obj.cells #[Value.int IntKind.u8 126, Value.int IntKind.u8 x, Value.int IntKind.u8 x] 5) := ⟨_, rfl⟩
      rw [← hv2]
      have r2 : Row v2 (some ⟨v1.heap.size + 1 + 1, 0, none⟩) (bytesC [126, x, x]) := by rw [hv2]; have := row_new (((v1.alloc (Obj.cells #[Value.int IntKind.u8 126, Value.int IntKind.u8 x, Value.int IntKind.u8 x] 23)).alloc (Obj.cells #[Value.int IntKind.u8 126, Value.int IntKind.u8 x] 5))) (bytesC [126, x, x]) 5; simpa [bytesC] using this
      have c0 : v2.cell? ⟨v1.heap.size, 0, none⟩ = some (.int .u8 126) := by rw [hv2]; exact alloc_old _ (alloc_old _ (alloc_new _ _ rfl))
      have c1 : v2.cell? ⟨v1.heap.size, 1, none⟩ = some (.int .u8 x) := by rw [hv2]; exact alloc_old _ (alloc_old _ (alloc_new _ _ rfl))
      have c2 : v2.cell? ⟨v1.heap.size, 2, none⟩ = some (.int .u8 x) := by rw [hv2]; exact alloc_old _ (alloc_old _ (alloc_new _ _ rfl))
      have b2 : Below w.heap.size w v2 := by rw [hv2]; exact ((b1.alloc b1.size _).alloc (by simp; have := b1.size; omega) _).alloc (by simp; have := b1.size; omega) _
      clear hv2 b1
      refine (decode_calls (some ⟨v1.heap.size + 1 + 1, 0, none⟩) 3 [126, x, x] v2 r2 (by simp)).mono ?_
      intro e v3 hR
      rw [HD.out] at hR
      obtain ⟨rfl, b3⟩ := hR
      have d0 : v3.cell? ⟨v1.heap.size, 0, none⟩ = some (.int .u8 126) := by rw [b3.cell (World.block_lt_of_cell? v2 _ c0)]; exact c0
      have d1 : v3.cell? ⟨v1.heap.size, 1, none⟩ = some (.int .u8 x) := by rw [b3.cell (World.block_lt_of_cell? v2 _ c1)]; exact c1
      have d2 : v3.cell? ⟨v1.heap.size, 2, none⟩ = some (.int .u8 x) := by rw [b3.cell (World.block_lt_of_cell? v2 _ c2)]; exact c2
      have b4 : Below w.heap.size w v3 := b2.trans (b3.mono b2.size)
      clear r2 c0 c1 c2 b2 b3
      go_wp2_with fail
      go_quiet (fail)
      go_wp2_with fail
      refine (valid_calls 126 x x _).mono ?_
      rintro e v4 ⟨rfl, b5⟩
      rw [HV.out]
      go_wp2
      go_ret
      exact ⟨rfl, (below_dn b4 _).trans (b5.mono b4.size)⟩
    ·
      have hd : decT [126, x, y] = some [⟨126, x, y⟩] := by simp [decT, validT, hxy]
      have hvd : validT ⟨126, x, y⟩ = true := by simp [validT, hxy]
      have HD : Hid (decT [126, x, y] = some [⟨126, x, y⟩]) := hd
      have HV : Hid (validT ⟨126, x, y⟩ = true) := hvd
      clear hd hvd
      go_wp2_with fail
      obtain ⟨v2, hv2⟩ : ∃ v2, v2 = ((v1.alloc (Obj.cells #[Value.int IntKind.u8 126, Value.int IntKind.u8 x, Value.int IntKind.u8 y] 23)).alloc (Obj.cells #[Value.int IntKind.u8 126, Value.int IntKind.u8 x] 5)).alloc (Obj.cells #[Value.int IntKind.u8 126, Value.int IntKind.u8 x, Value.int IntKind.u8 y] 5) := ⟨_, rfl⟩
      rw [← hv2]
      have r2 : Row v2 (some ⟨v1.heap.size + 1 + 1, 0, none⟩) (bytesC [126, x, y]) := by rw [hv2]; have := row_new (((v1.alloc (Obj.cells #[Value.int IntKind.u8 126, Value.int IntKind.u8 x, Value.int IntKind.u8 y] 23)).alloc (Obj.cells #[Value.int IntKind.u8 126, Value.int IntKind.u8 x] 5))) (bytesC [126, x, y]) 5; simpa [bytesC] using this
      have c0 : v2.cell? ⟨v1.heap.size, 0, none⟩ = some (.int .u8 126) := by rw [hv2]; exact alloc_old _ (alloc_old _ (alloc_new _ _ rfl))
      have c1 : v2.cell? ⟨v1.heap.size, 1, none⟩ = some (.int .u8 x) := by rw [hv2]; exact alloc_old _ (alloc_old _ (alloc_new _ _ rfl))
      have c2 : v2.cell? ⟨v1.heap.size, 2, none⟩ = some (.int .u8 y) := by rw [hv2]; exact alloc_old _ (alloc_old _ (alloc_new _ _ rfl))
      have b2 : Below w.heap.size w v2 := by rw [hv2]; exact ((b1.alloc b1.size _).alloc (by simp; have := b1.size; omega) _).alloc (by simp; have := b1.size; omega) _
      clear hv2 b1
      refine (decode_calls (some ⟨v1.heap.size + 1 + 1, 0, none⟩) 3 [126, x, y] v2 r2 (by simp)).mono ?_
      intro e v3 hR
      rw [HD.out] at hR
      obtain ⟨a', cap', rfl, r3, b3⟩ := hR
      obtain ⟨b', off', rfl, hc⟩ := r3.ops (by simp)
      obtain ⟨g0, g1, g2⟩ := hc 0 _ rfl
      simp only [Nat.zero_mul, Nat.add_zero] at g0 g1 g2
      clear hc r3
      have d0 : v3.cell? ⟨v1.heap.size, 0, none⟩ = some (.int .u8 126) := by rw [b3.cell (World.block_lt_of_cell? v2 _ c0)]; exact c0
      have d1 : v3.cell? ⟨v1.heap.size, 1, none⟩ = some (.int .u8 x) := by rw [b3.cell (World.block_lt_of_cell? v2 _ c1)]; exact c1
      have d2 : v3.cell? ⟨v1.heap.size, 2, none⟩ = some (.int .u8 y) := by rw [b3.cell (World.block_lt_of_cell? v2 _ c2)]; exact c2
      have b4 : Below w.heap.size w v3 := b2.trans (b3.mono b2.size)
      clear r2 c0 c1 c2 b2 b3
      go_wp2_with fail
      go_quiet (fail)
      go_wp2_with fail
      refine (valid_calls 126 x y _).mono ?_
      rintro e v4 ⟨rfl, b5⟩
      rw [HV.out]
      go_wp2
      go_ret
      exact ⟨rfl, (below_dn b4 _).trans (b5.mono b4.size)⟩
  by_cases h45 : k = 45
  · subst h45
    by_cases hy : y = 0
    · subst hy
      have hd : decT [45, x] = some [⟨45, x, 0⟩] := by simp [decT, op2, validT]
      have hvd : validT ⟨45, x, 0⟩ = true := by simp [validT]
      have HD : Hid (decT [45, x] = some [⟨45, x, 0⟩]) := hd
      have HV : Hid (validT ⟨45, x, 0⟩ = true) := hvd
      clear hd hvd
      go_wp2_with fail
      obtain ⟨v2, hv2⟩ : ∃ v2, v2 = (v1.alloc (Obj.cells #[Value.int IntKind.u8 45, Value.int IntKind.u8 x, Value.int IntKind.u8 0] 23)).alloc (Obj.cells #[Value.int IntKind.u8 45, Value.int IntKind.u8 x] 5) := ⟨_, rfl⟩
      rw [← hv2]
      have r2 : Row v2 (some ⟨v1.heap.size + 1, 0, none⟩) (bytesC [45, x]) := by rw [hv2]; have := row_new ((v1.alloc (Obj.cells #[Value.int IntKind.u8 45, Value.int IntKind.u8 x, Value.int IntKind.u8 0] 23))) (bytesC [45, x]) 5; simpa [bytesC] using this
      have c0 : v2.cell? ⟨v1.heap.size, 0, none⟩ = some (.int .u8 45) := by rw [hv2]; exact alloc_old _ (alloc_new _ _ rfl)
      have c1 : v2.cell? ⟨v1.heap.size, 1, none⟩ = some (.int .u8 x) := by rw [hv2]; exact alloc_old _ (alloc_new _ _ rfl)
      have c2 : v2.cell? ⟨v1.heap.size, 2, none⟩ = some (.int .u8 0) := by rw [hv2]; exact alloc_old _ (alloc_new _ _ rfl)
      have b2 : Below w.heap.size w v2 := by rw [hv2]; exact (b1.alloc b1.size _).alloc (by simp; have := b1.size; omega) _
      clear hv2 b1
      refine (decode_calls (some ⟨v1.heap.size + 1, 0, none⟩) 2 [45, x] v2 r2 (by simp)).mono ?_
      intro e v3 hR
      rw [HD.out] at hR
      obtain ⟨a', cap', rfl, r3, b3⟩ := hR
      obtain ⟨b', off', rfl, hc⟩ := r3.ops (by simp)
      obtain ⟨g0, g1, g2⟩ := hc 0 _ rfl
      simp only [Nat.zero_mul, Nat.add_zero] at g0 g1 g2
      clear hc r3
      have d0 : v3.cell? ⟨v1.heap.size, 0, none⟩ = some (.int .u8 45) := by rw [b3.cell (World.block_lt_of_cell? v2 _ c0)]; exact c0
      have d1 : v3.cell? ⟨v1.heap.size, 1, none⟩ = some (.int .u8 x) := by rw [b3.cell (World.block_lt_of_cell? v2 _ c1)]; exact c1
      have d2 : v3.cell? ⟨v1.heap.size, 2, none⟩ = some (.int .u8 0) := by rw [b3.cell (World.block_lt_of_cell? v2 _ c2)]; exact c2
      have b4 : Below w.heap.size w v3 := b2.trans (b3.mono b2.size)
      clear r2 c0 c1 c2 b2 b3
      go_wp2_with fail
      go_quiet (fail)
      go_wp2_with fail
      refine (valid_calls 45 x 0 _).mono ?_
      rintro e v4 ⟨rfl, b5⟩
      rw [HV.out]
      go_wp2
      go_ret
      exact ⟨rfl, (below_dn b4 _).trans (b5.mono b4.size)⟩
    · have hy' : ¬ 0 = y := fun h => hy h.symm
      have hd : decT [45, x] = some [⟨45, x, 0⟩] := by simp [decT, op2, validT]
      have hvd : validT ⟨45, x, y⟩ = false := by simp [validT, hy]
      have HD : Hid (decT [45, x] = some [⟨45, x, 0⟩]) := hd
      have HV : Hid (validT ⟨45, x, y⟩ = false) := hvd
      clear hd hvd
      go_wp2_with fail
      obtain ⟨v2, hv2⟩ : ∃ v2, v2 = (v1.alloc (Obj.cells #[Value.int IntKind.u8 45, Value.int IntKind.u8 x, Value.int IntKind.u8 y] 23)).alloc (Obj.cells #[Value.int IntKind.u8 45, Value.int IntKind.u8 x] 5) := ⟨_, rfl⟩
      rw [← hv2]
      have r2 : Row v2 (some ⟨v1.heap.size + 1, 0, none⟩) (bytesC [45, x]) := by rw [hv2]; have := row_new ((v1.alloc (Obj.cells #[Value.int IntKind.u8 45, Value.int IntKind.u8 x, Value.int IntKind.u8 y] 23))) (bytesC [45, x]) 5; simpa [bytesC] using this
      have c0 : v2.cell? ⟨v1.heap.size, 0, none⟩ = some (.int .u8 45) := by rw [hv2]; exact alloc_old _ (alloc_new _ _ rfl)
      have c1 : v2.cell? ⟨v1.heap.size, 1, none⟩ = some (.int .u8 x) := by rw [hv2]; exact alloc_old _ (alloc_new _ _ rfl)
      have c2 : v2.cell? ⟨v1.heap.size, 2, none⟩ = some (.int .u8 y) := by rw [hv2]; exact alloc_old _ (alloc_new _ _ rfl)
      have b2 : Below w.heap.size w v2 := by rw [hv2]; exact (b1.alloc b1.size _).alloc (by simp; have := b1.size; omega) _
      clear hv2 b1
      refine (decode_calls (some ⟨v1.heap.size + 1, 0, none⟩) 2 [45, x] v2 r2 (by simp)).mono ?_
      intro e v3 hR
      rw [HD.out] at hR
      obtain ⟨a', cap', rfl, r3, b3⟩ := hR
      obtain ⟨b', off', rfl, hc⟩ := r3.ops (by simp)
      obtain ⟨g0, g1, g2⟩ := hc 0 _ rfl
      simp only [Nat.zero_mul, Nat.add_zero] at g0 g1 g2
      clear hc r3
      have d0 : v3.cell? ⟨v1.heap.size, 0, none⟩ = some (.int .u8 45) := by rw [b3.cell (World.block_lt_of_cell? v2 _ c0)]; exact c0
      have d1 : v3.cell? ⟨v1.heap.size, 1, none⟩ = some (.int .u8 x) := by rw [b3.cell (World.block_lt_of_cell? v2 _ c1)]; exact c1
      have d2 : v3.cell? ⟨v1.heap.size, 2, none⟩ = some (.int .u8 y) := by rw [b3.cell (World.block_lt_of_cell? v2 _ c2)]; exact c2
      have b4 : Below w.heap.size w v3 := b2.trans (b3.mono b2.size)
      clear r2 c0 c1 c2 b2 b3
      go_wp2_with fail
      go_quiet (fail)
      go_wp2_with fail
      refine (valid_calls 45 x y _).mono ?_
      rintro e v4 ⟨rfl, b5⟩
      rw [HV.out]
      go_wp2
      go_ret
      exact ⟨rfl, (below_dn b4 _).trans (b5.mono b4.size)⟩
  by_cases h61 : k = 61
  · subst h61
    by_cases hxy : x = y
    · subst hxy
      have hd : decT [61, x] = some [⟨61, x, x⟩] := by simp [decT, op2, validT]
      have hvd : validT ⟨61, x, x⟩ = true := by simp [validT]
      have HD : Hid (decT [61, x] = some [⟨61, x, x⟩]) := hd
      have HV : Hid (validT ⟨61, x, x⟩ = true) := hvd
      clear hd hvd
      go_wp2_with fail
      obtain ⟨v2, hv2⟩ : ∃ v2, v2 = (v1.alloc (Obj.cells #[Value.int IntKind.u8 61, Value.int IntKind.u8 x, Value.int IntKind.u8 x] 23)).alloc (Obj.cells #[Value.int IntKind.u8 61, Value.int IntKind.u8 x] 5) := ⟨_, rfl⟩
      rw [← hv2]
      have r2 : Row v2 (some ⟨v1.heap.size + 1, 0, none⟩) (bytesC [61, x]) := by rw [hv2]; have := row_new ((v1.alloc (Obj.cells #[Value.int IntKind.u8 61, Value.int IntKind.u8 x, Value.int IntKind.u8 x] 23))) (bytesC [61, x]) 5; simpa [bytesC] using this
      have c0 : v2.cell? ⟨v1.heap.size, 0, none⟩ = some (.int .u8 61) := by rw [hv2]; exact alloc_old _ (alloc_new _ _ rfl)
      have c1 : v2.cell? ⟨v1.heap.size, 1, none⟩ = some (.int .u8 x) := by rw [hv2]; exact alloc_old _ (alloc_new _ _ rfl)
      have c2 : v2.cell? ⟨v1.heap.size, 2, none⟩ = some (.int .u8 x) := by rw [hv2]; exact alloc_old _ (alloc_new _ _ rfl)
      have b2 : Below w.heap.size w v2 := by rw [hv2]; exact (b1.alloc b1.size _).alloc (by simp; have := b1.size; omega) _
      clear hv2 b1
      refine (decode_calls (some ⟨v1.heap.size + 1, 0, none⟩) 2 [61, x] v2 r2 (by simp)).mono ?_
      intro e v3 hR
      rw [HD.out] at hR
      obtain ⟨a', cap', rfl, r3, b3⟩ := hR
      obtain ⟨b', off', rfl, hc⟩ := r3.ops (by simp)
      obtain ⟨g0, g1, g2⟩ := hc 0 _ rfl
      simp only [Nat.zero_mul, Nat.add_zero] at g0 g1 g2
      clear hc r3
      have d0 : v3.cell? ⟨v1.heap.size, 0, none⟩ = some (.int .u8 61) := by rw [b3.cell (World.block_lt_of_cell? v2 _ c0)]; exact c0
      have d1 : v3.cell? ⟨v1.heap.size, 1, none⟩ = some (.int .u8 x) := by rw [b3.cell (World.block_lt_of_cell? v2 _ c1)]; exact c1
      have d2 : v3.cell? ⟨v1.heap.size, 2, none⟩ = some (.int .u8 x) := by rw [b3.cell (World.block_lt_of_cell? v2 _ c2)]; exact c2
      have b4 : Below w.heap.size w v3 := b2.trans (b3.mono b2.size)
      clear r2 c0 c1 c2 b2 b3
      go_wp2_with fail
      go_quiet (fail)
      go_wp2_with fail
      refine (valid_calls 61 x x _).mono ?_
      rintro e v4 ⟨rfl, b5⟩
      rw [HV.out]
      go_wp2
      go_ret
      exact ⟨rfl, (below_dn b4 _).trans (b5.mono b4.size)⟩
    ·
      have hd : decT [61, x] = some [⟨61, x, x⟩] := by simp [decT, op2, validT]
      have hvd : validT ⟨61, x, y⟩ = false := by simp [validT, hxy]
      have HD : Hid (decT [61, x] = some [⟨61, x, x⟩]) := hd
      have HV : Hid (validT ⟨61, x, y⟩ = false) := hvd
      clear hd hvd
      go_wp2_with fail
      obtain ⟨v2, hv2⟩ : ∃ v2, v2 = (v1.alloc (Obj.cells #[Value.int IntKind.u8 61, Value.int IntKind.u8 x, Value.int IntKind.u8 y] 23)).alloc (Obj.cells #[Value.int IntKind.u8 61, Value.int IntKind.u8 x] 5) := ⟨_, rfl⟩
      rw [← hv2]
      have r2 : Row v2 (some ⟨v1.heap.size + 1, 0, none⟩) (bytesC [61, x]) := by rw [hv2]; have := row_new ((v1.alloc (Obj.cells #[Value.int IntKind.u8 61, Value.int IntKind.u8 x, Value.int IntKind.u8 y] 23))) (bytesC [61, x]) 5; simpa [bytesC] using this
      have c0 : v2.cell? ⟨v1.heap.size, 0, none⟩ = some (.int .u8 61) := by rw [hv2]; exact alloc_old _ (alloc_new _ _ rfl)
      have c1 : v2.cell? ⟨v1.heap.size, 1, none⟩ = some (.int .u8 x) := by rw [hv2]; exact alloc_old _ (alloc_new _ _ rfl)
      have c2 : v2.cell? ⟨v1.heap.size, 2, none⟩ = some (.int .u8 y) := by rw [hv2]; exact alloc_old _ (alloc_new _ _ rfl)
      have b2 : Below w.heap.size w v2 := by rw [hv2]; exact (b1.alloc b1.size _).alloc (by simp; have := b1.size; omega) _
      clear hv2 b1
      refine (decode_calls (some ⟨v1.heap.size + 1, 0, none⟩) 2 [61, x] v2 r2 (by simp)).mono ?_
      intro e v3 hR
      rw [HD.out] at hR
      obtain ⟨a', cap', rfl, r3, b3⟩ := hR
      obtain ⟨b', off', rfl, hc⟩ := r3.ops (by simp)
      obtain ⟨g0, g1, g2⟩ := hc 0 _ rfl
      simp only [Nat.zero_mul, Nat.add_zero] at g0 g1 g2
      clear hc r3
      have d0 : v3.cell? ⟨v1.heap.size, 0, none⟩ = some (.int .u8 61) := by rw [b3.cell (World.block_lt_of_cell? v2 _ c0)]; exact c0
      have d1 : v3.cell? ⟨v1.heap.size, 1, none⟩ = some (.int .u8 x) := by rw [b3.cell (World.block_lt_of_cell? v2 _ c1)]; exact c1
      have d2 : v3.cell? ⟨v1.heap.size, 2, none⟩ = some (.int .u8 y) := by rw [b3.cell (World.block_lt_of_cell? v2 _ c2)]; exact c2
      have b4 : Below w.heap.size w v3 := b2.trans (b3.mono b2.size)
      clear r2 c0 c1 c2 b2 b3
      go_wp2_with fail
      go_quiet (fail)
      go_wp2_with fail
      refine (valid_calls 61 x y _).mono ?_
      rintro e v4 ⟨rfl, b5⟩
      rw [HV.out]
      go_wp2
      go_ret
      exact ⟨rfl, (below_dn b4 _).trans (b5.mono b4.size)⟩
  have t1 : (k == 43) = false := by simp [h43]
  have t2 : (k == 126) = false := by simp [h126]
  have hd : decT [k, x] = none := by simp [decT, op2, validT, h43, h126, h45, h61]
  have hvd : validT ⟨k, x, y⟩ = false := by simp [validT, h43, h126, h45, h61]
  have HD : Hid (decT [k, x] = none) := hd
  have HV : Hid (validT ⟨k, x, y⟩ = false) := hvd
  clear hd hvd
  go_wp2_with fail
  obtain ⟨v2, hv2⟩ : ∃ v2, v2 = (v1.alloc (Obj.cells #[Value.int IntKind.u8 k, Value.int IntKind.u8 x, Value.int IntKind.u8 y] 23)).alloc (Obj.cells #[Value.int IntKind.u8 k, Value.int IntKind.u8 x] 5) := ⟨_, rfl⟩
  rw [← hv2]
  have r2 : Row v2 (some ⟨v1.heap.size + 1, 0, none⟩) (bytesC [k, x]) := by rw [hv2]; have := row_new ((v1.alloc (Obj.cells #[Value.int IntKind.u8 k, Value.int IntKind.u8 x, Value.int IntKind.u8 y] 23))) (bytesC [k, x]) 5; simpa [bytesC] using this
  have c0 : v2.cell? ⟨v1.heap.size, 0, none⟩ = some (.int .u8 k) := by rw [hv2]; exact alloc_old _ (alloc_new _ _ rfl)
  have c1 : v2.cell? ⟨v1.heap.size, 1, none⟩ = some (.int .u8 x) := by rw [hv2]; exact alloc_old _ (alloc_new _ _ rfl)
  have c2 : v2.cell? ⟨v1.heap.size, 2, none⟩ = some (.int .u8 y) := by rw [hv2]; exact alloc_old _ (alloc_new _ _ rfl)
  have b2 : Below w.heap.size w v2 := by rw [hv2]; exact (b1.alloc b1.size _).alloc (by simp; have := b1.size; omega) _
  clear hv2 b1
  refine (decode_calls (some ⟨v1.heap.size + 1, 0, none⟩) 2 [k, x] v2 r2 (by simp)).mono ?_
  intro e v3 hR
  rw [HD.out] at hR
  obtain ⟨rfl, b3⟩ := hR
  have d0 : v3.cell? ⟨v1.heap.size, 0, none⟩ = some (.int .u8 k) := by rw [b3.cell (World.block_lt_of_cell? v2 _ c0)]; exact c0
  have d1 : v3.cell? ⟨v1.heap.size, 1, none⟩ = some (.int .u8 x) := by rw [b3.cell (World.block_lt_of_cell? v2 _ c1)]; exact c1
  have d2 : v3.cell? ⟨v1.heap.size, 2, none⟩ = some (.int .u8 y) := by rw [b3.cell (World.block_lt_of_cell? v2 _ c2)]; exact c2
  have b4 : Below w.heap.size w v3 := b2.trans (b3.mono b2.size)
  clear r2 c0 c1 c2 b2 b3
  go_wp2_with fail
  go_quiet (fail)
  go_wp2_with fail
  refine (valid_calls k x y _).mono ?_
  rintro e v4 ⟨rfl, b5⟩
  rw [HV.out]
  go_wp2
  go_ret
  exact ⟨rfl, (below_dn b4 _).trans (b5.mono b4.size)⟩
end Go.Proofs.Ymbrdo
