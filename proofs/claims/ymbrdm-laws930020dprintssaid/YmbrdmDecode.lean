/-
  THE WALK OF Decode.
-/
import Derived.Test.YmbrdmDecPlain
import Derived.Test.YmbrdmValid
namespace Go.Proofs.Ymbrdm
open Go.ChangeShapes Go.WideShapes Go.ChangeAt Go.RowKit

/-- What Decode hands back. -/
def RetDec (w : World) (r : Option (List OpT)) (e : Ending) (w' : World) : Prop :=
  match r with
  | none => e = .returned (.tuple #[.slice none 0 0, .bool false]) ∧ Below w.heap.size w w'
  | some os => ∃ a cap, e = .returned (.tuple #[.slice a os.length cap, .bool true]) ∧ Row w' a (opsC os) ∧ Below w.heap.size w w'

theorem own_below {w w' : World} {base e size n : Nat} {v : Value} {xs : List Value} (h : w.ownsRow base e size v n xs) (hb : Below w.heap.size w w') : w'.ownsRow base e size v n xs :=
  h.kept (row := none) ⟨hb.os, hb.tape, hb.output, hb.size, fun k hk _ => hb.block k hk⟩ (by cases hv : v.ownBlock <;> simp)
theorem own_slice {w : World} {base e size n : Nat} {v : Value} {xs : List Value} (h : w.ownsRow base e size v n xs) : ∃ a cap, v = .slice a n cap := by
  rcases h.2 with ⟨h1, h2⟩ | ⟨g, cap, cur, h1, _⟩
  · exact ⟨none, 0, by rw [h1, h2]⟩
  · exact ⟨_, cap, h1⟩
theorem one_op_cells (w : World) (e : Nat) (k x y : Int) : ∀ j u, (opsC [⟨k, x, y⟩])[j]? = some u → (w.alloc (.cells #[.int .u8 k, .int .u8 x, .int .u8 y] e)).cell? ((⟨w.heap.size, 0, none⟩ : Addr).add j) = some u := by
  intro j u hj
  rw [Addr.add_lit]
  match j, hj with
  | 0, hj => simp [opsC] at hj; subst hj; simp
  | 1, hj => simp [opsC] at hj; subst hj; simp
  | 2, hj => simp [opsC] at hj; subst hj; simp
  | j + 3, hj => simp [opsC] at hj
theorem one_op_one (k x y : Int) : ∀ u ∈ opsC [⟨k, x, y⟩], u.oneCell' = true := by
  intro u hu
  simp [opsC] at hu
  rcases hu with rfl | rfl | rfl <;> rfl

theorem opsC_one (k x y : Int) : opsC [⟨k, x, y⟩] = [.int .u8 k, .int .u8 x, .int .u8 y] := rfl

set_option maxHeartbeats 1000000 in
theorem decode_calls (a : Option Addr) (cap : Nat) (zs : List Int) (w : World) (h : Row w a (bytesC zs)) (hl : zs.length ≤ 1048576) :
    Calls Ydmm.prog 26 #[.slice a zs.length cap] w (RetDec w (decT zs)) := by
  obtain ⟨i0, hi, hz0, hz1, hz2⟩ := info_parts infoOp
  go_enter Ydmm.func26, Ydmm.ntmps26
  go_wp2_with (first | (at_make; refine wpList_make_own _ rfl _ _ 39 rfl w.heap.size 43 i0 _ 3 Ydmm.underlying39 hi hz0 hz1 _ _ _ (zs.length / 2) rfl rfl (by omega) (by rw [hz2]; omega) (by unfold maxLen; omega) (Nat.le_refl _) ?_))
  intro w1 hown hgrow
  have hb1 := (Below.refl w.heap.size w).grown hgrow (Nat.le_refl _) (by simp)
  have hown0 : w1.ownsRow w.heap.size 43 3 (.slice (some ⟨w.heap.size, 0, none⟩) 0 (zs.length / 2)) ([] : List OpT).length (opsC []) := hown
  clear hown
  go_wp2
  go_loopw [4, 5] (fun v i wr => ∃ (k : Nat) (acc : List OpT), k ≤ zs.length ∧ i = .int .i64 k ∧ acc.length ≤ k ∧ Below w.heap.size w wr ∧
     wr.ownsRow w.heap.size 43 3 v acc.length (opsC acc) ∧ DecSo zs k acc) (fun _ i _ => zs.length - (intOf i).toNat)
  case atStart => exact ⟨0, [], Nat.zero_le _, rfl, Nat.le_refl _, hb1, hown0, decSo_zero _⟩
  case round =>
    obtain ⟨k, acc, hk, rfl, hal, hb, hown, hso⟩ := hrel
    by_cases hlt : k < zs.length
    · obtain ⟨b, off, rfl, hc⟩ := (h.below hb (Nat.le_refl _)).bytes (by omega)
      obtain ⟨c, h0⟩ := op_at hlt
      have c0 := hc k c h0
      have hsz := hb.size
      have hbl : b < wr.heap.size := World.block_lt_of_cell? wr _ c0
      by_cases h126 : c = 126
      · subst h126
        by_cases hsh : zs.length < k + 3
        · have hn : decT zs = none := decSo_short3 hso h0 hsh
          rw [hn]
          have i1 : (zs.length : Int) - (k : Int) < 3 := by omega
          clear hn hso hown hc h h0
          go_wp2
          go_ret2
          exact ⟨rfl, hb⟩
        · obtain ⟨x, h1⟩ := op_at (os := zs) (k := k + 1) (by omega)
          obtain ⟨y, h2⟩ := op_at (os := zs) (k := k + 2) (by omega)
          have c1 := hc (k + 1) x h1
          have c2 := hc (k + 2) y h2
          have R := decSo_three hso h0 h1 h2
          have i1 : ¬ (zs.length : Int) - (k : Int) < 3 := by omega
          clear hso hc h h0 h1 h2
          go_wp2_with fail
          refine (valid_calls 126 x y _).mono ?_
          rintro e w2 ⟨rfl, b2⟩
          have hb2 : Below w.heap.size w w2 := (hb.alloc hsz _).trans (b2.mono (by simp; omega))
          have hs2 := b2.size
          simp only [World.size_alloc] at hs2
          have own2 : w2.ownsRow w.heap.size 43 3 u4 acc.length (opsC acc) := own_below (hown.alloc _) b2
          have d0 : w2.cell? ⟨wr.heap.size, 0, none⟩ = some (.int .u8 126) := by rw [b2.cell (by simp)]; simp
          have d1 : w2.cell? ⟨wr.heap.size, 1, none⟩ = some (.int .u8 x) := by rw [b2.cell (by simp)]; simp
          have d2 : w2.cell? ⟨wr.heap.size, 2, none⟩ = some (.int .u8 y) := by rw [b2.cell (by simp)]; simp
          have hw2 : wr.heap.size < w2.heap.size := by omega
          clear hown b2
          by_cases hv : validT ⟨126, x, y⟩ = true
          · rw [hv]
            have R1 : Hid (DecSo zs (k + 3) (acc ++ [⟨126, x, y⟩])) := R.1 hv
            clear R hv
            go_wp2_with (first | (at_builtin; refine wpList_append_own _ rfl _ _ 39 rfl w.heap.size 43 i0 (.agg #[.int .u8 0, .int .u8 0, .int .u8 0]) 3 3 Ydmm.underlying39 hi hz0 hz1 hz2 rfl (by decide) _ _ _ rfl (own2.alloc _) ⟨w2.heap.size, 0, none⟩ 1 1 (opsC [⟨126, x, y⟩]) rfl rfl (one_op_cells _ _ _ _ _) (one_op_one _ _ _) (by unfold maxLen; omega) (by omega) (by have := hb2.size; simp; omega) ?_))
            intro v' w3 hown3 hgrow3 _
            have hb3 : Below w.heap.size w w3 := (hb2.alloc hb2.size _).grown hgrow3 (by have := hb2.size; simp; omega) (fun q hq => (own2.lt q hq).1)
            rw [← opsC_append] at hown3
            clear own2 hgrow3
            go_wp2
            go_roundw
            case rel => exact ⟨k + 3, acc ++ [⟨126, x, y⟩], by omega, by go_num, by simp; omega, hb3, by simpa using hown3, R1.out⟩
            case measure => simp [intOf]; omega
          · have hv' : validT ⟨126, x, y⟩ = false := by simpa using hv
            have R2 : Hid (decT zs = none) := R.2 hv'
            rw [hv']
            clear R hv hv'
            go_wp2
            go_ret2
            rw [R2.out]
            exact ⟨rfl, hb2⟩
      · have t126 : (c == 126) = false := by simp [h126]
        by_cases hsh : zs.length < k + 2
        · have hn : decT zs = none := decSo_short2 hso h0 hsh
          rw [hn]
          have i1 : (zs.length : Int) - (k : Int) < 2 := by omega
          clear hn hso hown hc h h0
          go_wp2
          go_ret2
          exact ⟨rfl, hb⟩
        · obtain ⟨x, h1⟩ := op_at (os := zs) (k := k + 1) (by omega)
          have c1 := hc (k + 1) x h1
          have R := decSo_two hso h0 h1 h126
          have i1 : ¬ (zs.length : Int) - (k : Int) < 2 := by omega
          clear hso hc h h0 h1
          by_cases h43 : c = 43
          · subst h43
            clear t126 h126
            have eo : op2 43 x = ⟨43, 0, x⟩ := by simp [op2]
            rw [eo] at R
            clear eo
            go_wp2_with fail
            refine (valid_calls 43 0 x _).mono ?_
            rintro e w2 ⟨rfl, b2⟩
            have hb2 : Below w.heap.size w w2 := (hb.alloc hsz _).trans (b2.mono (by simp; omega))
            have hs2 := b2.size
            simp only [World.size_alloc] at hs2
            have own2 : w2.ownsRow w.heap.size 43 3 u4 acc.length (opsC acc) := own_below (hown.alloc _) b2
            have d0 : w2.cell? ⟨wr.heap.size, 0, none⟩ = some (.int .u8 43) := by rw [b2.cell (by simp)]; simp
            have d1 : w2.cell? ⟨wr.heap.size, 1, none⟩ = some (.int .u8 0) := by rw [b2.cell (by simp)]; simp
            have d2 : w2.cell? ⟨wr.heap.size, 2, none⟩ = some (.int .u8 x) := by rw [b2.cell (by simp)]; simp
            have hw2 : wr.heap.size < w2.heap.size := by omega
            clear hown b2
            by_cases hv : validT ⟨43, 0, x⟩ = true
            · rw [hv]
              have R1 : Hid (DecSo zs (k + 2) (acc ++ [⟨43, 0, x⟩])) := R.1 hv
              clear R hv
              go_wp2_with (first | (at_builtin; refine wpList_append_own _ rfl _ _ 39 rfl w.heap.size 43 i0 (.agg #[.int .u8 0, .int .u8 0, .int .u8 0]) 3 3 Ydmm.underlying39 hi hz0 hz1 hz2 rfl (by decide) _ _ _ rfl (own2.alloc _) ⟨w2.heap.size, 0, none⟩ 1 1 (opsC [⟨43, 0, x⟩]) rfl rfl (one_op_cells _ _ _ _ _) (one_op_one _ _ _) (by unfold maxLen; omega) (by omega) (by have := hb2.size; simp; omega) ?_))
              intro v' w3 hown3 hgrow3 _
              have hb3 : Below w.heap.size w w3 := (hb2.alloc hb2.size _).grown hgrow3 (by have := hb2.size; simp; omega) (fun q hq => (own2.lt q hq).1)
              rw [← opsC_append] at hown3
              clear own2 hgrow3
              go_wp2
              go_roundw
              case rel => exact ⟨k + 2, acc ++ [⟨43, 0, x⟩], by omega, by go_num, by simp; omega, hb3, by simpa using hown3, R1.out⟩
              case measure => simp [intOf]; omega
            · have hv' : validT ⟨43, 0, x⟩ = false := by simpa using hv
              have R2 : Hid (decT zs = none) := R.2 hv'
              rw [hv']
              clear R hv hv'
              go_wp2
              go_ret2
              rw [R2.out]
              exact ⟨rfl, hb2⟩
          · have t43 : (c != 43) = true := by simp [h43]
            by_cases h45 : c = 45
            · subst h45
              clear t126 h126 t43 h43
              have eo : op2 45 x = ⟨45, x, 0⟩ := by simp [op2]
              rw [eo] at R
              clear eo
              go_wp2_with fail
              refine (valid_calls 45 x 0 _).mono ?_
              rintro e w2 ⟨rfl, b2⟩
              have hb2 : Below w.heap.size w w2 := (hb.alloc hsz _).trans (b2.mono (by simp; omega))
              have hs2 := b2.size
              simp only [World.size_alloc] at hs2
              have own2 : w2.ownsRow w.heap.size 43 3 u4 acc.length (opsC acc) := own_below (hown.alloc _) b2
              have d0 : w2.cell? ⟨wr.heap.size, 0, none⟩ = some (.int .u8 45) := by rw [b2.cell (by simp)]; simp
              have d1 : w2.cell? ⟨wr.heap.size, 1, none⟩ = some (.int .u8 x) := by rw [b2.cell (by simp)]; simp
              have d2 : w2.cell? ⟨wr.heap.size, 2, none⟩ = some (.int .u8 0) := by rw [b2.cell (by simp)]; simp
              have hw2 : wr.heap.size < w2.heap.size := by omega
              clear hown b2
              by_cases hv : validT ⟨45, x, 0⟩ = true
              · rw [hv]
                have R1 : Hid (DecSo zs (k + 2) (acc ++ [⟨45, x, 0⟩])) := R.1 hv
                clear R hv
                go_wp2_with (first | (at_builtin; refine wpList_append_own _ rfl _ _ 39 rfl w.heap.size 43 i0 (.agg #[.int .u8 0, .int .u8 0, .int .u8 0]) 3 3 Ydmm.underlying39 hi hz0 hz1 hz2 rfl (by decide) _ _ _ rfl (own2.alloc _) ⟨w2.heap.size, 0, none⟩ 1 1 (opsC [⟨45, x, 0⟩]) rfl rfl (one_op_cells _ _ _ _ _) (one_op_one _ _ _) (by unfold maxLen; omega) (by omega) (by have := hb2.size; simp; omega) ?_))
                intro v' w3 hown3 hgrow3 _
                have hb3 : Below w.heap.size w w3 := (hb2.alloc hb2.size _).grown hgrow3 (by have := hb2.size; simp; omega) (fun q hq => (own2.lt q hq).1)
                rw [← opsC_append] at hown3
                clear own2 hgrow3
                go_wp2
                go_roundw
                case rel => exact ⟨k + 2, acc ++ [⟨45, x, 0⟩], by omega, by go_num, by simp; omega, hb3, by simpa using hown3, R1.out⟩
                case measure => simp [intOf]; omega
              · have hv' : validT ⟨45, x, 0⟩ = false := by simpa using hv
                have R2 : Hid (decT zs = none) := R.2 hv'
                rw [hv']
                clear R hv hv'
                go_wp2
                go_ret2
                rw [R2.out]
                exact ⟨rfl, hb2⟩
            · have t45 : (c != 45) = true := by simp [h45]
              have eo : op2 c x = ⟨c, x, x⟩ := by simp [op2, h43, h45]
              rw [eo] at R
              clear eo h126 h43 h45
              go_wp2_with fail
              refine (valid_calls c x x _).mono ?_
              rintro e w2 ⟨rfl, b2⟩
              have hb2 : Below w.heap.size w w2 := (hb.alloc hsz _).trans (b2.mono (by simp; omega))
              have hs2 := b2.size
              simp only [World.size_alloc] at hs2
              have own2 : w2.ownsRow w.heap.size 43 3 u4 acc.length (opsC acc) := own_below (hown.alloc _) b2
              have d0 : w2.cell? ⟨wr.heap.size, 0, none⟩ = some (.int .u8 c) := by rw [b2.cell (by simp)]; simp
              have d1 : w2.cell? ⟨wr.heap.size, 1, none⟩ = some (.int .u8 x) := by rw [b2.cell (by simp)]; simp
              have d2 : w2.cell? ⟨wr.heap.size, 2, none⟩ = some (.int .u8 x) := by rw [b2.cell (by simp)]; simp
              have hw2 : wr.heap.size < w2.heap.size := by omega
              clear hown b2
              by_cases hv : validT ⟨c, x, x⟩ = true
              · rw [hv]
                have R1 : Hid (DecSo zs (k + 2) (acc ++ [⟨c, x, x⟩])) := R.1 hv
                clear R hv
                go_wp2_with (first | (at_builtin; refine wpList_append_own _ rfl _ _ 39 rfl w.heap.size 43 i0 (.agg #[.int .u8 0, .int .u8 0, .int .u8 0]) 3 3 Ydmm.underlying39 hi hz0 hz1 hz2 rfl (by decide) _ _ _ rfl (own2.alloc _) ⟨w2.heap.size, 0, none⟩ 1 1 (opsC [⟨c, x, x⟩]) rfl rfl (one_op_cells _ _ _ _ _) (one_op_one _ _ _) (by unfold maxLen; omega) (by omega) (by have := hb2.size; simp; omega) ?_))
                intro v' w3 hown3 hgrow3 _
                have hb3 : Below w.heap.size w w3 := (hb2.alloc hb2.size _).grown hgrow3 (by have := hb2.size; simp; omega) (fun q hq => (own2.lt q hq).1)
                rw [← opsC_append] at hown3
                clear own2 hgrow3
                go_wp2
                go_roundw
                case rel => exact ⟨k + 2, acc ++ [⟨c, x, x⟩], by omega, by go_num, by simp; omega, hb3, by simpa using hown3, R1.out⟩
                case measure => simp [intOf]; omega
              · have hv' : validT ⟨c, x, x⟩ = false := by simpa using hv
                have R2 : Hid (decT zs = none) := R.2 hv'
                rw [hv']
                clear R hv hv'
                go_wp2
                go_ret2
                rw [R2.out]
                exact ⟨rfl, hb2⟩
    · have hge : ¬ (k : Int) < (zs.length : Int) := by omega
      have HD : Hid (decT zs = some acc) := decSo_end hso (by omega)
      obtain ⟨a', cap', hv⟩ : ∃ a' cap', u4 = .slice a' acc.length cap' := own_slice hown
      rw [hv] at hown
      rw [hv]
      clear hv hso
      go_wp2
      go_ret2
      rw [HD.out]
      exact ⟨a', cap', rfl, row_of_own hown, hb⟩
end Go.Proofs.Ymbrdm
