/-
  THE WALK OF Invert.
-/
import Derived.Test.YmbrdoBuild
namespace Go.Proofs.Ymbrdo
open Go.ChangeShapes Go.WideShapes Go.ChangeAt Go.RowKit


theorem invert_calls (a : Option Addr) (cap : Nat) (os : List OpT) (w : World) (h : Row w a (opsC os)) (hl : os.length ≤ 1048576) :
    Calls Ydom.prog 18 #[.slice a os.length cap] w fun e w' => ∃ g, e = .returned (.slice (some ⟨g, 0, none⟩) os.length os.length) ∧
      w'.ownsRow w.heap.size 23 3 (.slice (some ⟨g, 0, none⟩) os.length os.length) os.length (opsC (os.map invT)) ∧ Below w.heap.size w w' := by
  obtain ⟨i0, hi, hz0, hz1, hz2⟩ := info_parts infoOp
  go_enter Ydom.func18, Ydom.ntmps18
  go_wp2_with (first | (at_make; refine wpList_make_full _ rfl _ _ 28 rfl w.heap.size 23 i0 _ 3 Ydom.underlying28 hi hz0 hz1 _ _ _ _ os.length rfl rfl rfl rfl (by rw [hz2]; omega) (by unfold maxLen; omega) (Nat.le_refl _) ?_))
  intro w1 hown hgrow
  have hb1 := (Below.refl w.heap.size w).grown hgrow (Nat.le_refl _) (by simp)
  have hw1 := (own_lt hown).2
  simp only [made_ops] at hown
  go_wp2
  go_loopw [12] (fun i wr => ∃ (k : Nat) (qs : List OpT), k ≤ os.length ∧ i = .int .i64 k ∧ Below w.heap.size w wr ∧ w.heap.size < wr.heap.size ∧
     wr.ownsRow w.heap.size 23 3 (.slice (some ⟨w.heap.size, 0, none⟩) os.length os.length) os.length (opsC qs) ∧ (∀ j, j < k → qs[j]? = os[j]?.map invT)) (fun i _ => os.length - (intOf i).toNat)
  case atStart => exact ⟨0, _, Nat.zero_le _, rfl, hb1, hw1, hown, fun j hj => absurd hj (Nat.not_lt_zero _)⟩
  case round =>
    obtain ⟨k, qs, hk, rfl, hb, hlts, hown, hq⟩ := hrel
    have hql := own_ops_len hown
    by_cases hlt : k < os.length
    · obtain ⟨b, off, rfl, hc⟩ := (h.below hb (Nat.le_refl _)).ops (by omega)
      obtain ⟨o, ho⟩ := op_at hlt
      obtain ⟨c0, c1, c2⟩ := hc k o ho
      have f0 := hown.frozenAt (k * 3)
      have f1 := hown.frozenAt (k * 3 + 1)
      have f2 := hown.frozenAt (k * 3 + 2)
      obtain ⟨q, hqk⟩ := op_at (os := qs) (k := k) (by omega)
      obtain ⟨g0, g1, g2⟩ := own_ops_cells hown hqk
      have hsz := hb.size
      have HO : Hid _ := hown
      have HQ : Hid _ := hq
      have Ho : Hid _ := ho
      clear hc h ho hown hq hqk
      have key : ∀ x y z, x = (invT o).kind → y = o.new → z = o.old → ∀ j, j < k + 1 → (qs.set k ⟨x, y, z⟩)[j]? = os[j]?.map invT := by
        intro x y z hx hy hz j hj
        subst hx hy hz
        by_cases hjk : j = k
        · subst hjk
          rw [Ho.out, List.getElem?_set_self (by omega)]
          rfl
        · rw [List.getElem?_set_ne (by omega)]
          exact HQ.out j (by omega)
      have KEY : Hid _ := key
      clear key
      by_cases h43 : o.kind = 43
      · have t1 : (o.kind == 43) = true := by simp [h43]
        go_wp2
        go_roundw
        case rel =>
          obtain ⟨r1, r2⟩ := own_ops_store HO.out k 45 o.new o.old
          exact ⟨k + 1, _, by omega, by go_num, by go_grown, by go_size, r1.alloc _, KEY.out _ _ _ (by simp [invT, h43]) rfl rfl⟩
        case measure => simp [intOf]; omega
      · have t1 : (o.kind == 43) = false := by simp [h43]
        by_cases h45 : o.kind = 45
        · have t2 : (o.kind == 45) = true := by simp [h45]
          go_wp2
          go_roundw
          case rel =>
            obtain ⟨r1, r2⟩ := own_ops_store HO.out k 43 o.new o.old
            exact ⟨k + 1, _, by omega, by go_num, by go_grown, by go_size, r1.alloc _, KEY.out _ _ _ (by simp [invT, h45]) rfl rfl⟩
          case measure => simp [intOf]; omega
        · have t2 : (o.kind == 45) = false := by simp [h45]
          go_wp2
          go_roundw
          case rel =>
            obtain ⟨r1, r2⟩ := own_ops_store HO.out k o.kind o.new o.old
            exact ⟨k + 1, _, by omega, by go_num, by go_grown, by go_size, r1.alloc _, KEY.out _ _ _ (by simp [invT, h43, h45]) rfl rfl⟩
          case measure => simp [intOf]; omega
    · have hge : ¬ (k : Int) < (os.length : Int) := by omega
      obtain rfl : k = os.length := by omega
      have hqe : qs = os.map invT := by
        apply List.ext_getElem?
        intro j
        by_cases hj : j < os.length
        · rw [hq j hj, List.getElem?_map]
        · rw [List.getElem?_eq_none (by omega), List.getElem?_eq_none (by simp; omega)]
      clear hq
      subst hqe
      go_wp2
      go_ret
      exact ⟨w.heap.size, rfl, hown, hb⟩
end Go.Proofs.Ymbrdo
