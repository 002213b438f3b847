/-
  THE WALK OF Within.
-/
import Derived.Test.YmbrdmADist
namespace Go.Proofs.Ymbrdm
open Go.ChangeShapes Go.WideShapes Go.ChangeAt Go.RowKit

theorem row_apart {w : World} {a : Option Addr} {cs : List Value} {g : Nat} (h : Row w a cs) (hl : 0 < cs.length) (hg : w.heap.size ≤ g) : ∀ b off, a = some ⟨b, off, none⟩ → b ≠ g := by
  intro b off he
  rcases h with rfl | ⟨b', off', ha, hc⟩
  · simp at hl
  · rw [ha] at he
    simp only [Option.some.injEq, Addr.mk.injEq, and_true] at he
    obtain ⟨rfl, rfl⟩ := he
    have := World.block_lt_of_cell? w _ (hc 0 cs[0] (by simp [hl]))
    simp at this
    omega

theorem dp_bound (x y : List Int) (i j : Nat) (hi : i ≤ 1048576) (hj : j ≤ 1048577) : -1099511627776 ≤ dp x y i j ∧ dp x y i j ≤ 1099511627776 := by
  have h1 := dp_nonneg x y i j
  have h2 := dp_le x y i j
  omega

set_option maxHeartbeats 1000000 in
theorem within_calls (a b : Option Addr) (ca cb : Nat) (x y : List Int) (lim : Int) (w : World) (hx : Row w a (bytesC x)) (hy : Row w b (bytesC y)) (hlx : x.length ≤ 65536) (hly : y.length ≤ 65536) :
    Calls Ydmm.prog 16 #[.slice a x.length ca, .slice b y.length cb, .int .i64 lim] w fun e w' => e = .returned (.bool (decide (dp x y x.length y.length ≤ lim))) ∧ Below w.heap.size w w' := by
  obtain ⟨i0, hi, hz0, hz1, hz2⟩ := info_parts infoInt
  go_enter Ydmm.func16, Ydmm.ntmps16
  go_wp2_with (first | (at_make; refine wpList_make_full _ rfl _ _ 28 rfl w.heap.size 3 i0 _ 1 Ydmm.underlying28 hi hz0 hz1 _ _ _ _ (y.length + 1) rfl rfl (by omega) (by omega) (by rw [hz2]; omega) (by unfold maxLen; omega) (Nat.le_refl _) ?_))
  intro w1 own1 grow1
  have hb1 := (Below.refl w.heap.size w).grown grow1 (Nat.le_refl _) (by simp)
  have hw1 := (own_lt own1).2
  rw [intsF_zero'] at own1
  clear grow1
  go_wp2_with (first | (at_make; refine wpList_make_full _ rfl _ _ 28 rfl w.heap.size 3 i0 _ 1 Ydmm.underlying28 hi hz0 hz1 _ _ _ _ (y.length + 1) rfl rfl (by omega) (by omega) (by rw [hz2]; omega) (by unfold maxLen; omega) hb1.size ?_))
  intro w2 own2 grow2
  have hb2 := hb1.grown grow2 hb1.size (by simp)
  rw [intsF_zero'] at own2
  have own1' := own1.kept grow2 (.inr (by simp [Value.ownBlock]))
  clear grow2 own1 hb1
  go_wp2
  go_loopw [23] (fun i wr => ∃ (k : Nat) (f : Nat → Int), k ≤ y.length + 1 ∧ i = .int .i64 k ∧ wr.ownsRow w.heap.size 3 1 (.slice (some ⟨w.heap.size, 0, none⟩) (y.length + 1) (y.length + 1)) (y.length + 1) (intsF f (y.length + 1)) ∧
      wr.ownsRow w.heap.size 3 1 (.slice (some ⟨w1.heap.size, 0, none⟩) (y.length + 1) (y.length + 1)) (y.length + 1) (intsF (fun _ => 0) (y.length + 1)) ∧ (∀ j : Nat, j < k → f j = j) ∧ Below w.heap.size w wr) (fun i _ => y.length + 1 - (intOf i).toNat)
  case atStart => exact ⟨0, _, Nat.zero_le _, rfl, own1', own2, fun j hj => absurd hj (Nat.not_lt_zero _), hb2⟩
  case round =>
    clear own1' own2 hb2
    obtain ⟨k, f, hk, rfl, o1, o2, hf, hb⟩ := hrel
    by_cases hlt : k < y.length + 1
    · have c1 := own_ints_cell o1 hlt
      have f1 := o1.frozenAt k
      have O1 : Hid (wr.ownsRow w.heap.size 3 1 (.slice (some ⟨w.heap.size, 0, none⟩) (y.length + 1) (y.length + 1)) (y.length + 1) (intsF f (y.length + 1))) := o1
      have O2 : Hid (wr.ownsRow w.heap.size 3 1 (.slice (some ⟨w1.heap.size, 0, none⟩) (y.length + 1) (y.length + 1)) (y.length + 1) (intsF (fun _ => 0) (y.length + 1))) := o2
      have HF : Hid (∀ j : Nat, j < k → f j = j) := hf
      have i1 : (k : Int) < (y.length : Int) + 1 := by omega
      clear o1 o2 hf hx hy
      go_wp2
      go_roundw
      case rel =>
        obtain ⟨r1, r2⟩ := own_ints_store O1.out k (k : Int)
        refine ⟨k + 1, _, by omega, by go_num, r1, O2.out.kept r2 (.inr (by simp [Value.ownBlock]; omega)), ?_, by go_grown⟩
        intro j hj
        by_cases hjk : j = k
        · rw [if_pos hjk, hjk]
        · rw [if_neg hjk]
          exact HF.out j (by omega)
      case measure => simp [intOf]; omega
    · have hge : ¬ (k : Int) < (y.length : Int) + 1 := by omega
      have hfe : intsF f (y.length + 1) = intsF (dp x y 0) (y.length + 1) := intsF_congr (fun j hj => hf j (by omega))
      rw [hfe] at o1
      clear hfe hf
      obtain ⟨w3, rfl⟩ : ∃ w3 : World, w3 = wr := ⟨_, rfl⟩
      go_wp2
      go_loopw [7, 8, 10] (fun vp vc i wr => ∃ (k gp gc : Nat) (f : Nat → Int), k ≤ x.length ∧ i = .int .i64 k ∧ vp = .slice (some ⟨gp, 0, none⟩) (y.length + 1) (y.length + 1) ∧ vc = .slice (some ⟨gc, 0, none⟩) (y.length + 1) (y.length + 1) ∧ gp ≠ gc ∧
          wr.ownsRow w.heap.size 3 1 (.slice (some ⟨gp, 0, none⟩) (y.length + 1) (y.length + 1)) (y.length + 1) (intsF (dp x y k) (y.length + 1)) ∧
          wr.ownsRow w.heap.size 3 1 (.slice (some ⟨gc, 0, none⟩) (y.length + 1) (y.length + 1)) (y.length + 1) (intsF f (y.length + 1)) ∧ Below w.heap.size w wr) (fun _ _ i _ => x.length - (intOf i).toNat)
      case atStart => exact ⟨0, _, _, _, Nat.zero_le _, rfl, rfl, rfl, by omega, o1, o2, hb⟩
      case round =>
        clear o1 o2 hb hlt hge hk
        obtain ⟨k, gp, gc, f, hk, rfl, rfl, rfl, hne, o1, o2, hb⟩ := hrel
        by_cases hlt : k < x.length
        · obtain ⟨bx, ox, rfl, hcx⟩ := (hx.below hb (Nat.le_refl _)).bytes (by omega)
          obtain ⟨c, hc⟩ := op_at hlt
          have c1 := hcx k c hc
          have hgc := own_lt o2
          have i1 : (k : Int) < (x.length : Int) := by omega
          have FC : Hid (Calls Ydmm.prog 20 #[.slice (some ⟨gp, 0, none⟩) (y.length + 1) (y.length + 1), .slice (some ⟨gc, 0, none⟩) (y.length + 1) (y.length + 1), .int .u8 c, .slice b y.length cb] wr (RetFill wr w.heap.size gc (y.length + 1) (dp x y (k + 1)))) := by
            show Calls Ydmm.prog 20 #[.slice (some ⟨gp, 0, none⟩) (y.length + 1) (y.length + 1), .slice (some ⟨gc, 0, none⟩) (y.length + 1) (y.length + 1), .int .u8 c, .slice b y.length cb] wr (RetFill wr w.heap.size gc (y.length + 1) (dp x y (k + 1)))
            rw [dp_row x y k hc]
            exact fill_calls w.heap.size gc (some ⟨gp, 0, none⟩) b (y.length + 1) cb (dp x y k) f c y (y.length + 1) wr rfl (by omega) (fun j hj => dp_bound x y k j (by omega) (by omega)) o2 (row_of_own o1)
              (fun b' off' he => by simp only [Option.some.injEq, Addr.mk.injEq, and_true] at he; rw [← he.1]; exact hne) (hy.below hb (Nat.le_refl _)) (fun b' off' he hl => row_apart hy (by rw [bytesC_length]; exact hl) (by omega) b' off' he)
          clear hcx hc hx hy o2
          go_wp2_with fail
          refine FC.out.mono ?_
          rintro e w4 ⟨rfl, o3, g3⟩
          have o4 := o1.kept g3 (.inr (by simpa [Value.ownBlock] using hne))
          have hb4 : Below w.heap.size w w4 := hb.grown g3 hb.size (fun q hq => by cases hq; exact hgc.1)
          clear o1 g3 hb FC
          have d0 := own_ints_cell o3 (k := 0) (by omega)
          have i0' : (0 : Int) < (y.length : Int) + 1 := by omega
          have O3 : Hid (w4.ownsRow w.heap.size 3 1 (.slice (some ⟨gc, 0, none⟩) (y.length + 1) (y.length + 1)) (y.length + 1) (intsF (dp x y (k + 1)) (y.length + 1))) := o3
          have O4 : Hid (w4.ownsRow w.heap.size 3 1 (.slice (some ⟨gp, 0, none⟩) (y.length + 1) (y.length + 1)) (y.length + 1) (intsF (dp x y k) (y.length + 1))) := o4
          clear o3 o4
          go_wp2
          go_loop [11, 12] (fun l j => ∃ (q : Nat) (L : Int), 1 ≤ q ∧ q ≤ y.length + 1 ∧ j = .int .i64 q ∧ l = .int .i64 L ∧ (∀ r, r < q → L ≤ dp x y (k + 1) r) ∧ (∃ r, r < q ∧ L = dp x y (k + 1) r)) (fun _ j => y.length + 1 - (intOf j).toNat)
          case atStart => exact ⟨1, _, Nat.le_refl _, by omega, rfl, rfl, fun r hr => by obtain rfl : r = 0 := (by omega); exact Int.le_refl _, 0, by omega, rfl⟩
          case round =>
            clear d0
            obtain ⟨q, L, hq1, hq2, rfl, rfl, hall, hex⟩ := hrel
            by_cases hlq : q < y.length + 1
            · have d1 := own_ints_cell O3.out (k := q) hlq
              have i5 : (q : Int) < (y.length : Int) + 1 := by omega
              have HA : Hid (∀ r, r < q → L ≤ dp x y (k + 1) r) := hall
              have HE : Hid (∃ r, r < q ∧ L = dp x y (k + 1) r) := hex
              clear hall hex
              by_cases hlow : dp x y (k + 1) q < L
              · go_wp2
                go_round
                case rel =>
                  refine ⟨q + 1, _, by omega, by omega, by go_num, rfl, fun r hr => ?_, q, by omega, rfl⟩
                  by_cases hrq : r = q
                  · rw [hrq]; exact Int.le_refl _
                  · have := HA.out r (by omega); omega
                case measure => simp [intOf]; omega
              · go_wp2
                go_round
                case rel =>
                  refine ⟨q + 1, L, by omega, by omega, by go_num, rfl, fun r hr => ?_, ?_⟩
                  · by_cases hrq : r = q
                    · rw [hrq]; omega
                    · exact HA.out r (by omega)
                  · obtain ⟨r, h1, h2⟩ := HE.out
                    exact ⟨r, by omega, h2⟩
                case measure => simp [intOf]; omega
            · have hge : ¬ (q : Int) < (y.length : Int) + 1 := by omega
              obtain rfl : q = y.length + 1 := by omega
              by_cases hlim : lim < L
              · have HV : Hid (decide (dp x y x.length y.length ≤ lim) = false) := by
                  show decide (dp x y x.length y.length ≤ lim) = false
                  have h1 := dp_rows x y y.length lim (k + 1) (fun r hr => by have := hall r (by omega); omega) (x.length - (k + 1)) y.length (Nat.le_refl _)
                  rw [show k + 1 + (x.length - (k + 1)) = x.length by omega] at h1
                  exact decide_eq_false (by omega)
                clear hall hex
                go_wp2
                go_ret
                rw [HV.out]
                exact ⟨rfl, hb4⟩
              · clear hall hex
                go_wp2
                go_roundw
                case rel => exact ⟨k + 1, gc, gp, _, by omega, by go_num, rfl, rfl, fun e => hne e.symm, O3.out, O4.out, hb4⟩
                case measure => simp [intOf]; omega
        · have hge : ¬ (k : Int) < (x.length : Int) := by omega
          obtain rfl : k = x.length := by omega
          have c1 := own_ints_cell o1 (k := y.length) (by omega)
          have i1 : (y.length : Int) < (y.length : Int) + 1 := by omega
          clear o1 o2 hx hy
          go_wp2
          go_ret
          exact ⟨rfl, hb⟩
end Go.Proofs.Ymbrdm
