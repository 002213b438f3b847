/-
  THE WALK OF LawS930020HHamming.
-/
import Derived.Test.YmbrdnDiff
import Derived.Test.YmbrdnPair
import Derived.Test.YmbrdnAid
import Derived.Deep.RegionHeld3
namespace Go.Proofs.Ymbrdn
open Go.ChangeShapes Go.WideShapes Go.ChangeAt Go.RowKit
set_option linter.unusedVariables false
set_option maxHeartbeats 1000000 in
theorem hham_walk (a : Option Addr) (ca : Nat) (x : List Int) (b : Option Addr) (cb : Nat) (y : List Int) (w : World) (hx : Row w a (bytesC x)) (bx : ∀ z ∈ x, (Lit.int .u8 z).wf = true) (nx : a = none → x.length = 0 ∧ ca = 0)
    (hy : Row w b (bytesC y)) (bya : ∀ z ∈ y, (Lit.int .u8 z).wf = true) (ny : b = none → y.length = 0 ∧ cb = 0) :
    Calls Ydnm.prog 14 #[.slice a x.length ca, .slice b y.length cb] w fun e w' => e = .returned (.bool true) ∧ Below w.heap.size w w' := by
  clear bx bya nx ny
  by_cases hbig : 1024 < x.length ∨ 1024 < y.length
  · rcases hbig with h | h
    · have t : (1024 : Int) < (x.length : Int) := by omega
      go_enter Ydnm.func14, Ydnm.ntmps14
      go_wp2
      go_ret
      exact ⟨rfl, Below.refl _ _⟩
    · by_cases h2 : 1024 < x.length
      · go_enter Ydnm.func14, Ydnm.ntmps14
        go_wp2
        go_ret
        exact ⟨rfl, Below.refl _ _⟩
      · go_enter Ydnm.func14, Ydnm.ntmps14
        go_wp2
        go_ret
        exact ⟨rfl, Below.refl _ _⟩
  have h1 : ¬ 1024 < x.length := fun h => hbig (.inl h)
  have h2 : ¬ 1024 < y.length := fun h => hbig (.inr h)
  clear hbig
  by_cases hyx : y.length < x.length
  ·
    have hnx : y.length ≤ x.length := by omega
    have hny : y.length ≤ y.length := by omega
    go_enter Ydnm.func14, Ydnm.ntmps14
    go_wp2
    go_loopw [6, 7, 8] (fun u v i wr => ∃ k : Nat, k ≤ y.length ∧ i = .int .i64 k ∧ v = .int .i64 (diffN x y k) ∧ u = .int .i64 ((k : Int) - (diffN x y k : Int)) ∧ Below w.heap.size w wr) (fun _ _ i _ => y.length - (intOf i).toNat)
    case atStart => exact ⟨0, Nat.zero_le _, rfl, rfl, by simp [diffN], Below.refl _ _⟩
    case round =>
      obtain ⟨k, hk, rfl, rfl, rfl, hb⟩ := hrel
      have hdl := diffN_le x y k
      by_cases hlt : k < y.length
      · obtain ⟨b1, o1, rfl, hc1⟩ := (hx.below hb (Nat.le_refl _)).bytes (by omega)
        obtain ⟨b2, o2, rfl, hc2⟩ := (hy.below hb (Nat.le_refl _)).bytes (by omega)
        obtain ⟨u, hu⟩ := op_at (os := x) (k := k) (by omega)
        obtain ⟨v, hv⟩ := op_at (os := y) (k := k) (by omega)
        have c1 := hc1 k u hu
        have c2 := hc2 k v hv
        have l1 : b1 < wr.heap.size := World.block_lt_of_cell? wr _ c1
        have l2 : b2 < wr.heap.size := World.block_lt_of_cell? wr _ c2
        have i1 : (k : Int) < (x.length : Int) := by omega
        have i2 : (k : Int) < (y.length : Int) := by omega
        have i3 : (k : Int) < (y.length : Int) := by omega
        have hsz := hb.size
        clear hx hy hc1 hc2
        by_cases huv : u = v
        · subst huv
          have E : Hid (diffN x y (k + 1) = diffN x y k) := diffN_same hu hv
          have hp : (pairT u u).kind = 61 := by simp [pairT]
          clear hu hv
          go_wp2
          go_region_held3 (fun w' => w'.cell? ⟨b1, o1 + k, none⟩ = some (.int .u8 u) ∧ w'.cell? ⟨b2, o2 + k, none⟩ = some (.int .u8 u)) (go_keep)
            (first | (go_at_call 27; refine (pair_calls u u _).mono ?_; rintro e w' ⟨rfl, rfl⟩))
          all_goals
            go_wp2
            go_quiet (fail)
            go_wp2
            go_roundw
            case rel => exact ⟨k + 1, by omega, by go_num, by rw [E.out], congrArg (Value.int .i64) (by have e := E.out; omega), below_dn (by go_grown) _⟩
            case measure => simp [intOf]; omega
        · have E : Hid (diffN x y (k + 1) = diffN x y k + 1) := diffN_diff hu hv huv
          have hp : (pairT u v).kind = 126 := by simp [pairT, huv]
          clear hu hv
          go_wp2
          go_region_held3 (fun w' => w'.cell? ⟨b1, o1 + k, none⟩ = some (.int .u8 u) ∧ w'.cell? ⟨b2, o2 + k, none⟩ = some (.int .u8 v)) (go_keep)
            (first | (go_at_call 27; refine (pair_calls u v _).mono ?_; rintro e w' ⟨rfl, rfl⟩))
          all_goals
            go_wp2
            go_quiet (fail)
            go_wp2
            go_roundw
            case rel => exact ⟨k + 1, by omega, by go_num, by rw [E.out]; rfl, congrArg (Value.int .i64) (by have e := E.out; omega), below_dn (by go_grown) _⟩
            case measure => simp [intOf]; omega
      · have hge : ¬ (k : Int) < (y.length : Int) := by omega
        obtain rfl : k = y.length := by omega
        go_wp2_with fail
        refine (hdiffer_calls a b ca cb x y (y.length) wr (hx.below hb (Nat.le_refl _)) (hy.below hb (Nat.le_refl _)) hnx hny (by omega)).mono ?_
        rintro e w2 ⟨rfl, b2⟩
        have hB := hb.trans (b2.mono hb.size)
        clear hx hy
        go_wp2
        all_goals
          go_ret
          exact ⟨by simp, hB⟩
  ·
    have hnx : x.length ≤ x.length := by omega
    have hny : x.length ≤ y.length := by omega
    go_enter Ydnm.func14, Ydnm.ntmps14
    go_wp2
    go_loopw [6, 7, 8] (fun u v i wr => ∃ k : Nat, k ≤ x.length ∧ i = .int .i64 k ∧ v = .int .i64 (diffN x y k) ∧ u = .int .i64 ((k : Int) - (diffN x y k : Int)) ∧ Below w.heap.size w wr) (fun _ _ i _ => x.length - (intOf i).toNat)
    case atStart => exact ⟨0, Nat.zero_le _, rfl, rfl, by simp [diffN], Below.refl _ _⟩
    case round =>
      obtain ⟨k, hk, rfl, rfl, rfl, hb⟩ := hrel
      have hdl := diffN_le x y k
      by_cases hlt : k < x.length
      · obtain ⟨b1, o1, rfl, hc1⟩ := (hx.below hb (Nat.le_refl _)).bytes (by omega)
        obtain ⟨b2, o2, rfl, hc2⟩ := (hy.below hb (Nat.le_refl _)).bytes (by omega)
        obtain ⟨u, hu⟩ := op_at (os := x) (k := k) (by omega)
        obtain ⟨v, hv⟩ := op_at (os := y) (k := k) (by omega)
        have c1 := hc1 k u hu
        have c2 := hc2 k v hv
        have l1 : b1 < wr.heap.size := World.block_lt_of_cell? wr _ c1
        have l2 : b2 < wr.heap.size := World.block_lt_of_cell? wr _ c2
        have i1 : (k : Int) < (x.length : Int) := by omega
        have i2 : (k : Int) < (y.length : Int) := by omega
        have i3 : (k : Int) < (x.length : Int) := by omega
        have hsz := hb.size
        clear hx hy hc1 hc2
        by_cases huv : u = v
        · subst huv
          have E : Hid (diffN x y (k + 1) = diffN x y k) := diffN_same hu hv
          have hp : (pairT u u).kind = 61 := by simp [pairT]
          clear hu hv
          go_wp2
          go_region_held3 (fun w' => w'.cell? ⟨b1, o1 + k, none⟩ = some (.int .u8 u) ∧ w'.cell? ⟨b2, o2 + k, none⟩ = some (.int .u8 u)) (go_keep)
            (first | (go_at_call 27; refine (pair_calls u u _).mono ?_; rintro e w' ⟨rfl, rfl⟩))
          all_goals
            go_wp2
            go_quiet (fail)
            go_wp2
            go_roundw
            case rel => exact ⟨k + 1, by omega, by go_num, by rw [E.out], congrArg (Value.int .i64) (by have e := E.out; omega), below_dn (by go_grown) _⟩
            case measure => simp [intOf]; omega
        · have E : Hid (diffN x y (k + 1) = diffN x y k + 1) := diffN_diff hu hv huv
          have hp : (pairT u v).kind = 126 := by simp [pairT, huv]
          clear hu hv
          go_wp2
          go_region_held3 (fun w' => w'.cell? ⟨b1, o1 + k, none⟩ = some (.int .u8 u) ∧ w'.cell? ⟨b2, o2 + k, none⟩ = some (.int .u8 v)) (go_keep)
            (first | (go_at_call 27; refine (pair_calls u v _).mono ?_; rintro e w' ⟨rfl, rfl⟩))
          all_goals
            go_wp2
            go_quiet (fail)
            go_wp2
            go_roundw
            case rel => exact ⟨k + 1, by omega, by go_num, by rw [E.out]; rfl, congrArg (Value.int .i64) (by have e := E.out; omega), below_dn (by go_grown) _⟩
            case measure => simp [intOf]; omega
      · have hge : ¬ (k : Int) < (x.length : Int) := by omega
        obtain rfl : k = x.length := by omega
        go_wp2_with fail
        refine (hdiffer_calls a b ca cb x y (x.length) wr (hx.below hb (Nat.le_refl _)) (hy.below hb (Nat.le_refl _)) hnx hny (by omega)).mono ?_
        rintro e w2 ⟨rfl, b2⟩
        have hB := hb.trans (b2.mono hb.size)
        clear hx hy
        go_wp2
        all_goals
          go_ret
          exact ⟨by simp, hB⟩
end Go.Proofs.Ymbrdn
