/-
  THE WALK OF LawS930020GAligned.
-/
import Derived.Test.YmbrdnCost
import Derived.Test.YmbrdnPair
import Derived.Test.YmbrdnAid
import Derived.Deep.RegionHeld3
namespace Go.Proofs.Ymbrdn
open Go.ChangeShapes Go.WideShapes Go.ChangeAt Go.RowKit

theorem cost_set_take (qs : List OpT) (k : Nat) (o : OpT) (hk : k < qs.length) : costOf ((qs.set k o).take (k + 1)) = costOf (qs.take k) + (if o.kind = 61 then 0 else 1) := by
  rw [costOf_take_succ (o := o) (List.getElem?_set_self hk)]
  congr 2
  rw [List.take_set_of_le (Nat.le_refl _)]

theorem row_lt {w : World} {b off : Nat} {cs : List Value} (h : Row w (some ⟨b, off, none⟩) cs) (hl : 0 < cs.length) : b < w.heap.size := by
  rcases h with rfl | ⟨b', off', hb, hc⟩
  · simp at hl
  · simp only [Option.some.injEq, Addr.mk.injEq, and_true] at hb
    obtain ⟨rfl, rfl⟩ := hb
    exact World.block_lt_of_cell? w _ (hc 0 cs[0] (by simp [hl]))

theorem keep_store {wr : World} {g i j l : Nat} {v1 v2 v3 : Value} {o : Obj} {q : Addr} {v : Value} (h : wr.cell? q = some v) (hq : ¬ q.block = g) :
    ((((wr.setCell ⟨g, i, none⟩ v1).setCell ⟨g, j, none⟩ v2).setCell ⟨g, l, none⟩ v3).alloc o).drew.cell? q = some v := by
  show ((((wr.setCell ⟨g, i, none⟩ v1).setCell ⟨g, j, none⟩ v2).setCell ⟨g, l, none⟩ v3).alloc o).cell? q = some v
  refine al_old _ ?_
  rw [World.cell?_of_block (Below.heap_setCell _ _ _ _ hq), World.cell?_of_block (Below.heap_setCell _ _ _ _ hq), World.cell?_of_block (Below.heap_setCell _ _ _ _ hq)]
  exact h

theorem keep_inner {wr : World} {g i j l : Nat} {v1 v2 v3 : Value} {o : Obj} {q : Addr} {v : Value} (h : wr.cell? q = some v) (hq : ¬ q.block = g) :
    ((((wr.setCell ⟨g, i, none⟩ v1).setCell ⟨g, j, none⟩ v2).setCell ⟨g, l, none⟩ v3).alloc o).cell? q = some v := keep_store h hq

set_option linter.unusedVariables false
set_option maxHeartbeats 1000000 in
theorem galign_walk (a : Option Addr) (ca : Nat) (x : List Int) (b : Option Addr) (cb : Nat) (y : List Int) (w : World) (hx : Row w a (bytesC x)) (bx : ∀ z ∈ x, (Lit.int .u8 z).wf = true) (nx : a = none → x.length = 0 ∧ ca = 0)
    (hy : Row w b (bytesC y)) (bya : ∀ z ∈ y, (Lit.int .u8 z).wf = true) (ny : b = none → y.length = 0 ∧ cb = 0) :
    Calls Ydnm.prog 11 #[.slice a x.length ca, .slice b y.length cb] w fun e w' => e = .returned (.bool true) ∧ Below w.heap.size w w' := by
  clear bx bya nx ny
  obtain ⟨i0, hi, hz0, hz1, hz2⟩ := info_parts infoOp
  by_cases h1 : 1024 < x.length
  · go_enter Ydnm.func11, Ydnm.ntmps11
    go_wp2
    go_ret
    exact ⟨rfl, Below.refl _ _⟩
  by_cases h2 : 1024 < y.length
  · go_enter Ydnm.func11, Ydnm.ntmps11
    go_wp2
    go_ret
    exact ⟨rfl, Below.refl _ _⟩
  by_cases hyx : x.length < y.length
  ·
    go_enter Ydnm.func11, Ydnm.ntmps11
    go_wp2_with (first | (at_make; refine wpList_make_full _ rfl _ _ 23 rfl w.heap.size 27 i0 _ 3 Ydnm.underlying23 hi hz0 hz1 _ _ _ _ y.length rfl rfl rfl rfl (by rw [hz2]; omega) (by unfold maxLen; omega) (Nat.le_refl _) ?_))
    intro w1 hown hgrow
    have hb1 := (Below.refl w.heap.size w).grown hgrow (Nat.le_refl _) (by simp)
    have hw1 := (own_lt hown).2
    simp only [made_ops] at hown
    clear hgrow
    go_wp2
    go_loopw [7, 8] (fun v i wr => ∃ (k s : Nat) (qs : List OpT), k ≤ y.length ∧ i = .int .i64 k ∧ v = .int .i64 s ∧ Below w.heap.size w wr ∧ w.heap.size < wr.heap.size ∧
       wr.ownsRow w.heap.size 27 3 (.slice (some ⟨w.heap.size, 0, none⟩) y.length y.length) y.length (opsC qs) ∧ costOf (qs.take k) + s = k) (fun _ i _ => y.length - (intOf i).toNat)
    case atStart => exact ⟨0, 0, _, Nat.zero_le _, rfl, rfl, hb1, hw1, hown, by simp [costOf]⟩
    case round =>
      obtain ⟨k, s, qs, hk, rfl, rfl, hb, hlts, hown, hcs⟩ := hrel
      have hql := own_ops_len hown
      by_cases hlt : k < y.length
      · have f0 := hown.frozenAt (k * 3)
        have f1 := hown.frozenAt (k * 3 + 1)
        have f2 := hown.frozenAt (k * 3 + 2)
        obtain ⟨q, hqk⟩ := op_at (os := qs) (k := k) (by omega)
        obtain ⟨g0, g1, g2⟩ := own_ops_cells hown hqk
        have hsz := hb.size
        have hsk : s ≤ k := by omega
        have HO : Hid (wr.ownsRow w.heap.size 27 3 (.slice (some ⟨w.heap.size, 0, none⟩) y.length y.length) y.length (opsC qs)) := hown
        have HC : Hid (costOf (qs.take k) + s = k) := hcs
        clear hown hqk hcs
        have i0 : (k : Int) < (y.length : Int) := by omega
        by_cases hky : y.length ≤ k
        · omega
        · obtain ⟨b2, o2, rfl, hc2⟩ := (hy.below hb (Nat.le_refl _)).bytes (by omega)
          obtain ⟨v, hv⟩ := op_at (os := y) (k := k) (by omega)
          have c2 := hc2 k v hv
          have i2 : ¬ (y.length : Int) ≤ (k : Int) := by omega
          have i3 : (k : Int) < (y.length : Int) := by omega
          clear hc2 hv
          by_cases hkx : x.length ≤ k
          · have i1 : (x.length : Int) ≤ (k : Int) := by omega
            clear hx hy
            go_wp2
            go_roundw
            case rel =>
              obtain ⟨r1, r2⟩ := own_ops_store HO.out k (43) (0) (v)
              have ec := cost_set_take qs k ⟨43, 0, v⟩ (by omega)
              refine ⟨k + 1, s, _, by omega, by go_num, rfl, by go_grown, by go_size, r1, ?_⟩
              have hc0 := HC.out
              simp at ec
              omega
            case measure => simp [intOf]; omega
          · obtain ⟨b1, o1, rfl, hc1⟩ := (hx.below hb (Nat.le_refl _)).bytes (by omega)
            obtain ⟨u, hu⟩ := op_at (os := x) (k := k) (by omega)
            have c1 := hc1 k u hu
            have l1 : b1 < wr.heap.size := World.block_lt_of_cell? wr _ c1
            have l2 : b2 < wr.heap.size := World.block_lt_of_cell? wr _ c2
            have m1 : ¬ b1 = w.heap.size := Nat.ne_of_lt (row_lt hx (by rw [bytesC_length]; omega))
            have m2 : ¬ b2 = w.heap.size := Nat.ne_of_lt (row_lt hy (by rw [bytesC_length]; omega))
            have i1 : ¬ (x.length : Int) ≤ (k : Int) := by omega
            have i4 : (k : Int) < (x.length : Int) := by omega
            clear hc1 hu hx hy
            have e1 : ∀ v1 v2 v3 o, ((((wr.setCell ⟨w.heap.size, k * 3, none⟩ v1).setCell ⟨w.heap.size, k * 3 + 1, none⟩ v2).setCell ⟨w.heap.size, k * 3 + 2, none⟩ v3).alloc o).cell? ⟨b1, o1 + k, none⟩ = some (.int .u8 u) := fun _ _ _ _ => keep_inner c1 m1
            have e2 : ∀ v1 v2 v3 o, ((((wr.setCell ⟨w.heap.size, k * 3, none⟩ v1).setCell ⟨w.heap.size, k * 3 + 1, none⟩ v2).setCell ⟨w.heap.size, k * 3 + 2, none⟩ v3).alloc o).cell? ⟨b2, o2 + k, none⟩ = some (.int .u8 v) := fun _ _ _ _ => keep_inner c2 m2
            by_cases huv : u = v
            · subst huv
              have hp : (pairT u u).kind = 61 := by simp [pairT]
              go_wp2
              go_region_held3 (fun w' => w'.cell? ⟨b1, o1 + k, none⟩ = some (.int .u8 u) ∧ w'.cell? ⟨b2, o2 + k, none⟩ = some (.int .u8 u)) (first | (go_keep; done) | exact ⟨keep_store c1 m1, keep_store c2 m2⟩)
                (first | (go_at_call 27; refine (pair_calls u u _).mono ?_; rintro e w' ⟨rfl, rfl⟩))
              go_wp2
              go_quiet (fail)
              go_wp2
              go_roundw
              case rel =>
                obtain ⟨r1, r2⟩ := own_ops_store HO.out k (61) (u) (u)
                have ec := cost_set_take qs k ⟨61, u, u⟩ (by omega)
                refine ⟨k + 1, s + 1, _, by omega, by go_num, by go_num, below_dn (by go_grown) _, by simp; omega, own_dn (r1.alloc _) _, ?_⟩
                have hc0 := HC.out
                simp at ec
                omega
              case measure => simp [intOf]; omega
            · have hp : (pairT u v).kind = 126 := by simp [pairT, huv]
              have t : (u == v) = false := by simp [huv]
              go_wp2
              go_region_held3 (fun w' => w'.cell? ⟨b1, o1 + k, none⟩ = some (.int .u8 u) ∧ w'.cell? ⟨b2, o2 + k, none⟩ = some (.int .u8 v)) (first | (go_keep; done) | exact ⟨keep_store c1 m1, keep_store c2 m2⟩)
                (first | (go_at_call 27; refine (pair_calls u v _).mono ?_; rintro e w' ⟨rfl, rfl⟩))
              go_wp2
              go_quiet (fail)
              go_wp2
              go_roundw
              case rel =>
                obtain ⟨r1, r2⟩ := own_ops_store HO.out k (126) (u) (v)
                have ec := cost_set_take qs k ⟨126, u, v⟩ (by omega)
                refine ⟨k + 1, s, _, by omega, by go_num, rfl, below_dn (by go_grown) _, by simp; omega, own_dn (r1.alloc _) _, ?_⟩
                have hc0 := HC.out
                simp at ec
                omega
              case measure => simp [intOf]; omega
      · have hge : ¬ (k : Int) < (y.length : Int) := by omega
        obtain rfl : k = y.length := by omega
        have ht : qs.take y.length = qs := List.take_of_length_le (by omega)
        rw [ht] at hcs
        have hsn : s ≤ y.length := by omega
        obtain ⟨n, hn⟩ : ∃ n, n = y.length := ⟨_, rfl⟩
        have HC : Hid (costOf qs + s = y.length) := hcs
        have CC : Hid (Calls Ydnm.prog 26 #[.slice (some ⟨w.heap.size, 0, none⟩) (y.length) (y.length)] wr fun e w' => e = .returned (.int .i64 (costOf qs)) ∧ Below wr.heap.size wr w') := by
          have := cost_calls (some ⟨w.heap.size, 0, none⟩) (y.length) qs wr (row_of_own hown) (by omega)
          rwa [hql] at this
        clear hown hcs ht hn hx hy
        go_wp2_with fail
        refine CC.out.mono ?_
        rintro e w2 ⟨rfl, b2⟩
        have hB := hb.trans (b2.mono hb.size)
        have ef : ((costOf qs : Int) == (y.length : Int) - (s : Int)) = true := by
          have := HC.out
          rw [beq_iff_eq]
          omega
        go_wp2
        go_ret
        exact ⟨rfl, hB⟩
  ·
    go_enter Ydnm.func11, Ydnm.ntmps11
    go_wp2_with (first | (at_make; refine wpList_make_full _ rfl _ _ 23 rfl w.heap.size 27 i0 _ 3 Ydnm.underlying23 hi hz0 hz1 _ _ _ _ x.length rfl rfl rfl rfl (by rw [hz2]; omega) (by unfold maxLen; omega) (Nat.le_refl _) ?_))
    intro w1 hown hgrow
    have hb1 := (Below.refl w.heap.size w).grown hgrow (Nat.le_refl _) (by simp)
    have hw1 := (own_lt hown).2
    simp only [made_ops] at hown
    clear hgrow
    go_wp2
    go_loopw [7, 8] (fun v i wr => ∃ (k s : Nat) (qs : List OpT), k ≤ x.length ∧ i = .int .i64 k ∧ v = .int .i64 s ∧ Below w.heap.size w wr ∧ w.heap.size < wr.heap.size ∧
       wr.ownsRow w.heap.size 27 3 (.slice (some ⟨w.heap.size, 0, none⟩) x.length x.length) x.length (opsC qs) ∧ costOf (qs.take k) + s = k) (fun _ i _ => x.length - (intOf i).toNat)
    case atStart => exact ⟨0, 0, _, Nat.zero_le _, rfl, rfl, hb1, hw1, hown, by simp [costOf]⟩
    case round =>
      obtain ⟨k, s, qs, hk, rfl, rfl, hb, hlts, hown, hcs⟩ := hrel
      have hql := own_ops_len hown
      by_cases hlt : k < x.length
      · have f0 := hown.frozenAt (k * 3)
        have f1 := hown.frozenAt (k * 3 + 1)
        have f2 := hown.frozenAt (k * 3 + 2)
        obtain ⟨q, hqk⟩ := op_at (os := qs) (k := k) (by omega)
        obtain ⟨g0, g1, g2⟩ := own_ops_cells hown hqk
        have hsz := hb.size
        have hsk : s ≤ k := by omega
        have HO : Hid (wr.ownsRow w.heap.size 27 3 (.slice (some ⟨w.heap.size, 0, none⟩) x.length x.length) x.length (opsC qs)) := hown
        have HC : Hid (costOf (qs.take k) + s = k) := hcs
        clear hown hqk hcs
        have i0 : (k : Int) < (x.length : Int) := by omega
        by_cases hky : y.length ≤ k
        · obtain ⟨b1, o1, rfl, hc1⟩ := (hx.below hb (Nat.le_refl _)).bytes (by omega)
          obtain ⟨u, hu⟩ := op_at (os := x) (k := k) (by omega)
          have c1 := hc1 k u hu
          have i1 : (k : Int) < (x.length : Int) := by omega
          have i2 : (y.length : Int) ≤ (k : Int) := by omega
          clear hc1 hu hx hy
          go_wp2
          go_roundw
          case rel =>
            obtain ⟨r1, r2⟩ := own_ops_store HO.out k (45) (u) (0)
            have ec := cost_set_take qs k ⟨45, u, 0⟩ (by omega)
            refine ⟨k + 1, s, _, by omega, by go_num, rfl, by go_grown, by go_size, r1, ?_⟩
            have hc0 := HC.out
            simp at ec
            omega
          case measure => simp [intOf]; omega
        · obtain ⟨b2, o2, rfl, hc2⟩ := (hy.below hb (Nat.le_refl _)).bytes (by omega)
          obtain ⟨v, hv⟩ := op_at (os := y) (k := k) (by omega)
          have c2 := hc2 k v hv
          have i2 : ¬ (y.length : Int) ≤ (k : Int) := by omega
          have i3 : (k : Int) < (y.length : Int) := by omega
          clear hc2 hv
          by_cases hkx : x.length ≤ k
          · omega
          · obtain ⟨b1, o1, rfl, hc1⟩ := (hx.below hb (Nat.le_refl _)).bytes (by omega)
            obtain ⟨u, hu⟩ := op_at (os := x) (k := k) (by omega)
            have c1 := hc1 k u hu
            have l1 : b1 < wr.heap.size := World.block_lt_of_cell? wr _ c1
            have l2 : b2 < wr.heap.size := World.block_lt_of_cell? wr _ c2
            have m1 : ¬ b1 = w.heap.size := Nat.ne_of_lt (row_lt hx (by rw [bytesC_length]; omega))
            have m2 : ¬ b2 = w.heap.size := Nat.ne_of_lt (row_lt hy (by rw [bytesC_length]; omega))
            have i1 : ¬ (x.length : Int) ≤ (k : Int) := by omega
            have i4 : (k : Int) < (x.length : Int) := by omega
            clear hc1 hu hx hy
            have e1 : ∀ v1 v2 v3 o, ((((wr.setCell ⟨w.heap.size, k * 3, none⟩ v1).setCell ⟨w.heap.size, k * 3 + 1, none⟩ v2).setCell ⟨w.heap.size, k * 3 + 2, none⟩ v3).alloc o).cell? ⟨b1, o1 + k, none⟩ = some (.int .u8 u) := fun _ _ _ _ => keep_inner c1 m1
            have e2 : ∀ v1 v2 v3 o, ((((wr.setCell ⟨w.heap.size, k * 3, none⟩ v1).setCell ⟨w.heap.size, k * 3 + 1, none⟩ v2).setCell ⟨w.heap.size, k * 3 + 2, none⟩ v3).alloc o).cell? ⟨b2, o2 + k, none⟩ = some (.int .u8 v) := fun _ _ _ _ => keep_inner c2 m2
            by_cases huv : u = v
            · subst huv
              have hp : (pairT u u).kind = 61 := by simp [pairT]
              go_wp2
              go_region_held3 (fun w' => w'.cell? ⟨b1, o1 + k, none⟩ = some (.int .u8 u) ∧ w'.cell? ⟨b2, o2 + k, none⟩ = some (.int .u8 u)) (first | (go_keep; done) | exact ⟨keep_store c1 m1, keep_store c2 m2⟩)
                (first | (go_at_call 27; refine (pair_calls u u _).mono ?_; rintro e w' ⟨rfl, rfl⟩))
              go_wp2
              go_quiet (fail)
              go_wp2
              go_roundw
              case rel =>
                obtain ⟨r1, r2⟩ := own_ops_store HO.out k (61) (u) (u)
                have ec := cost_set_take qs k ⟨61, u, u⟩ (by omega)
                refine ⟨k + 1, s + 1, _, by omega, by go_num, by go_num, below_dn (by go_grown) _, by simp; omega, own_dn (r1.alloc _) _, ?_⟩
                have hc0 := HC.out
                simp at ec
                omega
              case measure => simp [intOf]; omega
            · have hp : (pairT u v).kind = 126 := by simp [pairT, huv]
              have t : (u == v) = false := by simp [huv]
              go_wp2
              go_region_held3 (fun w' => w'.cell? ⟨b1, o1 + k, none⟩ = some (.int .u8 u) ∧ w'.cell? ⟨b2, o2 + k, none⟩ = some (.int .u8 v)) (first | (go_keep; done) | exact ⟨keep_store c1 m1, keep_store c2 m2⟩)
                (first | (go_at_call 27; refine (pair_calls u v _).mono ?_; rintro e w' ⟨rfl, rfl⟩))
              go_wp2
              go_quiet (fail)
              go_wp2
              go_roundw
              case rel =>
                obtain ⟨r1, r2⟩ := own_ops_store HO.out k (126) (u) (v)
                have ec := cost_set_take qs k ⟨126, u, v⟩ (by omega)
                refine ⟨k + 1, s, _, by omega, by go_num, rfl, below_dn (by go_grown) _, by simp; omega, own_dn (r1.alloc _) _, ?_⟩
                have hc0 := HC.out
                simp at ec
                omega
              case measure => simp [intOf]; omega
      · have hge : ¬ (k : Int) < (x.length : Int) := by omega
        obtain rfl : k = x.length := by omega
        have ht : qs.take x.length = qs := List.take_of_length_le (by omega)
        rw [ht] at hcs
        have hsn : s ≤ x.length := by omega
        obtain ⟨n, hn⟩ : ∃ n, n = x.length := ⟨_, rfl⟩
        have HC : Hid (costOf qs + s = x.length) := hcs
        have CC : Hid (Calls Ydnm.prog 26 #[.slice (some ⟨w.heap.size, 0, none⟩) (x.length) (x.length)] wr fun e w' => e = .returned (.int .i64 (costOf qs)) ∧ Below wr.heap.size wr w') := by
          have := cost_calls (some ⟨w.heap.size, 0, none⟩) (x.length) qs wr (row_of_own hown) (by omega)
          rwa [hql] at this
        clear hown hcs ht hn hx hy
        go_wp2_with fail
        refine CC.out.mono ?_
        rintro e w2 ⟨rfl, b2⟩
        have hB := hb.trans (b2.mono hb.size)
        have ef : ((costOf qs : Int) == (x.length : Int) - (s : Int)) = true := by
          have := HC.out
          rw [beq_iff_eq]
          omega
        go_wp2
        go_ret
        exact ⟨rfl, hB⟩
end Go.Proofs.Ymbrdn
