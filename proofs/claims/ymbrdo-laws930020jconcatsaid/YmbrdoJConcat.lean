/-
  THE WALK OF LawS930020JConcat.
-/
import Derived.Test.YmbrdoBuf
namespace Go.Proofs.Ymbrdo
open Go.ChangeShapes Go.WideShapes Go.ChangeAt Go.RowKit

theorem upto_shift {xs ys qs : List OpT} {k : Nat} {o : OpT} (h : Upto (fun j => (xs ++ ys)[j]?) (xs.length + k) qs) (hk : xs.length + k < qs.length) (ho : ys[k]? = some o) : Upto (fun j => (xs ++ ys)[j]?) (xs.length + k + 1) (qs.set (xs.length + k) o) :=
  upto_step h hk (by rw [List.getElem?_append_right (by omega), show xs.length + k - xs.length = k by omega]; exact ho)
theorem upto_left {xs ys qs : List OpT} {k : Nat} {o : OpT} (h : Upto (fun j => (xs ++ ys)[j]?) k qs) (hk : k < qs.length) (ho : xs[k]? = some o) : Upto (fun j => (xs ++ ys)[j]?) (k + 1) (qs.set k o) :=
  upto_step h hk (by rw [List.getElem?_append_left (by have := (List.getElem?_eq_some_iff.1 ho).1; omega)]; exact ho)

set_option linter.unusedVariables false
set_option maxHeartbeats 1000000 in
theorem jconcat_walk (a : Option Addr) (ca : Nat) (xs : List OpT) (b : Option Addr) (cb : Nat) (ys : List OpT) (w : World) (hx : Row w a (opsC xs)) (hokx : ∀ z ∈ xs, OpOk z) (hnx : a = none → xs.length = 0 ∧ ca = 0)
    (hy : Row w b (opsC ys)) (hoky : ∀ z ∈ ys, OpOk z) (hny : b = none → ys.length = 0 ∧ cb = 0) :
    Calls Ydom.prog 8 #[.slice a xs.length ca, .slice b ys.length cb] w fun e w' => e = .returned (.bool true) ∧ Below w.heap.size w w' := by
  clear hokx hoky
  obtain ⟨i0, hi, hz0, hz1, hz2⟩ := info_parts infoOp
  by_cases h1 : 65536 < xs.length
  · go_enter Ydom.func8, Ydom.ntmps8
    go_wp2
    go_ret
    exact ⟨rfl, Below.refl _ _⟩
  by_cases h2 : 65536 < ys.length
  · go_enter Ydom.func8, Ydom.ntmps8
    go_wp2
    go_ret
    exact ⟨rfl, Below.refl _ _⟩
  go_enter Ydom.func8, Ydom.ntmps8
  go_wp2_with (first | (at_make; refine wpList_make_full _ rfl _ _ 28 rfl w.heap.size 23 i0 _ 3 Ydom.underlying28 hi hz0 hz1 _ _ _ _ (xs.length + ys.length) rfl rfl (by omega) (by omega) (by rw [hz2]; omega) (by unfold maxLen; omega) (Nat.le_refl _) ?_))
  intro w1 hown hgrow
  have hb1 := (Below.refl w.heap.size w).grown hgrow (Nat.le_refl _) (by simp)
  have hw1 := (own_lt hown).2
  simp only [made_ops] at hown
  clear hgrow
  go_wp2
  go_loopw [6] (fun i wr => ∃ (k : Nat) (qs : List OpT), k ≤ xs.length ∧ i = .int .i64 k ∧ Below w.heap.size w wr ∧ w.heap.size < wr.heap.size ∧
     wr.ownsRow w.heap.size 23 3 (.slice (some ⟨w.heap.size, 0, none⟩) (xs.length + ys.length) (xs.length + ys.length)) (xs.length + ys.length) (opsC qs) ∧ Upto (fun j => (xs ++ ys)[j]?) k qs) (fun i _ => xs.length - (intOf i).toNat)
  case atStart => exact ⟨0, _, Nat.zero_le _, rfl, hb1, hw1, hown, upto_zero _ _⟩
  case round =>
    clear hown hb1 hw1
    obtain ⟨k, qs, hk, rfl, hb, hlts, hown, hq⟩ := hrel
    have hql := own_ops_len hown
    by_cases hlt : k < xs.length
    · obtain ⟨b1, off, rfl, hc⟩ := (hx.below hb (Nat.le_refl _)).ops (by omega)
      obtain ⟨o, ho⟩ := op_at hlt
      obtain ⟨c0, c1, c2⟩ := hc k o ho
      have f0 := hown.frozenAt (k * 3)
      have f1 := hown.frozenAt (k * 3 + 1)
      have f2 := hown.frozenAt (k * 3 + 2)
      obtain ⟨q, hqk⟩ := op_at (os := qs) (k := k) (by omega)
      obtain ⟨g0, g1, g2⟩ := own_ops_cells hown hqk
      have hsz := hb.size
      have HO : Hid (wr.ownsRow w.heap.size 23 3 (.slice (some ⟨w.heap.size, 0, none⟩) (xs.length + ys.length) (xs.length + ys.length)) (xs.length + ys.length) (opsC qs)) := hown
      have KEY : Hid (Upto (fun j => (xs ++ ys)[j]?) (k + 1) (qs.set k o)) := upto_left hq (by omega) ho
      have i1 : (k : Int) < (xs.length : Int) + (ys.length : Int) := by omega
      clear hc hx hy ho hown hq hqk hnx hny
      go_wp2
      go_roundw
      case rel => exact ⟨k + 1, _, by omega, by go_num, by go_grown, by go_size, (own_ops_store HO.out k o.kind o.old o.new).1, KEY.out⟩
      case measure => simp [intOf]; omega
    · have hge : ¬ (k : Int) < (xs.length : Int) := by omega
      obtain rfl : k = xs.length := by omega
      obtain ⟨w2, rfl⟩ : ∃ w2 : World, w2 = wr := ⟨_, rfl⟩
      go_wp2
      go_loopw [7] (fun i wr => ∃ (k : Nat) (qs : List OpT), k ≤ ys.length ∧ i = .int .i64 k ∧ Below w.heap.size w wr ∧ w.heap.size < wr.heap.size ∧
         wr.ownsRow w.heap.size 23 3 (.slice (some ⟨w.heap.size, 0, none⟩) (xs.length + ys.length) (xs.length + ys.length)) (xs.length + ys.length) (opsC qs) ∧ Upto (fun j => (xs ++ ys)[j]?) (xs.length + k) qs) (fun i _ => ys.length - (intOf i).toNat)
      case atStart => exact ⟨0, _, Nat.zero_le _, rfl, hb, hlts, hown, hq⟩
      case round =>
        clear hb hlts hown hq hk hge hlt hql
        obtain ⟨k, qs, hk, rfl, hb, hlts, hown, hq⟩ := hrel
        have hql := own_ops_len hown
        by_cases hlt : k < ys.length
        · obtain ⟨b1, off, rfl, hc⟩ := (hy.below hb (Nat.le_refl _)).ops (by omega)
          obtain ⟨o, ho⟩ := op_at hlt
          obtain ⟨c0, c1, c2⟩ := hc k o ho
          have f0 := hown.frozenAt ((xs.length + k) * 3)
          have f1 := hown.frozenAt ((xs.length + k) * 3 + 1)
          have f2 := hown.frozenAt ((xs.length + k) * 3 + 2)
          obtain ⟨q, hqk⟩ := op_at (os := qs) (k := xs.length + k) (by omega)
          obtain ⟨g0, g1, g2⟩ := own_ops_cells hown hqk
          have hsz := hb.size
          have HO : Hid (wr.ownsRow w.heap.size 23 3 (.slice (some ⟨w.heap.size, 0, none⟩) (xs.length + ys.length) (xs.length + ys.length)) (xs.length + ys.length) (opsC qs)) := hown
          have KEY : Hid (Upto (fun j => (xs ++ ys)[j]?) (xs.length + k + 1) (qs.set (xs.length + k) o)) := upto_shift hq (by omega) ho
          have i1 : (xs.length : Int) + (k : Int) < (xs.length : Int) + (ys.length : Int) := by omega
          clear hc hx hy ho hown hq hqk hnx hny
          go_wp2
          go_roundw
          case rel => exact ⟨k + 1, _, by omega, by go_num, by go_grown, by go_size, (own_ops_store HO.out (xs.length + k) o.kind o.old o.new).1, KEY.out⟩
          case measure => simp [intOf]; omega
        · have hge : ¬ (k : Int) < (ys.length : Int) := by omega
          obtain rfl : k = ys.length := by omega
          obtain ⟨w3, rfl⟩ : ∃ w3 : World, w3 = wr := ⟨_, rfl⟩
          obtain ⟨zs, hzs⟩ : ∃ zs, zs = xs ++ ys := ⟨_, rfl⟩
          have hzl : zs.length = xs.length + ys.length := by rw [hzs]; simp
          have hqz : qs = zs := by
            rw [← hzs, ← hzl] at hq
            exact upto_done hq (by rw [hql, hzl])
          subst hqz
          have hbuf : Buf w3 w.heap.size (.slice (some ⟨w.heap.size, 0, none⟩) (xs.length + ys.length) (xs.length + ys.length)) qs := .inr ⟨w.heap.size, by rw [hzl], by rw [hzl]; exact hown⟩
          have RV : Hid (Calls Ydom.prog 21 #[.slice (some ⟨w.heap.size, 0, none⟩) (xs.length + ys.length) (xs.length + ys.length)] w3 fun e w' => e = .returned (.tuple #[]) ∧ Buf w' w.heap.size (.slice (some ⟨w.heap.size, 0, none⟩) (xs.length + ys.length) (xs.length + ys.length)) qs.reverse ∧ w3.grownBy w' (some w.heap.size)) :=
            reverse_buf w.heap.size _ qs w3 hbuf (by omega)
          have HZ : Hid (qs = xs ++ ys) := hzs
          have HZL : Hid (qs.length = xs.length + ys.length) := hzl
          clear hown hq hql hlt hzs hzl hbuf
          go_wp2_with fail
          refine RV.out.mono ?_
          rintro e w4 ⟨rfl, buf4, gr4⟩
          have B4 : Below w.heap.size w w4 := hb.grown gr4 (by omega) (fun q hq => by cases hq; exact Nat.le_refl _)
          clear RV gr4 hb hlts
          go_wp2_with fail
          refine (jcopy_calls a ca xs w4 (hx.below B4 (Nat.le_refl _)) hnx (by omega)).mono ?_
          rintro e w5 ⟨vx, rfl, bx5, b5⟩
          have buf5 := buf4.below b5
          have s4 := (buf4.block _ rfl).2
          obtain ⟨ax, hvx, -⟩ := bx5.val
          have RX : Hid (Calls Ydom.prog 21 #[vx] w5 fun e w' => e = .returned (.tuple #[]) ∧ Buf w' w4.heap.size vx xs.reverse ∧ w5.grownBy w' vx.ownBlock) := reverse_buf w4.heap.size vx xs w5 bx5 (by omega)
          have blkx := bx5.block
          have B5 : Below w.heap.size w w5 := B4.trans (b5.mono B4.size)
          have bs5 := b5.size
          subst hvx
          clear bx5 b5 buf4
          go_wp2_with fail
          refine RX.out.mono ?_
          rintro e w6 ⟨rfl, bx6, gr6⟩
          have buf6 : Buf w6 w.heap.size (.slice (some ⟨w.heap.size, 0, none⟩) (xs.length + ys.length) (xs.length + ys.length)) qs.reverse := buf5.grown gr6 (.inr (fun he => by have := blkx w.heap.size he.symm; omega))
          have B6 : Below w.heap.size w w6 := B5.grown gr6 B5.size (fun q hq => by have := blkx q hq; have := B4.size; omega)
          have s5 := gr6.size
          clear RX buf5 gr6 B5
          go_wp2_with fail
          refine (jcopy_calls b cb ys w6 (hy.below B6 (Nat.le_refl _)) hny (by omega)).mono ?_
          rintro e w7 ⟨vy, rfl, by7, b7⟩
          have buf7 := buf6.below b7
          have bx7 := bx6.below b7
          obtain ⟨ay, hvy, -⟩ := by7.val
          have RY : Hid (Calls Ydom.prog 21 #[vy] w7 fun e w' => e = .returned (.tuple #[]) ∧ Buf w' w6.heap.size vy ys.reverse ∧ w7.grownBy w' vy.ownBlock) := reverse_buf w6.heap.size vy ys w7 by7 (by omega)
          have blky := by7.block
          have B7 : Below w.heap.size w w7 := B6.trans (b7.mono B6.size)
          have blkx6 := bx6.block
          subst hvy
          clear by7 b7 buf6 bx6
          go_wp2_with fail
          refine RY.out.mono ?_
          rintro e w8 ⟨rfl, by8, gr8⟩
          have buf8 := buf7.grown gr8 (.inr (fun he => by have := blky w.heap.size he.symm; omega))
          have bx8 := bx7.grown gr8 (by
            rcases hbk : Value.ownBlock (.slice ax xs.length xs.length) with _ | q
            · exact .inl rfl
            · refine .inr (fun he => ?_)
              have h1 := blkx6 q hbk
              have h2 := blky q he.symm
              omega)
          have B8 : Below w.heap.size w w8 := B7.grown gr8 B7.size (fun q hq => by have := blky q hq; have := B6.size; omega)
          obtain ⟨a1, e1, r1⟩ := buf8.val
          obtain ⟨a2, e2, r2⟩ := bx8.val
          obtain ⟨a3, e3, r3⟩ := by8.val
          simp only [List.length_reverse, Value.slice.injEq, and_true] at e1 e2 e3
          obtain ⟨rfl, -⟩ := e1
          subst e2 e3
          have ez : qs.reverse = ys.reverse ++ xs.reverse := by rw [HZ.out]; simp
          rw [ez] at r1
          clear RY buf7 bx7 gr8 B7 buf8 bx8 by8 blkx blky blkx6 B6 B4 s4 s5 bs5 ez HZ HZL hx hy hnx hny
          go_wp2
          go_loopw [10] (fun i wr => ∃ k : Nat, k ≤ ys.length ∧ i = .int .i64 k ∧ Below w.heap.size w wr ∧ Row wr (some ⟨w.heap.size, 0, none⟩) (opsC (ys.reverse ++ xs.reverse)) ∧ Row wr ax (opsC xs.reverse) ∧ Row wr ay (opsC ys.reverse)) (fun i _ => ys.length - (intOf i).toNat)
          case atStart => exact ⟨0, Nat.zero_le _, rfl, B8, r1, r2, r3⟩
          case round =>
            clear B8 r1 r2 r3
            obtain ⟨k, hk, rfl, hb, r1, r2, r3⟩ := hrel
            by_cases hlt : k < ys.length
            · obtain ⟨b1, o1, he1, hc1⟩ := r1.ops (by simp; omega)
              simp only [Option.some.injEq, Addr.mk.injEq, and_true] at he1
              obtain ⟨rfl, rfl⟩ := he1
              obtain ⟨b3, o3, rfl, hc3⟩ := r3.ops (by simp; omega)
              obtain ⟨o, ho⟩ := op_at (os := ys.reverse) (k := k) (by simp; omega)
              obtain ⟨c0, c1, c2⟩ := hc1 k o (by rw [List.getElem?_append_left (by simp; omega)]; exact ho)
              obtain ⟨d0, d1, d2⟩ := hc3 k o ho
              simp only [Nat.zero_add] at c0 c1 c2
              have i1 : (k : Int) < (xs.length : Int) + (ys.length : Int) := by omega
              have i2 : (k : Int) < (ys.length : Int) := by omega
              have R1 : Hid (Row wr (some ⟨w.heap.size, 0, none⟩) (opsC (ys.reverse ++ xs.reverse))) := r1
              have R2 : Hid (Row wr ax (opsC xs.reverse)) := r2
              have R3 : Hid (Row wr (some ⟨b3, o3, none⟩) (opsC ys.reverse)) := r3
              clear hc1 hc3 ho r1 r2 r3
              go_wp2
              go_quiet (fail)
              go_wp2
              go_roundw
              case rel => exact ⟨k + 1, by omega, by go_num, below_dn hb _, Row.dn R1.out _, Row.dn R2.out _, Row.dn R3.out _⟩
              case measure => simp [intOf]; omega
            · have hge : ¬ (k : Int) < (ys.length : Int) := by omega
              obtain ⟨w9, rfl⟩ : ∃ w9 : World, w9 = wr := ⟨_, rfl⟩
              go_wp2
              go_loopw [11] (fun i wr => ∃ k : Nat, k ≤ xs.length ∧ i = .int .i64 k ∧ Below w.heap.size w wr ∧ Row wr (some ⟨w.heap.size, 0, none⟩) (opsC (ys.reverse ++ xs.reverse)) ∧ Row wr ax (opsC xs.reverse)) (fun i _ => xs.length - (intOf i).toNat)
              case atStart => exact ⟨0, Nat.zero_le _, rfl, hb, r1, r2⟩
              case round =>
                clear hb r1 r2 r3 hlt hge hk
                obtain ⟨k, hk, rfl, hb, r1, r2⟩ := hrel
                by_cases hlt : k < xs.length
                · obtain ⟨b1, o1, he1, hc1⟩ := r1.ops (by simp; omega)
                  simp only [Option.some.injEq, Addr.mk.injEq, and_true] at he1
                  obtain ⟨rfl, rfl⟩ := he1
                  obtain ⟨b2, o2, rfl, hc2⟩ := r2.ops (by simp; omega)
                  obtain ⟨o, ho⟩ := op_at (os := xs.reverse) (k := k) (by simp; omega)
                  obtain ⟨c0, c1, c2⟩ := hc1 (ys.length + k) o (by rw [List.getElem?_append_right (by simp), List.length_reverse, show ys.length + k - ys.length = k by omega]; exact ho)
                  obtain ⟨d0, d1, d2⟩ := hc2 k o ho
                  simp only [Nat.zero_add] at c0 c1 c2
                  have i1 : (ys.length : Int) + (k : Int) < (xs.length : Int) + (ys.length : Int) := by omega
                  have i2 : (k : Int) < (xs.length : Int) := by omega
                  have R1 : Hid (Row wr (some ⟨w.heap.size, 0, none⟩) (opsC (ys.reverse ++ xs.reverse))) := r1
                  have R2 : Hid (Row wr (some ⟨b2, o2, none⟩) (opsC xs.reverse)) := r2
                  clear hc1 hc2 ho r1 r2
                  go_wp2
                  go_quiet (fail)
                  go_wp2
                  go_roundw
                  case rel => exact ⟨k + 1, by omega, by go_num, below_dn hb _, Row.dn R1.out _, Row.dn R2.out _⟩
                  case measure => simp [intOf]; omega
                · have hge : ¬ (k : Int) < (xs.length : Int) := by omega
                  go_wp2
                  go_ret
                  exact ⟨rfl, hb⟩
end Go.Proofs.Ymbrdo
