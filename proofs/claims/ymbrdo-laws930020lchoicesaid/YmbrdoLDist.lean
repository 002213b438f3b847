/-
  THE WALK OF zzs930020ldist: the distance by the recurrence kept in one row.
-/
import Derived.Test.YmbrdoDp
namespace Go.Proofs.Ymbrdo
open Go.ChangeShapes Go.WideShapes Go.ChangeAt Go.RowKit

theorem intsF_zero3 (n : Nat) : (madeCells #[.int .i64 0] n).toList = intsF (fun _ => 0) n := by
  have := intsF_zero n
  rwa [Nat.mul_one] at this

/-- Row p up to the place q is row p + 1 already. -/
def mixed (x y : List Int) (p q j : Nat) : Int := if j ≤ q then dp x y (p + 1) j else dp x y p j

theorem dp_bd (x y : List Int) (i j : Nat) (hi : i ≤ 257) (hj : j ≤ 257) : 0 ≤ dp x y i j ∧ dp x y i j ≤ 257 := by
  have h1 := dp_nonneg x y i j
  have h2 := dp_le x y i j
  omega

set_option maxRecDepth 100000 in
set_option maxHeartbeats 4000000 in
theorem ldist_calls (a b : Option Addr) (ca cb : Nat) (x y : List Int) (w : World) (hx : Row w a (bytesC x)) (hy : Row w b (bytesC y)) (hlx : x.length ≤ 256) (hly : y.length ≤ 256) :
    Calls Ydom.prog 32 #[.slice a x.length ca, .slice b y.length cb] w fun e w' => e = .returned (.int .i64 (dp x y x.length y.length)) ∧ Below w.heap.size w w' := by
  obtain ⟨i0, hi, hz0, hz1, hz2⟩ := info_parts infoInt
  go_enter Ydom.func32, Ydom.ntmps32
  go_wp2_with (first | (at_make; refine wpList_make_full _ rfl _ _ 53 rfl w.heap.size 3 i0 _ 1 Ydom.underlying53 hi hz0 hz1 _ _ _ _ (y.length + 1) rfl rfl (by omega) (by omega) (by rw [hz2]; omega) (by unfold maxLen; omega) (Nat.le_refl _) ?_))
  intro w1 own1 grow1
  have hb1 := (Below.refl w.heap.size w).grown grow1 (Nat.le_refl _) (by simp)
  rw [intsF_zero3] at own1
  clear grow1
  go_wp2
  go_loopw [6] (fun jv wr => ∃ (k : Nat) (f : Nat → Int), k ≤ y.length + 1 ∧ jv = .int .i64 k ∧ wr.ownsRow w.heap.size 3 1 (.slice (some ⟨w.heap.size, 0, none⟩) (y.length + 1) (y.length + 1)) (y.length + 1) (intsF f (y.length + 1)) ∧ (∀ j : Nat, j < k → f j = j) ∧ Below w.heap.size w wr) (fun jv _ => y.length + 1 - (intOf jv).toNat)
  case atStart => exact ⟨0, _, Nat.zero_le _, rfl, own1, fun j hj => absurd hj (Nat.not_lt_zero _), hb1⟩
  case round =>
    clear own1 hb1
    obtain ⟨k, f, hk, rfl, o1, hf, hb⟩ := hrel
    by_cases hlt : k < y.length + 1
    · have c1 := own_ints_cell o1 hlt
      have f1 := o1.frozenAt k
      have O1 : Hid (wr.ownsRow w.heap.size 3 1 (.slice (some ⟨w.heap.size, 0, none⟩) (y.length + 1) (y.length + 1)) (y.length + 1) (intsF f (y.length + 1))) := o1
      have HF : Hid (∀ j : Nat, j < k → f j = j) := hf
      have i1 : (k : Int) < (y.length : Int) + 1 := by omega
      have i2 : (k : Int) ≤ (y.length : Int) := by omega
      clear o1 hf hx hy
      go_wp2
      go_roundw
      case rel =>
        obtain ⟨r1, r2⟩ := own_ints_store O1.out k (k : Int)
        refine ⟨k + 1, _, by omega, by go_num, r1, ?_, by go_grown⟩
        intro j hj
        by_cases hjk : j = k
        · rw [if_pos hjk, hjk]
        · rw [if_neg hjk]
          exact HF.out j (by omega)
      case measure => simp [intOf]; omega
    · have hge : ¬ (k : Int) ≤ (y.length : Int) := by omega
      have hfe : intsF f (y.length + 1) = intsF (dp x y 0) (y.length + 1) := intsF_congr (fun j hj => hf j (by omega))
      rw [hfe] at o1
      clear hfe hf
      obtain ⟨w2, rfl⟩ : ∃ w2 : World, w2 = wr := ⟨_, rfl⟩
      go_wp2
      go_loopw [7] (fun iv wr => ∃ p : Nat, p ≤ x.length ∧ iv = .int .i64 p ∧ wr.ownsRow w.heap.size 3 1 (.slice (some ⟨w.heap.size, 0, none⟩) (y.length + 1) (y.length + 1)) (y.length + 1) (intsF (dp x y p) (y.length + 1)) ∧ Below w.heap.size w wr) (fun iv _ => x.length - (intOf iv).toNat)
      case atStart => exact ⟨0, Nat.zero_le _, rfl, o1, hb⟩
      case round =>
        clear o1 hb hge hlt hk
        obtain ⟨p, hp, rfl, o1, hb⟩ := hrel
        by_cases hlt : p < x.length
        · have c0 := own_ints_cell o1 (k := 0) (by omega)
          have f0 := o1.frozenAt 0
          have O1 : Hid (wr.ownsRow w.heap.size 3 1 (.slice (some ⟨w.heap.size, 0, none⟩) (y.length + 1) (y.length + 1)) (y.length + 1) (intsF (dp x y p) (y.length + 1))) := o1
          obtain ⟨c, hc⟩ := op_at hlt
          have HC : Hid (x[p]? = some c) := hc
          have i1 : (p : Int) < (x.length : Int) := by omega
          have i2 : (0 : Int) < (y.length : Int) + 1 := by omega
          obtain ⟨w3, rfl⟩ : ∃ w3 : World, w3 = wr := ⟨_, rfl⟩
          clear o1 hc
          go_wp2
          go_loopw [8, 9] (fun dv jv wr => ∃ q : Nat, q ≤ y.length ∧ jv = .int .i64 q ∧ dv = .int .i64 (dp x y p q) ∧ wr.ownsRow w.heap.size 3 1 (.slice (some ⟨w.heap.size, 0, none⟩) (y.length + 1) (y.length + 1)) (y.length + 1) (intsF (mixed x y p q) (y.length + 1)) ∧ Below w.heap.size w wr) (fun _ jv _ => y.length - (intOf jv).toNat)
          case atStart =>
            obtain ⟨r1, r2⟩ := own_ints_store O1.out 0 ((p : Int) + 1)
            refine ⟨0, Nat.zero_le _, rfl, rfl, ?_, by go_grown⟩
            have e : intsF (fun j => if j = 0 then (p : Int) + 1 else dp x y p j) (y.length + 1) = intsF (mixed x y p 0) (y.length + 1) := by
              apply intsF_congr
              intro j hj
              unfold mixed
              by_cases h0 : j = 0
              · subst h0
                rw [if_pos rfl, if_pos (Nat.le_refl _), dp_zero]
                push_cast
                rfl
              · rw [if_neg h0, if_neg (by omega)]
            rw [e] at r1
            exact r1
          case round =>
            clear O1 hb c0 f0
            obtain ⟨q, hq, rfl, rfl, o1, hb⟩ := hrel
            by_cases hltq : q < y.length
            · obtain ⟨b1, o1', rfl, hc1⟩ := (hx.below hb (Nat.le_refl _)).bytes (by omega)
              obtain ⟨b2, o2', rfl, hc2⟩ := (hy.below hb (Nat.le_refl _)).bytes (by omega)
              obtain ⟨d, hd⟩ := op_at hltq
              have cx := hc1 p c HC.out
              have cy := hc2 q d hd
              have c1 := own_ints_cell o1 (k := q) (by omega)
              have c2 := own_ints_cell o1 (k := q + 1) (by omega)
              have f2 := o1.frozenAt (q + 1)
              have m1 : mixed x y p q q = dp x y (p + 1) q := by simp [mixed]
              have m2 : mixed x y p q (q + 1) = dp x y p (q + 1) := by unfold mixed; rw [if_neg (by omega)]
              rw [m1] at c1
              rw [m2] at c2
              obtain ⟨A, hA⟩ : ∃ A, A = dp x y p q := ⟨_, rfl⟩
              obtain ⟨B, hB⟩ : ∃ B, B = dp x y p (q + 1) := ⟨_, rfl⟩
              obtain ⟨C, hC⟩ : ∃ C, C = dp x y (p + 1) q := ⟨_, rfl⟩
              have hAb := dp_bd x y p q (by omega) (by omega)
              have hBb := dp_bd x y p (q + 1) (by omega) (by omega)
              have hCb := dp_bd x y (p + 1) q (by omega) (by omega)
              rw [← hA] at hAb
              rw [← hB] at hBb c2
              rw [← hC] at hCb c1
              rw [← hA]
              have NX : Hid (dp x y (p + 1) (q + 1) = mn3 (A + (if d = c then 0 else 1)) (B + 1) (C + 1)) := by
                show dp x y (p + 1) (q + 1) = mn3 (A + (if d = c then 0 else 1)) (B + 1) (C + 1)
                have e1 := dp_row x y p HC.out
                have e2 : dp x y (p + 1) (q + 1) = nextAt (dp x y p) c y (q + 1) := by rw [e1]
                have e3 : dp x y (p + 1) q = nextAt (dp x y p) c y q := by rw [e1]
                rw [e2, hA, hB, hC, e3]
                simp only [nextAt, hd, Option.some.injEq]
              have HB : Hid (B = dp x y p (q + 1)) := hB
              have ST : Hid (∀ v, v = dp x y (p + 1) (q + 1) → intsF (fun j => if j = q + 1 then v else mixed x y p q j) (y.length + 1) = intsF (mixed x y p (q + 1)) (y.length + 1)) := by
                intro v hv
                apply intsF_congr
                intro j hj
                by_cases hjq : j = q + 1
                · rw [if_pos hjq, hv, hjq]
                  unfold mixed
                  rw [if_pos (Nat.le_refl _)]
                · rw [if_neg hjq]
                  unfold mixed
                  by_cases hj2 : j ≤ q
                  · rw [if_pos hj2, if_pos (by omega)]
                  · rw [if_neg hj2, if_neg (by omega)]
              have O1 : Hid (wr.ownsRow w.heap.size 3 1 (.slice (some ⟨w.heap.size, 0, none⟩) (y.length + 1) (y.length + 1)) (y.length + 1) (intsF (mixed x y p q) (y.length + 1))) := o1
              have KEY : Hid (∀ (n : Nat) (v : Int), v = dp x y (p + 1) (q + 1) → ((wr.drewN n).setCell ⟨w.heap.size, q + 1, none⟩ (.int .i64 v)).ownsRow w.heap.size 3 1 (.slice (some ⟨w.heap.size, 0, none⟩) (y.length + 1) (y.length + 1)) (y.length + 1) (intsF (mixed x y p (q + 1)) (y.length + 1))) := by
                intro n v hv
                have r := (own_ints_store (own_dn O1.out n) (q + 1) v).1
                rw [ST.out v hv] at r
                exact r
              clear O1 ST
              have j1 : (q : Int) < (y.length : Int) := by omega
              have j2 : (q : Int) + 1 < (y.length : Int) + 1 := by omega
              have j3 : (q : Int) < (y.length : Int) + 1 := by omega
              clear hc1 hc2 hx hy o1 hA hB hC m1 m2 hd
              by_cases hcd : d = c
              · rw [if_pos hcd] at NX
                have t : (c != d) = false := by simp [hcd]
                clear hcd
                go_wp2
                go_quiet (fail)
                go_wp2
                all_goals
                  go_roundw
                  case rel =>
                    exact ⟨q + 1, by omega, by go_num, by rw [HB.out], KEY.out _ _ (by rw [NX.out]; unfold mn3; omega), (below_dn hb _).setCell (Nat.le_refl _) _⟩
                  case measure => simp [intOf]; omega
              · rw [if_neg hcd] at NX
                have t : (c != d) = true := by simp; exact fun e => hcd e.symm
                clear hcd
                go_wp2
                go_quiet (fail)
                go_wp2
                all_goals
                  go_roundw
                  case rel =>
                    exact ⟨q + 1, by omega, by go_num, by rw [HB.out], KEY.out _ _ (by rw [NX.out]; unfold mn3; omega), (below_dn hb _).setCell (Nat.le_refl _) _⟩
                  case measure => simp [intOf]; omega
            · have hge : ¬ (q : Int) < (y.length : Int) := by omega
              obtain rfl : q = y.length := by omega
              have e : intsF (mixed x y p y.length) (y.length + 1) = intsF (dp x y (p + 1)) (y.length + 1) := intsF_congr (fun j hj => by unfold mixed; rw [if_pos (by omega)])
              rw [e] at o1
              clear e
              go_wp2
              go_roundw
              case rel => exact ⟨p + 1, by omega, by go_num, o1, hb⟩
              case measure => simp [intOf]; omega
        · have hge : ¬ (p : Int) < (x.length : Int) := by omega
          obtain rfl : p = x.length := by omega
          have c1 := own_ints_cell o1 (k := y.length) (by omega)
          have j3 : (y.length : Int) < (y.length : Int) + 1 := by omega
          go_wp2
          go_ret
          exact ⟨rfl, hb⟩
end Go.Proofs.Ymbrdo
