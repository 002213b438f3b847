/-
  THE WALK OF zzs930020adist: the table filled entry by entry.
-/
import Derived.Test.YmbrdmTable
import Derived.Test.YmbrdmDp
namespace Go.Proofs.Ymbrdm
open Go.ChangeShapes Go.WideShapes Go.ChangeAt Go.RowKit

theorem intsF_zero' (n : Nat) : (madeCells #[.int .i64 0] n).toList = intsF (fun _ => 0) n := by
  have := intsF_zero n
  rwa [Nat.mul_one] at this

theorem dp_bound' (x y : List Int) (i j : Nat) (hi : i ≤ 257) (hj : j ≤ 257) : 0 ≤ dp x y i j ∧ dp x y i j ≤ 257 := by
  have h1 := dp_nonneg x y i j
  have h2 := dp_le x y i j
  omega

set_option maxRecDepth 100000 in
set_option maxHeartbeats 8000000 in
theorem adist_calls (a b : Option Addr) (ca cb : Nat) (x y : List Int) (w : World) (hx : Row w a (bytesC x)) (hy : Row w b (bytesC y)) (hlx : x.length ≤ 256) (hly : y.length ≤ 256) :
    Calls Ydmm.prog 15 #[.slice a x.length ca, .slice b y.length cb] w fun e w' => e = .returned (.int .i64 (dp x y x.length y.length)) ∧ Below w.heap.size w w' := by
  obtain ⟨i0, hi, hz0, hz1, hz2⟩ := info_parts infoInt
  obtain ⟨NN, hNN⟩ : ∃ NN : Nat, ((x.length : Int) + 1) * ((y.length : Int) + 1) = NN := ⟨(x.length + 1) * (y.length + 1), by push_cast; rfl⟩
  have hN1 : NN = (x.length + 1) * (y.length + 1) := by
    have : (NN : Int) = ((x.length + 1) * (y.length + 1) : Nat) := by rw [← hNN]; push_cast; rfl
    exact Int.ofNat.inj this
  have hN2 : NN ≤ 66049 := by
    rw [hN1]
    exact Nat.mul_le_mul (show x.length + 1 ≤ 257 by omega) (show y.length + 1 ≤ 257 by omega)
  have hN3 : NN = (y.length + 1) * (x.length + 1) := by rw [hN1, Nat.mul_comm]
  have HN : Hid (NN = (y.length + 1) * (x.length + 1)) := hN3
  clear hN1 hN3
  go_enter Ydmm.func15, Ydmm.ntmps15
  go_wp2_with (first | (at_make; refine wpList_make_full _ rfl _ _ 28 rfl w.heap.size 3 i0 _ 1 Ydmm.underlying28 hi hz0 hz1 _ _ _ _ NN rfl rfl (by omega) (by omega) (by rw [hz2]; omega) (by unfold maxLen; omega) (Nat.le_refl _) ?_))
  intro w1 own1 grow1
  have hb1 := (Below.refl w.heap.size w).grown grow1 (Nat.le_refl _) (by simp)
  rw [intsF_zero'] at own1
  clear grow1
  go_wp2
  go_loopw [7] (fun jv wr => ∃ (p : Nat) (F : Nat → Int), p ≤ x.length + 1 ∧ jv = .int .i64 p ∧ wr.ownsRow w.heap.size 3 1 (.slice (some ⟨w.heap.size, 0, none⟩) NN NN) NN (intsF F NN) ∧ Filled x y (y.length + 1) p 0 F ∧ Below w.heap.size w wr) (fun jv _ => x.length + 1 - (intOf jv).toNat)
  case atStart => exact ⟨0, _, Nat.zero_le _, rfl, own1, filled_zero _ _ _ _, hb1⟩
  case round =>
    clear own1 hb1
    obtain ⟨p, F, hp, rfl, o1, hf, hb⟩ := hrel
    by_cases hlt : p < x.length + 1
    · have i1 : (p : Int) ≤ (x.length : Int) := by omega
      obtain ⟨w2, rfl⟩ : ∃ w2 : World, w2 = wr := ⟨_, rfl⟩
      go_wp2
      go_loopw [8] (fun iv wr => ∃ (q : Nat) (F : Nat → Int), q ≤ y.length + 1 ∧ iv = .int .i64 q ∧ wr.ownsRow w.heap.size 3 1 (.slice (some ⟨w.heap.size, 0, none⟩) NN NN) NN (intsF F NN) ∧ Filled x y (y.length + 1) p q F ∧ Below w.heap.size w wr) (fun iv _ => y.length + 1 - (intOf iv).toNat)
      case atStart => exact ⟨0, _, Nat.zero_le _, rfl, o1, hf, hb⟩
      case round =>
        clear o1 hf hb
        obtain ⟨q, F, hq, rfl, o1, hf, hb⟩ := hrel
        by_cases hltq : q < y.length + 1
        · have i2 : (q : Int) ≤ (y.length : Int) := by omega
          obtain ⟨M, hM⟩ : ∃ M : Nat, (p : Int) * ((y.length : Int) + 1) = M := ⟨p * (y.length + 1), by push_cast; rfl⟩
          have hM1 : M = p * (y.length + 1) := by
            have : (M : Int) = (p * (y.length + 1) : Nat) := by rw [← hM]; push_cast; rfl
            exact Int.ofNat.inj this
          have hMN : M + q < NN := by rw [hM1, HN.out]; exact place_lt (by omega) (by omega)
          have HM : Hid (M = p * (y.length + 1)) := hM1
          clear hM1
          have c0 := own_ints_cell o1 hMN
          have f0 := o1.frozenAt (M + q)
          have O1 : Hid (wr.ownsRow w.heap.size 3 1 (.slice (some ⟨w.heap.size, 0, none⟩) NN NN) NN (intsF F NN)) := o1
          have HF : Hid (Filled x y (y.length + 1) p q F) := hf
          have hsz := hb.size
          by_cases hp0 : p = 0
          · subst hp0
            have hM0 : M = 0 := by rw [HM.out]; simp
            subst hM0
            rw [Nat.zero_add] at c0 f0 hMN
            clear o1 hf hx hy
            go_wp2
            go_roundw
            case rel =>
              obtain ⟨r1, r2⟩ := own_ints_store O1.out q ((q : Nat) : Int)
              exact ⟨q + 1, _, by omega, by go_num, r1, filled_step HF.out (by omega) (by simp) rfl, by go_grown⟩
            case measure => simp [intOf] <;> omega
          have tp : ((p : Int) == 0) = false := beq_eq_false_iff_ne.2 (by omega)
          by_cases hq0 : q = 0
          · subst hq0
            rw [Nat.add_zero] at c0 f0 hMN
            have E : Hid (((p : Nat) : Int) = dp x y p 0) := (dp_zero x y p).symm
            clear o1 hf hx hy
            go_wp2
            go_roundw
            case rel =>
              obtain ⟨r1, r2⟩ := own_ints_store O1.out M (((p : Nat) : Int))
              exact ⟨1, _, by omega, by go_num, r1, filled_step HF.out (by omega) (by rw [HM.out]; simp) (E.out), by go_grown⟩
            case measure => simp [intOf] <;> omega
          obtain ⟨q', rfl⟩ : ∃ q', q = q' + 1 := ⟨q - 1, by omega⟩
          obtain ⟨p', hp'⟩ : ∃ p' : Nat, (p : Int) - 1 = p' := ⟨p - 1, by omega⟩
          have hpp : p = p' + 1 := by omega
          have HPP : Hid (p = p' + 1) := hpp
          obtain ⟨M', hM'⟩ : ∃ M' : Nat, (p' : Int) * ((y.length : Int) + 1) = M' := ⟨p' * (y.length + 1), by push_cast; rfl⟩
          have hM1 : M' = p' * (y.length + 1) := by
            have : (M' : Int) = (p' * (y.length + 1) : Nat) := by rw [← hM']; push_cast; rfl
            exact Int.ofNat.inj this
          have hMM : M = M' + (y.length + 1) := by rw [HM.out, hM1, hpp, Nat.succ_mul]
          have hMa : M' + (y.length + 1) ≤ M := by omega
          have hMb : M ≤ M' + (y.length + 1) := by omega
          clear hMM
          obtain ⟨bo, oo, e1, hco⟩ := (hx.below hb (Nat.le_refl _)).bytes (by omega)
          obtain ⟨bi, oi, e2, hci⟩ := (hy.below hb (Nat.le_refl _)).bytes (by omega)
          obtain ⟨d, hd⟩ := op_at (os := x) (k := p') (by omega)
          obtain ⟨c, hc⟩ := op_at (os := y) (k := q') (by omega)
          have b1 := hco p' d hd
          have b2 := hci q' c hc
          have vD : F (M' + q') = dp x y p' q' := by rw [hM1]; exact hf p' q' (by omega) (.inl (by omega))
          have vU : F (M' + (q' + 1)) = dp x y p' (q' + 1) := by rw [hM1]; exact hf p' (q' + 1) (by omega) (.inl (by omega))
          have vL : F (M + q') = dp x y (p' + 1) q' := by rw [HM.out, ← hpp]; exact hf p q' (by omega) (.inr ⟨rfl, by omega⟩)
          have d1 := own_ints_cell o1 (k := M' + q') (by omega)
          have d2 := own_ints_cell o1 (k := M' + (q' + 1)) (by omega)
          have d3 := own_ints_cell o1 (k := M + q') (by omega)
          rw [vD] at d1
          rw [vU] at d2
          rw [vL] at d3
          have ST := dp_step hd hc
          have bd := dp_bound' x y p' q' (by omega) (by omega)
          have bu := dp_bound' x y p' (q' + 1) (by omega) (by omega)
          have bl := dp_bound' x y (p' + 1) q' (by omega) (by omega)
          obtain ⟨D, hD⟩ : ∃ D, D = dp x y p' q' := ⟨_, rfl⟩
          obtain ⟨U, hU⟩ : ∃ U, U = dp x y p' (q' + 1) := ⟨_, rfl⟩
          obtain ⟨L, hL⟩ : ∃ L, L = dp x y (p' + 1) q' := ⟨_, rfl⟩
          rw [← hD] at d1 ST bd
          rw [← hU] at d2 ST bu
          rw [← hL] at d3 ST bl
          have HST : Hid (dp x y (p' + 1) (q' + 1) = if d = c then D else mn3 D U L + 1) := ST
          have j1 : (p' : Int) < (x.length : Int) := by omega
          have j2 : (q' : Int) < (y.length : Int) := by omega
          have j3 : (M' : Int) + (q' : Int) < (NN : Int) := by omega
          have j4 : (M' : Int) + ((q' : Int) + 1) < (NN : Int) := by omega
          have j5 : (M : Int) + (q' : Int) < (NN : Int) := by omega
          have j6 : (M : Int) + ((q' : Int) + 1) < (NN : Int) := by omega
          have tz1 : ((p : Int) == 0) = false := beq_eq_false_iff_ne.2 (by omega)
          have tz2 : ((q' : Int) + 1 == 0) = false := beq_eq_false_iff_ne.2 (by omega)
          subst e1 e2
          clear hco hci hd hc vD vU vL ST o1 hf hD hU hL hx hy hM1 hq0 hp0 hpp
          by_cases hdc : d = c
          · subst hdc
            go_wp2
            go_quiet (fail)
            go_wp2
            go_roundw
            case rel =>
              obtain ⟨r1, r2⟩ := own_ints_store O1.out (M + (q' + 1)) (D)
              exact ⟨q' + 1 + 1, _, by omega, by go_num, r1, filled_step HF.out (by omega) (by rw [HM.out]) (by rw [HPP.out, HST.out]; simp), (below_dn hb _).setCell (Nat.le_refl _) _⟩
            case measure => simp [intOf] <;> omega
          · have tdc : (d == c) = false := beq_eq_false_iff_ne.2 (by omega)
            by_cases hu : U < D
            · by_cases hl : L < U
              · have ev : mn3 D U L = L := by unfold mn3; omega
                have HV : Hid (mn3 D U L = L) := ev
                clear ev
                go_wp2
                go_quiet (fail)
                go_wp2
                go_roundw
                case rel =>
                  obtain ⟨r1, r2⟩ := own_ints_store O1.out (M + (q' + 1)) (L + 1)
                  exact ⟨q' + 1 + 1, _, by omega, by go_num, r1, filled_step HF.out (by omega) (by rw [HM.out]) (by rw [HPP.out, HST.out, if_neg hdc, HV.out]), (below_dn hb _).setCell (Nat.le_refl _) _⟩
                case measure => simp [intOf] <;> omega
              · have ev : mn3 D U L = U := by unfold mn3; omega
                have HV : Hid (mn3 D U L = U) := ev
                clear ev
                go_wp2
                go_quiet (fail)
                go_wp2
                go_roundw
                case rel =>
                  obtain ⟨r1, r2⟩ := own_ints_store O1.out (M + (q' + 1)) (U + 1)
                  exact ⟨q' + 1 + 1, _, by omega, by go_num, r1, filled_step HF.out (by omega) (by rw [HM.out]) (by rw [HPP.out, HST.out, if_neg hdc, HV.out]), (below_dn hb _).setCell (Nat.le_refl _) _⟩
                case measure => simp [intOf] <;> omega
            · by_cases hl : L < D
              · have ev : mn3 D U L = L := by unfold mn3; omega
                have HV : Hid (mn3 D U L = L) := ev
                clear ev
                go_wp2
                go_quiet (fail)
                go_wp2
                go_roundw
                case rel =>
                  obtain ⟨r1, r2⟩ := own_ints_store O1.out (M + (q' + 1)) (L + 1)
                  exact ⟨q' + 1 + 1, _, by omega, by go_num, r1, filled_step HF.out (by omega) (by rw [HM.out]) (by rw [HPP.out, HST.out, if_neg hdc, HV.out]), (below_dn hb _).setCell (Nat.le_refl _) _⟩
                case measure => simp [intOf] <;> omega
              · have ev : mn3 D U L = D := by unfold mn3; omega
                have HV : Hid (mn3 D U L = D) := ev
                clear ev
                go_wp2
                go_quiet (fail)
                go_wp2
                go_roundw
                case rel =>
                  obtain ⟨r1, r2⟩ := own_ints_store O1.out (M + (q' + 1)) (D + 1)
                  exact ⟨q' + 1 + 1, _, by omega, by go_num, r1, filled_step HF.out (by omega) (by rw [HM.out]) (by rw [HPP.out, HST.out, if_neg hdc, HV.out]), (below_dn hb _).setCell (Nat.le_refl _) _⟩
                case measure => simp [intOf] <;> omega
        · have hge : ¬ (q : Int) ≤ (y.length : Int) := by omega
          obtain rfl : q = y.length + 1 := by omega
          have HF : Hid (Filled x y (y.length + 1) (p + 1) 0 F) := filled_row hf
          clear hf
          go_wp2
          go_roundw
          case rel => exact ⟨p + 1, F, by omega, by go_num, o1, HF.out, hb⟩
          case measure => simp [intOf] <;> omega
    · have hge : ¬ (p : Int) ≤ (x.length : Int) := by omega
      obtain rfl : p = x.length + 1 := by omega
      obtain ⟨M, hM⟩ : ∃ M : Nat, (x.length : Int) * ((y.length : Int) + 1) = M := ⟨x.length * (y.length + 1), by push_cast; rfl⟩
      have hM1 : M = x.length * (y.length + 1) := by
        have : (M : Int) = (x.length * (y.length + 1) : Nat) := by rw [← hM]; push_cast; rfl
        exact Int.ofNat.inj this
      have hMN : M + y.length < NN := by rw [hM1, HN.out]; exact place_lt (by omega) (by omega)
      have c0 := own_ints_cell o1 hMN
      rw [show F (M + y.length) = dp x y x.length y.length from by rw [hM1]; exact hf _ _ (by omega) (.inl (by omega))] at c0
      have j1 : (M : Int) + (y.length : Int) < (NN : Int) := by omega
      clear o1 hf hx hy hM1
      go_wp2
      go_ret
      exact ⟨rfl, hb⟩
end Go.Proofs.Ymbrdm
