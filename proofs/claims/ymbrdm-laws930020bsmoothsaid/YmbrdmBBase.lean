/-
  THE WALKS OF zzs930020bbyte, zzs930020bjunk, zzs930020bbest.
-/
import Derived.Test.YmbrdmDp
namespace Go.Proofs.Ymbrdm
open Go.ChangeShapes Go.WideShapes Go.ChangeAt Go.RowKit

theorem intsF_zero2 (n : Nat) : (madeCells #[.int .i64 0] n).toList = intsF (fun _ => 0) n := by
  have := intsF_zero n
  rwa [Nat.mul_one] at this

def RetByte (w : World) (e : Ending) (w' : World) : Prop := ∃ ch : Int, e = .returned (.int .u8 ch) ∧ Below w.heap.size w w'

theorem bbyte_calls (a : Option Addr) (ca : Nat) (zs : List Int) (c pick : Int) (w : World) (h : Row w a (bytesC zs)) (hp : 0 ≤ pick ∧ pick ≤ 255) (hl : zs.length ≤ 1048576) :
    Calls Ydmm.prog 18 #[.slice a zs.length ca, .int .u8 c, .int .u8 pick] w (RetByte w) := by
  by_cases h2 : pick % 2 = 0
  · have t : (pick % 2 == 0) = true := by simp [h2]
    clear h2
    go_enter Ydmm.func18, Ydmm.ntmps18
    go_wp2
    go_ret
    exact ⟨_, rfl, Below.refl _ _⟩
  · have t : (pick % 2 == 0) = false := by simp [h2]
    clear h2
    by_cases h0 : zs.length = 0
    · have t0 : ((zs.length : Int) == 0) = true := by simp [h0]
      clear h0
      go_enter Ydmm.func18, Ydmm.ntmps18
      go_wp2
      go_ret
      exact ⟨_, rfl, Below.refl _ _⟩
    · have t0 : ((zs.length : Int) == 0) = false := beq_eq_false_iff_ne.2 (by omega)
      have n1 := Int.emod_nonneg (pick / 2) (show (zs.length : Int) ≠ 0 by omega)
      have n2 := Int.emod_lt_of_pos (pick / 2) (show (0 : Int) < (zs.length : Int) by omega)
      obtain ⟨k, hk⟩ : ∃ k : Nat, (pick / 2) % (zs.length : Int) = k := ⟨((pick / 2) % (zs.length : Int)).toNat, by omega⟩
      rw [hk] at n1 n2
      obtain ⟨b, off, rfl, hc⟩ := h.bytes (by omega)
      obtain ⟨z, hz⟩ := op_at (os := zs) (k := k) (by omega)
      have c0 := hc k z hz
      have hpos : (0 : Int) < (zs.length : Int) := by omega
      have hd : 0 ≤ pick / 2 ∧ pick / 2 ≤ 127 := by omega
      clear hc hz h h0
      go_enter Ydmm.func18, Ydmm.ntmps18
      go_wp2
      go_ret
      exact ⟨_, rfl, Below.refl _ _⟩

def RetJunk (w : World) (n : Nat) (junk : Int) (e : Ending) (w' : World) : Prop :=
  ∃ g, e = .returned (.slice (some ⟨g, 0, none⟩) n n) ∧ w'.ownsRow w.heap.size 3 1 (.slice (some ⟨g, 0, none⟩) n n) n (intsF (fun _ => junk) n) ∧ Below w.heap.size w w'

theorem bjunk_calls (n : Nat) (m junk : Int) (w : World) (hm : m = n) (hl : n ≤ 1048576) :
    Calls Ydmm.prog 19 #[.int .i64 m, .int .i64 junk] w (RetJunk w n junk) := by
  subst hm
  obtain ⟨i0, hi, hz0, hz1, hz2⟩ := info_parts infoInt
  go_enter Ydmm.func19, Ydmm.ntmps19
  go_wp2_with (first | (at_make; refine wpList_make_full _ rfl _ _ 28 rfl w.heap.size 3 i0 _ 1 Ydmm.underlying28 hi hz0 hz1 _ _ _ _ n rfl rfl rfl rfl (by rw [hz2]; omega) (by unfold maxLen; omega) (Nat.le_refl _) ?_))
  intro w1 own1 grow1
  have hb1 := (Below.refl w.heap.size w).grown grow1 (Nat.le_refl _) (by simp)
  rw [intsF_zero2] at own1
  clear grow1
  go_wp2
  go_loopw [6] (fun i wr => ∃ (k : Nat) (f : Nat → Int), k ≤ n ∧ i = .int .i64 k ∧ wr.ownsRow w.heap.size 3 1 (.slice (some ⟨w.heap.size, 0, none⟩) n n) n (intsF f n) ∧ (∀ j, j < k → f j = junk) ∧ Below w.heap.size w wr) (fun i _ => n - (intOf i).toNat)
  case atStart => exact ⟨0, _, Nat.zero_le _, rfl, own1, fun j hj => absurd hj (Nat.not_lt_zero _), hb1⟩
  case round =>
    clear own1 hb1
    obtain ⟨k, f, hk, rfl, o1, hf, hb⟩ := hrel
    by_cases hlt : k < n
    · have c1 := own_ints_cell o1 hlt
      have f1 := o1.frozenAt k
      have O1 : Hid (wr.ownsRow w.heap.size 3 1 (.slice (some ⟨w.heap.size, 0, none⟩) n n) n (intsF f n)) := o1
      have HF : Hid (∀ j, j < k → f j = junk) := hf
      have i1 : (k : Int) < (n : Int) := by omega
      clear o1 hf
      go_wp2
      go_roundw
      case rel =>
        obtain ⟨r1, r2⟩ := own_ints_store O1.out k junk
        refine ⟨k + 1, _, by omega, by go_num, r1, ?_, by go_grown⟩
        intro j hj
        by_cases hjk : j = k
        · rw [if_pos hjk]
        · rw [if_neg hjk]
          exact HF.out j (by omega)
      case measure => simp [intOf]; omega
    · have hge : ¬ (k : Int) < (n : Int) := by omega
      have hfe : intsF f n = intsF (fun _ => junk) n := intsF_congr (fun j hj => hf j (by omega))
      rw [hfe] at o1
      clear hfe hf
      go_wp2
      go_ret
      exact ⟨w.heap.size, rfl, o1, hb⟩

set_option maxHeartbeats 1000000 in
theorem bbest_calls (a ab : Option Addr) (ca cb : Nat) (P : Nat → Int) (c : Int) (zs : List Int) (n k : Nat) (w : World) (hn : n = zs.length + 1) (hk : k ≤ zs.length) (hl : zs.length ≤ 1048576)
    (hP : ∀ j, j < n → -1099511627776 ≤ P j ∧ P j ≤ 1099511627776) (hp : Row w a (intsF P n)) (hb : Row w ab (bytesC zs)) :
    Calls Ydmm.prog 21 #[.slice a n ca, .int .u8 c, .slice ab zs.length cb, .int .i64 k] w fun e w' => e = .returned (.int .i64 (nextAt P c zs k)) ∧ Below w.heap.size w w' := by
  obtain ⟨bp, op, rfl, hpc⟩ := hp.intsAt (by omega)
  have p0 := hpc 0 (by omega)
  rw [Nat.add_zero] at p0
  have hP0 := hP 0 (by omega)
  have hnl : (0 : Int) < (n : Int) := by omega
  have HP : Hid (∀ j, j < n → -1099511627776 ≤ P j ∧ P j ≤ 1099511627776) := hP
  have HC : Hid (∀ j, j < n → w.cell? ⟨bp, op + j, none⟩ = some (.int .i64 (P j))) := hpc
  have hn1 : n ≤ zs.length + 1 := by omega
  have hn2 : zs.length + 1 ≤ n := by omega
  clear hP hpc hn
  go_enter Ydmm.func21, Ydmm.ntmps21
  go_wp2
  go_loop [9, 10] (fun v i => ∃ m : Nat, m ≤ k ∧ i = .int .i64 ((m : Int) + 1) ∧ v = .int .i64 (nextAt P c zs m + ((k : Int) - (m : Int)))) (fun _ i => k + 1 - (intOf i).toNat)
  case atStart => exact ⟨0, Nat.zero_le _, rfl, congrArg (Value.int .i64) (by simp only [nextAt]; omega)⟩
  case round =>
    clear p0
    obtain ⟨m, hm, rfl, rfl⟩ := hrel
    by_cases hlt : m < k
    · obtain ⟨bb, ob, rfl, hcb⟩ := hb.bytes (by omega)
      obtain ⟨z, hz⟩ := op_at (os := zs) (k := m) (by omega)
      have cb1 := hcb m z hz
      have c1 := HC.out m (by omega)
      have c2 := HC.out (m + 1) (by omega)
      have b1 := HP.out m (by omega)
      have b2 := HP.out (m + 1) (by omega)
      have b3 := nextAt_le P c zs m
      have b4 := nextAt_ge P c zs (-1099511627776) n (fun j hj => (HP.out j hj).1) m (by omega)
      have i1 : (m : Int) + 1 ≤ (k : Int) := by omega
      have i2 : (m : Int) < (n : Int) := by omega
      have i3 : (m : Int) + 1 < (n : Int) := by omega
      have i4 : (m : Int) < (zs.length : Int) := by omega
      by_cases hzc : z = c
      · have NX : Hid (nextAt P c zs (m + 1) = mn3 (P m) (P (m + 1) + 1) (nextAt P c zs m + 1)) := by
          show nextAt P c zs (m + 1) = mn3 (P m) (P (m + 1) + 1) (nextAt P c zs m + 1)
          simp only [nextAt]
          rw [if_pos (by rw [hz, hzc]), Int.add_zero]
        have t : (z != c) = false := by simp [hzc]
        clear hz hzc hcb hb hp
        go_wp2
        all_goals
          go_round
          case rel => exact ⟨m + 1, by omega, by go_num, congrArg (Value.int .i64) (by rw [NX.out]; unfold mn3; omega)⟩
          case measure => simp [intOf]; omega
      · have NX : Hid (nextAt P c zs (m + 1) = mn3 (P m + 1) (P (m + 1) + 1) (nextAt P c zs m + 1)) := by
          show nextAt P c zs (m + 1) = mn3 (P m + 1) (P (m + 1) + 1) (nextAt P c zs m + 1)
          simp only [nextAt]
          rw [if_neg (by rw [hz]; simpa using hzc)]
        have t : (z != c) = true := by simp [hzc]
        clear hz hzc hcb hb hp
        go_wp2
        all_goals
          go_round
          case rel => exact ⟨m + 1, by omega, by go_num, congrArg (Value.int .i64) (by rw [NX.out]; unfold mn3; omega)⟩
          case measure => simp [intOf]; omega
    · have hge : ¬ (m : Int) + 1 ≤ (k : Int) := by omega
      obtain rfl : m = k := by omega
      go_wp2
      go_ret
      exact ⟨by simp, Below.refl _ _⟩
end Go.Proofs.Ymbrdm
