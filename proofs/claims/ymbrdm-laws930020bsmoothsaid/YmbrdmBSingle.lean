/-
  THE WALK OF LawS930020BSingle.
-/
import Derived.Test.YmbrdmBBase
namespace Go.Proofs.Ymbrdm
open Go.ChangeShapes Go.WideShapes Go.ChangeAt Go.RowKit

theorem row_off {w : World} {a : Option Addr} {cs : List Value} {g : Nat} (h : Row w a cs) (hl : 0 < cs.length) (hg : w.heap.size ≤ g) : ∀ b off, a = some ⟨b, off, none⟩ → b ≠ g := by
  intro b off he
  rcases h with rfl | ⟨b', off', ha, hc⟩
  · simp at hl
  · rw [ha] at he
    simp only [Option.some.injEq, Addr.mk.injEq, and_true] at he
    obtain ⟨rfl, rfl⟩ := he
    have := World.block_lt_of_cell? w _ (hc 0 cs[0] (by simp [hl]))
    simp at this
    omega

/-- What has been seen of c among the first m bytes: s is 1 or 0. -/
def Sg (c : Int) (zs : List Int) (m s : Nat) : Prop := s ≤ 1 ∧ ((m = 0 ∧ s = 0) ∨ (1 ≤ m ∧ nextAt (fun j => j) c zs m = (m : Int) - s))

theorem sg_hit {c : Int} {zs : List Int} {m s : Nat} (h : Sg c zs m s) (hz : zs[m]? = some c) : nextAt (fun j => j) c zs (m + 1) = ((m : Int) + 1) - 1 ∧ Sg c zs (m + 1) 1 := by
  have e : nextAt (fun j => j) c zs (m + 1) = ((m : Int) + 1) - 1 := by
    simp only [nextAt, mn3]
    rw [if_pos hz]
    rcases h with ⟨h1, ⟨rfl, h2⟩ | ⟨h2, h3⟩⟩
    · simp only [nextAt]; omega
    · rw [h3]; omega
  exact ⟨e, by omega, .inr ⟨by omega, by rw [e]; omega⟩⟩
theorem sg_miss {c z : Int} {zs : List Int} {m s : Nat} (h : Sg c zs m s) (hz : zs[m]? = some z) (hne : z ≠ c) : nextAt (fun j => j) c zs (m + 1) = ((m : Int) + 1) - s ∧ Sg c zs (m + 1) s := by
  have e : nextAt (fun j => j) c zs (m + 1) = ((m : Int) + 1) - s := by
    simp only [nextAt, mn3]
    rw [if_neg (by rw [hz]; intro e; exact hne (Option.some.inj e))]
    rcases h with ⟨h1, ⟨rfl, h2⟩ | ⟨h2, h3⟩⟩
    · simp only [nextAt]; omega
    · rw [h3]; omega
  exact ⟨e, h.1, .inr ⟨by omega, by rw [e]; omega⟩⟩

set_option linter.unusedVariables false in
set_option maxHeartbeats 1000000 in
theorem bsingle_walk (a : Option Addr) (ca : Nat) (zs : List Int) (c pick junk : Int) (w : World) (hx : Row w a (bytesC zs)) (bx : ∀ z ∈ zs, (Lit.int .u8 z).wf = true) (nx : a = none → zs.length = 0 ∧ ca = 0)
    (wc : (Lit.int .u8 c).wf = true) (wp : (Lit.int .u8 pick).wf = true) (wj : (Lit.int .i64 junk).wf = true) :
    Calls Ydmm.prog 7 #[.slice a zs.length ca, .int .u8 c, .int .u8 pick, .int .i64 junk] w fun e w' => e = .returned (.bool true) ∧ Below w.heap.size w w' := by
  clear bx nx wc wj
  have hpk := bounds_u8 wp
  clear wp
  obtain ⟨i0, hi, hz0, hz1, hz2⟩ := info_parts infoInt
  by_cases h1 : 1024 < zs.length
  · go_enter Ydmm.func7, Ydmm.ntmps7
    go_wp2
    go_ret
    exact ⟨rfl, Below.refl _ _⟩
  go_enter Ydmm.func7, Ydmm.ntmps7
  go_wp2_with fail
  refine (bbyte_calls a ca zs c pick w hx hpk (by omega)).mono ?_
  rintro e w1 ⟨ch, rfl, b1⟩
  have hs1 := b1.size
  go_wp2_with (first | (at_make; refine wpList_make_full _ rfl _ _ 28 rfl w.heap.size 3 i0 _ 1 Ydmm.underlying28 hi hz0 hz1 _ _ _ _ (zs.length + 1) rfl rfl (by omega) (by omega) (by rw [hz2]; omega) (by unfold maxLen; omega) hs1 ?_))
  intro w2 own2 grow2
  have hb2 := b1.grown grow2 hs1 (by simp)
  rw [intsF_zero2] at own2
  clear grow2 b1
  go_wp2
  go_loopw [12] (fun i wr => ∃ (k : Nat) (f : Nat → Int), k ≤ zs.length + 1 ∧ i = .int .i64 k ∧ wr.ownsRow w.heap.size 3 1 (.slice (some ⟨w1.heap.size, 0, none⟩) (zs.length + 1) (zs.length + 1)) (zs.length + 1) (intsF f (zs.length + 1)) ∧ (∀ j : Nat, j < k → f j = j) ∧ Below w.heap.size w wr) (fun i _ => zs.length + 1 - (intOf i).toNat)
  case atStart => exact ⟨0, _, Nat.zero_le _, rfl, own2, fun j hj => absurd hj (Nat.not_lt_zero _), hb2⟩
  case round =>
    clear own2 hb2
    obtain ⟨k, f, hk, rfl, o1, hf, hb⟩ := hrel
    by_cases hlt : k < zs.length + 1
    · have c1 := own_ints_cell o1 hlt
      have f1 := o1.frozenAt k
      have O1 : Hid (wr.ownsRow w.heap.size 3 1 (.slice (some ⟨w1.heap.size, 0, none⟩) (zs.length + 1) (zs.length + 1)) (zs.length + 1) (intsF f (zs.length + 1))) := o1
      have HF : Hid (∀ j : Nat, j < k → f j = j) := hf
      have i1 : (k : Int) < (zs.length : Int) + 1 := by omega
      have i2 : (k : Int) ≤ (zs.length : Int) := by omega
      clear o1 hf hx
      go_wp2
      go_roundw
      case rel =>
        obtain ⟨r1, r2⟩ := own_ints_store O1.out k (k : Int)
        refine ⟨k + 1, _, by omega, by go_num, r1, ?_, hb.setCell hs1 _⟩
        intro j hj
        by_cases hjk : j = k
        · rw [if_pos hjk, hjk]
        · rw [if_neg hjk]
          exact HF.out j (by omega)
      case measure => simp [intOf]; omega
    · have hge : ¬ (k : Int) ≤ (zs.length : Int) := by omega
      have hfe : intsF f (zs.length + 1) = intsF (fun j => j) (zs.length + 1) := intsF_congr (fun j hj => hf j (by omega))
      rw [hfe] at o1
      clear hfe hf
      obtain ⟨w3, rfl⟩ : ∃ w3 : World, w3 = wr := ⟨_, rfl⟩
      go_wp2_with fail
      refine (bjunk_calls (zs.length + 1) _ junk w3 (by omega) (by omega)).mono ?_
      rintro e w4 ⟨g, rfl, o4, b4⟩
      have hg4 := own_lt o4
      have hg1 := own_lt o1
      have o1' := o1.kept (row := none) ⟨b4.os, b4.tape, b4.output, b4.size, fun q hq _ => b4.block q hq⟩ (.inr (by simp [Value.ownBlock]))
      have hb4 : Below w.heap.size w w4 := hb.trans (b4.mono hb.size)
      have FC : Hid (Calls Ydmm.prog 20 #[.slice (some ⟨w1.heap.size, 0, none⟩) (zs.length + 1) (zs.length + 1), .slice (some ⟨g, 0, none⟩) (zs.length + 1) (zs.length + 1), .int .u8 ch, .slice a zs.length ca] w4 (RetFill w4 w3.heap.size g (zs.length + 1) (nextAt (fun j => j) ch zs))) :=
        fill_calls w3.heap.size g (some ⟨w1.heap.size, 0, none⟩) a (zs.length + 1) ca (fun j => j) _ ch zs (zs.length + 1) w4 rfl (by omega) (fun j hj => by constructor <;> omega) o4 (row_of_own o1')
          (fun b' off' he => by simp only [Option.some.injEq, Addr.mk.injEq, and_true] at he; omega) (hx.below hb4 (Nat.le_refl _)) (fun b' off' he hl => row_off hx (by rw [bytesC_length]; exact hl) (by have := hb.size; omega) b' off' he)
      have hbs := hb.size
      clear o1 o4 b4 o1' hb hlt hge
      go_wp2_with fail
      refine FC.out.mono ?_
      rintro e w5 ⟨rfl, o5, g5⟩
      have hb5 : Below w.heap.size w w5 := hb4.grown g5 hb4.size (fun q hq => by cases hq; omega)
      have d0 := own_ints_cell o5 (k := 0) (by omega)
      have e0 : nextAt (fun j => (j : Int)) ch zs 0 = 1 := by simp [nextAt]
      rw [e0] at d0
      have O5 : Hid (w5.ownsRow w3.heap.size 3 1 (.slice (some ⟨g, 0, none⟩) (zs.length + 1) (zs.length + 1)) (zs.length + 1) (intsF (nextAt (fun j => j) ch zs) (zs.length + 1))) := o5
      have hx5 := hx.below hb5 (Nat.le_refl _)
      have i9 : (0 : Int) < (zs.length : Int) + 1 := by omega
      clear o5 g5 FC e0 hb4 hx hg4 hg1 hbs
      go_wp2
      go_loop [14, 15] (fun sv jv => ∃ (m s : Nat), m ≤ zs.length ∧ jv = .int .i64 ((m : Int) + 1) ∧ sv = .int .i64 s ∧ Sg ch zs m s) (fun _ jv => zs.length + 1 - (intOf jv).toNat)
      case atStart => exact ⟨0, 0, Nat.zero_le _, rfl, rfl, by omega, .inl ⟨rfl, rfl⟩⟩
      case round =>
        clear d0
        obtain ⟨m, s, hm, rfl, rfl, hsg⟩ := hrel
        by_cases hlt : m < zs.length
        · obtain ⟨bb, ob, rfl, hcb⟩ := hx5.bytes (by omega)
          obtain ⟨z, hz⟩ := op_at hlt
          have cb1 := hcb m z hz
          have d1 := own_ints_cell O5.out (k := m + 1) (by omega)
          have i1 : (m : Int) + 1 ≤ (zs.length : Int) := by omega
          have i2 : (m : Int) < (zs.length : Int) := by omega
          have i3 : (m : Int) + 1 < (zs.length : Int) + 1 := by omega
          have hs1' := hsg.1
          by_cases hzc : z = ch
          · subst hzc
            obtain ⟨e1, e2⟩ := sg_hit hsg hz
            have HS : Hid (Sg z zs (m + 1) 1) := e2
            rw [e1] at d1
            clear hcb hz hx5 hsg e1 e2
            go_wp2
            go_round
            case rel => exact ⟨m + 1, 1, by omega, by go_num, rfl, HS.out⟩
            case measure => simp [intOf]; omega
          · have t : (z == ch) = false := by simp [hzc]
            obtain ⟨e1, e2⟩ := sg_miss hsg hz hzc
            have HS : Hid (Sg ch zs (m + 1) s) := e2
            rw [e1] at d1
            clear hcb hz hx5 hsg e1 e2 hzc
            go_wp2
            go_round
            case rel => exact ⟨m + 1, s, by omega, by go_num, rfl, HS.out⟩
            case measure => simp [intOf]; omega
        · have hge : ¬ (m : Int) + 1 ≤ (zs.length : Int) := by omega
          go_wp2
          go_ret
          exact ⟨rfl, hb5⟩
end Go.Proofs.Ymbrdm
