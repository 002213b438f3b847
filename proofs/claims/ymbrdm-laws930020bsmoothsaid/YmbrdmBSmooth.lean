/-
  THE WALK OF LawS930020BSmooth.
-/
import Derived.Test.YmbrdmBSingle
namespace Go.Proofs.Ymbrdm
open Go.ChangeShapes Go.WideShapes Go.ChangeAt Go.RowKit

theorem near {f : Nat → Int} {s : Int} {n : Nat} (h0 : f 0 = s) (h : Smooth f n) : ∀ j, j ≤ n → s - j ≤ f j ∧ f j ≤ s + j
  | 0, _ => by omega
  | j + 1, hj => by
    have := near h0 h j (by omega)
    have := h j (by omega)
    omega

theorem smooth_put {f : Nat → Int} {k : Nat} {d : Int} (h : Smooth f k) (hd : -1 ≤ d ∧ d ≤ 1) : Smooth (fun j => if j = k + 1 then f k + d else f j) (k + 1) := by
  intro j hj
  by_cases hjk : j = k
  · subst hjk
    simp only [if_true]
    rw [if_neg (by omega)]
    omega
  · have := h j (by omega)
    simp only
    rw [if_neg (by omega), if_neg (by omega)]
    exact this

set_option linter.unusedVariables false in
set_option maxHeartbeats 2000000 in
set_option maxRecDepth 100000 in
theorem bsmooth_walk (start : Int) (sa : Option Addr) (cas : Nat) (ss : List Int) (a : Option Addr) (ca : Nat) (zs : List Int) (c pick junk : Int) (w : World) (ws : (Lit.int .i32 start).wf = true)
    (hs : Row w sa (bytesC ss)) (bs : ∀ z ∈ ss, (Lit.int .u8 z).wf = true) (ns : sa = none → ss.length = 0 ∧ cas = 0)
    (hx : Row w a (bytesC zs)) (bx : ∀ z ∈ zs, (Lit.int .u8 z).wf = true) (nx : a = none → zs.length = 0 ∧ ca = 0) (wc : (Lit.int .u8 c).wf = true) (wp : (Lit.int .u8 pick).wf = true) (wj : (Lit.int .i64 junk).wf = true) :
    Calls Ydmm.prog 8 #[.int .i32 start, .slice sa ss.length cas, .slice a zs.length ca, .int .u8 c, .int .u8 pick, .int .i64 junk] w fun e w' => e = .returned (.bool true) ∧ Below w.heap.size w w' := by
  clear bx nx wc wj ns
  have hpk := bounds_u8 wp
  have hst := bounds_i32 ws
  clear wp ws
  obtain ⟨i0, hi, hz0, hz1, hz2⟩ := info_parts infoInt
  by_cases h1 : 1024 < zs.length
  · go_enter Ydmm.func8, Ydmm.ntmps8
    go_wp2
    go_ret
    exact ⟨rfl, Below.refl _ _⟩
  have BS : Hid (∀ z ∈ ss, (Lit.int .u8 z).wf = true) := bs
  clear bs
  go_enter Ydmm.func8, Ydmm.ntmps8
  go_wp2_with fail
  refine (bbyte_calls a ca zs c pick w hx hpk (by omega)).mono ?_
  rintro e w1 ⟨ch, rfl, b1⟩
  have hs1 := b1.size
  go_wp2_with (first | (at_make; refine wpList_make_full _ rfl _ _ 28 rfl w.heap.size 3 i0 _ 1 Ydmm.underlying28 hi hz0 hz1 _ _ _ _ (zs.length + 1) rfl rfl (by omega) (by omega) (by rw [hz2]; omega) (by unfold maxLen; omega) hs1 ?_))
  intro w2 own2 grow2
  have hb2 := b1.grown grow2 hs1 (by simp)
  rw [intsF_zero2] at own2
  have c0 := own_ints_cell own2 (k := 0) (by omega)
  have f0 := own2.frozenAt 0
  have O2 : Hid (w2.ownsRow w.heap.size 3 1 (.slice (some ⟨w1.heap.size, 0, none⟩) (zs.length + 1) (zs.length + 1)) (zs.length + 1) (intsF (fun _ => 0) (zs.length + 1))) := own2
  have i9 : (0 : Int) < (zs.length : Int) + 1 := by omega
  clear grow2 b1 own2
  go_wp2
  go_loopw [16] (fun i wr => ∃ (k : Nat) (f : Nat → Int), k ≤ zs.length ∧ i = .int .i64 ((k : Int) + 1) ∧ wr.ownsRow w.heap.size 3 1 (.slice (some ⟨w1.heap.size, 0, none⟩) (zs.length + 1) (zs.length + 1)) (zs.length + 1) (intsF f (zs.length + 1)) ∧
      f 0 = start ∧ Smooth f k ∧ Below w.heap.size w wr) (fun i _ => zs.length + 1 - (intOf i).toNat)
  case atStart =>
    obtain ⟨r1, r2⟩ := own_ints_store O2.out 0 start
    exact ⟨0, _, Nat.zero_le _, rfl, r1, by simp, fun j hj => absurd hj (Nat.not_lt_zero _), hb2.setCell hs1 _⟩
  case round =>
    clear O2 hb2 c0 f0
    obtain ⟨k, f, hk, rfl, o1, hf0, hsm, hb⟩ := hrel
    by_cases hlt : k < zs.length
    · have i1 : (k : Int) + 1 ≤ (zs.length : Int) := by omega
      have i2 : (k : Int) + 1 < (zs.length : Int) + 1 := by omega
      have i3 : (k : Int) < (zs.length : Int) + 1 := by omega
      have c1 := own_ints_cell o1 (k := k) (by omega)
      have c2 := own_ints_cell o1 (k := k + 1) (by omega)
      have f2 := o1.frozenAt (k + 1)
      have hfb := near hf0 hsm k (Nat.le_refl _)
      have HSM : Hid (Smooth f k) := hsm
      have HF0 : Hid (f 0 = start) := hf0
      have O1 : Hid (wr.ownsRow w.heap.size 3 1 (.slice (some ⟨w1.heap.size, 0, none⟩) (zs.length + 1) (zs.length + 1)) (zs.length + 1) (intsF f (zs.length + 1))) := o1
      by_cases hks : k < ss.length
      · obtain ⟨bs, os, rfl, hcs⟩ := (hs.below hb (Nat.le_refl _)).bytes (by omega)
        obtain ⟨z, hz⟩ := op_at hks
        have hbz := bounds_u8 (BS.out z (List.mem_of_getElem? hz))
        have d1 := hcs k z hz
        have j1 : (k : Int) < (ss.length : Int) := by omega
        have hm : 0 ≤ z % 3 ∧ z % 3 ≤ 2 := by omega
        clear o1 hf0 hsm hx hs hcs hz
        go_wp2
        go_roundw
        case rel =>
          obtain ⟨r1, r2⟩ := own_ints_store O1.out (k + 1) (f k + (z % 3 - 1))
          exact ⟨k + 1, _, by omega, by go_num, r1, by simp [HF0.out], smooth_put HSM.out (by omega), hb.setCell hs1 _⟩
        case measure => simp [intOf]; omega
      · have j1 : ¬ (k : Int) < (ss.length : Int) := by omega
        clear o1 hf0 hsm hx hs
        go_wp2
        go_roundw
        case rel =>
          obtain ⟨r1, r2⟩ := own_ints_store O1.out (k + 1) (f k + 1)
          exact ⟨k + 1, _, by omega, by go_num, r1, by simp [HF0.out], smooth_put HSM.out (by omega), hb.setCell hs1 _⟩
        case measure => simp [intOf]; omega
    · have hge : ¬ (k : Int) + 1 ≤ (zs.length : Int) := by omega
      obtain rfl : k = zs.length := by omega
      have HNB : Hid (∀ j, j ≤ zs.length → start - j ≤ f j ∧ f j ≤ start + j) := near hf0 hsm
      have HSM : Hid (Smooth f zs.length) := hsm
      clear hf0 hsm hs
      obtain ⟨w4, rfl⟩ : ∃ w4 : World, w4 = wr := ⟨_, rfl⟩
      go_wp2_with fail
      refine (bjunk_calls (zs.length + 1) _ junk w4 (by omega) (by omega)).mono ?_
      rintro e w5 ⟨g, rfl, o5, b5⟩
      have hg5 := own_lt o5
      have hg1 := own_lt o1
      have gr : w4.grownBy w5 none := ⟨b5.os, b5.tape, b5.output, b5.size, fun q hq _ => b5.block q hq⟩
      have o1' := o1.kept gr (.inr (by simp [Value.ownBlock]))
      have hb5 : Below w.heap.size w w5 := hb.trans (b5.mono hb.size)
      have FC : Hid (Calls Ydmm.prog 20 #[.slice (some ⟨w1.heap.size, 0, none⟩) (zs.length + 1) (zs.length + 1), .slice (some ⟨g, 0, none⟩) (zs.length + 1) (zs.length + 1), .int .u8 ch, .slice a zs.length ca] w5 (RetFill w5 w4.heap.size g (zs.length + 1) (nextAt f ch zs))) :=
        fill_calls w4.heap.size g (some ⟨w1.heap.size, 0, none⟩) a (zs.length + 1) ca f _ ch zs (zs.length + 1) w5 rfl (by omega) (fun j hj => by have := HNB.out j (by omega); omega) o5 (row_of_own o1')
          (fun b' off' he => by simp only [Option.some.injEq, Addr.mk.injEq, and_true] at he; omega) (hx.below hb5 (Nat.le_refl _)) (fun b' off' he hl => row_off hx (by rw [bytesC_length]; exact hl) (by have := hb.size; omega) b' off' he)
      have hbs := hb.size
      clear o1 o5 b5 gr hb hlt hge
      go_wp2_with fail
      refine FC.out.mono ?_
      rintro e w6 ⟨rfl, o6, g6⟩
      have hb6 : Below w.heap.size w w6 := hb5.grown g6 hb5.size (fun q hq => by cases hq; omega)
      have p1 := o1'.kept g6 (.inr (by simp [Value.ownBlock]; omega))
      have r1 := row_of_own p1
      have r6 := row_of_own o6
      have rx := hx.below hb6 (Nat.le_refl _)
      have c1 := own_ints_cell p1 (k := 0) (by omega)
      have c6 := own_ints_cell o6 (k := 0) (by omega)
      have e0 : nextAt f ch zs 0 = f 0 + 1 := rfl
      rw [e0] at c6
      have hn0 := HNB.out 0 (by omega)
      have v0 : IntKind.i64.wrap (f 0 + 1) = f 0 + 1 := IntWalk.i64_in _ (by omega)
      have R1 : Hid (Row w6 (some ⟨w1.heap.size, 0, none⟩) (intsF f (zs.length + 1))) := r1
      have R6 : Hid (Row w6 (some ⟨g, 0, none⟩) (intsF (nextAt f ch zs) (zs.length + 1))) := r6
      have RX : Hid (Row w6 a (bytesC zs)) := rx
      clear o6 g6 FC hb5 hx p1 o1' hg5 hg1 hbs e0 r1 r6 rx
      go_wp2
      go_quiet (fail)
      go_wp2
      go_loopw [19] (fun kv wr => ∃ k : Nat, k ≤ zs.length ∧ kv = .int .i64 ((k : Int) + 1) ∧ Below w.heap.size w wr ∧ Row wr (some ⟨w1.heap.size, 0, none⟩) (intsF f (zs.length + 1)) ∧
          Row wr (some ⟨g, 0, none⟩) (intsF (nextAt f ch zs) (zs.length + 1)) ∧ Row wr a (bytesC zs)) (fun kv _ => zs.length + 1 - (intOf kv).toNat)
      case atStart => exact ⟨0, Nat.zero_le _, rfl, below_dn hb6 _, Row.dn R1.out _, Row.dn R6.out _, Row.dn RX.out _⟩
      case round =>
        clear hb6 R1 R6 RX c1 c6 v0 hn0
        obtain ⟨k, hk, rfl, hb, r1, r6, rx⟩ := hrel
        by_cases hlt : k < zs.length
        · obtain ⟨x1, y1, e1, q1⟩ := r1.intsAt (by omega)
          obtain ⟨x6, y6, e6, q6⟩ := r6.intsAt (by omega)
          simp only [Option.some.injEq, Addr.mk.injEq, and_true] at e1 e6
          obtain ⟨rfl, rfl⟩ := e1
          obtain ⟨rfl, rfl⟩ := e6
          have c1 := q1 k (by omega)
          have c2 := q1 (k + 1) (by omega)
          have c3 := q6 k (by omega)
          have c4 := q6 (k + 1) (by omega)
          simp only [Nat.zero_add] at c1 c2 c3 c4
          obtain ⟨bb, ob, rfl, hcb⟩ := rx.bytes (by omega)
          obtain ⟨z, hz⟩ := op_at hlt
          have cb1 := hcb k z hz
          obtain ⟨s1, s2, s3⟩ := next_smooth f ch zs zs.length HSM.out (k + 1) (by omega)
          obtain ⟨t1, t2, t3⟩ := next_smooth f ch zs zs.length HSM.out k (by omega)
          obtain ⟨u1, u2, u3, u4, u5, u6⟩ := t3 hlt
          have hn1 := HNB.out k (by omega)
          have hn2 := HNB.out (k + 1) (by omega)
          have i1 : (k : Int) + 1 ≤ (zs.length : Int) := by omega
          have i2 : (k : Int) + 1 < (zs.length : Int) + 1 := by omega
          have i3 : (k : Int) < (zs.length : Int) + 1 := by omega
          have i4 : (k : Int) < (zs.length : Int) := by omega
          have R1 : Hid (Row wr (some ⟨w1.heap.size, 0, none⟩) (intsF f (zs.length + 1))) := r1
          have R6 : Hid (Row wr (some ⟨g, 0, none⟩) (intsF (nextAt f ch zs) (zs.length + 1))) := r6
          have RX : Hid (Row wr (some ⟨bb, ob, none⟩) (bytesC zs)) := rx
          obtain ⟨N0, hN0⟩ : ∃ N0, nextAt f ch zs k = N0 := ⟨_, rfl⟩
          obtain ⟨N1, hN1⟩ : ∃ N1, nextAt f ch zs (k + 1) = N1 := ⟨_, rfl⟩
          obtain ⟨F0, hF0⟩ : ∃ F0, f k = F0 := ⟨_, rfl⟩
          obtain ⟨F1, hF1⟩ : ∃ F1, f (k + 1) = F1 := ⟨_, rfl⟩
          rw [hF0] at c1 hn1 t1 t2 u1 u2
          rw [hF1] at c2 hn2 s1 s2
          rw [hN0] at c3 t1 t2 u5 u6
          rw [hN1] at c4 s1 s2 u1 u2 u5 u6
          have v1 : IntKind.i64.wrap (N1 - N0) = N1 - N0 := IntWalk.i64_in _ (by omega)
          have v2 : IntKind.i64.wrap (N1 - F1) = N1 - F1 := IntWalk.i64_in _ (by omega)
          have v3 : IntKind.i64.wrap (N1 - F0) = N1 - F0 := IntWalk.i64_in _ (by omega)
          have y1 : ¬ N1 - N0 < -1 := by omega
          have y2 : ¬ 1 < N1 - N0 := by omega
          have y3 : ¬ N1 - F1 < -1 := by omega
          have y4 : ¬ 1 < N1 - F1 := by omega
          have y5 : ¬ N1 - F0 < 0 := by omega
          have y6 : ¬ 1 < N1 - F0 := by omega
          have hb9 : ∀ nq, Below w.heap.size w (wr.drewN nq) := fun nq => below_dn hb nq
          by_cases hzc : z = ch
          · have u7 := u3 (by rw [hz, hzc])
            have t : (z == ch) = true := by simp [hzc]
            rw [hN1, hF0] at u7
            have y7 : (N1 - F0 != 0) = false := by simp [u7]
            clear u3 u4 s3 t3 q1 q6 r1 r6 rx hcb hz hzc hN0 hN1 hF0 hF1 u7
            go_wp2
            go_quiet (fail)
            go_wp2
            go_quiet (fail)
            go_wp2
            go_quiet (fail)
            go_wp2
            go_roundw
            case rel => exact ⟨k + 1, by omega, by go_num, below_dn hb _, Row.dn R1.out _, Row.dn R6.out _, Row.dn RX.out _⟩
            case measure => simp [intOf]; omega
          · have t : (z == ch) = false := by simp [hzc]
            clear u3 u4 s3 t3 q1 q6 r1 r6 rx hcb hz hzc hN0 hN1 hF0 hF1
            go_wp2
            go_quiet (fail)
            go_wp2
            go_quiet (fail)
            go_wp2
            go_quiet (fail)
            go_wp2
            go_roundw
            case rel => exact ⟨k + 1, by omega, by go_num, below_dn hb _, Row.dn R1.out _, Row.dn R6.out _, Row.dn RX.out _⟩
            case measure => simp [intOf]; omega
        · have hge : ¬ (k : Int) + 1 ≤ (zs.length : Int) := by omega
          go_wp2
          go_ret
          exact ⟨rfl, hb⟩
end Go.Proofs.Ymbrdm
