/-
  THE WALK OF LawS930020BBest.
-/
import Derived.Test.YmbrdmBSingle
import Derived.Test.YmbrdmLater
namespace Go.Proofs.Ymbrdm
open Go.ChangeShapes Go.WideShapes Go.ChangeAt Go.RowKit

def rowP (r : List Int) (j : Nat) : Int := (r[j]?).getD 0

theorem rowP_some {r : List Int} {j : Nat} {z : Int} (h : r[j]? = some z) : rowP r j = z := by simp [rowP, h]
theorem rowP_none {r : List Int} {j : Nat} (h : r.length ≤ j) : rowP r j = 0 := by simp [rowP, List.getElem?_eq_none h]

theorem Row.i32s {w : World} {a : Option Addr} {zs : List Int} (h : Row w a (zs.map (Value.int .i32))) (hne : 0 < zs.length) :
    ∃ b off, a = some ⟨b, off, none⟩ ∧ ∀ (j : Nat) (z : Int), zs[j]? = some z → w.cell? ⟨b, off + j, none⟩ = some (.int .i32 z) := by
  obtain ⟨b, off, ha, hc⟩ := h.one (by intro e; have := congrArg List.length e; simp at this; simp [this] at hne)
  exact ⟨b, off, ha, fun j z hj => hc j _ (by simp [hj])⟩

set_option linter.unusedVariables false in
set_option maxHeartbeats 2000000 in
theorem bbest_walk (ar : Option Addr) (car : Nat) (rs : List Int) (a : Option Addr) (ca : Nat) (zs : List Int) (c pick junk : Int) (w : World) (hr : Row w ar (rs.map (Value.int .i32))) (br : ∀ z ∈ rs, (Lit.int .i32 z).wf = true) (nr : ar = none → rs.length = 0 ∧ car = 0)
    (hx : Row w a (bytesC zs)) (bx : ∀ z ∈ zs, (Lit.int .u8 z).wf = true) (nx : a = none → zs.length = 0 ∧ ca = 0) (wc : (Lit.int .u8 c).wf = true) (wp : (Lit.int .u8 pick).wf = true) (wj : (Lit.int .i64 junk).wf = true) :
    Calls Ydmm.prog 6 #[.slice ar rs.length car, .slice a zs.length ca, .int .u8 c, .int .u8 pick, .int .i64 junk] w fun e w' => e = .returned (.bool true) ∧ Below w.heap.size w w' := by
  clear bx nx wc wj nr
  have hpk := bounds_u8 wp
  clear wp
  obtain ⟨i0, hi, hz0, hz1, hz2⟩ := info_parts infoInt
  by_cases h1 : 1024 < zs.length
  · go_enter Ydmm.func6, Ydmm.ntmps6
    go_wp2
    go_ret
    exact ⟨rfl, Below.refl _ _⟩
  have hPb : ∀ j, -1099511627776 ≤ rowP rs j ∧ rowP rs j ≤ 1099511627776 := by
    intro j
    by_cases hj : j < rs.length
    · obtain ⟨z, hz⟩ := op_at hj
      rw [rowP_some hz]
      have := bounds_i32 (br z (List.mem_of_getElem? hz))
      omega
    · rw [rowP_none (by omega)]; omega
  have HPB : Hid (∀ j, -1099511627776 ≤ rowP rs j ∧ rowP rs j ≤ 1099511627776) := hPb
  have BR : Hid (∀ z ∈ rs, (Lit.int .i32 z).wf = true) := br
  clear hPb br
  go_enter Ydmm.func6, Ydmm.ntmps6
  go_wp2_with fail
  refine (bbyte_calls a ca zs c pick w hx hpk (by omega)).mono ?_
  rintro e w1 ⟨ch, rfl, b1⟩
  have hs1 := b1.size
  go_wp2_with (first | (at_make; refine wpList_make_full _ rfl _ _ 28 rfl w.heap.size 3 i0 _ 1 Ydmm.underlying28 hi hz0 hz1 _ _ _ _ (zs.length + 1) rfl rfl (by omega) (by omega) (by rw [hz2]; omega) (by unfold maxLen; omega) hs1 ?_))
  intro w2 own2 grow2
  have hb2 := b1.grown grow2 hs1 (by simp)
  rw [intsF_zero2] at own2
  have hg2 := own_lt own2
  clear grow2 b1
  go_wp2_with (first | (at_make; refine wpList_make_full _ rfl _ _ 28 rfl w.heap.size 3 i0 _ 1 Ydmm.underlying28 hi hz0 hz1 _ _ _ _ (zs.length + 1) rfl rfl (by omega) (by omega) (by rw [hz2]; omega) (by unfold maxLen; omega) hb2.size ?_))
  intro w3 own3 grow3
  have hb3 := hb2.grown grow3 hb2.size (by simp)
  rw [intsF_zero2] at own3
  have own2' := own2.kept grow3 (.inr (by simp [Value.ownBlock]))
  have hs2 := hb2.size
  have hlt12 : w1.heap.size < w2.heap.size := hg2.2
  clear grow3 own2 hb2 hg2
  go_wp2
  go_loopw [15] (fun i wr => ∃ (k : Nat) (f : Nat → Int), k ≤ zs.length + 1 ∧ i = .int .i64 k ∧ wr.ownsRow w.heap.size 3 1 (.slice (some ⟨w1.heap.size, 0, none⟩) (zs.length + 1) (zs.length + 1)) (zs.length + 1) (intsF f (zs.length + 1)) ∧
      wr.ownsRow w.heap.size 3 1 (.slice (some ⟨w2.heap.size, 0, none⟩) (zs.length + 1) (zs.length + 1)) (zs.length + 1) (intsF f (zs.length + 1)) ∧ (∀ j : Nat, j < k → f j = rowP rs j) ∧ (∀ j : Nat, k ≤ j → f j = 0) ∧ Below w.heap.size w wr) (fun i _ => zs.length + 1 - (intOf i).toNat)
  case atStart => exact ⟨0, _, Nat.zero_le _, rfl, own2', own3, fun j hj => absurd hj (Nat.not_lt_zero _), fun _ _ => rfl, hb3⟩
  case round =>
    clear own2' own3 hb3
    obtain ⟨k, f, hk, rfl, o1, o2, hf, hf0, hb⟩ := hrel
    by_cases hlt : k < zs.length + 1
    · have i1 : (k : Int) < (zs.length : Int) + 1 := by omega
      have i2 : (k : Int) ≤ (zs.length : Int) := by omega
      have HF : Hid (∀ j : Nat, j < k → f j = rowP rs j) := hf
      have HF0 : Hid (∀ j : Nat, k ≤ j → f j = 0) := hf0
      by_cases hkr : k < rs.length
      · have c1 := own_ints_cell o1 hlt
        have f1 := o1.frozenAt k
        have c2 := own_ints_cell o2 hlt
        have f2 := o2.frozenAt k
        obtain ⟨br, or, rfl, hcr⟩ := Row.i32s (hr.below hb (Nat.le_refl _)) (by omega)
        obtain ⟨z, hz⟩ := op_at hkr
        have hbz := bounds_i32 (BR.out z (List.mem_of_getElem? hz))
        have d1 := hcr k z hz
        have hbn : br < w.heap.size := by
          obtain ⟨b', o', he', hc'⟩ := Row.i32s hr (by omega)
          simp only [Option.some.injEq, Addr.mk.injEq, and_true] at he'
          obtain ⟨rfl, rfl⟩ := he'
          exact World.block_lt_of_cell? w _ (hc' k z hz)
        have n1 : ¬ br = w1.heap.size := by omega
        have n2 : ¬ br = w2.heap.size := by omega
        have n3 : ¬ w2.heap.size = w1.heap.size := by omega
        have n4 : ¬ w1.heap.size = w2.heap.size := by omega
        have EP : Hid (rowP rs k = z) := rowP_some hz
        have O1 : Hid (wr.ownsRow w.heap.size 3 1 (.slice (some ⟨w1.heap.size, 0, none⟩) (zs.length + 1) (zs.length + 1)) (zs.length + 1) (intsF f (zs.length + 1))) := o1
        have O2 : Hid (wr.ownsRow w.heap.size 3 1 (.slice (some ⟨w2.heap.size, 0, none⟩) (zs.length + 1) (zs.length + 1)) (zs.length + 1) (intsF f (zs.length + 1))) := o2
        have j1 : (k : Int) < (rs.length : Int) := by omega
        clear o1 o2 hf hf0 hx hr hcr hz
        go_wp2
        go_roundw
        case rel =>
          obtain ⟨r1, r2⟩ := own_ints_store O1.out k z
          have q2 := O2.out.kept r2 (.inr (by simpa [Value.ownBlock] using n3))
          obtain ⟨r3, r4⟩ := own_ints_store q2 k z
          have q1 := r1.kept r4 (.inr (by simpa [Value.ownBlock] using n4))
          refine ⟨k + 1, _, by omega, by go_num, q1, r3, ?_, ?_, (hb.setCell hs1 _).setCell hs2 _⟩
          · intro j hj
            by_cases hjk : j = k
            · rw [if_pos hjk, hjk, EP.out]
            · rw [if_neg hjk]
              exact HF.out j (by omega)
          · intro j hj
            rw [if_neg (by omega)]
            exact HF0.out j (by omega)
        case measure => simp [intOf]; omega
      · have j1 : ¬ (k : Int) < (rs.length : Int) := by omega
        have EP : Hid (rowP rs k = 0) := rowP_none (by omega)
        have O1 : Hid (wr.ownsRow w.heap.size 3 1 (.slice (some ⟨w1.heap.size, 0, none⟩) (zs.length + 1) (zs.length + 1)) (zs.length + 1) (intsF f (zs.length + 1))) := o1
        have O2 : Hid (wr.ownsRow w.heap.size 3 1 (.slice (some ⟨w2.heap.size, 0, none⟩) (zs.length + 1) (zs.length + 1)) (zs.length + 1) (intsF f (zs.length + 1))) := o2
        clear o1 o2 hf hf0 hx hr
        go_wp2
        go_roundw
        case rel =>
          refine ⟨k + 1, f, by omega, by go_num, O1.out, O2.out, ?_, fun j hj => HF0.out j (by omega), hb⟩
          intro j hj
          by_cases hjk : j = k
          · rw [hjk, EP.out]; exact HF0.out k (Nat.le_refl _)
          · exact HF.out j (by omega)
        case measure => simp [intOf]; omega
    · have hge : ¬ (k : Int) ≤ (zs.length : Int) := by omega
      have hfe : intsF f (zs.length + 1) = intsF (rowP rs) (zs.length + 1) := intsF_congr (fun j hj => hf j (by omega))
      rw [hfe] at o1 o2
      clear hfe hf hf0 hr
      obtain ⟨w4, rfl⟩ : ∃ w4 : World, w4 = wr := ⟨_, rfl⟩
      go_wp2_with fail
      refine (bjunk_calls (zs.length + 1) _ junk w4 (by omega) (by omega)).mono ?_
      rintro e w5 ⟨g, rfl, o5, b5⟩
      have hg5 := own_lt o5
      have hg1 := own_lt o1
      have hg2 := own_lt o2
      have gr : w4.grownBy w5 none := ⟨b5.os, b5.tape, b5.output, b5.size, fun q hq _ => b5.block q hq⟩
      have o1' := o1.kept gr (.inr (by simp [Value.ownBlock]))
      have o2' := o2.kept gr (.inr (by simp [Value.ownBlock]))
      have hb5 : Below w.heap.size w w5 := hb.trans (b5.mono hb.size)
      have FC : Hid (Calls Ydmm.prog 20 #[.slice (some ⟨w1.heap.size, 0, none⟩) (zs.length + 1) (zs.length + 1), .slice (some ⟨g, 0, none⟩) (zs.length + 1) (zs.length + 1), .int .u8 ch, .slice a zs.length ca] w5 (RetFill w5 w4.heap.size g (zs.length + 1) (nextAt (rowP rs) ch zs))) :=
        fill_calls w4.heap.size g (some ⟨w1.heap.size, 0, none⟩) a (zs.length + 1) ca (rowP rs) _ ch zs (zs.length + 1) w5 rfl (by omega) (fun j hj => HPB.out j) o5 (row_of_own o1')
          (fun b' off' he => by simp only [Option.some.injEq, Addr.mk.injEq, and_true] at he; omega) (hx.below hb5 (Nat.le_refl _)) (fun b' off' he hl => row_off hx (by rw [bytesC_length]; exact hl) (by have := hb.size; omega) b' off' he)
      have hbs := hb.size
      clear o1 o2 o5 b5 gr hb hlt hge
      go_wp2_with fail
      refine FC.out.mono ?_
      rintro e w6 ⟨rfl, o6, g6⟩
      have hb6 : Below w.heap.size w w6 := hb5.grown g6 hb5.size (fun q hq => by cases hq; omega)
      have p1 := o1'.kept g6 (.inr (by simp [Value.ownBlock]; omega))
      have p2 := o2'.kept g6 (.inr (by simp [Value.ownBlock]; omega))
      have r1 := row_of_own p1
      have r2 := row_of_own p2
      have r6 := row_of_own o6
      have rx := hx.below hb6 (Nat.le_refl _)
      clear o6 g6 FC hb5 hx p1 p2 o1' o2' hg5 hg1 hg2 hbs
      go_wp2
      go_loopw [17] (fun kv wr => ∃ k : Nat, k ≤ zs.length + 1 ∧ kv = .int .i64 k ∧ Below w.heap.size w wr ∧ Row wr (some ⟨w1.heap.size, 0, none⟩) (intsF (rowP rs) (zs.length + 1)) ∧ Row wr (some ⟨w2.heap.size, 0, none⟩) (intsF (rowP rs) (zs.length + 1)) ∧
          Row wr (some ⟨g, 0, none⟩) (intsF (nextAt (rowP rs) ch zs) (zs.length + 1)) ∧ Row wr a (bytesC zs)) (fun kv _ => zs.length + 1 - (intOf kv).toNat)
      case atStart => exact ⟨0, Nat.zero_le _, rfl, hb6, r1, r2, r6, rx⟩
      case round =>
        clear hb6 r1 r2 r6 rx
        obtain ⟨k, hk, rfl, hb, r1, r2, r6, rx⟩ := hrel
        by_cases hlt : k < zs.length + 1
        · obtain ⟨x1, y1, e1, q1⟩ := r1.intsAt (by omega)
          obtain ⟨x2, y2, e2, q2⟩ := r2.intsAt (by omega)
          obtain ⟨x6, y6, e6, q6⟩ := r6.intsAt (by omega)
          simp only [Option.some.injEq, Addr.mk.injEq, and_true] at e1 e2 e6
          obtain ⟨rfl, rfl⟩ := e1
          obtain ⟨rfl, rfl⟩ := e2
          obtain ⟨rfl, rfl⟩ := e6
          have c1 := q1 k hlt
          have c2 := q2 k hlt
          have c6 := q6 k hlt
          simp only [Nat.zero_add] at c1 c2 c6
          have i1 : (k : Int) < (zs.length : Int) + 1 := by omega
          have i2 : (k : Int) ≤ (zs.length : Int) := by omega
          have R1 : Hid (Row wr (some ⟨w1.heap.size, 0, none⟩) (intsF (rowP rs) (zs.length + 1))) := r1
          have R2 : Hid (Row wr (some ⟨w2.heap.size, 0, none⟩) (intsF (rowP rs) (zs.length + 1))) := r2
          have R6 : Hid (Row wr (some ⟨g, 0, none⟩) (intsF (nextAt (rowP rs) ch zs) (zs.length + 1))) := r6
          have RX : Hid (Row wr a (bytesC zs)) := rx
          have BC : Hid (∀ w', Row w' (some ⟨w2.heap.size, 0, none⟩) (intsF (rowP rs) (zs.length + 1)) → Row w' a (bytesC zs) → Calls Ydmm.prog 21 #[.slice (some ⟨w2.heap.size, 0, none⟩) (zs.length + 1) (zs.length + 1), .int .u8 ch, .slice a zs.length ca, .int .i64 k] w' fun e w'' => e = .returned (.int .i64 (nextAt (rowP rs) ch zs k)) ∧ Below w'.heap.size w' w'') :=
            fun w' h h' => bbest_calls (some ⟨w2.heap.size, 0, none⟩) a (zs.length + 1) ca (rowP rs) ch zs (zs.length + 1) k w' rfl (by omega) (by omega) (fun j hj => HPB.out j) h h'
          clear q1 q2 q6 r1 r2 r6 rx
          go_wp2
          go_quiet (fail)
          go_wp2_with fail
          obtain ⟨w7, hw7⟩ : ∃ w7, w7 = wr.drewN nq := ⟨_, rfl⟩
          rw [← hw7]
          have hb7 : Below w.heap.size w w7 := by rw [hw7]; exact below_dn hb _
          have S1 : Hid (Row w7 (some ⟨w1.heap.size, 0, none⟩) (intsF (rowP rs) (zs.length + 1))) := by rw [hw7]; exact Row.dn R1.out _
          have S2 : Hid (Row w7 (some ⟨w2.heap.size, 0, none⟩) (intsF (rowP rs) (zs.length + 1))) := by rw [hw7]; exact Row.dn R2.out _
          have S6 : Hid (Row w7 (some ⟨g, 0, none⟩) (intsF (nextAt (rowP rs) ch zs) (zs.length + 1))) := by rw [hw7]; exact Row.dn R6.out _
          have SX : Hid (Row w7 a (bytesC zs)) := by rw [hw7]; exact Row.dn RX.out _
          have d6 : w7.cell? ⟨g, k, none⟩ = some (.int .i64 (nextAt (rowP rs) ch zs k)) := by rw [hw7]; exact c6
          have l6 := Later.cell d6
          have hne : Nonempty (Later w7) := ⟨⟨w7, Below.refl _ _⟩⟩
          clear hw7 c1 c2 c6 d6 R1 R2 R6 RX hb
          refine wp_region_later (by kernel_rfl) (by kernel_rfl) ?_
          repeat (go_big_quiet_step (first | (go_at_call 21; exact calls_later (BC.out _ (Later.row S2.out _) (Later.row SX.out _)))))
          refine wpQuiet_nil ?_
          rintro _ ⟨q, rfl⟩
          go_wp2
          go_roundw
          case rel => exact ⟨k + 1, by omega, by go_num, hb7.trans (q.below.mono hb7.size), Later.row S1.out q, Later.row S2.out q, Later.row S6.out q, Later.row SX.out q⟩
          case measure => simp [intOf]; omega
        · have hge : ¬ (k : Int) ≤ (zs.length : Int) := by omega
          go_wp2
          go_ret
          exact ⟨rfl, hb⟩
end Go.Proofs.Ymbrdm
