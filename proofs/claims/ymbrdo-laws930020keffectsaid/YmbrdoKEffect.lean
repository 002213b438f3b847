/-
  THE WALK OF LawS930020KEffect.
-/
import Derived.Test.YmbrdoKBase
import Derived.Test.YmbrdoKPlain
import Derived.Test.YmbrdoCompose
import Derived.Test.YmbrdoReads
import Derived.Test.YmbrdoCost
namespace Go.Proofs.Ymbrdo
open Go.ChangeShapes Go.WideShapes Go.ChangeAt Go.RowKit

set_option linter.unusedVariables false in
set_option maxHeartbeats 4000000 in
set_option maxRecDepth 100000 in
theorem keffect_walk (a : Option Addr) (ca : Nat) (xs : List OpT) (b : Option Addr) (cb : Nat) (ys : List OpT) (mode : Int) (w : World) (hx : Row w a (opsC xs)) (hokx : ∀ z ∈ xs, OpOk z) (hnx : a = none → xs.length = 0 ∧ ca = 0)
    (hy : Row w b (opsC ys)) (hoky : ∀ z ∈ ys, OpOk z) (hny : b = none → ys.length = 0 ∧ cb = 0) (wm : (Lit.int .u8 mode).wf = true) :
    Calls Ydom.prog 10 #[.slice a xs.length ca, .slice b ys.length cb, .int .u8 mode] w fun e w' => e = .returned (.bool true) ∧ Below w.heap.size w w' := by
  clear hnx hny
  have hm := bounds_u8 wm
  clear wm
  have q28 : ∀ (w : World) (a : Option Addr) (n c n' c' : Nat), (binOp .eql 28 (.slice a n c) (.slice none n' c')).run Ydom.prog w = .ok (.bool a.isNone) w := fun w a n c n' c' => Lib.run_eql_slice_nil w _ _ a n c n' c' Ydom.underlying28
  by_cases hb1 : 1024 < xs.length
  · go_enter Ydom.func10, Ydom.ntmps10
    go_wp2
    go_ret
    exact ⟨rfl, Below.refl _ _⟩
  by_cases hb2 : 1024 < ys.length
  · go_enter Ydom.func10, Ydom.ntmps10
    go_wp2
    go_ret
    exact ⟨rfl, Below.refl _ _⟩
  have HX : Hid (∀ z ∈ xs, OpOk z) := hokx
  have HY : Hid (∀ z ∈ ys, OpOk z) := hoky
  clear hokx hoky
  go_enter Ydom.func10, Ydom.ntmps10
  go_wp2_with fail
  refine (kops_calls a ca xs mode w hx HX.out hm (by omega)).mono ?_
  rintro e w1 ⟨s, a1, c1, hs1, rfl, r1, b1⟩
  have hsl : s.length ≤ 1024 := by omega
  clear hs1
  go_wp2_with fail
  refine (kops_calls b cb ys mode w1 (hy.below b1 (Nat.le_refl _)) HY.out hm (by omega)).mono ?_
  rintro e w2 ⟨t, a2, c2, hs2, rfl, r2, b2⟩
  have htl : t.length ≤ 1024 := by omega
  clear hs2
  have B2 : Below w.heap.size w w2 := b1.trans (b2.mono b1.size)
  have s2 := r1.below' b2
  clear hx hy HX HY b1 b2 r1 hb1 hb2 hm
  go_wp2_with fail
  refine (compose_calls a1 a2 c1 c2 s t w2 s2 r2 (by omega) (by omega)).mono ?_
  intro e w3 h3
  have HOK : Hid ((compT s t).isSome = (s.all validT && t.all validT && (writesT s == readsT t))) := comp_ok s t
  cases hc : compT s t with
  | none =>
    rw [hc] at h3
    obtain ⟨rfl, b3⟩ := h3
    have HF : Hid ((s.all validT && t.all validT && (writesT s == readsT t)) = false) := by
      show (s.all validT && t.all validT && (writesT s == readsT t)) = false
      rw [← HOK.out, hc]; rfl
    have B3 : Below w.heap.size w w3 := B2.trans (b3.mono B2.size)
    have s3 := s2.below' b3
    have t3 := r2.below' b3
    clear HOK hc b3 s2 r2 B2
    go_wp2_with fail
    refine (kvalid_calls a1 c1 s w3 s3 (by omega)).mono ?_
    rintro e w4 ⟨rfl, b4⟩
    have B4 : Below w.heap.size w w4 := B3.trans (b4.mono B3.size)
    have s4 := s3.below' b4
    have t4 := t3.below' b4
    clear b4 s3 t3 B3
    by_cases v1 : s.all validT = true
    · have HF2 : Hid ((t.all validT && (writesT s == readsT t)) = false) := by
        show (t.all validT && (writesT s == readsT t)) = false
        have := HF.out
        rw [v1, Bool.true_and] at this
        exact this
      rw [v1]
      clear HF v1
      go_wp2_with fail
      refine (kvalid_calls a2 c2 t w4 t4 (by omega)).mono ?_
      rintro e w5 ⟨rfl, b5⟩
      have B5 : Below w.heap.size w w5 := B4.trans (b5.mono B4.size)
      have s5 := s4.below' b5
      have t5 := t4.below' b5
      clear b5 s4 t4 B4
      by_cases v2 : t.all validT = true
      · have HF3 : Hid ((writesT s == readsT t) = false) := by
          show (writesT s == readsT t) = false
          have := HF2.out
          rw [v2, Bool.true_and] at this
          exact this
        rw [v2]
        clear HF2 v2
        go_wp2_with fail
        refine (writes_calls a1 c1 s w5 s5 (by omega)).mono ?_
        rintro e w6 ⟨x6, y6, rfl, r6, b6⟩
        have B6 : Below w.heap.size w w6 := B5.trans (b6.mono B5.size)
        have t6 := t5.below' b6
        clear b6 t5 s5 B5
        go_wp2_with fail
        refine (reads_calls a2 c2 t w6 t6 (by omega)).mono ?_
        rintro e w7 ⟨x7, y7, rfl, r7, b7⟩
        have B7 : Below w.heap.size w w7 := B6.trans (b7.mono B6.size)
        have r6' := r6.below' b7
        have hlw := writesT_le s
        clear b7 t6 r6 B6
        go_wp2_with fail
        refine (keqbytes_calls x6 x7 y6 y7 (writesT s) (readsT t) w7 r6' r7 (by omega)).mono ?_
        rintro e w8 ⟨rfl, b8⟩
        have B8 : Below w.heap.size w w8 := B7.trans (b8.mono B7.size)
        rw [HF3.out]
        clear HF3 b8 B7 r6' r7
        go_wp2
        go_ret
        exact ⟨rfl, B8⟩
      · have v2' : t.all validT = false := by simpa using v2
        rw [v2']
        clear HF2 v2 v2'
        go_wp2
        go_ret
        exact ⟨rfl, B5⟩
    · have v1' : s.all validT = false := by simpa using v1
      rw [v1']
      clear HF v1 v1'
      go_wp2
      go_ret
      exact ⟨rfl, B4⟩
  | some r =>
    rw [hc] at h3
    obtain ⟨g, off, cap, rfl, r3, b3⟩ := h3
    obtain ⟨d1, d2, d3, d4⟩ := comp_does s t r hc
    have hrl := comp_len s t r hc
    have HT : Hid ((s.all validT && t.all validT && (writesT s == readsT t)) = true) := by
      show (s.all validT && t.all validT && (writesT s == readsT t)) = true
      rw [← HOK.out, hc]; rfl
    have B3 : Below w.heap.size w w3 := B2.trans (b3.mono B2.size)
    have s3 := s2.below' b3
    have t3 := r2.below' b3
    have V1 : Hid (s.all validT = true) := by
      show s.all validT = true
      have := HT.out
      simp only [Bool.and_eq_true] at this
      exact this.1.1
    have V2 : Hid (t.all validT = true) := by
      show t.all validT = true
      have := HT.out
      simp only [Bool.and_eq_true] at this
      exact this.1.2
    have V3 : Hid ((writesT s == readsT t) = true) := by
      show (writesT s == readsT t) = true
      have := HT.out
      simp only [Bool.and_eq_true] at this
      exact this.2
    have D1 : Hid (r.all validT = true) := d1
    have D2 : Hid (readsT r = readsT s) := d2
    have D3 : Hid (writesT r = writesT t) := d3
    have l1 := costOf_le s
    have l2 := costOf_le t
    have l3 := writesT_le s
    have l4 := readsT_le r
    have l5 := writesT_le r
    have hrl' : r.length ≤ 2048 := by omega
    clear HOK HT hc b3 s2 r2 B2 d1 d2 d3 hrl
    go_wp2_with fail
    refine (kvalid_calls a1 c1 s w3 s3 (by omega)).mono ?_
    rintro e w4 ⟨rfl, b4⟩
    rw [V1.out]
    have B4 : Below w.heap.size w w4 := B3.trans (b4.mono B3.size)
    have s4 := s3.below' b4
    have t4 := t3.below' b4
    have r4 := r3.below' b4
    clear b4 s3 t3 r3 B3 V1
    go_wp2_with fail
    refine (kvalid_calls a2 c2 t w4 t4 (by omega)).mono ?_
    rintro e w5 ⟨rfl, b5⟩
    rw [V2.out]
    have B5 : Below w.heap.size w w5 := B4.trans (b5.mono B4.size)
    have s5 := s4.below' b5
    have t5 := t4.below' b5
    have r5 := r4.below' b5
    clear b5 s4 t4 r4 B4 V2
    go_wp2_with fail
    refine (writes_calls a1 c1 s w5 s5 (by omega)).mono ?_
    rintro e w6 ⟨x6, y6, rfl, p6, b6⟩
    have B6 : Below w.heap.size w w6 := B5.trans (b6.mono B5.size)
    have s6 := s5.below' b6
    have t6 := t5.below' b6
    have r6 := r5.below' b6
    clear b6 t5 s5 r5 B5
    go_wp2_with fail
    refine (reads_calls a2 c2 t w6 t6 (by omega)).mono ?_
    rintro e w7 ⟨x7, y7, rfl, p7, b7⟩
    have B7 : Below w.heap.size w w7 := B6.trans (b7.mono B6.size)
    have p6' := p6.below' b7
    have s7 := s6.below' b7
    have t7 := t6.below' b7
    have r7 := r6.below' b7
    clear b7 t6 s6 r6 p6 B6
    go_wp2_with fail
    refine (keqbytes_calls x6 x7 y6 y7 (writesT s) (readsT t) w7 p6' p7 (by omega)).mono ?_
    rintro e w8 ⟨rfl, b8⟩
    rw [V3.out]
    have B8 : Below w.heap.size w w8 := B7.trans (b8.mono B7.size)
    have s8 := s7.below' b8
    have t8 := t7.below' b8
    have r8 := r7.below' b8
    clear b8 t7 s7 r7 p6' p7 B7 V3
    go_wp2_with fail
    refine (kvalid_calls (some ⟨g, off, none⟩) cap r w8 r8 (by omega)).mono ?_
    rintro e w9 ⟨rfl, b9⟩
    rw [D1.out]
    have B9 : Below w.heap.size w w9 := B8.trans (b9.mono B8.size)
    have s9 := s8.below' b9
    have t9 := t8.below' b9
    have r9 := r8.below' b9
    clear b9 t8 s8 r8 B8 D1
    go_wp2_with fail
    refine (reads_calls (some ⟨g, off, none⟩) cap r w9 r9 (by omega)).mono ?_
    rintro e w10 ⟨x10, y10, rfl, p10, b10⟩
    have B10 : Below w.heap.size w w10 := B9.trans (b10.mono B9.size)
    have s10 := s9.below' b10
    have t10 := t9.below' b10
    have r10 := r9.below' b10
    clear b10 t9 s9 r9 B9
    go_wp2_with fail
    refine (reads_calls a1 c1 s w10 s10 (by omega)).mono ?_
    rintro e w11 ⟨x11, y11, rfl, p11, b11⟩
    have B11 : Below w.heap.size w w11 := B10.trans (b11.mono B10.size)
    have p10' := p10.below' b11
    have s11 := s10.below' b11
    have t11 := t10.below' b11
    have r11 := r10.below' b11
    clear b11 t10 s10 r10 p10 B10
    go_wp2_with fail
    refine (keqbytes_calls x10 x11 y10 y11 (readsT r) (readsT s) w11 p10' p11 (by omega)).mono ?_
    rintro e w12 ⟨rfl, b12⟩
    rw [show (readsT r == readsT s) = true by rw [D2.out]; simp]
    have B12 : Below w.heap.size w w12 := B11.trans (b12.mono B11.size)
    have s12 := s11.below' b12
    have t12 := t11.below' b12
    have r12 := r11.below' b12
    clear b12 t11 s11 r11 p10' p11 B11 D2
    go_wp2_with fail
    refine (writes_calls (some ⟨g, off, none⟩) cap r w12 r12 (by omega)).mono ?_
    rintro e w13 ⟨x13, y13, rfl, p13, b13⟩
    have B13 : Below w.heap.size w w13 := B12.trans (b13.mono B12.size)
    have s13 := s12.below' b13
    have t13 := t12.below' b13
    have r13 := r12.below' b13
    clear b13 t12 s12 r12 B12
    go_wp2_with fail
    refine (writes_calls a2 c2 t w13 t13 (by omega)).mono ?_
    rintro e w14 ⟨x14, y14, rfl, p14, b14⟩
    have B14 : Below w.heap.size w w14 := B13.trans (b14.mono B13.size)
    have p13' := p13.below' b14
    have s14 := s13.below' b14
    have t14 := t13.below' b14
    have r14 := r13.below' b14
    clear b14 t13 s13 r13 p13 B13
    go_wp2_with fail
    refine (keqbytes_calls x13 x14 y13 y14 (writesT r) (writesT t) w14 p13' p14 (by omega)).mono ?_
    rintro e w15 ⟨rfl, b15⟩
    rw [show (writesT r == writesT t) = true by rw [D3.out]; simp]
    have B15 : Below w.heap.size w w15 := B14.trans (b15.mono B14.size)
    have s15 := s14.below' b15
    have t15 := t14.below' b15
    have r15 := r14.below' b15
    clear b15 t14 s14 r14 p13' p14 B14 D3
    go_wp2_with fail
    refine (cost_calls (some ⟨g, off, none⟩) cap r w15 r15 (by omega)).mono ?_
    rintro e w16 ⟨rfl, b16⟩
    have B16 : Below w.heap.size w w16 := B15.trans (b16.mono B15.size)
    have s16 := s15.below' b16
    have t16 := t15.below' b16
    clear b16 t15 s15 r15 B15
    go_wp2_with fail
    refine (cost_calls a1 c1 s w16 s16 (by omega)).mono ?_
    rintro e w17 ⟨rfl, b17⟩
    have B17 : Below w.heap.size w w17 := B16.trans (b17.mono B16.size)
    have t17 := t16.below' b17
    clear b17 t16 s16 B16
    go_wp2_with fail
    refine (cost_calls a2 c2 t w17 t17 (by omega)).mono ?_
    rintro e w18 ⟨rfl, b18⟩
    have B18 : Below w.heap.size w w18 := B17.trans (b18.mono B17.size)
    have d5 : ((costOf r : Nat) : Int) ≤ (costOf s : Int) + (costOf t : Int) := by omega
    clear b18 t17 B17 d4
    go_wp2
    go_ret
    exact ⟨rfl, B18⟩
end Go.Proofs.Ymbrdo
