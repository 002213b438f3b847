/-
  THE WALK OF LawS930020KUndo.
-/
import Derived.Test.YmbrdoKBase
import Derived.Test.YmbrdoKPlain
import Derived.Test.YmbrdoCompose
import Derived.Test.YmbrdoReads
import Derived.Test.YmbrdoCost
import Derived.Test.YmbrdoInvert
namespace Go.Proofs.Ymbrdo
open Go.ChangeShapes Go.WideShapes Go.ChangeAt Go.RowKit

theorem all_inv (s : List OpT) : (s.map invT).all validT = s.all validT := by
  induction s with
  | nil => rfl
  | cons o os ih => simp only [List.map_cons, List.all_cons, ih, valid_inv]

theorem undo_ok (s : List OpT) : (compT s (s.map invT)).isSome = s.all validT := by
  rw [comp_ok, all_inv, readsT_inv]
  simp

set_option linter.unusedVariables false in
set_option maxHeartbeats 4000000 in
set_option maxRecDepth 100000 in
theorem kundo_walk (a : Option Addr) (ca : Nat) (xs : List OpT) (mode : Int) (w : World) (hx : Row w a (opsC xs)) (hokx : ∀ z ∈ xs, OpOk z) (hnx : a = none → xs.length = 0 ∧ ca = 0) (wm : (Lit.int .u8 mode).wf = true) :
    Calls Ydom.prog 11 #[.slice a xs.length ca, .int .u8 mode] w fun e w' => e = .returned (.bool true) ∧ Below w.heap.size w w' := by
  clear hnx
  have hm := bounds_u8 wm
  clear wm
  have q28 : ∀ (w : World) (a : Option Addr) (n c n' c' : Nat), (binOp .eql 28 (.slice a n c) (.slice none n' c')).run Ydom.prog w = .ok (.bool a.isNone) w := fun w a n c n' c' => Lib.run_eql_slice_nil w _ _ a n c n' c' Ydom.underlying28
  by_cases hb1 : 1024 < xs.length
  · go_enter Ydom.func11, Ydom.ntmps11
    go_wp2
    go_ret
    exact ⟨rfl, Below.refl _ _⟩
  have HX : Hid (∀ z ∈ xs, OpOk z) := hokx
  clear hokx
  go_enter Ydom.func11, Ydom.ntmps11
  go_wp2_with fail
  refine (kops_calls a ca xs mode w hx HX.out hm (by omega)).mono ?_
  rintro e w1 ⟨s, a1, c1, hs1, rfl, s1, b1⟩
  have hsl : s.length ≤ 1024 := by omega
  clear hs1 hx HX hm hb1
  go_wp2_with fail
  refine (invert_calls a1 c1 s w1 s1 (by omega)).mono ?_
  rintro e w2 ⟨g2, rfl, o2, b2⟩
  obtain ⟨t, ht⟩ : ∃ t, t = s.map invT := ⟨_, rfl⟩
  have HTL : Hid (t.length = s.length) := by rw [ht]; show (s.map invT).length = s.length; simp
  have HT : Hid (t = s.map invT) := ht
  have r2 : Row w2 (some ⟨g2, 0, none⟩) (opsC t) := by rw [ht]; exact row_of_own o2
  have B2 : Below w.heap.size w w2 := b1.trans (b2.mono b1.size)
  have s2 := s1.below' b2
  have htl : t.length ≤ 1024 := by have := HTL.out; omega
  have CC : Hid (Calls Ydom.prog 23 #[.slice a1 s.length c1, .slice (some ⟨g2, 0, none⟩) s.length s.length] w2 (RetComp w2 (compT s t))) := by
    have := compose_calls a1 (some ⟨g2, 0, none⟩) c1 s.length s t w2 s2 r2 (by omega) (by omega)
    rw [HTL.out] at this
    exact this
  clear ht o2 b1 b2 s1 r2
  go_wp2_with fail
  refine CC.out.mono ?_
  intro e w3 h3
  have HOK : Hid ((compT s t).isSome = s.all validT) := by rw [HT.out]; exact undo_ok s
  clear CC
  cases hc : compT s t with
  | none =>
    rw [hc] at h3
    obtain ⟨rfl, b3⟩ := h3
    have HF : Hid (s.all validT = false) := by
      show s.all validT = false
      rw [← HOK.out, hc]; rfl
    have B3 : Below w.heap.size w w3 := B2.trans (b3.mono B2.size)
    have s3 := s2.below' b3
    clear HOK hc b3 s2 B2 HT HTL htl
    go_wp2_with fail
    refine (kvalid_calls a1 c1 s w3 s3 (by omega)).mono ?_
    rintro e w4 ⟨rfl, b4⟩
    have B4 : Below w.heap.size w w4 := B3.trans (b4.mono B3.size)
    rw [HF.out]
    clear b4 s3 B3 HF
    go_wp2
    go_ret
    exact ⟨rfl, B4⟩
  | some r =>
    rw [hc] at h3
    obtain ⟨g, off, cap, rfl, r3, b3⟩ := h3
    obtain ⟨d1, d2, d3, d4⟩ := comp_does s t r hc
    have hrl := comp_len s t r hc
    have hcost : costOf r = 2 * delsT s := by
      have := undo_cost s [] r (by simp) (by rw [List.map_nil, List.nil_append, ← HT.out]; exact hc)
      simpa using this
    have HV : Hid (s.all validT = true) := by
      show s.all validT = true
      rw [← HOK.out, hc]; rfl
    have D2 : Hid (readsT r = readsT s) := d2
    have D3 : Hid (writesT r = readsT s) := by
      show writesT r = readsT s
      rw [d3, HT.out, writesT_inv]
    have DC : Hid (costOf r = 2 * delsT s) := hcost
    have B3 : Below w.heap.size w w3 := B2.trans (b3.mono B2.size)
    have s3 := s2.below' b3
    have hrl' : r.length ≤ 2048 := by omega
    have l4 := readsT_le r
    have l5 := writesT_le r
    have l6 := readsT_le s
    have l7 := delsT_le s
    clear HOK hc b3 s2 B2 HT HTL htl d1 d2 d3 d4 hrl hcost
    go_wp2_with fail
    refine (kvalid_calls a1 c1 s w3 s3 (by omega)).mono ?_
    rintro e w4 ⟨rfl, b4⟩
    have B4 : Below w.heap.size w w4 := B3.trans (b4.mono B3.size)
    have s4 := s3.below' b4
    have r4 := r3.below' b4
    rw [HV.out]
    clear b4 s3 r3 B3 HV
    go_wp2
    go_loopw [8, 35] (fun v i wr => ∃ k : Nat, k ≤ s.length ∧ i = .int .i64 k ∧ v = .int .i64 (delsT (s.take k)) ∧ Below w.heap.size w wr ∧ Row wr a1 (opsC s) ∧ Row wr (some ⟨g, off, none⟩) (opsC r)) (fun _ i _ => s.length - (intOf i).toNat)
    case atStart => exact ⟨0, Nat.zero_le _, rfl, rfl, B4, s4, r4⟩
    case round =>
      clear B4 s4 r4
      obtain ⟨k, hk, rfl, rfl, hb, hs, hr⟩ := hrel
      by_cases hlt : k < s.length
      · have HS : Hid (Row wr a1 (opsC s)) := hs
        obtain ⟨b, off', rfl, hcc⟩ := hs.ops (by omega)
        obtain ⟨o, ho⟩ := op_at hlt
        obtain ⟨c0, c1', c2⟩ := hcc k o ho
        have hdl := delsT_le (s.take k)
        have hdt : (s.take k).length ≤ k := List.length_take_le _ _
        have E1 : Hid (delsT (s.take (k + 1)) = delsT (s.take k) + (if o.kind = 45 then 1 else 0)) := delsT_take_succ ho
        have hsz := hb.size
        obtain ⟨D, hD⟩ : ∃ D, D = delsT (s.take k) := ⟨_, rfl⟩
        rw [← hD] at hdl ⊢
        have ED : Hid (D = delsT (s.take k)) := hD
        have HB : ∀ o : Obj, Below wr.heap.size wr (wr.alloc o) := fun o => (Below.refl _ _).alloc (Nat.le_refl _) o
        clear hcc hs ho hD
        by_cases hkd : o.kind = 45
        · have hkd' : (o.kind == 45) = true := by simp [hkd]
          go_wp2
          go_roundw
          case rel => exact ⟨k + 1, by omega, by go_num, by rw [E1.out, if_pos hkd, ← ED.out]; rfl, hb.alloc hsz _, HS.out.below' (HB _), hr.below' (HB _)⟩
          case measure => simp [intOf]; omega
        · have hkd' : (o.kind == 45) = false := by simp [hkd]
          go_wp2
          go_roundw
          case rel => exact ⟨k + 1, by omega, by go_num, by rw [E1.out, if_neg hkd, ← ED.out]; rfl, hb.alloc hsz _, HS.out.below' (HB _), hr.below' (HB _)⟩
          case measure => simp [intOf]; omega
      · have hge : ¬ (k : Int) < (s.length : Int) := by omega
        obtain rfl : k = s.length := by omega
        rw [List.take_length]
        go_wp2_with fail
        refine (reads_calls a1 c1 s wr hs (by omega)).mono ?_
        rintro e w5 ⟨x5, y5, rfl, p5, b5⟩
        have B5 : Below w.heap.size w w5 := hb.trans (b5.mono hb.size)
        have r5 := hr.below' b5
        clear b5 hb hr hs
        go_wp2_with fail
        refine (reads_calls (some ⟨g, off, none⟩) cap r w5 r5 (by omega)).mono ?_
        rintro e w6 ⟨x6, y6, rfl, p6, b6⟩
        have B6 : Below w.heap.size w w6 := B5.trans (b6.mono B5.size)
        have r6 := r5.below' b6
        have p5' := p5.below' b6
        clear b6 r5 p5 B5
        go_wp2_with fail
        refine (keqbytes_calls x6 x5 y6 y5 (readsT r) (readsT s) w6 p6 p5' (by omega)).mono ?_
        rintro e w7 ⟨rfl, b7⟩
        rw [show (readsT r == readsT s) = true by rw [D2.out]; simp]
        have B7 : Below w.heap.size w w7 := B6.trans (b7.mono B6.size)
        have r7 := r6.below' b7
        have p7 := p5'.below' b7
        clear b7 r6 p5' p6 B6 D2
        go_wp2_with fail
        refine (writes_calls (some ⟨g, off, none⟩) cap r w7 r7 (by omega)).mono ?_
        rintro e w8 ⟨x8, y8, rfl, p8, b8⟩
        have B8 : Below w.heap.size w w8 := B7.trans (b8.mono B7.size)
        have r8 := r7.below' b8
        have p7' := p7.below' b8
        clear b8 r7 p7 B7
        go_wp2_with fail
        refine (keqbytes_calls x8 x5 y8 y5 (writesT r) (readsT s) w8 p8 p7' (by omega)).mono ?_
        rintro e w9 ⟨rfl, b9⟩
        rw [show (writesT r == readsT s) = true by rw [D3.out]; simp]
        have B9 : Below w.heap.size w w9 := B8.trans (b9.mono B8.size)
        have r9 := r8.below' b9
        clear b9 r8 p7' p8 B8 D3
        go_wp2_with fail
        refine (cost_calls (some ⟨g, off, none⟩) cap r w9 r9 (by omega)).mono ?_
        rintro e w10 ⟨rfl, b10⟩
        have B10 : Below w.heap.size w w10 := B9.trans (b10.mono B9.size)
        have t9 : ((costOf r : Int) == 2 * (delsT s : Int)) = true := by rw [DC.out]; simp
        clear b10 r9 B9 DC
        go_wp2
        go_ret
        exact ⟨rfl, B10⟩
end Go.Proofs.Ymbrdo
