/-
  THE WALK OF LawS930020LReplay.
-/
import Derived.Test.YmbrdoScript2
import Derived.Deep.Cut
namespace Go.Proofs.Ymbrdo
open Go.ChangeShapes Go.WideShapes Go.ChangeAt Go.RowKit

theorem reads_at {os : List OpT} {k : Nat} {o : OpT} (h : os[k]? = some o) (hk : o.kind ≠ 43) : (readsT os)[(readsT (os.take k)).length]? = some o.old ∧ (readsT (os.take (k + 1))).length = (readsT (os.take k)).length + 1 := by
  have e : os = os.take (k + 1) ++ os.drop (k + 1) := (List.take_append_drop _ _).symm
  have e2 : readsT (os.take (k + 1)) = readsT (os.take k) ++ [o.old] := by rw [readsT_take_succ h, if_neg hk]
  constructor
  · conv => lhs; rw [e]
    rw [readsT_append, e2]
    simp
  · rw [e2]; simp
theorem writes_at {os : List OpT} {k : Nat} {o : OpT} (h : os[k]? = some o) (hk : o.kind ≠ 45) : (writesT os)[(writesT (os.take k)).length]? = some o.new ∧ (writesT (os.take (k + 1))).length = (writesT (os.take k)).length + 1 := by
  have e : os = os.take (k + 1) ++ os.drop (k + 1) := (List.take_append_drop _ _).symm
  have e2 : writesT (os.take (k + 1)) = writesT (os.take k) ++ [o.new] := by rw [writesT_take_succ h, if_neg hk]
  constructor
  · conv => lhs; rw [e]
    rw [writesT_append, e2]
    simp
  · rw [e2]; simp
theorem reads_no {os : List OpT} {k : Nat} {o : OpT} (h : os[k]? = some o) (hk : o.kind = 43) : (readsT (os.take (k + 1))).length = (readsT (os.take k)).length := by rw [readsT_take_succ h, if_pos hk]; simp
theorem writes_no {os : List OpT} {k : Nat} {o : OpT} (h : os[k]? = some o) (hk : o.kind = 45) : (writesT (os.take (k + 1))).length = (writesT (os.take k)).length := by rw [writesT_take_succ h, if_pos hk]; simp

set_option linter.unusedVariables false in
set_option maxHeartbeats 4000000 in
set_option maxRecDepth 100000 in
theorem lreplay_walk (a : Option Addr) (ca : Nat) (x : List Int) (b : Option Addr) (cb : Nat) (y : List Int) (w : World) (hx : Row w a (bytesC x)) (bx : ∀ z ∈ x, (Lit.int .u8 z).wf = true) (nx : a = none → x.length = 0 ∧ ca = 0)
    (hy : Row w b (bytesC y)) (bY : ∀ z ∈ y, (Lit.int .u8 z).wf = true) (ny : b = none → y.length = 0 ∧ cb = 0) :
    Calls Ydom.prog 12 #[.slice a x.length ca, .slice b y.length cb] w fun e w' => e = .returned (.bool true) ∧ Below w.heap.size w w' := by
  clear bx nx bY ny
  by_cases h1 : 256 < x.length
  · go_enter Ydom.func12, Ydom.ntmps12
    go_wp2
    go_ret
    exact ⟨rfl, Below.refl _ _⟩
  by_cases h2 : 256 < y.length
  · go_enter Ydom.func12, Ydom.ntmps12
    go_wp2
    go_ret
    exact ⟨rfl, Below.refl _ _⟩
  go_enter Ydom.func12, Ydom.ntmps12
  go_wp2_with fail
  refine (script_calls a b ca cb x y w hx hy (by omega) (by omega)).mono ?_
  rintro e w1 ⟨os, a1, c1, rfl, r1, bk, b1⟩
  have hl := back_len bk
  have hl' : os.length ≤ 512 := by omega
  have HV : Hid (os.all validT = true) := back_valid bk
  have HRD : Hid (readsT os = x) := by show readsT os = x; rw [back_reads bk, List.take_length]
  have HWR : Hid (writesT os = y) := by show writesT os = y; rw [back_writes bk, List.take_length]
  have hx1 := hx.below b1 (Nat.le_refl _)
  have hy1 := hy.below b1 (Nat.le_refl _)
  have hbs := b1.size
  clear bk hl hx hy
  go_wp2
  go_loopw [6, 7, 8] (fun iv jv kv wr => ∃ k i j : Nat, k ≤ os.length ∧ kv = .int .i64 k ∧ iv = .int .i64 i ∧ jv = .int .i64 j ∧ i = (readsT (os.take k)).length ∧ j = (writesT (os.take k)).length ∧ Below w1.heap.size w1 wr) (fun _ _ kv _ => os.length - (intOf kv).toNat)
  case atStart => exact ⟨0, 0, 0, Nat.zero_le _, rfl, rfl, rfl, rfl, rfl, Below.refl _ _⟩
  case round =>
    obtain ⟨k, i, j, hk, rfl, rfl, rfl, hi, hj, hb⟩ := hrel
    have HI : Hid (i = (readsT (os.take k)).length) := hi
    have HJ : Hid (j = (writesT (os.take k)).length) := hj
    have hik : i ≤ k := by rw [hi]; exact readsT_take_le os k
    have hjk : j ≤ k := by rw [hj]; exact writesT_take_le os k
    clear hi hj
    by_cases hlt : k < os.length
    · have i1 : (k : Int) < (os.length : Int) := by omega
      obtain ⟨b9, off, rfl, hc⟩ := (r1.below' hb).ops (by omega)
      obtain ⟨⟨ok, ox, oy⟩, ho⟩ := op_at hlt
      obtain ⟨c0, c1', c2⟩ := hc k _ ho
      simp only at c0 c1' c2
      have HO : Hid (os[k]? = some ⟨ok, ox, oy⟩) := ho
      have hval : validT ⟨ok, ox, oy⟩ = true := by
        have := HV.out
        rw [List.all_eq_true] at this
        exact this _ (List.mem_of_getElem? ho)
      have hkinds := valid_kinds hval
      clear hc ho
      go_upto_region 10 with fail
      obtain ⟨w5, hw5⟩ : ∃ w5, w5 = wr.alloc (.cells #[.int .u8 ok, .int .u8 ox, .int .u8 oy] 23) := ⟨_, rfl⟩
      rw [← hw5]
      obtain ⟨q, hq⟩ : ∃ q, q = wr.heap.size := ⟨_, rfl⟩
      rw [← hq]
      have e0 : w5.cell? ⟨q, 0, none⟩ = some (.int .u8 ok) := by rw [hw5, hq]; simp
      have e1 : w5.cell? ⟨q, 1, none⟩ = some (.int .u8 ox) := by rw [hw5, hq]; simp
      have e2 : w5.cell? ⟨q, 2, none⟩ = some (.int .u8 oy) := by rw [hw5, hq]; simp
      have B5 : Below w1.heap.size w1 w5 := by rw [hw5]; exact hb.alloc hb.size _
      clear hw5 hq hb c0 c1' c2
      rcases hkinds with rfl | rfl | rfl | rfl
      · have heq : ox = oy := valid_keep hval rfl
        subst heq
        have RA := reads_at HO.out (by simp)
        rw [HRD.out, ← HI.out] at RA
        obtain ⟨ra, RN⟩ := RA
        have lt1 : i < x.length := by
          rcases Nat.lt_or_ge i x.length with h | h
          · exact h
          · rw [List.getElem?_eq_none h] at ra; cases ra
        obtain ⟨b1x, o1x, rfl, hcx⟩ := (hx1.below' B5).bytes (by omega)
        have cx := hcx i _ ra
        simp only at cx
        have g1 : (i : Int) < (x.length : Int) := by omega
        have g2 : decide ((x.length : Int) ≤ (i : Int)) = false := by simp; omega
        have RNH : Hid ((readsT (os.take (k + 1))).length = i + 1) := RN
        clear ra RN hcx
        have WA := writes_at HO.out (by simp)
        rw [HWR.out, ← HJ.out] at WA
        obtain ⟨wa, WN⟩ := WA
        have lt2 : j < y.length := by
          rcases Nat.lt_or_ge j y.length with h | h
          · exact h
          · rw [List.getElem?_eq_none h] at wa; cases wa
        obtain ⟨b2x, o2x, rfl, hcy⟩ := (hy1.below' B5).bytes (by omega)
        have cy := hcy j _ wa
        simp only at cy
        have g3 : (j : Int) < (y.length : Int) := by omega
        have g4 : decide ((y.length : Int) ≤ (j : Int)) = false := by simp; omega
        have WNH : Hid ((writesT (os.take (k + 1))).length = j + 1) := WN
        clear wa WN hcy
        clear HO HV HRD HWR HI HJ hval hx1 hy1 r1
        go_wp2
        go_quiet (fail)
        go_wp2
        go_quiet (fail)
        go_wp2
        go_roundw
        case rel => exact ⟨k + 1, i + 1, j + 1, by omega, by go_num, by go_num, by go_num, RNH.out.symm, WNH.out.symm, below_dn B5 _⟩
        case measure => simp [intOf]; omega
      · have hne : ox ≠ oy := by intro e; simp [validT, e] at hval
        have t : (ox == oy) = false := by simp [hne]
        clear hne
        have RA := reads_at HO.out (by simp)
        rw [HRD.out, ← HI.out] at RA
        obtain ⟨ra, RN⟩ := RA
        have lt1 : i < x.length := by
          rcases Nat.lt_or_ge i x.length with h | h
          · exact h
          · rw [List.getElem?_eq_none h] at ra; cases ra
        obtain ⟨b1x, o1x, rfl, hcx⟩ := (hx1.below' B5).bytes (by omega)
        have cx := hcx i _ ra
        simp only at cx
        have g1 : (i : Int) < (x.length : Int) := by omega
        have g2 : decide ((x.length : Int) ≤ (i : Int)) = false := by simp; omega
        have RNH : Hid ((readsT (os.take (k + 1))).length = i + 1) := RN
        clear ra RN hcx
        have WA := writes_at HO.out (by simp)
        rw [HWR.out, ← HJ.out] at WA
        obtain ⟨wa, WN⟩ := WA
        have lt2 : j < y.length := by
          rcases Nat.lt_or_ge j y.length with h | h
          · exact h
          · rw [List.getElem?_eq_none h] at wa; cases wa
        obtain ⟨b2x, o2x, rfl, hcy⟩ := (hy1.below' B5).bytes (by omega)
        have cy := hcy j _ wa
        simp only at cy
        have g3 : (j : Int) < (y.length : Int) := by omega
        have g4 : decide ((y.length : Int) ≤ (j : Int)) = false := by simp; omega
        have WNH : Hid ((writesT (os.take (k + 1))).length = j + 1) := WN
        clear wa WN hcy
        clear HO HV HRD HWR HI HJ hval hx1 hy1 r1
        go_wp2
        go_quiet (fail)
        go_wp2
        go_quiet (fail)
        go_wp2
        go_roundw
        case rel => exact ⟨k + 1, i + 1, j + 1, by omega, by go_num, by go_num, by go_num, RNH.out.symm, WNH.out.symm, below_dn B5 _⟩
        case measure => simp [intOf]; omega
      · have h0 : ox = 0 := valid_ins hval rfl
        subst h0
        have RN := reads_no HO.out rfl
        rw [← HI.out] at RN
        have RNH : Hid ((readsT (os.take (k + 1))).length = i) := RN
        clear RN
        have WA := writes_at HO.out (by simp)
        rw [HWR.out, ← HJ.out] at WA
        obtain ⟨wa, WN⟩ := WA
        have lt2 : j < y.length := by
          rcases Nat.lt_or_ge j y.length with h | h
          · exact h
          · rw [List.getElem?_eq_none h] at wa; cases wa
        obtain ⟨b2x, o2x, rfl, hcy⟩ := (hy1.below' B5).bytes (by omega)
        have cy := hcy j _ wa
        simp only at cy
        have g3 : (j : Int) < (y.length : Int) := by omega
        have g4 : decide ((y.length : Int) ≤ (j : Int)) = false := by simp; omega
        have WNH : Hid ((writesT (os.take (k + 1))).length = j + 1) := WN
        clear wa WN hcy
        clear HO HV HRD HWR HI HJ hval hx1 hy1 r1
        go_wp2
        go_quiet (fail)
        go_wp2
        go_roundw
        case rel => exact ⟨k + 1, i, j + 1, by omega, by go_num, by go_num, by go_num, RNH.out.symm, WNH.out.symm, below_dn B5 _⟩
        case measure => simp [intOf]; omega
      · have h0 : oy = 0 := valid_del hval rfl
        subst h0
        have RA := reads_at HO.out (by simp)
        rw [HRD.out, ← HI.out] at RA
        obtain ⟨ra, RN⟩ := RA
        have lt1 : i < x.length := by
          rcases Nat.lt_or_ge i x.length with h | h
          · exact h
          · rw [List.getElem?_eq_none h] at ra; cases ra
        obtain ⟨b1x, o1x, rfl, hcx⟩ := (hx1.below' B5).bytes (by omega)
        have cx := hcx i _ ra
        simp only at cx
        have g1 : (i : Int) < (x.length : Int) := by omega
        have g2 : decide ((x.length : Int) ≤ (i : Int)) = false := by simp; omega
        have RNH : Hid ((readsT (os.take (k + 1))).length = i + 1) := RN
        clear ra RN hcx
        have WN := writes_no HO.out rfl
        rw [← HJ.out] at WN
        have WNH : Hid ((writesT (os.take (k + 1))).length = j) := WN
        clear WN
        clear HO HV HRD HWR HI HJ hval hx1 hy1 r1
        go_wp2
        go_quiet (fail)
        go_wp2
        go_roundw
        case rel => exact ⟨k + 1, i + 1, j, by omega, by go_num, by go_num, by go_num, RNH.out.symm, WNH.out.symm, below_dn B5 _⟩
        case measure => simp [intOf]; omega
    · have hge : ¬ (k : Int) < (os.length : Int) := by omega
      obtain rfl : k = os.length := by omega
      have ei : i = x.length := by rw [HI.out, List.take_length, HRD.out]
      have ej : j = y.length := by rw [HJ.out, List.take_length, HWR.out]
      clear HI HJ HRD HWR HV
      subst ei ej
      have B : Below w.heap.size w wr := b1.trans (hb.mono hbs)
      clear r1 hx1 hy1 b1 hb
      go_wp2
      go_ret
      exact ⟨by simp, B⟩
end Go.Proofs.Ymbrdo
