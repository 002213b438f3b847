/-
  THE WALK OF LawS930020DPrints.
-/
import Derived.Test.YmbrdmDRound
namespace Go.Proofs.Ymbrdm
open Go.ChangeShapes Go.WideShapes Go.ChangeAt Go.RowKit

theorem own_types {w : World} {b1 b2 e1 e2 s1 s2 n1 n2 : Nat} {v1 v2 : Value} {x1 x2 : List Value} (h1 : w.ownsRow b1 e1 s1 v1 n1 x1) (h2 : w.ownsRow b2 e2 s2 v2 n2 x2) (he : e1 ≠ e2) : v1.ownBlock = none ∨ v1.ownBlock ≠ v2.ownBlock := by
  rcases h1.2 with ⟨rfl, _⟩ | ⟨g1, c1, cur1, rfl, _, hg1, _⟩
  · exact .inl rfl
  · refine .inr (fun hb => ?_)
    rcases h2.2 with ⟨rfl, _⟩ | ⟨g2, c2, cur2, rfl, _, hg2, _⟩
    · simp [Value.ownBlock] at hb
    · simp only [Value.ownBlock, Option.some.injEq] at hb
      subst hb
      rw [hg1] at hg2
      simp at hg2
      exact he hg2.2

theorem bytes_cells (w : World) (e : Nat) (zs : List Int) (cs : Array Value) (h : cs.toList = bytesC zs) : ∀ j u, (bytesC zs)[j]? = some u → (w.alloc (.cells cs e)).cell? ((⟨w.heap.size, 0, none⟩ : Addr).add j) = some u := by
  intro j u hj
  rw [Addr.add_lit, Nat.zero_add]
  refine al_new w e ?_
  rw [← h] at hj
  simpa using hj

set_option linter.unusedVariables false in
set_option maxHeartbeats 4000000 in
theorem dprints_walk (a : Option Addr) (cap : Nat) (sts : List OpT) (w : World) (h : Row w a (opsC sts)) (hok : ∀ z ∈ sts, OpOk z) (hnil : a = none → sts.length = 0 ∧ cap = 0) :
    Calls Ydmm.prog 12 #[.slice a sts.length cap] w fun e w' => e = .returned (.bool true) ∧ Below w.heap.size w w' := by
  clear hnil
  have q22 : ∀ (w : World) (a : Option Addr) (n c n' c' : Nat), (binOp .eql 22 (.slice a n c) (.slice none n' c')).run Ydmm.prog w = .ok (.bool a.isNone) w := fun w a n c n' c' => Lib.run_eql_slice_nil w _ _ a n c n' c' Ydmm.underlying22
  obtain ⟨i0, hi, hz0, hz1, hz2⟩ := info_parts infoOp
  obtain ⟨j0, hj, hy0, hy1, hy2⟩ := info_parts infoU8
  by_cases hbig : 1024 < sts.length
  · go_enter Ydmm.func12, Ydmm.ntmps12
    go_wp2
    go_ret
    exact ⟨rfl, Below.refl _ _⟩
  have HOK : Hid (∀ z ∈ sts, OpOk z) := hok
  clear hok
  go_enter Ydmm.func12, Ydmm.ntmps12
  go_wp2
  go_loopw [3, 4, 16] (fun v vw i wr => ∃ k : Nat, k ≤ sts.length ∧ i = .int .i64 k ∧ Below w.heap.size w wr ∧ wr.ownsRow w.heap.size 43 3 v ((sts.take k).map dgT).length (opsC ((sts.take k).map dgT)) ∧
      wr.ownsRow w.heap.size 5 1 vw (encT ((sts.take k).map dgT)).length (bytesC (encT ((sts.take k).map dgT)))) (fun _ _ i _ => sts.length - (intOf i).toNat)
  case atStart => exact ⟨0, Nat.zero_le _, rfl, Below.refl _ _, World.ownsRow_nil _ _ _ _, World.ownsRow_nil _ _ _ _⟩
  case round =>
    obtain ⟨k, hk, rfl, hb, hown, hownw⟩ := hrel
    by_cases hlt : k < sts.length
    · obtain ⟨b, off, rfl, hc⟩ := (h.below hb (Nat.le_refl _)).ops (by omega)
      obtain ⟨o, ho⟩ := op_at hlt
      obtain ⟨c0, c1, c2⟩ := hc k o ho
      obtain ⟨k1, k2, k3⟩ := HOK.out o (List.mem_of_getElem? ho)
      have hsz := hb.size
      obtain ⟨acc, hacc⟩ : ∃ acc, acc = (sts.take k).map dgT := ⟨_, rfl⟩
      obtain ⟨bs, hbs⟩ : ∃ bs, bs = encT acc := ⟨_, rfl⟩
      have hal : acc.length ≤ k := by rw [hacc]; simp; omega
      have hbl : bs.length ≤ acc.length * 3 := by rw [hbs]; exact encT_le _
      rw [← hacc] at hown hownw
      rw [← hbs] at hownw
      have E : Hid ((sts.take (k + 1)).map dgT = acc ++ [dgT o]) := by
        show (sts.take (k + 1)).map dgT = acc ++ [dgT o]
        rw [map_take_succ ho, hacc]
      have EB : Hid (encT (acc ++ [dgT o]) = bs ++ enc1 (dgT o)) := by
        show encT (acc ++ [dgT o]) = bs ++ enc1 (dgT o)
        rw [encT_append, hbs]
        simp [encT]
      have HOWN : Hid (wr.ownsRow w.heap.size 43 3 u3 acc.length (opsC acc)) := hown
      have HOWNW : Hid (wr.ownsRow w.heap.size 5 1 u4 bs.length (bytesC bs)) := hownw
      have DG : Hid (∀ w', Calls Ydmm.prog 23 #[.agg #[.int .u8 o.kind, .int .u8 o.old, .int .u8 o.new]] w' fun e w'' => e = .returned (.agg #[.int .u8 (dgT o).kind, .int .u8 (dgT o).old, .int .u8 (dgT o).new]) ∧ Below w'.heap.size w' w'') := fun w' => dgood_calls o.kind o.old o.new w' k1 k2 k3
      have DV : Hid (dgT o = dgT ⟨o.kind, o.old, o.new⟩) := rfl
      obtain ⟨⟨pk, px, py⟩, hp⟩ : ∃ p, p = dgT o := ⟨_, rfl⟩
      rw [← hp] at DG E EB
      have HP : Hid (⟨pk, px, py⟩ = dgT ⟨o.kind, o.old, o.new⟩) := hp
      clear hc h ho hown hownw hacc hbs hp DV
      go_wp2_with fail
      refine (DG.out _).mono ?_
      rintro e w2 ⟨rfl, b2⟩
      have hb2 : Below w.heap.size w w2 := (hb.alloc hsz _).trans (b2.mono (by simp; omega))
      have own2 : w2.ownsRow w.heap.size 43 3 u3 acc.length (opsC acc) := own_keep (HOWN.out.alloc _) b2
      have ownw2 : w2.ownsRow w.heap.size 5 1 u4 bs.length (bytesC bs) := own_keep (HOWNW.out.alloc _) b2
      have blk : ∀ q, u3.ownBlock = some q → q < wr.heap.size := fun q hq => (HOWN.out.lt q hq).2
      have sz2 := hb2.size
      have szb := b2.size
      simp only [World.size_alloc] at szb
      have d0 : w2.cell? ⟨wr.heap.size, 0, none⟩ = some (.int .u8 o.kind) := by rw [b2.cell (by simp)]; simp
      have d1 : w2.cell? ⟨wr.heap.size, 1, none⟩ = some (.int .u8 o.old) := by rw [b2.cell (by simp)]; simp
      have d2 : w2.cell? ⟨wr.heap.size, 2, none⟩ = some (.int .u8 o.new) := by rw [b2.cell (by simp)]; simp
      clear b2 HOWN HOWNW DG
      go_wp2_with (first | (at_builtin; refine wpList_append_own _ rfl _ _ 39 rfl w.heap.size 43 i0 (.agg #[.int .u8 0, .int .u8 0, .int .u8 0]) 3 3 Ydmm.underlying39 hi hz0 hz1 hz2 rfl (by decide) _ _ _ rfl ((own2.alloc _).alloc _) ⟨w2.heap.size + 1, 0, none⟩ 1 1 (opsC [⟨pk, px, py⟩]) rfl rfl ?c1 (op_one1 _ _ _) (by unfold maxLen; omega) (by omega) (by simp; omega) ?_))
      case c1 =>
        have := op_cells1 (w2.alloc (Obj.cells #[Value.int IntKind.u8 pk, Value.int IntKind.u8 px, Value.int IntKind.u8 py] 43)) 43 pk px py
        simpa using this
      intro v' w3 hown3 hgrow3 _
      have hb3 : Below w.heap.size w w3 := ((hb2.alloc hb2.size _).alloc (by simp; omega) _).grown hgrow3 (by simp; omega) (fun q hq => (own2.lt q hq).1)
      have sz3 := hgrow3.size
      simp only [World.size_alloc] at sz3
      have nr : ∀ L, wr.heap.size ≤ L → some L ≠ u3.ownBlock := fun L hL he => by have := blk L he.symm; omega
      have f0 : w3.cell? ⟨wr.heap.size, 0, none⟩ = some (.int .u8 o.kind) := hgrow3.cell (al_old _ (al_old _ d0)) (nr _ (Nat.le_refl _))
      have f1 : w3.cell? ⟨wr.heap.size, 1, none⟩ = some (.int .u8 o.old) := hgrow3.cell (al_old _ (al_old _ d1)) (nr _ (Nat.le_refl _))
      have f2 : w3.cell? ⟨wr.heap.size, 2, none⟩ = some (.int .u8 o.new) := hgrow3.cell (al_old _ (al_old _ d2)) (nr _ (Nat.le_refl _))
      have f3 : w3.cell? ⟨w2.heap.size, 2, none⟩ = some (.int .u8 py) := hgrow3.cell (al_old _ (al_new _ _ rfl)) (nr w2.heap.size (by omega))
      have ownw3 : w3.ownsRow w.heap.size 5 1 u4 bs.length (bytesC bs) := ((ownw2.alloc _).alloc _).kept hgrow3 (own_types ownw2 own2 (by decide))
      rw [← opsC_append] at hown3
      have OWN3 : Hid (w3.ownsRow w.heap.size 43 3 v' (acc ++ [OpT.mk pk px py]).length (opsC (acc ++ [OpT.mk pk px py]))) := by
        show w3.ownsRow w.heap.size 43 3 v' (acc ++ [OpT.mk pk px py]).length (opsC (acc ++ [OpT.mk pk px py]))
        simpa using hown3
      clear own2 hgrow3 ownw2 d0 d1 d2 nr blk hown3
      have sz3' := hb3.size
      by_cases t0 : (o.kind % 4 == 0) = true
      ·
        have EE : Hid (enc1 ⟨pk, px, py⟩ = [61, o.old]) := by
          show enc1 ⟨pk, px, py⟩ = [61, o.old]
          rw [HP.out]
          simp [dgT, t0, enc1]
        go_wp2_with (first | (at_builtin; refine wpList_append_own _ rfl _ _ 22 rfl w.heap.size 5 j0 (.int .u8 0) 1 1 Ydmm.underlying22 hj hy0 hy1 hy2 rfl (by decide) _ _ _ rfl (ownw3.alloc _) ⟨w3.heap.size, 0, none⟩ 2 2 (bytesC [61, o.old]) rfl rfl (bytes_cells _ _ _ _ rfl) (byte_one1 _) (by unfold maxLen; omega) (by omega) (by simp; omega) ?_))
        intro vw w4 hown4 hgrow4 _
        have hb4 : Below w.heap.size w w4 := (hb3.alloc hb3.size _).grown hgrow4 (by simp; omega) (fun q hq => (ownw3.lt q hq).1)
        have own4 : Hid (w4.ownsRow w.heap.size 43 3 v' (acc ++ [OpT.mk pk px py]).length (opsC (acc ++ [OpT.mk pk px py]))) := (OWN3.out.alloc _).kept hgrow4 (own_types OWN3.out ownw3 (by decide))
        rw [← bytesC_append] at hown4
        clear hgrow4 ownw3 OWN3
        go_wp2
        go_roundw
        case rel =>
          refine ⟨k + 1, by omega, by go_num, hb4, ?_, ?_⟩
          · rw [E.out]; exact own4.out
          · rw [E.out, EB.out, EE.out]
            simpa using hown4
        case measure => simp [intOf]; omega
      · have t0' : (o.kind % 4 == 0) = false := by simpa using t0
        clear t0
        by_cases t1 : (o.kind % 4 == 1) = true
        · have hpy : py = (dgT ⟨o.kind, o.old, o.new⟩).new := by rw [← HP.out]
          have HPY : Hid (py = (dgT ⟨o.kind, o.old, o.new⟩).new) := hpy
          clear hpy
          have EE : Hid (enc1 ⟨pk, px, py⟩ = [126, o.old, py]) := by
            show enc1 ⟨pk, px, py⟩ = [126, o.old, py]
            rw [HP.out]
            rw [HPY.out]; simp [dgT, t0', t1, enc1]
          go_wp2_with (first | (at_builtin; refine wpList_append_own _ rfl _ _ 22 rfl w.heap.size 5 j0 (.int .u8 0) 1 1 Ydmm.underlying22 hj hy0 hy1 hy2 rfl (by decide) _ _ _ rfl (ownw3.alloc _) ⟨w3.heap.size, 0, none⟩ 3 3 (bytesC [126, o.old, py]) rfl rfl (bytes_cells _ _ _ _ rfl) (byte_one1 _) (by unfold maxLen; omega) (by omega) (by simp; omega) ?_))
          intro vw w4 hown4 hgrow4 _
          have hb4 : Below w.heap.size w w4 := (hb3.alloc hb3.size _).grown hgrow4 (by simp; omega) (fun q hq => (ownw3.lt q hq).1)
          have own4 : Hid (w4.ownsRow w.heap.size 43 3 v' (acc ++ [OpT.mk pk px py]).length (opsC (acc ++ [OpT.mk pk px py]))) := (OWN3.out.alloc _).kept hgrow4 (own_types OWN3.out ownw3 (by decide))
          rw [← bytesC_append] at hown4
          clear hgrow4 ownw3 OWN3
          go_wp2
          go_roundw
          case rel =>
            refine ⟨k + 1, by omega, by go_num, hb4, ?_, ?_⟩
            · rw [E.out]; exact own4.out
            · rw [E.out, EB.out, EE.out]
              simpa using hown4
          case measure => simp [intOf]; omega
        · have t1' : (o.kind % 4 == 1) = false := by simpa using t1
          clear t1
          by_cases t2 : (o.kind % 4 == 2) = true
          ·
            have EE : Hid (enc1 ⟨pk, px, py⟩ = [43, o.new]) := by
              show enc1 ⟨pk, px, py⟩ = [43, o.new]
              rw [HP.out]
              simp [dgT, t0', t1', t2, enc1]
            go_wp2_with (first | (at_builtin; refine wpList_append_own _ rfl _ _ 22 rfl w.heap.size 5 j0 (.int .u8 0) 1 1 Ydmm.underlying22 hj hy0 hy1 hy2 rfl (by decide) _ _ _ rfl (ownw3.alloc _) ⟨w3.heap.size, 0, none⟩ 2 2 (bytesC [43, o.new]) rfl rfl (bytes_cells _ _ _ _ rfl) (byte_one1 _) (by unfold maxLen; omega) (by omega) (by simp; omega) ?_))
            intro vw w4 hown4 hgrow4 _
            have hb4 : Below w.heap.size w w4 := (hb3.alloc hb3.size _).grown hgrow4 (by simp; omega) (fun q hq => (ownw3.lt q hq).1)
            have own4 : Hid (w4.ownsRow w.heap.size 43 3 v' (acc ++ [OpT.mk pk px py]).length (opsC (acc ++ [OpT.mk pk px py]))) := (OWN3.out.alloc _).kept hgrow4 (own_types OWN3.out ownw3 (by decide))
            rw [← bytesC_append] at hown4
            clear hgrow4 ownw3 OWN3
            go_wp2
            go_roundw
            case rel =>
              refine ⟨k + 1, by omega, by go_num, hb4, ?_, ?_⟩
              · rw [E.out]; exact own4.out
              · rw [E.out, EB.out, EE.out]
                simpa using hown4
            case measure => simp [intOf]; omega
          · have t2' : (o.kind % 4 == 2) = false := by simpa using t2
            clear t2
            have EE : Hid (enc1 ⟨pk, px, py⟩ = [45, o.old]) := by
              show enc1 ⟨pk, px, py⟩ = [45, o.old]
              rw [HP.out]
              simp [dgT, t0', t1', t2', enc1]
            go_wp2_with (first | (at_builtin; refine wpList_append_own _ rfl _ _ 22 rfl w.heap.size 5 j0 (.int .u8 0) 1 1 Ydmm.underlying22 hj hy0 hy1 hy2 rfl (by decide) _ _ _ rfl (ownw3.alloc _) ⟨w3.heap.size, 0, none⟩ 2 2 (bytesC [45, o.old]) rfl rfl (bytes_cells _ _ _ _ rfl) (byte_one1 _) (by unfold maxLen; omega) (by omega) (by simp; omega) ?_))
            intro vw w4 hown4 hgrow4 _
            have hb4 : Below w.heap.size w w4 := (hb3.alloc hb3.size _).grown hgrow4 (by simp; omega) (fun q hq => (ownw3.lt q hq).1)
            have own4 : Hid (w4.ownsRow w.heap.size 43 3 v' (acc ++ [OpT.mk pk px py]).length (opsC (acc ++ [OpT.mk pk px py]))) := (OWN3.out.alloc _).kept hgrow4 (own_types OWN3.out ownw3 (by decide))
            rw [← bytesC_append] at hown4
            clear hgrow4 ownw3 OWN3
            go_wp2
            go_roundw
            case rel =>
              refine ⟨k + 1, by omega, by go_num, hb4, ?_, ?_⟩
              · rw [E.out]; exact own4.out
              · rw [E.out, EB.out, EE.out]
                simpa using hown4
            case measure => simp [intOf]; omega
    · have hge : ¬ (k : Int) < (sts.length : Int) := by omega
      obtain rfl : k = sts.length := by omega
      rw [List.take_length] at hown hownw
      obtain ⟨os, hos⟩ : ∃ os, os = sts.map dgT := ⟨_, rfl⟩
      have hval : ∀ o ∈ os, validT o = true := by rw [hos]; exact dg_all sts HOK.out
      have hol : os.length = sts.length := by rw [hos]; simp
      rw [← hos] at hown hownw
      obtain ⟨a1, c1, hv⟩ := own_val hown
      rw [hv] at hown
      rw [hv]
      have r1 := row_of_own hown
      have EN : Hid (Calls Ydmm.prog 24 #[.slice a1 os.length c1] wr (RetEnc wr (encT os))) := encode_calls a1 c1 os wr r1 hval (by omega)
      have hel := encT_le os
      obtain ⟨zs, hzs⟩ : ∃ zs, zs = encT os := ⟨_, rfl⟩
      rw [← hzs] at EN hel hownw
      obtain ⟨a2, c2, hvw⟩ := own_val hownw
      rw [hvw] at hownw
      rw [hvw]
      have r2 := row_of_own hownw
      clear hown hownw hv hvw hval hos r1 hzs
      have hol2 : os.length ≤ sts.length := by omega
      clear hol
      go_wp2_with fail
      refine EN.out.mono ?_
      rintro e w2 ⟨ad, c3, rfl, r3, b2⟩
      have B2 : Below w.heap.size w w2 := hb.trans (b2.mono hb.size)
      have s2 := r2.below b2 (Nat.le_refl _)
      clear EN b2 hb r2 HOK h
      go_wp2
      go_loopw [78] (fun i wr => ∃ k : Nat, k ≤ zs.length ∧ i = .int .i64 k ∧ Below w.heap.size w wr ∧ Row wr a2 (bytesC zs) ∧ Row wr (some ad) (bytesC zs)) (fun i _ => zs.length - (intOf i).toNat)
      case atStart => exact ⟨0, Nat.zero_le _, rfl, B2, s2, r3⟩
      case round =>
        clear B2 s2 r3
        obtain ⟨k, hk, rfl, hb, s2, s3⟩ := hrel
        by_cases hlt : k < zs.length
        · obtain ⟨b1, off1, rfl, hc1⟩ := s2.bytes (by omega)
          obtain ⟨b2, off2, he2, hc2⟩ := s3.bytes (by omega)
          obtain rfl := Option.some.inj he2
          obtain ⟨z, hz⟩ := op_at hlt
          have c0 := hc1 k z hz
          have d0 := hc2 k z hz
          have i1 : (k : Int) < (zs.length : Int) := by omega
          have S2 : Hid (Row wr (some ⟨b1, off1, none⟩) (bytesC zs)) := s2
          have S3 : Hid (Row wr (some ⟨b2, off2, none⟩) (bytesC zs)) := s3
          clear hc1 hc2 hz s2 s3
          go_wp2
          go_quiet (fail)
          go_wp2
          go_roundw
          case rel => exact ⟨k + 1, by omega, by go_num, below_dn hb _, Row.dn S2.out _, Row.dn S3.out _⟩
          case measure => simp [intOf]; omega
        · have hge : ¬ (k : Int) < (zs.length : Int) := by omega
          go_wp2
          go_ret
          exact ⟨rfl, hb⟩
end Go.Proofs.Ymbrdm
