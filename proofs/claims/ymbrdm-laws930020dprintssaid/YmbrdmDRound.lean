/-
  THE WALK OF LawS930020DRoundTrip.
-/
import Derived.Test.YmbrdmDecEnc
import Derived.Test.YmbrdmDecode
import Derived.Test.YmbrdmDGood
import Derived.Test.YmbrdmLater
namespace Go.Proofs.Ymbrdm
open Go.ChangeShapes Go.WideShapes Go.ChangeAt Go.RowKit

theorem map_take_succ {os : List OpT} {k : Nat} {o : OpT} (h : os[k]? = some o) : (os.take (k + 1)).map dgT = (os.take k).map dgT ++ [dgT o] := by
  rw [take_succ_get h, List.map_append]; rfl

theorem dg_all (sts : List OpT) (hok : ∀ z ∈ sts, OpOk z) : ∀ o ∈ sts.map dgT, validT o = true := by
  intro o ho
  obtain ⟨s, hs, rfl⟩ := List.mem_map.1 ho
  exact dg_valid s (hok s hs)

set_option maxHeartbeats 1000000 in
set_option linter.unusedVariables false in
theorem dround_walk (a : Option Addr) (cap : Nat) (sts : List OpT) (w : World) (h : Row w a (opsC sts)) (hok : ∀ z ∈ sts, OpOk z) (hnil : a = none → sts.length = 0 ∧ cap = 0) :
    Calls Ydmm.prog 14 #[.slice a sts.length cap] w fun e w' => e = .returned (.bool true) ∧ Below w.heap.size w w' := by
  clear hnil
  obtain ⟨i0, hi, hz0, hz1, hz2⟩ := info_parts infoOp
  by_cases hbig : 1024 < sts.length
  · go_enter Ydmm.func14, Ydmm.ntmps14
    go_wp2
    go_ret
    exact ⟨rfl, Below.refl _ _⟩
  have HOK : Hid (∀ z ∈ sts, OpOk z) := hok
  clear hok
  go_enter Ydmm.func14, Ydmm.ntmps14
  go_wp2
  go_loopw [3, 17] (fun v i wr => ∃ k : Nat, k ≤ sts.length ∧ i = .int .i64 k ∧ Below w.heap.size w wr ∧ wr.ownsRow w.heap.size 43 3 v ((sts.take k).map dgT).length (opsC ((sts.take k).map dgT))) (fun _ i _ => sts.length - (intOf i).toNat)
  case atStart => exact ⟨0, Nat.zero_le _, rfl, Below.refl _ _, World.ownsRow_nil _ _ _ _⟩
  case round =>
    obtain ⟨k, hk, rfl, hb, hown⟩ := hrel
    by_cases hlt : k < sts.length
    · obtain ⟨b, off, rfl, hc⟩ := (h.below hb (Nat.le_refl _)).ops (by omega)
      obtain ⟨o, ho⟩ := op_at hlt
      obtain ⟨c0, c1, c2⟩ := hc k o ho
      obtain ⟨k1, k2, k3⟩ := HOK.out o (List.mem_of_getElem? ho)
      have hsz := hb.size
      obtain ⟨acc, hacc⟩ : ∃ acc, acc = (sts.take k).map dgT := ⟨_, rfl⟩
      have hal : acc.length ≤ k := by rw [hacc]; simp; omega
      rw [← hacc] at hown
      have E : Hid ((sts.take (k + 1)).map dgT = acc ++ [dgT o]) := by
        show (sts.take (k + 1)).map dgT = acc ++ [dgT o]
        rw [map_take_succ ho, hacc]
      have HOWN : Hid (wr.ownsRow w.heap.size 43 3 u3 acc.length (opsC acc)) := hown
      have DG : Hid (∀ w', Calls Ydmm.prog 23 #[.agg #[.int .u8 o.kind, .int .u8 o.old, .int .u8 o.new]] w' fun e w'' => e = .returned (.agg #[.int .u8 (dgT o).kind, .int .u8 (dgT o).old, .int .u8 (dgT o).new]) ∧ Below w'.heap.size w' w'') := fun w' => dgood_calls o.kind o.old o.new w' k1 k2 k3
      obtain ⟨⟨pk, px, py⟩, hp⟩ : ∃ p, p = dgT o := ⟨_, rfl⟩
      rw [← hp] at DG E
      clear hc h ho hown hacc k1 k2 k3 hp
      go_wp2_with fail
      refine (DG.out _).mono ?_
      rintro e w2 ⟨rfl, b2⟩
      have hb2 : Below w.heap.size w w2 := (hb.alloc hsz _).trans (b2.mono (by simp; omega))
      have own2 : w2.ownsRow w.heap.size 43 3 u3 acc.length (opsC acc) := own_keep (HOWN.out.alloc _) b2
      have sz2 := hb2.size
      clear b2 HOWN DG
      go_wp2_with (first | (at_builtin; refine wpList_append_own _ rfl _ _ 39 rfl w.heap.size 43 i0 (.agg #[.int .u8 0, .int .u8 0, .int .u8 0]) 3 3 Ydmm.underlying39 hi hz0 hz1 hz2 rfl (by decide) _ _ _ rfl (own2.alloc _) ⟨w2.heap.size, 0, none⟩ 1 1 (opsC [⟨pk, px, py⟩]) rfl rfl (op_cells1 _ _ _ _ _) (op_one1 _ _ _) (by unfold maxLen; omega) (by omega) (by simp; omega) ?_))
      intro v' w3 hown3 hgrow3 _
      have hb3 : Below w.heap.size w w3 := (hb2.alloc hb2.size _).grown hgrow3 (by simp; omega) (fun q hq => (own2.lt q hq).1)
      rw [← opsC_append] at hown3
      clear own2 hgrow3
      go_wp2
      go_roundw
      case rel =>
        refine ⟨k + 1, by omega, by go_num, hb3, ?_⟩
        rw [E.out]
        simpa using hown3
      case measure => simp [intOf]; omega
    · have hge : ¬ (k : Int) < (sts.length : Int) := by omega
      obtain rfl : k = sts.length := by omega
      rw [List.take_length] at hown
      obtain ⟨os, hos⟩ : ∃ os, os = sts.map dgT := ⟨_, rfl⟩
      have hval : ∀ o ∈ os, validT o = true := by rw [hos]; exact dg_all sts HOK.out
      have hol : os.length = sts.length := by rw [hos]; simp
      have HGET : Hid (∀ k s, sts[k]? = some s → os[k]? = some (dgT s)) := fun k s hs => by rw [hos, List.getElem?_map, hs]; rfl
      rw [← hos] at hown
      obtain ⟨a1, c1, hv⟩ := own_val hown
      rw [hv] at hown
      rw [hv]
      have r1 := row_of_own hown
      have hlen : ((os.length : Int) != (sts.length : Int)) = false := by rw [hol]; simp
      have EN : Hid (Calls Ydmm.prog 24 #[.slice a1 os.length c1] wr (RetEnc wr (encT os))) := encode_calls a1 c1 os wr r1 hval (by omega)
      have hel := encT_le os
      have DE : Hid (decT (encT os) = some os) := dec_enc os hval
      obtain ⟨zs, hzs⟩ : ∃ zs, zs = encT os := ⟨_, rfl⟩
      rw [← hzs] at EN hel DE
      clear hown hv hval hos r1 hzs
      have hol' : sts.length ≤ os.length := by omega
      have hol2 : os.length ≤ sts.length := by omega
      clear hol
      go_wp2_with fail
      refine EN.out.mono ?_
      rintro e w2 ⟨ad, c2, rfl, r2, b2⟩
      have B2 : Below w.heap.size w w2 := hb.trans (b2.mono hb.size)
      clear EN b2 hb
      go_wp2_with fail
      refine (decode_calls (some ad) c2 zs w2 r2 (by omega)).mono ?_
      intro e w3 hR
      rw [DE.out] at hR
      obtain ⟨a3, c3, rfl, r3, b3⟩ := hR
      have B3 : Below w.heap.size w w3 := B2.trans (b3.mono B2.size)
      clear r2 b3 B2 DE
      go_wp2
      go_loopw [50] (fun i wr => ∃ k : Nat, k ≤ sts.length ∧ i = .int .i64 k ∧ Below w.heap.size w wr ∧ Row wr a3 (opsC os)) (fun i _ => sts.length - (intOf i).toNat)
      case atStart => exact ⟨0, Nat.zero_le _, rfl, B3, r3⟩
      case round =>
        clear B3 r3
        obtain ⟨k, hk, rfl, hb, s3⟩ := hrel
        by_cases hlt : k < sts.length
        · obtain ⟨b1, off1, rfl, hc1⟩ := (h.below hb (Nat.le_refl _)).ops (by omega)
          obtain ⟨b3, off3, rfl, hc3⟩ := s3.ops (by omega)
          obtain ⟨o, ho⟩ := op_at hlt
          obtain ⟨k1, k2, k3⟩ := HOK.out o (List.mem_of_getElem? ho)
          obtain ⟨c0, c1, c2⟩ := hc1 k o ho
          obtain ⟨d0, d1, d2⟩ := hc3 k _ (HGET.out k o ho)
          have DG : Hid (∀ w', Calls Ydmm.prog 23 #[.agg #[.int .u8 o.kind, .int .u8 o.old, .int .u8 o.new]] w' fun e w'' => e = .returned (.agg #[.int .u8 (dgT o).kind, .int .u8 (dgT o).old, .int .u8 (dgT o).new]) ∧ Below w'.heap.size w' w'') := fun w' => dgood_calls o.kind o.old o.new w' k1 k2 k3
          obtain ⟨⟨pk, px, py⟩, hp⟩ : ∃ p, p = dgT o := ⟨_, rfl⟩
          rw [← hp] at DG d0 d1 d2
          have hsz := hb.size
          have i1 : (k : Int) < (sts.length : Int) := by omega
          have i2 : (k : Int) < (os.length : Int) := by omega
          have S3 : Hid (Row wr (some ⟨b3, off3, none⟩) (opsC os)) := s3
          clear hc1 hc3 ho k1 k2 k3 s3 hp h
          go_wp2_with fail
          obtain ⟨w4, hw4⟩ : ∃ w4, w4 = wr.alloc (Obj.cells #[Value.int IntKind.u8 o.kind, Value.int IntKind.u8 o.old, Value.int IntKind.u8 o.new] 41) := ⟨_, rfl⟩
          rw [← hw4]
          have f0 : w4.cell? ⟨wr.heap.size, 0, none⟩ = some (.int .u8 o.kind) := by rw [hw4]; exact al_new _ _ rfl
          have f1 : w4.cell? ⟨wr.heap.size, 1, none⟩ = some (.int .u8 o.old) := by rw [hw4]; exact al_new _ _ rfl
          have f2 : w4.cell? ⟨wr.heap.size, 2, none⟩ = some (.int .u8 o.new) := by rw [hw4]; exact al_new _ _ rfl
          have q0 := Later.cell f0
          have q1 := Later.cell f1
          have q2 := Later.cell f2
          have p0 := Later.cell (w := w4) (by rw [hw4]; exact al_old _ d0)
          have p1 := Later.cell (w := w4) (by rw [hw4]; exact al_old _ d1)
          have p2 := Later.cell (w := w4) (by rw [hw4]; exact al_old _ d2)
          have B4 : Below w.heap.size w w4 := by rw [hw4]; exact hb.alloc hsz _
          have S4 : Hid (Row w4 (some ⟨b3, off3, none⟩) (opsC os)) := by rw [hw4]; exact Row.below S3.out ((Below.refl _ _).alloc (Nat.le_refl _) _) (Nat.le_refl _)
          have hne : Nonempty (Later w4) := ⟨⟨w4, Below.refl _ _⟩⟩
          clear hw4 f0 f1 f2 c0 c1 c2 d0 d1 d2 S3 hb hsz
          refine wp_region_later (by kernel_rfl) (by kernel_rfl) ?_
          repeat (go_big_quiet_step (first | (go_at_call 23; exact calls_later (DG.out _))))
          refine wpQuiet_nil ?_
          rintro _ ⟨q, rfl⟩
          go_wp2
          go_roundw
          case rel => exact ⟨k + 1, by omega, by go_num, B4.trans (q.below.mono B4.size), Later.row S4.out q⟩
          case measure => simp [intOf]; omega
        · have hge : ¬ (k : Int) < (sts.length : Int) := by omega
          go_wp2
          go_ret
          exact ⟨rfl, hb⟩
end Go.Proofs.Ymbrdm
