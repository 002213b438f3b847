/-
  THE WALK OF LawS930020KMatched.
-/
import Derived.Test.YmbrdoKBufs
import Derived.Test.YmbrdoKPair
import Derived.Deep.Cut
import Derived.Laws.Cover3
namespace Go.Proofs.Ymbrdo
open Go.ChangeShapes Go.WideShapes Go.ChangeAt Go.RowKit

set_option linter.unusedVariables false in
set_option maxHeartbeats 8000000 in
set_option maxRecDepth 100000 in
theorem kmatched_walk (a : Option Addr) (ca : Nat) (sts : List St4) (w : World) (hx : Row w a (st4C sts)) (hok : ∀ z ∈ sts, St4Ok z) (hnil : a = none → sts.length = 0 ∧ ca = 0) :
    Calls Ydom.prog 9 #[.slice a sts.length ca] w fun e w' => e = .returned (.bool true) ∧ Below w.heap.size w w' := by
  clear hnil
  have q28 : ∀ (a : Option Addr) (l c : Nat) (w : World), (binOp .neq 28 (.slice a l c) (.slice none 0 0)).run Ydom.prog w = .ok (.bool (!a.isNone)) w := fun a l c w => run_neq_slice_nil (P := Ydom.prog) w 28 23 a l c Ydom.underlying28
  obtain ⟨i0, hi, hz0, hz1, hz2⟩ := info_parts infoOp
  by_cases hbig : 1024 < sts.length
  · go_enter Ydom.func9, Ydom.ntmps9
    go_wp2
    go_ret
    exact ⟨rfl, Below.refl _ _⟩
  have HOK : Hid (∀ z ∈ sts, St4Ok z) := hok
  clear hok
  go_enter Ydom.func9, Ydom.ntmps9
  go_wp2_with (first | (at_make; refine wpList_make_own _ rfl _ _ 28 rfl w.heap.size 23 i0 _ 3 Ydom.underlying28 hi hz0 hz1 _ _ _ sts.length rfl rfl (by omega) (by rw [hz2]; omega) (by unfold maxLen; omega) (Below.refl w.heap.size w).size ?_))
  intro m1 hown1 hgrow1
  have hb1 : Below w.heap.size w m1 := (Below.refl w.heap.size w).grown hgrow1 (Below.refl w.heap.size w).size (by simp)
  have s1 := (own_lt hown1).2
  go_wp2_with (first | (at_make; refine wpList_make_own _ rfl _ _ 28 rfl w.heap.size 23 i0 _ 3 Ydom.underlying28 hi hz0 hz1 _ _ _ sts.length rfl rfl (by omega) (by rw [hz2]; omega) (by unfold maxLen; omega) hb1.size ?_))
  intro m2 hown2 hgrow2
  have hb2 : Below w.heap.size w m2 := hb1.grown hgrow2 hb1.size (by simp)
  have s2 := (own_lt hown2).2
  go_wp2_with (first | (at_make; refine wpList_make_own _ rfl _ _ 28 rfl w.heap.size 23 i0 _ 3 Ydom.underlying28 hi hz0 hz1 _ _ _ sts.length rfl rfl (by omega) (by rw [hz2]; omega) (by unfold maxLen; omega) hb2.size ?_))
  intro m3 hown3 hgrow3
  have hb3 : Below w.heap.size w m3 := hb2.grown hgrow3 hb2.size (by simp)
  have s3 := (own_lt hown3).2
  go_wp2_with (first | (at_make; refine wpList_make_own _ rfl _ _ 28 rfl w.heap.size 23 i0 _ 3 Ydom.underlying28 hi hz0 hz1 _ _ _ sts.length rfl rfl (by omega) (by rw [hz2]; omega) (by unfold maxLen; omega) hb3.size ?_))
  intro m4 hown4 hgrow4
  have hb4 : Below w.heap.size w m4 := hb3.grown hgrow4 hb3.size (by simp)
  have s4 := (own_lt hown4).2
  have O0 : Own4 m4 w.heap.size (.slice (some ⟨w.heap.size, 0, none⟩) 0 sts.length) (.slice (some ⟨m1.heap.size, 0, none⟩) 0 sts.length) (.slice (some ⟨m2.heap.size, 0, none⟩) 0 sts.length) (.slice (some ⟨m3.heap.size, 0, none⟩) 0 sts.length) [] [] [] [] := by
    have k2 := World.grownBy.size hgrow2
    have k3 := World.grownBy.size hgrow3
    have ow1 : OwnOps m4 w.heap.size (.slice (some ⟨w.heap.size, 0, none⟩) 0 sts.length) [] := ⟨((hown1.kept hgrow2 (.inr (by simp [Value.ownBlock]))).kept hgrow3 (.inr (by simp [Value.ownBlock]))).kept hgrow4 (.inr (by simp [Value.ownBlock])), _, _, rfl⟩
    have ow2 : OwnOps m4 w.heap.size (.slice (some ⟨m1.heap.size, 0, none⟩) 0 sts.length) [] := ⟨(hown2.kept hgrow3 (.inr (by simp [Value.ownBlock]))).kept hgrow4 (.inr (by simp [Value.ownBlock])), _, _, rfl⟩
    have ow3 : OwnOps m4 w.heap.size (.slice (some ⟨m2.heap.size, 0, none⟩) 0 sts.length) [] := ⟨hown3.kept hgrow4 (.inr (by simp [Value.ownBlock])), _, _, rfl⟩
    have ow4 : OwnOps m4 w.heap.size (.slice (some ⟨m3.heap.size, 0, none⟩) 0 sts.length) [] := ⟨hown4, _, _, rfl⟩
    exact ⟨ow1, ow2, ow3, ow4, by simp [Value.ownBlock]; omega, by simp [Value.ownBlock]; omega, by simp [Value.ownBlock]; omega, by simp [Value.ownBlock]; omega, by simp [Value.ownBlock]; omega, by simp [Value.ownBlock]; omega⟩
  clear hown1 hown2 hown3 hown4 hgrow1 hgrow2 hgrow3 hgrow4 hb1 hb2 hb3
  go_wp2
  go_loopw [3, 4, 5, 6, 35] (fun v1 v2 v3 v4 i wr => ∃ (k : Nat) (l1 l2 l3 l4 : List OpT), k ≤ sts.length ∧ i = .int .i64 k ∧ l1.length ≤ k ∧ l2.length ≤ k ∧ l3.length ≤ k ∧ l4.length ≤ k ∧ l3.length + l4.length ≤ k ∧ Below w.heap.size w wr ∧ Own4 wr w.heap.size v1 v2 v3 v4 l1 l2 l3 l4 ∧ KInv l1 l2 l3 l4) (fun _ _ _ _ i _ => sts.length - (intOf i).toNat)
  case atStart => exact ⟨0, [], [], [], [], Nat.zero_le _, rfl, Nat.le_refl _, Nat.le_refl _, Nat.le_refl _, Nat.le_refl _, Nat.le_refl _, hb4, O0, kinv_zero⟩
  case round =>
    clear O0 hb4 s1 s2 s3 s4
    obtain ⟨k, l1, l2, l3, l4, hk, rfl, n1, n2, n3, n4, n5, hb, O, hki⟩ := hrel
    have KI : Hid (KInv l1 l2 l3 l4) := hki
    clear hki
    by_cases hlt : k < sts.length
    · obtain ⟨b, off, rfl, hc⟩ := (hx.below hb (Nat.le_refl _)).st4 (by omega)
      obtain ⟨⟨f0, X, M, Y⟩, ho⟩ := op_at hlt
      obtain ⟨c0, c1, c2, c3⟩ := hc k _ ho
      simp only at c0 c1 c2 c3
      have hf0 := (HOK.out _ (List.mem_of_getElem? ho)).1
      simp only at hf0
      have hf6 : 0 ≤ f0 % 6 ∧ f0 % 6 < 6 := by omega
      clear hc ho
      go_upto_region 10 with fail
      obtain ⟨wi, hwi⟩ : ∃ wi, wi = wr.alloc (.cells #[.int .u8 f0, .int .u8 X, .int .u8 M, .int .u8 Y] 40) := ⟨_, rfl⟩
      rw [← hwi]
      obtain ⟨q, hq⟩ : ∃ q, q = wr.heap.size := ⟨_, rfl⟩
      rw [← hq]
      have e0i : wi.cell? ⟨q, 0, none⟩ = some (.int .u8 f0) := by rw [hwi, hq]; simp
      have e1i : wi.cell? ⟨q, 1, none⟩ = some (.int .u8 X) := by rw [hwi, hq]; simp
      have e2i : wi.cell? ⟨q, 2, none⟩ = some (.int .u8 M) := by rw [hwi, hq]; simp
      have e3i : wi.cell? ⟨q, 3, none⟩ = some (.int .u8 Y) := by rw [hwi, hq]; simp
      have bi : Below wr.heap.size wr wi := by rw [hwi]; exact (Below.refl _ _).alloc (Nat.le_refl _) _
      have Bi : Below w.heap.size w wi := hb.trans (bi.mono hb.size)
      have Oi := O.below bi
      have hqi : q < wi.heap.size := by rw [hwi, hq]; simp
      have F1 : u3.ownBlock ≠ some q := fun e => by have := (O.o1.1.lt _ e).2; omega
      have F2 : u4.ownBlock ≠ some q := fun e => by have := (O.o2.1.lt _ e).2; omega
      have F3 : u5.ownBlock ≠ some q := fun e => by have := (O.o3.1.lt _ e).2; omega
      have F4 : u6.ownBlock ≠ some q := fun e => by have := (O.o4.1.lt _ e).2; omega
      have G1 : u3.ownBlock ≠ some wi.heap.size := fun e => by have := (Oi.o1.1.lt _ e).2; omega
      have G2 : u4.ownBlock ≠ some wi.heap.size := fun e => by have := (Oi.o2.1.lt _ e).2; omega
      clear hwi hq bi hb O c0 c1 c2 c3
      by_cases s0 : f0 % 6 = 0
      · have t0 : (f0 % 6 == 0) = true := by simp [s0]
        clear s0 F1 F2 F3 F4 G2
        go_wp2_with (first | (at_builtin; refine wpList_append_own_at _ rfl _ _ 28 rfl w.heap.size 23 i0 (.agg #[.int .u8 0, .int .u8 0, .int .u8 0]) 3 3 Ydom.underlying28 hi hz0 hz1 hz2 rfl (by decide) _ _ _ rfl (own_keep Oi.o1.1 (by go_grown)) ⟨wi.heap.size + 1, 0, none⟩ 1 1 (opsC [(⟨45, X, 0⟩ : OpT)]) rfl rfl (op_cells_of (by simp) (by simp) (by simp)) (op_one1 _ _ _) (by unfold maxLen; omega) (by omega) (by have := Bi.size; simp; omega) ?_))
        intro v1 w1 h1 g1 _ k1
        have O1 := Own4.app1 Oi (by go_grown) h1 g1 (by simpa using k1)
        have B1 : Below w.heap.size w w1 := app_below Bi Bi.size Oi.o1 (by go_grown) g1
        have d01 : w1.cell? ⟨wi.heap.size, 0, none⟩ = some (.int .u8 45) := app_cell g1 (by simp) G1
        have d11 : w1.cell? ⟨wi.heap.size, 1, none⟩ = some (.int .u8 X) := app_cell g1 (by simp) G1
        have d21 : w1.cell? ⟨wi.heap.size, 2, none⟩ = some (.int .u8 0) := app_cell g1 (by simp) G1
        clear h1 g1 k1 Oi Bi e1i e2i e3i
        go_wp2_with (first | (at_builtin; refine wpList_append_own_at _ rfl _ _ 28 rfl w.heap.size 23 i0 (.agg #[.int .u8 0, .int .u8 0, .int .u8 0]) 3 3 Ydom.underlying28 hi hz0 hz1 hz2 rfl (by decide) _ _ _ rfl (own_keep O1.o3.1 (by go_grown)) ⟨w1.heap.size, 0, none⟩ 1 1 (opsC [(⟨45, X, 0⟩ : OpT)]) rfl rfl (op_cells_of (by simp) (by simp) (by simp)) (op_one1 _ _ _) (by unfold maxLen; omega) (by omega) (by have := B1.size; simp; omega) ?_))
        intro v2 w2 h2 g2 _ k2
        have O2 := Own4.app3 O1 (by go_grown) h2 g2 (by simpa using k2)
        have B2 : Below w.heap.size w w2 := app_below B1 B1.size O1.o3 (by go_grown) g2
        clear h2 g2 k2 O1 B1 d01 d11 d21
        go_wp2
        go_roundw
        case rel => exact ⟨k + 1, _, _, _, _, by omega, by go_num, by simp; omega, by omega, by simp; omega, by omega, by simp; omega, B2, O2, kinv_del X KI.out⟩
        case measure => simp [intOf]; omega
      · have t0 : (f0 % 6 == 0) = false := by simp [s0]
        by_cases s1 : f0 % 6 = 1
        · have t1 : (f0 % 6 == 1) = true := by simp [s1]
          clear s0 s1 F1 F2 F3 F4 G1
          go_wp2_with (first | (at_builtin; refine wpList_append_own_at _ rfl _ _ 28 rfl w.heap.size 23 i0 (.agg #[.int .u8 0, .int .u8 0, .int .u8 0]) 3 3 Ydom.underlying28 hi hz0 hz1 hz2 rfl (by decide) _ _ _ rfl (own_keep Oi.o2.1 (by go_grown)) ⟨wi.heap.size + 1, 0, none⟩ 1 1 (opsC [(⟨43, 0, Y⟩ : OpT)]) rfl rfl (op_cells_of (by simp) (by simp) (by simp)) (op_one1 _ _ _) (by unfold maxLen; omega) (by omega) (by have := Bi.size; simp; omega) ?_))
          intro v1 w1 h1 g1 _ k1
          have O1 := Own4.app2 Oi (by go_grown) h1 g1 (by simpa using k1)
          have B1 : Below w.heap.size w w1 := app_below Bi Bi.size Oi.o2 (by go_grown) g1
          have d01 : w1.cell? ⟨wi.heap.size, 0, none⟩ = some (.int .u8 43) := app_cell g1 (by simp) G2
          have d11 : w1.cell? ⟨wi.heap.size, 1, none⟩ = some (.int .u8 0) := app_cell g1 (by simp) G2
          have d21 : w1.cell? ⟨wi.heap.size, 2, none⟩ = some (.int .u8 Y) := app_cell g1 (by simp) G2
          clear h1 g1 k1 Oi Bi e1i e2i e3i
          go_wp2_with (first | (at_builtin; refine wpList_append_own_at _ rfl _ _ 28 rfl w.heap.size 23 i0 (.agg #[.int .u8 0, .int .u8 0, .int .u8 0]) 3 3 Ydom.underlying28 hi hz0 hz1 hz2 rfl (by decide) _ _ _ rfl (own_keep O1.o4.1 (by go_grown)) ⟨w1.heap.size, 0, none⟩ 1 1 (opsC [(⟨43, 0, Y⟩ : OpT)]) rfl rfl (op_cells_of (by simp) (by simp) (by simp)) (op_one1 _ _ _) (by unfold maxLen; omega) (by omega) (by have := B1.size; simp; omega) ?_))
          intro v2 w2 h2 g2 _ k2
          have O2 := Own4.app4 O1 (by go_grown) h2 g2 (by simpa using k2)
          have B2 : Below w.heap.size w w2 := app_below B1 B1.size O1.o4 (by go_grown) g2
          clear h2 g2 k2 O1 B1 d01 d11 d21
          go_wp2
          go_roundw
          case rel => exact ⟨k + 1, _, _, _, _, by omega, by go_num, by omega, by simp; omega, by omega, by simp; omega, by simp; omega, B2, O2, kinv_ins Y KI.out⟩
          case measure => simp [intOf]; omega
        · have t1 : (f0 % 6 == 1) = false := by simp [s1]
          clear G1 G2
          obtain ⟨g4, cap4, rfl⟩ := Oi.o4.2
          go_wp2
          go_loopw [5, 70] (fun v3 i wr => ∃ m : Nat, m ≤ l4.length ∧ i = .int .i64 m ∧ Below w.heap.size w wr ∧ Own4 wr w.heap.size u3 u4 v3 (.slice (some ⟨g4, 0, none⟩) l4.length cap4) l1 l2 (l3 ++ l4.take m) l4 ∧
              wr.cell? ⟨q, 1, none⟩ = some (.int .u8 X) ∧ wr.cell? ⟨q, 2, none⟩ = some (.int .u8 M) ∧ wr.cell? ⟨q, 3, none⟩ = some (.int .u8 Y) ∧ v3.ownBlock ≠ some q) (fun _ i _ => l4.length - (intOf i).toNat)
          case atStart => exact ⟨0, Nat.zero_le _, rfl, Bi, by rw [List.take_zero, List.append_nil]; exact Oi, e1i, e2i, e3i, F3⟩
          case round =>
            clear Bi Oi e0i e1i e2i e3i F3 hqi
            obtain ⟨m, hm, rfl, B, O, e1, e2, e3, F3⟩ := hrel
            obtain ⟨L3, hL3⟩ : ∃ L3, L3 = l3 ++ l4.take m := ⟨_, rfl⟩
            rw [← hL3] at O
            have hlen : L3.length ≤ l3.length + m := by rw [hL3]; simp; omega
            have HL : Hid (L3 = l3 ++ l4.take m) := hL3
            clear hL3
            have hqr : q < wr.heap.size := World.block_lt_of_cell? wr _ e1
            by_cases hmt : m < l4.length
            · have hmi : (m : Int) < (l4.length : Int) := by omega
              obtain ⟨⟨ok, ox, oy⟩, hom⟩ := op_at hmt
              obtain ⟨d0, d1, d2⟩ := own_ops_cells O.o4.1 hom
              simp only at d0 d1 d2
              have HN : Hid (L3 ++ [⟨ok, ox, oy⟩] = l3 ++ l4.take (m + 1)) := by
                show L3 ++ [⟨ok, ox, oy⟩] = l3 ++ l4.take (m + 1)
                rw [HL.out, take_succ_get hom, List.append_assoc]
              have hll : L3.length ≤ 2048 := by omega
              clear HL hom hlen
              go_wp2_with (first | (at_builtin; refine wpList_append_own_at _ rfl _ _ 28 rfl w.heap.size 23 i0 (.agg #[.int .u8 0, .int .u8 0, .int .u8 0]) 3 3 Ydom.underlying28 hi hz0 hz1 hz2 rfl (by decide) _ _ _ rfl (own_keep O.o3.1 (by go_grown)) ⟨wr.heap.size + 1, 0, none⟩ 1 1 (opsC [(⟨ok, ox, oy⟩ : OpT)]) rfl rfl (op_cells_of (by simp) (by simp) (by simp)) (op_one1 _ _ _) (by unfold maxLen; omega) (by omega) (by have := B.size; simp; omega) ?_))
              intro v1 w1 h1 g1 _ k1
              have O1 := Own4.app3 O (by go_grown) h1 g1 (by simpa using k1)
              have B1 : Below w.heap.size w w1 := app_below B B.size O.o3 (by go_grown) g1
              have e11 := app_cell g1 (cell_later (by go_grown) e1) F3
              have e21 := app_cell g1 (cell_later (by go_grown) e2) F3
              have e31 := app_cell g1 (cell_later (by go_grown) e3) F3
              have N1 : v1.ownBlock ≠ some q := by
                rcases k1 with h | h
                · rw [h]; exact F3
                · rw [h]; intro e; simp at e; omega
              clear h1 g1 k1 O B e1 e2 e3
              go_wp2
              go_roundw
              case rel => exact ⟨m + 1, by omega, by go_num, B1, by rw [← HN.out]; exact O1, e11, e21, e31, N1⟩
              case measure => simp [intOf]; omega
            · have hmi : ¬ (m : Int) < (l4.length : Int) := by omega
              obtain rfl : m = l4.length := by omega
              have HL2 : Hid (L3 = l3 ++ l4) := by
                show L3 = l3 ++ l4
                rw [HL.out, List.take_length]
              clear HL
              go_wp2_with (first | (at_make; refine wpList_make_own _ rfl _ _ 28 rfl w.heap.size 23 i0 _ 3 Ydom.underlying28 hi hz0 hz1 _ _ _ sts.length rfl rfl (by omega) (by rw [hz2]; omega) (by unfold maxLen; omega) B.size ?_))
              intro m5 hown5 hgrow5
              have B5 : Below w.heap.size w m5 := B.grown hgrow5 B.size (by simp)
              have O5 := O.fresh hgrow5 hown5
              have E1 := hgrow5.cell e1 (by simp)
              have E2 := hgrow5.cell e2 (by simp)
              have E3 := hgrow5.cell e3 (by simp)
              have hq5 : q < m5.heap.size := World.block_lt_of_cell? m5 _ E1
              clear hown5 hgrow5 B O e1 e2 e3 hqr hmi hmt
              by_cases s2 : f0 % 6 = 2
              · have t2 : (f0 % 6 == 2) = true := by simp [s2]
                clear s2 s0 s1
                go_wp2_with fail
                refine (kpair_calls X M _).mono ?_
                rintro e w11 ⟨rfl, hw11⟩
                obtain ⟨z11, hz11⟩ : ∃ z, z = (pairT X M).kind := ⟨_, rfl⟩
                rw [← hz11]
                have HZ11 : Hid (z11 = (pairT X M).kind) := hz11
                have b11 : Below m5.heap.size m5 w11 := by rw [hw11]; exact (Below.refl _ _).alloc (Nat.le_refl _) _
                have O11 := O5.below b11
                have B11 : Below w.heap.size w w11 := B5.trans (b11.mono B5.size)
                have E111 := cell_later b11 E1
                have E211 := cell_later b11 E2
                have E311 := cell_later b11 E3
                clear hz11 hw11 b11 O5 B5 E1 E2 E3
                go_wp2_with (first | (at_builtin; refine wpList_append_own_at _ rfl _ _ 28 rfl w.heap.size 23 i0 (.agg #[.int .u8 0, .int .u8 0, .int .u8 0]) 3 3 Ydom.underlying28 hi hz0 hz1 hz2 rfl (by decide) _ _ _ rfl (own_keep O11.o1.1 (by go_grown)) ⟨w11.heap.size, 0, none⟩ 1 1 (opsC [(⟨z11, X, M⟩ : OpT)]) rfl rfl (op_cells_of (by simp) (by simp) (by simp)) (op_one1 _ _ _) (by unfold maxLen; omega) (by omega) (by have := B11.size; simp; omega) ?_))
                intro v12 w12 h12 g12 _ k12
                have O12 := Own4.app1 O11 (by go_grown) h12 g12 (by simpa using k12)
                have B12 : Below w.heap.size w w12 := app_below B11 B11.size O11.o1 (by go_grown) g12
                have E112 := app_cell g12 (cell_later (by go_grown) E111) F1
                have E212 := app_cell g12 (cell_later (by go_grown) E211) F1
                have E312 := app_cell g12 (cell_later (by go_grown) E311) F1
                clear h12 g12 k12 O11 B11 E111 E211 E311
                go_wp2_with fail
                refine (kpair_calls M Y _).mono ?_
                rintro e w13 ⟨rfl, hw13⟩
                obtain ⟨z13, hz13⟩ : ∃ z, z = (pairT M Y).kind := ⟨_, rfl⟩
                rw [← hz13]
                have HZ13 : Hid (z13 = (pairT M Y).kind) := hz13
                have b13 : Below w12.heap.size w12 w13 := by rw [hw13]; exact (Below.refl _ _).alloc (Nat.le_refl _) _
                have O13 := O12.below b13
                have B13 : Below w.heap.size w w13 := B12.trans (b13.mono B12.size)
                have E113 := cell_later b13 E112
                have E213 := cell_later b13 E212
                have E313 := cell_later b13 E312
                clear hz13 hw13 b13 O12 B12 E112 E212 E312
                go_wp2_with (first | (at_builtin; refine wpList_append_own_at _ rfl _ _ 28 rfl w.heap.size 23 i0 (.agg #[.int .u8 0, .int .u8 0, .int .u8 0]) 3 3 Ydom.underlying28 hi hz0 hz1 hz2 rfl (by decide) _ _ _ rfl (own_keep O13.o2.1 (by go_grown)) ⟨w13.heap.size, 0, none⟩ 1 1 (opsC [(⟨z13, M, Y⟩ : OpT)]) rfl rfl (op_cells_of (by simp) (by simp) (by simp)) (op_one1 _ _ _) (by unfold maxLen; omega) (by omega) (by have := B13.size; simp; omega) ?_))
                intro v14 w14 h14 g14 _ k14
                have O14 := Own4.app2 O13 (by go_grown) h14 g14 (by simpa using k14)
                have B14 : Below w.heap.size w w14 := app_below B13 B13.size O13.o2 (by go_grown) g14
                have E114 := app_cell g14 (cell_later (by go_grown) E113) F2
                have E214 := app_cell g14 (cell_later (by go_grown) E213) F2
                have E314 := app_cell g14 (cell_later (by go_grown) E313) F2
                clear h14 g14 k14 O13 B13 E113 E213 E313
                go_wp2_with fail
                refine (kpair_calls X Y _).mono ?_
                rintro e w15 ⟨rfl, hw15⟩
                obtain ⟨z15, hz15⟩ : ∃ z, z = (pairT X Y).kind := ⟨_, rfl⟩
                rw [← hz15]
                have HZ15 : Hid (z15 = (pairT X Y).kind) := hz15
                have b15 : Below w14.heap.size w14 w15 := by rw [hw15]; exact (Below.refl _ _).alloc (Nat.le_refl _) _
                have O15 := O14.below b15
                have B15 : Below w.heap.size w w15 := B14.trans (b15.mono B14.size)
                have E115 := cell_later b15 E114
                have E215 := cell_later b15 E214
                have E315 := cell_later b15 E314
                clear hz15 hw15 b15 O14 B14 E114 E214 E314
                go_wp2_with (first | (at_builtin; refine wpList_append_own_at _ rfl _ _ 28 rfl w.heap.size 23 i0 (.agg #[.int .u8 0, .int .u8 0, .int .u8 0]) 3 3 Ydom.underlying28 hi hz0 hz1 hz2 rfl (by decide) _ _ _ rfl (own_keep O15.o3.1 (by go_grown)) ⟨w15.heap.size, 0, none⟩ 1 1 (opsC [(⟨z15, X, Y⟩ : OpT)]) rfl rfl (op_cells_of (by simp) (by simp) (by simp)) (op_one1 _ _ _) (by unfold maxLen; omega) (by omega) (by have := B15.size; simp; omega) ?_))
                intro v16 w16 h16 g16 _ k16
                have O16 := Own4.app3 O15 (by go_grown) h16 g16 (by simpa using k16)
                have B16 : Below w.heap.size w w16 := app_below B15 B15.size O15.o3 (by go_grown) g16
                have E116 := app_cell g16 (cell_later (by go_grown) E115) F3
                have E216 := app_cell g16 (cell_later (by go_grown) E215) F3
                have E316 := app_cell g16 (cell_later (by go_grown) E315) F3
                clear h16 g16 k16 O15 B15 E115 E215 E315
                have KN : Hid (KInv (l1 ++ [⟨z11, X, M⟩]) (l2 ++ [⟨z13, M, Y⟩]) (L3 ++ [⟨z15, X, Y⟩]) []) := by rw [HL2.out, HZ11.out, HZ13.out, HZ15.out]; exact kinv2 X M Y KI.out
                clear HZ11 HZ13 HZ15 HL2
                go_wp2
                go_roundw
                case rel => exact ⟨k + 1, _, _, _, _, by omega, by go_num, by simp; omega, by simp; omega, by simp; omega, by simp, by simp; omega, B16, O16, KN.out⟩
                case measure => simp [intOf]; omega
              · have t2 : (f0 % 6 == 2) = false := by simp [s2]
                by_cases s3 : f0 % 6 = 3
                · have t3 : (f0 % 6 == 3) = true := by simp [s3]
                  clear s3 s0 s1 s2
                  go_wp2_with (first | (at_builtin; refine wpList_append_own_at _ rfl _ _ 28 rfl w.heap.size 23 i0 (.agg #[.int .u8 0, .int .u8 0, .int .u8 0]) 3 3 Ydom.underlying28 hi hz0 hz1 hz2 rfl (by decide) _ _ _ rfl (own_keep O5.o1.1 (by go_grown)) ⟨m5.heap.size, 0, none⟩ 1 1 (opsC [(⟨43, 0, M⟩ : OpT)]) rfl rfl (op_cells_of (by simp) (by simp) (by simp)) (op_one1 _ _ _) (by unfold maxLen; omega) (by omega) (by have := B5.size; simp; omega) ?_))
                  intro v11 w11 h11 g11 _ k11
                  have O11 := Own4.app1 O5 (by go_grown) h11 g11 (by simpa using k11)
                  have B11 : Below w.heap.size w w11 := app_below B5 B5.size O5.o1 (by go_grown) g11
                  have E111 := app_cell g11 (cell_later (by go_grown) E1) F1
                  have E211 := app_cell g11 (cell_later (by go_grown) E2) F1
                  have E311 := app_cell g11 (cell_later (by go_grown) E3) F1
                  clear h11 g11 k11 O5 B5 E1 E2 E3
                  go_wp2_with fail
                  refine (kpair_calls M Y _).mono ?_
                  rintro e w12 ⟨rfl, hw12⟩
                  obtain ⟨z12, hz12⟩ : ∃ z, z = (pairT M Y).kind := ⟨_, rfl⟩
                  rw [← hz12]
                  have HZ12 : Hid (z12 = (pairT M Y).kind) := hz12
                  have b12 : Below w11.heap.size w11 w12 := by rw [hw12]; exact (Below.refl _ _).alloc (Nat.le_refl _) _
                  have O12 := O11.below b12
                  have B12 : Below w.heap.size w w12 := B11.trans (b12.mono B11.size)
                  have E112 := cell_later b12 E111
                  have E212 := cell_later b12 E211
                  have E312 := cell_later b12 E311
                  clear hz12 hw12 b12 O11 B11 E111 E211 E311
                  go_wp2_with (first | (at_builtin; refine wpList_append_own_at _ rfl _ _ 28 rfl w.heap.size 23 i0 (.agg #[.int .u8 0, .int .u8 0, .int .u8 0]) 3 3 Ydom.underlying28 hi hz0 hz1 hz2 rfl (by decide) _ _ _ rfl (own_keep O12.o2.1 (by go_grown)) ⟨w12.heap.size, 0, none⟩ 1 1 (opsC [(⟨z12, M, Y⟩ : OpT)]) rfl rfl (op_cells_of (by simp) (by simp) (by simp)) (op_one1 _ _ _) (by unfold maxLen; omega) (by omega) (by have := B12.size; simp; omega) ?_))
                  intro v13 w13 h13 g13 _ k13
                  have O13 := Own4.app2 O12 (by go_grown) h13 g13 (by simpa using k13)
                  have B13 : Below w.heap.size w w13 := app_below B12 B12.size O12.o2 (by go_grown) g13
                  have E113 := app_cell g13 (cell_later (by go_grown) E112) F2
                  have E213 := app_cell g13 (cell_later (by go_grown) E212) F2
                  have E313 := app_cell g13 (cell_later (by go_grown) E312) F2
                  clear h13 g13 k13 O12 B12 E112 E212 E312
                  go_wp2_with (first | (at_builtin; refine wpList_append_own_at _ rfl _ _ 28 rfl w.heap.size 23 i0 (.agg #[.int .u8 0, .int .u8 0, .int .u8 0]) 3 3 Ydom.underlying28 hi hz0 hz1 hz2 rfl (by decide) _ _ _ rfl (own_keep O13.o3.1 (by go_grown)) ⟨w13.heap.size, 0, none⟩ 1 1 (opsC [(⟨43, 0, Y⟩ : OpT)]) rfl rfl (op_cells_of (by simp) (by simp) (by simp)) (op_one1 _ _ _) (by unfold maxLen; omega) (by omega) (by have := B13.size; simp; omega) ?_))
                  intro v14 w14 h14 g14 _ k14
                  have O14 := Own4.app3 O13 (by go_grown) h14 g14 (by simpa using k14)
                  have B14 : Below w.heap.size w w14 := app_below B13 B13.size O13.o3 (by go_grown) g14
                  have E114 := app_cell g14 (cell_later (by go_grown) E113) F3
                  have E214 := app_cell g14 (cell_later (by go_grown) E213) F3
                  have E314 := app_cell g14 (cell_later (by go_grown) E313) F3
                  clear h14 g14 k14 O13 B13 E113 E213 E313
                  have KN : Hid (KInv (l1 ++ [⟨43, 0, M⟩]) (l2 ++ [⟨z12, M, Y⟩]) (L3 ++ [⟨43, 0, Y⟩]) []) := by rw [HL2.out, HZ12.out]; exact kinv3 M Y KI.out
                  clear HZ12 HL2
                  go_wp2
                  go_roundw
                  case rel => exact ⟨k + 1, _, _, _, _, by omega, by go_num, by simp; omega, by simp; omega, by simp; omega, by simp, by simp; omega, B14, O14, KN.out⟩
                  case measure => simp [intOf]; omega
                · have t3 : (f0 % 6 == 3) = false := by simp [s3]
                  by_cases s4 : f0 % 6 = 4
                  · have t4 : (f0 % 6 == 4) = true := by simp [s4]
                    clear s4 s0 s1 s2 s3
                    go_wp2_with fail
                    refine (kpair_calls X M _).mono ?_
                    rintro e w11 ⟨rfl, hw11⟩
                    obtain ⟨z11, hz11⟩ : ∃ z, z = (pairT X M).kind := ⟨_, rfl⟩
                    rw [← hz11]
                    have HZ11 : Hid (z11 = (pairT X M).kind) := hz11
                    have b11 : Below m5.heap.size m5 w11 := by rw [hw11]; exact (Below.refl _ _).alloc (Nat.le_refl _) _
                    have O11 := O5.below b11
                    have B11 : Below w.heap.size w w11 := B5.trans (b11.mono B5.size)
                    have E111 := cell_later b11 E1
                    have E211 := cell_later b11 E2
                    have E311 := cell_later b11 E3
                    clear hz11 hw11 b11 O5 B5 E1 E2 E3
                    go_wp2_with (first | (at_builtin; refine wpList_append_own_at _ rfl _ _ 28 rfl w.heap.size 23 i0 (.agg #[.int .u8 0, .int .u8 0, .int .u8 0]) 3 3 Ydom.underlying28 hi hz0 hz1 hz2 rfl (by decide) _ _ _ rfl (own_keep O11.o1.1 (by go_grown)) ⟨w11.heap.size, 0, none⟩ 1 1 (opsC [(⟨z11, X, M⟩ : OpT)]) rfl rfl (op_cells_of (by simp) (by simp) (by simp)) (op_one1 _ _ _) (by unfold maxLen; omega) (by omega) (by have := B11.size; simp; omega) ?_))
                    intro v12 w12 h12 g12 _ k12
                    have O12 := Own4.app1 O11 (by go_grown) h12 g12 (by simpa using k12)
                    have B12 : Below w.heap.size w w12 := app_below B11 B11.size O11.o1 (by go_grown) g12
                    have E112 := app_cell g12 (cell_later (by go_grown) E111) F1
                    have E212 := app_cell g12 (cell_later (by go_grown) E211) F1
                    have E312 := app_cell g12 (cell_later (by go_grown) E311) F1
                    clear h12 g12 k12 O11 B11 E111 E211 E311
                    go_wp2_with (first | (at_builtin; refine wpList_append_own_at _ rfl _ _ 28 rfl w.heap.size 23 i0 (.agg #[.int .u8 0, .int .u8 0, .int .u8 0]) 3 3 Ydom.underlying28 hi hz0 hz1 hz2 rfl (by decide) _ _ _ rfl (own_keep O12.o2.1 (by go_grown)) ⟨w12.heap.size, 0, none⟩ 1 1 (opsC [(⟨45, M, 0⟩ : OpT)]) rfl rfl (op_cells_of (by simp) (by simp) (by simp)) (op_one1 _ _ _) (by unfold maxLen; omega) (by omega) (by have := B12.size; simp; omega) ?_))
                    intro v13 w13 h13 g13 _ k13
                    have O13 := Own4.app2 O12 (by go_grown) h13 g13 (by simpa using k13)
                    have B13 : Below w.heap.size w w13 := app_below B12 B12.size O12.o2 (by go_grown) g13
                    have E113 := app_cell g13 (cell_later (by go_grown) E112) F2
                    have E213 := app_cell g13 (cell_later (by go_grown) E212) F2
                    have E313 := app_cell g13 (cell_later (by go_grown) E312) F2
                    clear h13 g13 k13 O12 B12 E112 E212 E312
                    go_wp2_with (first | (at_builtin; refine wpList_append_own_at _ rfl _ _ 28 rfl w.heap.size 23 i0 (.agg #[.int .u8 0, .int .u8 0, .int .u8 0]) 3 3 Ydom.underlying28 hi hz0 hz1 hz2 rfl (by decide) _ _ _ rfl (own_keep O13.o3.1 (by go_grown)) ⟨w13.heap.size, 0, none⟩ 1 1 (opsC [(⟨45, X, 0⟩ : OpT)]) rfl rfl (op_cells_of (by simp) (by simp) (by simp)) (op_one1 _ _ _) (by unfold maxLen; omega) (by omega) (by have := B13.size; simp; omega) ?_))
                    intro v14 w14 h14 g14 _ k14
                    have O14 := Own4.app3 O13 (by go_grown) h14 g14 (by simpa using k14)
                    have B14 : Below w.heap.size w w14 := app_below B13 B13.size O13.o3 (by go_grown) g14
                    have E114 := app_cell g14 (cell_later (by go_grown) E113) F3
                    have E214 := app_cell g14 (cell_later (by go_grown) E213) F3
                    have E314 := app_cell g14 (cell_later (by go_grown) E313) F3
                    clear h14 g14 k14 O13 B13 E113 E213 E313
                    have KN : Hid (KInv (l1 ++ [⟨z11, X, M⟩]) (l2 ++ [⟨45, M, 0⟩]) (L3 ++ [⟨45, X, 0⟩]) []) := by rw [HL2.out, HZ11.out]; exact kinv4 X M KI.out
                    clear HZ11 HL2
                    go_wp2
                    go_roundw
                    case rel => exact ⟨k + 1, _, _, _, _, by omega, by go_num, by simp; omega, by simp; omega, by simp; omega, by simp, by simp; omega, B14, O14, KN.out⟩
                    case measure => simp [intOf]; omega
                  · have t4 : (f0 % 6 == 4) = false := by simp [s4]
                    have t5 : (f0 % 6 == 5) = true := by simp; omega
                    clear s0 s1 s2 s3 s4
                    go_wp2_with (first | (at_builtin; refine wpList_append_own_at _ rfl _ _ 28 rfl w.heap.size 23 i0 (.agg #[.int .u8 0, .int .u8 0, .int .u8 0]) 3 3 Ydom.underlying28 hi hz0 hz1 hz2 rfl (by decide) _ _ _ rfl (own_keep O5.o1.1 (by go_grown)) ⟨m5.heap.size, 0, none⟩ 1 1 (opsC [(⟨43, 0, M⟩ : OpT)]) rfl rfl (op_cells_of (by simp) (by simp) (by simp)) (op_one1 _ _ _) (by unfold maxLen; omega) (by omega) (by have := B5.size; simp; omega) ?_))
                    intro v11 w11 h11 g11 _ k11
                    have O11 := Own4.app1 O5 (by go_grown) h11 g11 (by simpa using k11)
                    have B11 : Below w.heap.size w w11 := app_below B5 B5.size O5.o1 (by go_grown) g11
                    have E111 := app_cell g11 (cell_later (by go_grown) E1) F1
                    have E211 := app_cell g11 (cell_later (by go_grown) E2) F1
                    have E311 := app_cell g11 (cell_later (by go_grown) E3) F1
                    clear h11 g11 k11 O5 B5 E1 E2 E3
                    go_wp2_with (first | (at_builtin; refine wpList_append_own_at _ rfl _ _ 28 rfl w.heap.size 23 i0 (.agg #[.int .u8 0, .int .u8 0, .int .u8 0]) 3 3 Ydom.underlying28 hi hz0 hz1 hz2 rfl (by decide) _ _ _ rfl (own_keep O11.o2.1 (by go_grown)) ⟨w11.heap.size, 0, none⟩ 1 1 (opsC [(⟨45, M, 0⟩ : OpT)]) rfl rfl (op_cells_of (by simp) (by simp) (by simp)) (op_one1 _ _ _) (by unfold maxLen; omega) (by omega) (by have := B11.size; simp; omega) ?_))
                    intro v12 w12 h12 g12 _ k12
                    have O12 := Own4.app2 O11 (by go_grown) h12 g12 (by simpa using k12)
                    have B12 : Below w.heap.size w w12 := app_below B11 B11.size O11.o2 (by go_grown) g12
                    have E112 := app_cell g12 (cell_later (by go_grown) E111) F2
                    have E212 := app_cell g12 (cell_later (by go_grown) E211) F2
                    have E312 := app_cell g12 (cell_later (by go_grown) E311) F2
                    clear h12 g12 k12 O11 B11 E111 E211 E311
                    have KN : Hid (KInv (l1 ++ [⟨43, 0, M⟩]) (l2 ++ [⟨45, M, 0⟩]) L3 []) := by rw [HL2.out]; exact kinv5 M KI.out
                    clear HL2
                    go_wp2
                    go_roundw
                    case rel => exact ⟨k + 1, _, _, _, _, by omega, by go_num, by simp; omega, by simp; omega, by omega, by simp, by simp; omega, B12, O12, KN.out⟩
                    case measure => simp [intOf]; omega
    · have hge : ¬ (k : Int) < (sts.length : Int) := by omega
      obtain ⟨g4, cap4, rfl⟩ := O.o4.2
      go_wp2
      go_loopw [5, 170] (fun v3 i wr => ∃ m : Nat, m ≤ l4.length ∧ i = .int .i64 m ∧ Below w.heap.size w wr ∧ Own4 wr w.heap.size u3 u4 v3 (.slice (some ⟨g4, 0, none⟩) l4.length cap4) l1 l2 (l3 ++ l4.take m) l4) (fun _ i _ => l4.length - (intOf i).toNat)
      case atStart => exact ⟨0, Nat.zero_le _, rfl, hb, by rw [List.take_zero, List.append_nil]; exact O⟩
      case round =>
        clear hb O
        obtain ⟨m, hm, rfl, B, O⟩ := hrel
        obtain ⟨L3, hL3⟩ : ∃ L3, L3 = l3 ++ l4.take m := ⟨_, rfl⟩
        rw [← hL3] at O
        have hlen : L3.length ≤ l3.length + m := by rw [hL3]; simp; omega
        have HL : Hid (L3 = l3 ++ l4.take m) := hL3
        clear hL3
        by_cases hmt : m < l4.length
        · have hmi : (m : Int) < (l4.length : Int) := by omega
          obtain ⟨⟨ok, ox, oy⟩, hom⟩ := op_at hmt
          obtain ⟨d0, d1, d2⟩ := own_ops_cells O.o4.1 hom
          simp only at d0 d1 d2
          have HN : Hid (L3 ++ [⟨ok, ox, oy⟩] = l3 ++ l4.take (m + 1)) := by
            show L3 ++ [⟨ok, ox, oy⟩] = l3 ++ l4.take (m + 1)
            rw [HL.out, take_succ_get hom, List.append_assoc]
          have hll : L3.length ≤ 2048 := by omega
          clear HL hom hlen
          go_wp2_with (first | (at_builtin; refine wpList_append_own_at _ rfl _ _ 28 rfl w.heap.size 23 i0 (.agg #[.int .u8 0, .int .u8 0, .int .u8 0]) 3 3 Ydom.underlying28 hi hz0 hz1 hz2 rfl (by decide) _ _ _ rfl (own_keep O.o3.1 (by go_grown)) ⟨wr.heap.size + 1, 0, none⟩ 1 1 (opsC [(⟨ok, ox, oy⟩ : OpT)]) rfl rfl (op_cells_of (by simp) (by simp) (by simp)) (op_one1 _ _ _) (by unfold maxLen; omega) (by omega) (by have := B.size; simp; omega) ?_))
          intro v1 w1 h1 g1 _ k1
          have O1 := Own4.app3 O (by go_grown) h1 g1 (by simpa using k1)
          have B1 : Below w.heap.size w w1 := app_below B B.size O.o3 (by go_grown) g1
          clear h1 g1 k1 O B
          go_wp2
          go_roundw
          case rel => exact ⟨m + 1, by omega, by go_num, B1, by rw [← HN.out]; exact O1⟩
          case measure => simp [intOf]; omega
        · have hmi : ¬ (m : Int) < (l4.length : Int) := by omega
          obtain rfl : m = l4.length := by omega
          have HC : Hid (compT l1 l2 = some L3) := by
            show compT l1 l2 = some L3
            rw [HL.out, List.take_length]
            exact kinv_end KI.out
          obtain ⟨g1, cap1, rfl⟩ := O.o1.2
          obtain ⟨g2, cap2, rfl⟩ := O.o2.2
          obtain ⟨g3, cap3, rfl⟩ := O.o3.2
          have r1 := row_of_own O.o1.1
          have r2 := row_of_own O.o2.1
          have r3 := row_of_own O.o3.1
          have hll : L3.length ≤ 2048 := by omega
          clear HL O hmi hmt hlen KI
          go_wp2_with fail
          refine (compose_calls (some ⟨g1, 0, none⟩) (some ⟨g2, 0, none⟩) cap1 cap2 l1 l2 wr r1 r2 (by omega) (by omega)).mono ?_
          intro e w3 h3
          rw [HC.out] at h3
          obtain ⟨g, o9, c9, rfl, r9, b9⟩ := h3
          have B9 : Below w.heap.size w w3 := B.trans (b9.mono B.size)
          have r3' := r3.below' b9
          clear HC B b9 r1 r2 r3
          go_wp2_with fail
          refine (keqops_same (some ⟨g, o9, none⟩) (some ⟨g3, 0, none⟩) c9 cap3 L3 w3 r9 r3' (by omega)).mono ?_
          rintro e w4 ⟨rfl, b4⟩
          have B4 : Below w.heap.size w w4 := B9.trans (b4.mono B9.size)
          clear b4 B9 r9 r3'
          go_wp2
          go_ret
          exact ⟨rfl, B4⟩
end Go.Proofs.Ymbrdo
