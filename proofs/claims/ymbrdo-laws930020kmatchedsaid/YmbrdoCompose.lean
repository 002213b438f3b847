/-
  THE WALK OF Compose.
-/
import Derived.Test.YmbrdoCompPlain
import Derived.Test.YmbrdoValid
import Derived.Test.YmbrdoPair
import Derived.Test.YmbrdoAid
import Derived.BigRegion
namespace Go.Proofs.Ymbrdo
open Go.ChangeShapes Go.WideShapes Go.ChangeAt Go.RowKit

/-- What Compose hands back. -/
def RetComp (w : World) (r : Option (List OpT)) (e : Ending) (w' : World) : Prop :=
  match r with
  | none => e = .returned (.tuple #[.slice none 0 0, .bool false]) ∧ Below w.heap.size w w'
  | some os => ∃ b off cap, e = .returned (.tuple #[.slice (some ⟨b, off, none⟩) os.length cap, .bool true]) ∧ Row w' (some ⟨b, off, none⟩) (opsC os) ∧ Below w.heap.size w w'

/-- A row of its own that is not nil. -/
def OwnOps (w : World) (base : Nat) (v : Value) (os : List OpT) : Prop := w.ownsRow base 23 3 v os.length (opsC os) ∧ ∃ g cap, v = .slice (some ⟨g, 0, none⟩) os.length cap

theorem own_some {w : World} {base e size n : Nat} {v : Value} {xs : List Value} (h : w.ownsRow base e size v n xs) (hn : 0 < n) : ∃ g cap, v = .slice (some ⟨g, 0, none⟩) n cap := by
  rcases h.2 with ⟨h1, h2⟩ | ⟨g, cap, cur, h1, _⟩
  · omega
  · exact ⟨g, cap, h1⟩

theorem OwnOps.below {w w' : World} {base : Nat} {v : Value} {os : List OpT} (h : OwnOps w base v os) (hb : Below w.heap.size w w') : OwnOps w' base v os := ⟨own_keep h.1 hb, h.2⟩

set_option maxHeartbeats 4000000 in
set_option maxRecDepth 100000 in
theorem compose_calls (a b : Option Addr) (ca cb : Nat) (s t : List OpT) (w : World) (hs : Row w a (opsC s)) (ht : Row w b (opsC t)) (hsl : s.length ≤ 524288) (htl : t.length ≤ 524288) :
    Calls Ydom.prog 23 #[.slice a s.length ca, .slice b t.length cb] w (RetComp w (compT s t)) := by
  obtain ⟨i0, hi, hz0, hz1, hz2⟩ := info_parts infoOp
  go_enter Ydom.func23, Ydom.ntmps23
  go_wp2_with (first | (at_make; refine wpList_make_own _ rfl _ _ 28 rfl w.heap.size 23 i0 _ 3 Ydom.underlying28 hi hz0 hz1 _ _ _ s.length rfl rfl (by omega) (by rw [hz2]; omega) (by unfold maxLen; omega) (Nat.le_refl _) ?_))
  intro w1 hown hgrow
  have hb1 := (Below.refl w.heap.size w).grown hgrow (Nat.le_refl _) (by simp)
  have hown0 : w1.ownsRow w.heap.size 23 3 (.slice (some ⟨w.heap.size, 0, none⟩) 0 s.length) ([] : List OpT).length (opsC []) := hown
  clear hown hgrow
  go_wp2
  go_loopw [6, 7, 8] (fun v i j wr => ∃ (k m : Nat) (acc : List OpT), k ≤ s.length ∧ m ≤ t.length ∧ i = .int .i64 k ∧ j = .int .i64 m ∧ acc.length ≤ k + m ∧ Below w.heap.size w wr ∧
     OwnOps wr w.heap.size v acc ∧ CompSo s t k m acc) (fun _ i j _ => (s.length - (intOf i).toNat) + (t.length - (intOf j).toNat))
  case atStart => exact ⟨0, 0, [], Nat.zero_le _, Nat.zero_le _, rfl, rfl, Nat.le_refl _, hb1, ⟨hown0, _, _, rfl⟩, so_zero _ _⟩
  case round =>
    clear hown0 hb1
    obtain ⟨k, m, acc, hk, hm, rfl, rfl, hal, hb, hown, hso⟩ := hrel
    have hsz := hb.size

    by_cases hlt : k < s.length
    · have i1 : (k : Int) < (s.length : Int) := by omega
      have i2 : ((k : Int) == (s.length : Int)) = false := beq_eq_false_iff_ne.2 (by omega)
      obtain ⟨b1, o1, rfl, hc1⟩ := (hs.below hb (Nat.le_refl _)).ops (by omega)
      obtain ⟨⟨pk, px, py⟩, hp⟩ := op_at hlt
      obtain ⟨p0, p1, p2⟩ := hc1 k _ hp
      simp only at p0 p1 p2
      by_cases hmt : m < t.length
      · have j1 : (m : Int) < (t.length : Int) := by omega
        have j2 : ((m : Int) == (t.length : Int)) = false := beq_eq_false_iff_ne.2 (by omega)
        obtain ⟨b2, o2, rfl, hc2⟩ := (ht.below hb (Nat.le_refl _)).ops (by omega)
        obtain ⟨⟨qk, qx, qy⟩, hq⟩ := op_at hmt
        obtain ⟨q0, q1, q2⟩ := hc2 m _ hq
        simp only at q0 q1 q2
        clear hc1 hc2 hs ht
        have SO : Hid (CompSo s t k m acc) := hso
        have HP : Hid (s[k]? = some ⟨pk, px, py⟩) := hp
        have HQ : Hid (t[m]? = some ⟨qk, qx, qy⟩) := hq
        clear hso hp hq
        go_wp2_with fail
        refine (valid_calls pk px py _).mono ?_
        rintro e w2 ⟨rfl, bw2⟩
        have hbw2 : Below w.heap.size w w2 := hb.trans (bw2.mono (by have := hb.size; omega))
        have hownw2 := hown.below bw2
        replace p0 := cell_later bw2 p0
        replace p1 := cell_later bw2 p1
        replace p2 := cell_later bw2 p2
        replace q0 := cell_later bw2 q0
        replace q1 := cell_later bw2 q1
        replace q2 := cell_later bw2 q2
        clear bw2 hown hb
        by_cases hv : validT ⟨pk, px, py⟩ = true
        · rw [hv]
          have HV : Hid (validT ⟨pk, px, py⟩ = true) := hv
          clear hv
          go_wp2_with fail
          refine (valid_calls qk qx qy _).mono ?_
          rintro e w3 ⟨rfl, bw3⟩
          have hbw3 : Below w.heap.size w w3 := hbw2.trans (bw3.mono (by have := hbw2.size; omega))
          have hownw3 := hownw2.below bw3
          replace p0 := cell_later bw3 p0
          replace p1 := cell_later bw3 p1
          replace p2 := cell_later bw3 p2
          replace q0 := cell_later bw3 q0
          replace q1 := cell_later bw3 q1
          replace q2 := cell_later bw3 q2
          clear bw3 hownw2 hbw2
          by_cases hw : validT ⟨qk, qx, qy⟩ = true
          · rw [hw]
            have HW : Hid (validT ⟨qk, qx, qy⟩ = true) := hw
            clear hw
            by_cases h45 : pk = 45
            · subst h45
              have NX : Hid (CompSo s t (k + 1) m (acc ++ [⟨45, px, py⟩])) := so_del SO.out HP.out HQ.out HV.out HW.out rfl
              clear SO HP HQ HV HW q0 q1 q2
              go_wp2_with (first | (at_builtin; refine wpList_append_own _ rfl _ _ 28 rfl w.heap.size 23 i0 (.agg #[.int .u8 0, .int .u8 0, .int .u8 0]) 3 3 Ydom.underlying28 hi hz0 hz1 hz2 rfl (by decide) _ _ _ rfl (hownw3.1.alloc _) ⟨w3.heap.size, 0, none⟩ 1 1 (opsC [(⟨45, px, py⟩ : OpT)]) rfl rfl (op_cells1 _ _ _ _ _) (op_one1 _ _ _) (by unfold maxLen; omega) (by omega) (by have := hbw3.size; simp; omega) ?_))
              intro v' w9 hown9 hgrow9 hv9
              have hb9 : Below w.heap.size w w9 := (hbw3.alloc hbw3.size _).grown hgrow9 (by have := hbw3.size; simp; omega) (fun q hq => (hownw3.1.lt q hq).1)
              rw [← opsC_append] at hown9
              have hown9' : w9.ownsRow w.heap.size 23 3 v' (acc ++ [(⟨45, px, py⟩ : OpT)]).length (opsC (acc ++ [(⟨45, px, py⟩ : OpT)])) := by simpa using hown9
              have own9 : OwnOps w9 w.heap.size v' (acc ++ [(⟨45, px, py⟩ : OpT)]) := ⟨hown9', own_some hown9' (by simp)⟩
              clear hown9 hown9' hgrow9 hv9 hownw3
              go_wp2
              go_roundw
              case rel => exact ⟨k + 1, m, _, by omega, by omega, by go_num, by go_num, by simp; omega, hb9, own9, NX.out⟩
              case measure => simp [intOf]; omega
            · have t45 : (pk == 45) = false := by simp [h45]
              by_cases h43 : qk = 43
              · subst h43
                have NX : Hid (CompSo s t k (m + 1) (acc ++ [⟨43, qx, qy⟩])) := so_ins SO.out HP.out HQ.out HV.out HW.out h45 rfl
                clear SO HP HQ HV HW h45 p1 p2
                go_wp2_with (first | (at_builtin; refine wpList_append_own _ rfl _ _ 28 rfl w.heap.size 23 i0 (.agg #[.int .u8 0, .int .u8 0, .int .u8 0]) 3 3 Ydom.underlying28 hi hz0 hz1 hz2 rfl (by decide) _ _ _ rfl (hownw3.1.alloc _) ⟨w3.heap.size, 0, none⟩ 1 1 (opsC [(⟨43, qx, qy⟩ : OpT)]) rfl rfl (op_cells1 _ _ _ _ _) (op_one1 _ _ _) (by unfold maxLen; omega) (by omega) (by have := hbw3.size; simp; omega) ?_))
                intro v' w9 hown9 hgrow9 hv9
                have hb9 : Below w.heap.size w w9 := (hbw3.alloc hbw3.size _).grown hgrow9 (by have := hbw3.size; simp; omega) (fun q hq => (hownw3.1.lt q hq).1)
                rw [← opsC_append] at hown9
                have hown9' : w9.ownsRow w.heap.size 23 3 v' (acc ++ [(⟨43, qx, qy⟩ : OpT)]).length (opsC (acc ++ [(⟨43, qx, qy⟩ : OpT)])) := by simpa using hown9
                have own9 : OwnOps w9 w.heap.size v' (acc ++ [(⟨43, qx, qy⟩ : OpT)]) := ⟨hown9', own_some hown9' (by simp)⟩
                clear hown9 hown9' hgrow9 hv9 hownw3
                go_wp2
                go_roundw
                case rel => exact ⟨k, m + 1, _, by omega, by omega, by go_num, by go_num, by simp; omega, hb9, own9, NX.out⟩
                case measure => simp [intOf]; omega
              · have t43 : (qk == 43) = false := by simp [h43]
                by_cases hn : py = qx
                · have tn : (py != qx) = false := by simp [hn]
                  have NX : Hid (CompSo s t (k + 1) (m + 1) (acc ++ midT ⟨pk, px, py⟩ ⟨qk, qx, qy⟩)) := so_mid SO.out HP.out HQ.out HV.out HW.out h45 h43 hn
                  clear SO HP HQ HV HW h45 h43 hn
                  go_wp2
                  go_quiet (fail)
                  obtain ⟨w4, hw4⟩ : ∃ w4, w4 = w3.drewN nq := ⟨_, rfl⟩
                  rw [← hw4]
                  have hbw4 : Below w.heap.size w w4 := by rw [hw4]; exact below_dn hbw3 _
                  have hownw4 : OwnOps w4 w.heap.size u6 acc := by rw [hw4]; exact ⟨own_dn hownw3.1 _, hownw3.2⟩
                  have p0' : w4.cell? ⟨b1, o1 + k * 3, none⟩ = some (.int .u8 pk) := by rw [hw4]; exact p0
                  have p1' : w4.cell? ⟨b1, o1 + k * 3 + 1, none⟩ = some (.int .u8 px) := by rw [hw4]; exact p1
                  have p2' : w4.cell? ⟨b1, o1 + k * 3 + 2, none⟩ = some (.int .u8 py) := by rw [hw4]; exact p2
                  have q0' : w4.cell? ⟨b2, o2 + m * 3, none⟩ = some (.int .u8 qk) := by rw [hw4]; exact q0
                  have q1' : w4.cell? ⟨b2, o2 + m * 3 + 1, none⟩ = some (.int .u8 qx) := by rw [hw4]; exact q1
                  have q2' : w4.cell? ⟨b2, o2 + m * 3 + 2, none⟩ = some (.int .u8 qy) := by rw [hw4]; exact q2
                  have l1 : b1 < w4.heap.size := World.block_lt_of_cell? w4 _ p0'
                  have l2 : b2 < w4.heap.size := World.block_lt_of_cell? w4 _ q0'
                  clear hw4 p0 p1 p2 q0 q1 q2 hbw3 hownw3
                  go_wp2
                  go_region
                  · obtain ⟨w5, hw5⟩ : ∃ w5, w5 = ((w4.alloc (.cells #[.int .u8 pk, .int .u8 px, .int .u8 py] 23)).alloc (.cells #[.int .u8 qk, .int .u8 qx, .int .u8 qy] 23)).drew := ⟨_, rfl⟩
                    rw [← hw5]
                    have d0 : w5.cell? ⟨w4.heap.size, 0, none⟩ = some (.int .u8 pk) := by rw [hw5]; simp
                    have d1 : w5.cell? ⟨w4.heap.size, 1, none⟩ = some (.int .u8 px) := by rw [hw5]; simp
                    have e0 : w5.cell? ⟨w4.heap.size + 1, 0, none⟩ = some (.int .u8 qk) := by rw [hw5]; simp
                    have e2 : w5.cell? ⟨w4.heap.size + 1, 2, none⟩ = some (.int .u8 qy) := by rw [hw5]; simp
                    have b45 : Below w4.heap.size w4 w5 := by rw [hw5]; exact (((Below.refl _ _).alloc (Nat.le_refl _) _).alloc (by simp) _).drew
                    have hbw5 : Below w.heap.size w w5 := hbw4.trans (b45.mono hbw4.size)
                    have hownw5 := hownw4.below b45
                    clear hw5 hownw4 hbw4 b45 p0' p1' p2' q0' q1' q2' l1 l2
                    by_cases hp43 : pk = 43
                    · subst hp43
                      by_cases hq45 : qk = 45
                      · subst hq45
                        have em : midT ⟨43, px, py⟩ ⟨45, qx, qy⟩ = [] := by simp [midT]
                        rw [em, List.append_nil] at NX
                        clear em
                        go_wp2
                        go_roundw
                        case rel => exact ⟨k + 1, m + 1, _, by omega, by omega, by go_num, by go_num, by omega, hbw5, hownw5, NX.out⟩
                        case measure => simp [intOf]; omega
                      · have tq : (qk != 45) = true := by simp [hq45]
                        have em : midT ⟨43, px, py⟩ ⟨qk, qx, qy⟩ = [⟨43, 0, qy⟩] := by simp [midT, hq45]
                        rw [em] at NX
                        clear em hq45
                        go_wp2_with (first | (at_builtin; refine wpList_append_own _ rfl _ _ 28 rfl w.heap.size 23 i0 (.agg #[.int .u8 0, .int .u8 0, .int .u8 0]) 3 3 Ydom.underlying28 hi hz0 hz1 hz2 rfl (by decide) _ _ _ rfl (hownw5.1.alloc _) ⟨w5.heap.size, 0, none⟩ 1 1 (opsC [(⟨43, 0, qy⟩ : OpT)]) rfl rfl (op_cells1 _ _ _ _ _) (op_one1 _ _ _) (by unfold maxLen; omega) (by omega) (by have := hbw5.size; simp; omega) ?_))
                        intro v' w9 hown9 hgrow9 hv9
                        have hb9 : Below w.heap.size w w9 := (hbw5.alloc hbw5.size _).grown hgrow9 (by have := hbw5.size; simp; omega) (fun q hq => (hownw5.1.lt q hq).1)
                        rw [← opsC_append] at hown9
                        have hown9' : w9.ownsRow w.heap.size 23 3 v' (acc ++ [(⟨43, 0, qy⟩ : OpT)]).length (opsC (acc ++ [(⟨43, 0, qy⟩ : OpT)])) := by simpa using hown9
                        have own9 : OwnOps w9 w.heap.size v' (acc ++ [(⟨43, 0, qy⟩ : OpT)]) := ⟨hown9', own_some hown9' (by simp)⟩
                        clear hown9 hown9' hgrow9 hv9 hownw5
                        go_wp2
                        go_roundw
                        case rel => exact ⟨k + 1, m + 1, _, by omega, by omega, by go_num, by go_num, by simp; omega, hb9, own9, NX.out⟩
                        case measure => simp [intOf]; omega
                    · have tp : (pk != 43) = true := by simp [hp43]
                      by_cases hq45 : qk = 45
                      · subst hq45
                        have em : midT ⟨pk, px, py⟩ ⟨45, qx, qy⟩ = [⟨45, px, 0⟩] := by simp [midT, hp43]
                        rw [em] at NX
                        clear em hp43
                        go_wp2_with (first | (at_builtin; refine wpList_append_own _ rfl _ _ 28 rfl w.heap.size 23 i0 (.agg #[.int .u8 0, .int .u8 0, .int .u8 0]) 3 3 Ydom.underlying28 hi hz0 hz1 hz2 rfl (by decide) _ _ _ rfl (hownw5.1.alloc _) ⟨w5.heap.size, 0, none⟩ 1 1 (opsC [(⟨45, px, 0⟩ : OpT)]) rfl rfl (op_cells1 _ _ _ _ _) (op_one1 _ _ _) (by unfold maxLen; omega) (by omega) (by have := hbw5.size; simp; omega) ?_))
                        intro v' w9 hown9 hgrow9 hv9
                        have hb9 : Below w.heap.size w w9 := (hbw5.alloc hbw5.size _).grown hgrow9 (by have := hbw5.size; simp; omega) (fun q hq => (hownw5.1.lt q hq).1)
                        rw [← opsC_append] at hown9
                        have hown9' : w9.ownsRow w.heap.size 23 3 v' (acc ++ [(⟨45, px, 0⟩ : OpT)]).length (opsC (acc ++ [(⟨45, px, 0⟩ : OpT)])) := by simpa using hown9
                        have own9 : OwnOps w9 w.heap.size v' (acc ++ [(⟨45, px, 0⟩ : OpT)]) := ⟨hown9', own_some hown9' (by simp)⟩
                        clear hown9 hown9' hgrow9 hv9 hownw5
                        go_wp2
                        go_roundw
                        case rel => exact ⟨k + 1, m + 1, _, by omega, by omega, by go_num, by go_num, by simp; omega, hb9, own9, NX.out⟩
                        case measure => simp [intOf]; omega
                      · have tq : (qk != 45) = true := by simp [hq45]
                        have em : midT ⟨pk, px, py⟩ ⟨qk, qx, qy⟩ = [⟨(pairT px qy).kind, px, qy⟩] := by simp [midT, hp43, hq45, pairT]
                        rw [em] at NX
                        clear em hp43 hq45
                        go_wp2_with fail
                        refine (pair_calls px qy _).mono ?_
                        rintro e w6 ⟨rfl, hw6⟩
                        have b56 : Below w5.heap.size w5 w6 := by rw [hw6]; exact (Below.refl _ _).alloc (Nat.le_refl _) _
                        have hbw6 : Below w.heap.size w w6 := hbw5.trans (b56.mono hbw5.size)
                        have hownw6 := hownw5.below b56
                        generalize (pairT px qy).kind = zk at NX ⊢
                        clear hw6 b56 hownw5 hbw5
                        go_wp2_with (first | (at_builtin; refine wpList_append_own _ rfl _ _ 28 rfl w.heap.size 23 i0 (.agg #[.int .u8 0, .int .u8 0, .int .u8 0]) 3 3 Ydom.underlying28 hi hz0 hz1 hz2 rfl (by decide) _ _ _ rfl (hownw6.1.alloc _) ⟨w6.heap.size, 0, none⟩ 1 1 (opsC [(⟨zk, px, qy⟩ : OpT)]) rfl rfl (op_cells1 _ _ _ _ _) (op_one1 _ _ _) (by unfold maxLen; omega) (by omega) (by have := hbw6.size; simp; omega) ?_))
                        intro v' w9 hown9 hgrow9 hv9
                        have hb9 : Below w.heap.size w w9 := (hbw6.alloc hbw6.size _).grown hgrow9 (by have := hbw6.size; simp; omega) (fun q hq => (hownw6.1.lt q hq).1)
                        rw [← opsC_append] at hown9
                        have hown9' : w9.ownsRow w.heap.size 23 3 v' (acc ++ [(⟨zk, px, qy⟩ : OpT)]).length (opsC (acc ++ [(⟨zk, px, qy⟩ : OpT)])) := by simpa using hown9
                        have own9 : OwnOps w9 w.heap.size v' (acc ++ [(⟨zk, px, qy⟩ : OpT)]) := ⟨hown9', own_some hown9' (by simp)⟩
                        clear hown9 hown9' hgrow9 hv9 hownw6
                        go_wp2
                        go_roundw
                        case rel => exact ⟨k + 1, m + 1, _, by omega, by omega, by go_num, by go_num, by simp; omega, hb9, own9, NX.out⟩
                        case measure => simp [intOf]; omega
                  · obtain ⟨w5, hw5⟩ : ∃ w5, w5 = ((w4.alloc (.cells #[.int .u8 qk, .int .u8 qx, .int .u8 qy] 23)).alloc (.cells #[.int .u8 pk, .int .u8 px, .int .u8 py] 23)).drew := ⟨_, rfl⟩
                    rw [← hw5]
                    have d0 : w5.cell? ⟨w4.heap.size + 1, 0, none⟩ = some (.int .u8 pk) := by rw [hw5]; simp
                    have d1 : w5.cell? ⟨w4.heap.size + 1, 1, none⟩ = some (.int .u8 px) := by rw [hw5]; simp
                    have e0 : w5.cell? ⟨w4.heap.size, 0, none⟩ = some (.int .u8 qk) := by rw [hw5]; simp
                    have e2 : w5.cell? ⟨w4.heap.size, 2, none⟩ = some (.int .u8 qy) := by rw [hw5]; simp
                    have b45 : Below w4.heap.size w4 w5 := by rw [hw5]; exact (((Below.refl _ _).alloc (Nat.le_refl _) _).alloc (by simp) _).drew
                    have hbw5 : Below w.heap.size w w5 := hbw4.trans (b45.mono hbw4.size)
                    have hownw5 := hownw4.below b45
                    clear hw5 hownw4 hbw4 b45 p0' p1' p2' q0' q1' q2' l1 l2
                    by_cases hp43 : pk = 43
                    · subst hp43
                      by_cases hq45 : qk = 45
                      · subst hq45
                        have em : midT ⟨43, px, py⟩ ⟨45, qx, qy⟩ = [] := by simp [midT]
                        rw [em, List.append_nil] at NX
                        clear em
                        go_wp2
                        go_roundw
                        case rel => exact ⟨k + 1, m + 1, _, by omega, by omega, by go_num, by go_num, by omega, hbw5, hownw5, NX.out⟩
                        case measure => simp [intOf]; omega
                      · have tq : (qk != 45) = true := by simp [hq45]
                        have em : midT ⟨43, px, py⟩ ⟨qk, qx, qy⟩ = [⟨43, 0, qy⟩] := by simp [midT, hq45]
                        rw [em] at NX
                        clear em hq45
                        go_wp2_with (first | (at_builtin; refine wpList_append_own _ rfl _ _ 28 rfl w.heap.size 23 i0 (.agg #[.int .u8 0, .int .u8 0, .int .u8 0]) 3 3 Ydom.underlying28 hi hz0 hz1 hz2 rfl (by decide) _ _ _ rfl (hownw5.1.alloc _) ⟨w5.heap.size, 0, none⟩ 1 1 (opsC [(⟨43, 0, qy⟩ : OpT)]) rfl rfl (op_cells1 _ _ _ _ _) (op_one1 _ _ _) (by unfold maxLen; omega) (by omega) (by have := hbw5.size; simp; omega) ?_))
                        intro v' w9 hown9 hgrow9 hv9
                        have hb9 : Below w.heap.size w w9 := (hbw5.alloc hbw5.size _).grown hgrow9 (by have := hbw5.size; simp; omega) (fun q hq => (hownw5.1.lt q hq).1)
                        rw [← opsC_append] at hown9
                        have hown9' : w9.ownsRow w.heap.size 23 3 v' (acc ++ [(⟨43, 0, qy⟩ : OpT)]).length (opsC (acc ++ [(⟨43, 0, qy⟩ : OpT)])) := by simpa using hown9
                        have own9 : OwnOps w9 w.heap.size v' (acc ++ [(⟨43, 0, qy⟩ : OpT)]) := ⟨hown9', own_some hown9' (by simp)⟩
                        clear hown9 hown9' hgrow9 hv9 hownw5
                        go_wp2
                        go_roundw
                        case rel => exact ⟨k + 1, m + 1, _, by omega, by omega, by go_num, by go_num, by simp; omega, hb9, own9, NX.out⟩
                        case measure => simp [intOf]; omega
                    · have tp : (pk != 43) = true := by simp [hp43]
                      by_cases hq45 : qk = 45
                      · subst hq45
                        have em : midT ⟨pk, px, py⟩ ⟨45, qx, qy⟩ = [⟨45, px, 0⟩] := by simp [midT, hp43]
                        rw [em] at NX
                        clear em hp43
                        go_wp2_with (first | (at_builtin; refine wpList_append_own _ rfl _ _ 28 rfl w.heap.size 23 i0 (.agg #[.int .u8 0, .int .u8 0, .int .u8 0]) 3 3 Ydom.underlying28 hi hz0 hz1 hz2 rfl (by decide) _ _ _ rfl (hownw5.1.alloc _) ⟨w5.heap.size, 0, none⟩ 1 1 (opsC [(⟨45, px, 0⟩ : OpT)]) rfl rfl (op_cells1 _ _ _ _ _) (op_one1 _ _ _) (by unfold maxLen; omega) (by omega) (by have := hbw5.size; simp; omega) ?_))
                        intro v' w9 hown9 hgrow9 hv9
                        have hb9 : Below w.heap.size w w9 := (hbw5.alloc hbw5.size _).grown hgrow9 (by have := hbw5.size; simp; omega) (fun q hq => (hownw5.1.lt q hq).1)
                        rw [← opsC_append] at hown9
                        have hown9' : w9.ownsRow w.heap.size 23 3 v' (acc ++ [(⟨45, px, 0⟩ : OpT)]).length (opsC (acc ++ [(⟨45, px, 0⟩ : OpT)])) := by simpa using hown9
                        have own9 : OwnOps w9 w.heap.size v' (acc ++ [(⟨45, px, 0⟩ : OpT)]) := ⟨hown9', own_some hown9' (by simp)⟩
                        clear hown9 hown9' hgrow9 hv9 hownw5
                        go_wp2
                        go_roundw
                        case rel => exact ⟨k + 1, m + 1, _, by omega, by omega, by go_num, by go_num, by simp; omega, hb9, own9, NX.out⟩
                        case measure => simp [intOf]; omega
                      · have tq : (qk != 45) = true := by simp [hq45]
                        have em : midT ⟨pk, px, py⟩ ⟨qk, qx, qy⟩ = [⟨(pairT px qy).kind, px, qy⟩] := by simp [midT, hp43, hq45, pairT]
                        rw [em] at NX
                        clear em hp43 hq45
                        go_wp2_with fail
                        refine (pair_calls px qy _).mono ?_
                        rintro e w6 ⟨rfl, hw6⟩
                        have b56 : Below w5.heap.size w5 w6 := by rw [hw6]; exact (Below.refl _ _).alloc (Nat.le_refl _) _
                        have hbw6 : Below w.heap.size w w6 := hbw5.trans (b56.mono hbw5.size)
                        have hownw6 := hownw5.below b56
                        generalize (pairT px qy).kind = zk at NX ⊢
                        clear hw6 b56 hownw5 hbw5
                        go_wp2_with (first | (at_builtin; refine wpList_append_own _ rfl _ _ 28 rfl w.heap.size 23 i0 (.agg #[.int .u8 0, .int .u8 0, .int .u8 0]) 3 3 Ydom.underlying28 hi hz0 hz1 hz2 rfl (by decide) _ _ _ rfl (hownw6.1.alloc _) ⟨w6.heap.size, 0, none⟩ 1 1 (opsC [(⟨zk, px, qy⟩ : OpT)]) rfl rfl (op_cells1 _ _ _ _ _) (op_one1 _ _ _) (by unfold maxLen; omega) (by omega) (by have := hbw6.size; simp; omega) ?_))
                        intro v' w9 hown9 hgrow9 hv9
                        have hb9 : Below w.heap.size w w9 := (hbw6.alloc hbw6.size _).grown hgrow9 (by have := hbw6.size; simp; omega) (fun q hq => (hownw6.1.lt q hq).1)
                        rw [← opsC_append] at hown9
                        have hown9' : w9.ownsRow w.heap.size 23 3 v' (acc ++ [(⟨zk, px, qy⟩ : OpT)]).length (opsC (acc ++ [(⟨zk, px, qy⟩ : OpT)])) := by simpa using hown9
                        have own9 : OwnOps w9 w.heap.size v' (acc ++ [(⟨zk, px, qy⟩ : OpT)]) := ⟨hown9', own_some hown9' (by simp)⟩
                        clear hown9 hown9' hgrow9 hv9 hownw6
                        go_wp2
                        go_roundw
                        case rel => exact ⟨k + 1, m + 1, _, by omega, by omega, by go_num, by go_num, by simp; omega, hb9, own9, NX.out⟩
                        case measure => simp [intOf]; omega
                · have tn : (py != qx) = true := by simp [hn]
                  have hn : Hid (compT s t = none) := so_stop3 SO.out HP.out HQ.out h45 h43 hn
                  clear SO HP HQ HV HW h45 h43 hownw3
                  go_wp2
                  go_quiet (fail)
                  go_wp2
                  go_ret2
                  rw [hn.out]
                  exact ⟨rfl, below_dn hbw3 _⟩
          · have hw' : validT ⟨qk, qx, qy⟩ = false := by simpa using hw
            have hn : Hid (compT s t = none) := so_badq SO.out HQ.out hw'
            rw [hw']
            clear SO HP HQ HV hw hw' hownw3
            go_wp2
            go_ret2
            rw [hn.out]
            exact ⟨rfl, hbw3⟩
        · have hv' : validT ⟨pk, px, py⟩ = false := by simpa using hv
          have hn : Hid (compT s t = none) := so_badp SO.out HP.out hv'
          rw [hv']
          clear SO HP HQ hv hv' hownw2
          go_wp2
          go_ret2
          rw [hn.out]
          exact ⟨rfl, hbw2⟩
      · have j1 : ¬ (m : Int) < (t.length : Int) := by omega
        have j2 : ((m : Int) == (t.length : Int)) = true := beq_iff_eq.2 (by omega)
        clear hc1 hs ht
        have SO : Hid (CompSo s t k m acc) := hso
        have HP : Hid (s[k]? = some ⟨pk, px, py⟩) := hp
        clear hso hp
        go_wp2_with fail
        refine (valid_calls pk px py _).mono ?_
        rintro e w2 ⟨rfl, bw2⟩
        have hbw2 : Below w.heap.size w w2 := hb.trans (bw2.mono (by have := hb.size; omega))
        have hownw2 := hown.below bw2
        replace p0 := cell_later bw2 p0
        replace p1 := cell_later bw2 p1
        replace p2 := cell_later bw2 p2
        clear bw2 hown hb
        by_cases hv : validT ⟨pk, px, py⟩ = true
        · rw [hv]
          have HV : Hid (validT ⟨pk, px, py⟩ = true) := hv
          clear hv
          by_cases h45 : pk = 45
          · subst h45
            have NX : Hid (CompSo s t (k + 1) m (acc ++ [⟨45, px, py⟩])) := so_del0 SO.out HP.out (by omega) HV.out rfl
            clear SO HP HV
            go_wp2_with (first | (at_builtin; refine wpList_append_own _ rfl _ _ 28 rfl w.heap.size 23 i0 (.agg #[.int .u8 0, .int .u8 0, .int .u8 0]) 3 3 Ydom.underlying28 hi hz0 hz1 hz2 rfl (by decide) _ _ _ rfl (hownw2.1.alloc _) ⟨w2.heap.size, 0, none⟩ 1 1 (opsC [(⟨45, px, py⟩ : OpT)]) rfl rfl (op_cells1 _ _ _ _ _) (op_one1 _ _ _) (by unfold maxLen; omega) (by omega) (by have := hbw2.size; simp; omega) ?_))
            intro v' w9 hown9 hgrow9 hv9
            have hb9 : Below w.heap.size w w9 := (hbw2.alloc hbw2.size _).grown hgrow9 (by have := hbw2.size; simp; omega) (fun q hq => (hownw2.1.lt q hq).1)
            rw [← opsC_append] at hown9
            have hown9' : w9.ownsRow w.heap.size 23 3 v' (acc ++ [(⟨45, px, py⟩ : OpT)]).length (opsC (acc ++ [(⟨45, px, py⟩ : OpT)])) := by simpa using hown9
            have own9 : OwnOps w9 w.heap.size v' (acc ++ [(⟨45, px, py⟩ : OpT)]) := ⟨hown9', own_some hown9' (by simp)⟩
            clear hown9 hown9' hgrow9 hv9 hownw2
            go_wp2
            go_roundw
            case rel => exact ⟨k + 1, m, _, by omega, by omega, by go_num, by go_num, by simp; omega, hb9, own9, NX.out⟩
            case measure => simp [intOf]; omega
          · have t45 : (pk == 45) = false := by simp [h45]
            have hn : Hid (compT s t = none) := so_stop1 SO.out HP.out (by omega) h45
            clear SO HP HV h45 hownw2
            go_wp2
            go_quiet (fail)
            go_wp2
            go_ret2
            rw [hn.out]
            exact ⟨rfl, below_dn hbw2 _⟩
        · have hv' : validT ⟨pk, px, py⟩ = false := by simpa using hv
          have hn : Hid (compT s t = none) := so_badp SO.out HP.out hv'
          rw [hv']
          clear SO HP hv hv' hownw2
          go_wp2
          go_ret2
          rw [hn.out]
          exact ⟨rfl, hbw2⟩
    · have i1 : ¬ (k : Int) < (s.length : Int) := by omega
      have i2 : ((k : Int) == (s.length : Int)) = true := beq_iff_eq.2 (by omega)
      by_cases hmt : m < t.length
      · have j1 : (m : Int) < (t.length : Int) := by omega
        have j2 : ((m : Int) == (t.length : Int)) = false := beq_eq_false_iff_ne.2 (by omega)
        obtain ⟨b2, o2, rfl, hc2⟩ := (ht.below hb (Nat.le_refl _)).ops (by omega)
        obtain ⟨⟨qk, qx, qy⟩, hq⟩ := op_at hmt
        obtain ⟨q0, q1, q2⟩ := hc2 m _ hq
        simp only at q0 q1 q2
        clear hc2 hs ht
        have SO : Hid (CompSo s t k m acc) := hso
        have HQ : Hid (t[m]? = some ⟨qk, qx, qy⟩) := hq
        clear hso hq
        go_wp2_with fail
        refine (valid_calls qk qx qy _).mono ?_
        rintro e w2 ⟨rfl, bw2⟩
        have hbw2 : Below w.heap.size w w2 := hb.trans (bw2.mono (by have := hb.size; omega))
        have hownw2 := hown.below bw2
        replace q0 := cell_later bw2 q0
        replace q1 := cell_later bw2 q1
        replace q2 := cell_later bw2 q2
        clear bw2 hown hb
        by_cases hw : validT ⟨qk, qx, qy⟩ = true
        · rw [hw]
          have HW : Hid (validT ⟨qk, qx, qy⟩ = true) := hw
          clear hw
          by_cases h43 : qk = 43
          · subst h43
            have NX : Hid (CompSo s t k (m + 1) (acc ++ [⟨43, qx, qy⟩])) := so_ins0 SO.out (by omega) HQ.out HW.out rfl
            clear SO HQ HW
            go_wp2_with (first | (at_builtin; refine wpList_append_own _ rfl _ _ 28 rfl w.heap.size 23 i0 (.agg #[.int .u8 0, .int .u8 0, .int .u8 0]) 3 3 Ydom.underlying28 hi hz0 hz1 hz2 rfl (by decide) _ _ _ rfl (hownw2.1.alloc _) ⟨w2.heap.size, 0, none⟩ 1 1 (opsC [(⟨43, qx, qy⟩ : OpT)]) rfl rfl (op_cells1 _ _ _ _ _) (op_one1 _ _ _) (by unfold maxLen; omega) (by omega) (by have := hbw2.size; simp; omega) ?_))
            intro v' w9 hown9 hgrow9 hv9
            have hb9 : Below w.heap.size w w9 := (hbw2.alloc hbw2.size _).grown hgrow9 (by have := hbw2.size; simp; omega) (fun q hq => (hownw2.1.lt q hq).1)
            rw [← opsC_append] at hown9
            have hown9' : w9.ownsRow w.heap.size 23 3 v' (acc ++ [(⟨43, qx, qy⟩ : OpT)]).length (opsC (acc ++ [(⟨43, qx, qy⟩ : OpT)])) := by simpa using hown9
            have own9 : OwnOps w9 w.heap.size v' (acc ++ [(⟨43, qx, qy⟩ : OpT)]) := ⟨hown9', own_some hown9' (by simp)⟩
            clear hown9 hown9' hgrow9 hv9 hownw2
            go_wp2
            go_roundw
            case rel => exact ⟨k, m + 1, _, by omega, by omega, by go_num, by go_num, by simp; omega, hb9, own9, NX.out⟩
            case measure => simp [intOf]; omega
          · have t43 : (qk == 43) = false := by simp [h43]
            have hn : Hid (compT s t = none) := so_stop2 SO.out (by omega) HQ.out h43
            clear SO HQ HW h43 hownw2
            go_wp2
            go_quiet (fail)
            go_wp2
            go_ret2
            rw [hn.out]
            exact ⟨rfl, below_dn hbw2 _⟩
        · have hw' : validT ⟨qk, qx, qy⟩ = false := by simpa using hw
          have hn : Hid (compT s t = none) := so_badq SO.out HQ.out hw'
          rw [hw']
          clear SO HQ hw hw' hownw2
          go_wp2
          go_ret2
          rw [hn.out]
          exact ⟨rfl, hbw2⟩
      · have j1 : ¬ (m : Int) < (t.length : Int) := by omega
        have HE : Hid (compT s t = some acc) := so_end hso (by omega) (by omega)
        obtain ⟨ho, g, cap, rfl⟩ := hown
        clear hso
        go_wp2
        go_ret2
        rw [HE.out]
        exact ⟨g, 0, cap, rfl, row_of_own ho, hb⟩
end Go.Proofs.Ymbrdo
