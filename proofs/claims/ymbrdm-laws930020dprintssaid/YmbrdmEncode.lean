/-
  THE WALK OF Encode AT A SCRIPT OF VALID OPS.
-/
import Derived.Test.YmbrdmAid
import Derived.Test.YmbrdmValid
namespace Go.Proofs.Ymbrdm
open Go.ChangeShapes Go.WideShapes Go.ChangeAt Go.RowKit

/-- One op in print. -/
def enc1 (o : OpT) : List Int := if o.kind = 43 then [o.kind, o.new] else if o.kind = 126 then [o.kind, o.old, o.new] else [o.kind, o.old]
def encT : List OpT → List Int
  | [] => []
  | o :: os => enc1 o ++ encT os
theorem encT_append (a b : List OpT) : encT (a ++ b) = encT a ++ encT b := by
  induction a with
  | nil => rfl
  | cons o a ih => simp only [List.cons_append, encT, ih, List.append_assoc]
theorem enc1_le (o : OpT) : (enc1 o).length ≤ 3 := by
  unfold enc1
  split
  · simp
  · split <;> simp
theorem encT_le (a : List OpT) : (encT a).length ≤ a.length * 3 := by
  induction a with
  | nil => simp [encT]
  | cons o a ih => simp only [encT, List.length_append, List.length_cons]; have := enc1_le o; omega
theorem encT_take_le (a : List OpT) (k : Nat) : (encT (a.take k)).length ≤ k * 3 := by
  have h1 := encT_le (a.take k)
  have h2 := List.length_take_le k a
  omega
theorem encT_take_succ {os : List OpT} {k : Nat} {o : OpT} (h : os[k]? = some o) : encT (os.take (k + 1)) = encT (os.take k) ++ enc1 o := by
  rw [take_succ_get h, encT_append]; simp [encT]

/-- The state in the middle of a round: the local op lies in block L, the bytes gathered so far are owned. -/
structure St (w wr : World) (L : Nat) (k x y : Int) (v : Value) (zs : List Int) : Prop where
  below : Below w.heap.size w wr
  base : w.heap.size ≤ L
  op : wr.heap[L]? = some (.cells #[.int .u8 k, .int .u8 x, .int .u8 y] 43 (0, 0))
  own : wr.ownsRow w.heap.size 5 1 v zs.length (bytesC zs)
  notNil : ¬ v = .slice none 0 0

theorem St.cells {w wr : World} {L : Nat} {k x y : Int} {v : Value} {zs : List Int} (h : St w wr L k x y v zs) :
    wr.cell? ⟨L, 0, none⟩ = some (.int .u8 k) ∧ wr.cell? ⟨L, 1, none⟩ = some (.int .u8 x) ∧ wr.cell? ⟨L, 2, none⟩ = some (.int .u8 y) ∧ L < wr.heap.size := by
  have hl := (Array.getElem?_eq_some_iff.1 h.op).1
  refine ⟨?_, ?_, ?_, hl⟩ <;> (rw [cell_of_row wr L _ _ 43 (0, 0) h.op]; rfl)

theorem St.append {w wr w3 : World} {L : Nat} {k x y b : Int} {v v' : Value} {zs : List Int} {o : Obj} (h : St w wr L k x y v zs) (hown : w3.ownsRow w.heap.size 5 1 v' (zs.length + 1) (bytesC zs ++ bytesC [b])) (hgrow : (wr.alloc o).grownBy w3 v.ownBlock)
    (hnil : ¬ v' = .slice none 0 0) : St w w3 L k x y v' (zs ++ [b]) := by
  have hl := (Array.getElem?_eq_some_iff.1 h.op).1
  refine ⟨(h.below.alloc h.below.size o).grown hgrow (by simp; have := h.below.size; omega) (fun q hq => (h.own.lt q hq).1), h.base, ?_, ?_, ?_⟩
  · rw [hgrow.block L (by simp; omega) ?_]
    · rw [Below.heap_alloc wr o L hl]; exact h.op
    · intro he
      rcases h.own.2 with ⟨h1, _⟩ | ⟨g, cap, cur, h1, _, h3, _⟩
      · exact h.notNil h1
      · rw [h1] at he
        simp only [Value.ownBlock, Option.some.injEq] at he
        subst he
        rw [h.op] at h3
        simp at h3
  · rw [bytesC_append]
    simpa using hown
  · exact hnil

def RetEnc (w : World) (zs : List Int) (e : Ending) (w' : World) : Prop :=
  ∃ ad cap, e = .returned (.tuple #[.slice (some ad) zs.length cap, .bool true]) ∧ Row w' (some ad) (bytesC zs) ∧ Below w.heap.size w w'

set_option maxHeartbeats 1000000 in
theorem encode_calls (a : Option Addr) (cap : Nat) (os : List OpT) (w : World) (h : Row w a (opsC os)) (hv : ∀ o ∈ os, validT o = true) (hl : os.length ≤ 65536) :
    Calls Ydmm.prog 24 #[.slice a os.length cap] w (RetEnc w (encT os)) := by
  obtain ⟨i0, hi, hz0, hz1, hz2⟩ := info_parts infoU8
  go_enter Ydmm.func24, Ydmm.ntmps24
  go_wp2_with (first | (at_make; refine wpList_make_own _ rfl _ _ 22 rfl w.heap.size 5 i0 _ 1 Ydmm.underlying22 hi hz0 hz1 _ _ _ (2 * os.length) rfl rfl (by omega) (by rw [hz2]; omega) (by unfold maxLen; omega) (Nat.le_refl _) ?_))
  intro w1 hown hgrow
  have hb1 := (Below.refl w.heap.size w).grown hgrow (Nat.le_refl _) (by simp)
  have hown0 : w1.ownsRow w.heap.size 5 1 (.slice (some ⟨w.heap.size, 0, none⟩) 0 (2 * os.length)) (encT (os.take 0)).length (bytesC (encT (os.take 0))) := hown
  clear hown hgrow
  go_wp2
  go_loopw [4, 13] (fun v i wr => ∃ k : Nat, k ≤ os.length ∧ i = .int .i64 k ∧ Below w.heap.size w wr ∧ wr.ownsRow w.heap.size 5 1 v (encT (os.take k)).length (bytesC (encT (os.take k))) ∧ ¬ v = .slice none 0 0) (fun _ i _ => os.length - (intOf i).toNat)
  case atStart => exact ⟨0, Nat.zero_le _, rfl, hb1, hown0, by simp⟩
  case round =>
    obtain ⟨k, hk, rfl, hb, hown, hnn⟩ := hrel
    have hrl := encT_take_le os k
    by_cases hlt : k < os.length
    · obtain ⟨b, off, rfl, hc⟩ := (h.below hb (Nat.le_refl _)).ops (by omega)
      obtain ⟨o, ho⟩ := op_at hlt
      obtain ⟨c0, c1, c2⟩ := hc k o ho
      have hsz := hb.size
      have E : Hid (encT (os.take (k + 1)) = encT (os.take k) ++ enc1 o) := encT_take_succ ho
      have hvo : validT ⟨o.kind, o.old, o.new⟩ = true := hv o (List.mem_of_getElem? ho)
      obtain ⟨zs, hzs⟩ : ∃ zs, zs = encT (os.take k) := ⟨_, rfl⟩
      rw [← hzs] at hown hrl
      have HZ : Hid (zs = encT (os.take k)) := hzs
      have HOWN : Hid (wr.ownsRow w.heap.size 5 1 u4 zs.length (bytesC zs)) := hown
      have HNN : Hid (¬ u4 = .slice none 0 0) := hnn
      clear hc h ho hzs hv hown hnn
      go_wp2_with fail
      refine (valid_calls o.kind o.old o.new _).mono ?_
      rw [hvo]
      rintro e w2 ⟨rfl, b2⟩
      have hL : (wr.alloc (Obj.cells #[Value.int IntKind.u8 o.kind, Value.int IntKind.u8 o.old, Value.int IntKind.u8 o.new] 43)).heap[wr.heap.size]? = some (.cells #[.int .u8 o.kind, .int .u8 o.old, .int .u8 o.new] 43 (0, 0)) := heap_alloc_new wr _
      have s2 : St w w2 wr.heap.size o.kind o.old o.new u4 zs := ⟨(hb.alloc hsz _).trans (b2.mono (by simp; omega)), hsz, by rw [b2.block _ (by simp)]; exact hL, own_keep (HOWN.out.alloc _) b2, HNN.out⟩
      clear b2 hL HOWN HNN c0 c1 c2 hvo
      obtain ⟨L, hLe⟩ : ∃ L, L = wr.heap.size := ⟨_, rfl⟩
      rw [← hLe] at s2
      rw [← hLe]
      clear hLe hb hsz
      by_cases h43 : o.kind = 43
      · have t1 : (o.kind == 43) = true := by simp [h43]
        have t1' : (o.kind != 43) = false := by simp [h43]
        have H43 : Hid (o.kind = 43) := h43
        clear h43
        obtain ⟨p0, p1, p2, p3⟩ := s2.cells
        have own2 := s2.own
        have sz2 := s2.below.size
        go_wp2_with (first | (at_builtin; refine wpList_append_own _ rfl _ _ 22 rfl w.heap.size 5 i0 (.int .u8 0) 1 1 Ydmm.underlying22 hi hz0 hz1 hz2 rfl (by decide) _ _ _ rfl (own2.alloc _) ⟨w2.heap.size, 0, none⟩ 1 1 (bytesC [o.kind]) rfl rfl (byte_cells1 _ _ _) (byte_one1 _) (by simp [maxLen]; omega) (by simp; omega) (by simp; omega) ?_))
        intro v3 w3 hown3 hgrow3 hnil3
        have s3 := s2.append (by simpa using hown3) hgrow3 hnil3
        clear p0 p1 p2 p3 own2 sz2 hown3 hgrow3 hnil3 s2
        obtain ⟨p0, p1, p2, p3⟩ := s3.cells
        have own3 := s3.own
        have sz3 := s3.below.size
        go_wp2_with (first | (at_builtin; refine wpList_append_own _ rfl _ _ 22 rfl w.heap.size 5 i0 (.int .u8 0) 1 1 Ydmm.underlying22 hi hz0 hz1 hz2 rfl (by decide) _ _ _ rfl (own3.alloc _) ⟨w3.heap.size, 0, none⟩ 1 1 (bytesC [o.new]) rfl rfl (byte_cells1 _ _ _) (byte_one1 _) (by simp [maxLen]; omega) (by simp; omega) (by simp; omega) ?_))
        intro v4 w4 hown4 hgrow4 hnil4
        have s4 := s3.append (by simpa using hown4) hgrow4 hnil4
        clear p0 p1 p2 p3 own3 sz3 hown4 hgrow4 hnil4 s3
        obtain ⟨p0, p1, p2, p3⟩ := s4.cells
        have F4 : Hid (Below w.heap.size w w4 ∧ w4.ownsRow w.heap.size 5 1 v4 ((zs ++ [o.kind]) ++ [o.new]).length (bytesC ((zs ++ [o.kind]) ++ [o.new])) ∧ ¬ v4 = .slice none 0 0) := ⟨s4.below, s4.own, s4.notNil⟩
        clear s4
        go_wp2
        go_roundw
        case rel =>
          obtain ⟨g1, g2, g3⟩ := F4.out
          have ee : encT (os.take (k + 1)) = (zs ++ [o.kind]) ++ [o.new] := by rw [E.out, ← HZ.out]; simp [enc1, H43.out]
          exact ⟨k + 1, by omega, by go_num, g1, by rw [ee]; exact g2, g3⟩
        case measure => simp [intOf]; omega
      · have t1 : (o.kind == 43) = false := by simp [h43]
        have t1' : (o.kind != 43) = true := by simp [h43]
        have H43 : Hid (¬ o.kind = 43) := h43
        clear h43
        by_cases h126 : o.kind = 126
        · have t2 : (o.kind == 126) = true := by simp [h126]
          have H126 : Hid (o.kind = 126) := h126
          clear h126
          obtain ⟨p0, p1, p2, p3⟩ := s2.cells
          have own2 := s2.own
          have sz2 := s2.below.size
          go_wp2_with (first | (at_builtin; refine wpList_append_own _ rfl _ _ 22 rfl w.heap.size 5 i0 (.int .u8 0) 1 1 Ydmm.underlying22 hi hz0 hz1 hz2 rfl (by decide) _ _ _ rfl (own2.alloc _) ⟨w2.heap.size, 0, none⟩ 1 1 (bytesC [o.kind]) rfl rfl (byte_cells1 _ _ _) (byte_one1 _) (by simp [maxLen]; omega) (by simp; omega) (by simp; omega) ?_))
          intro v3 w3 hown3 hgrow3 hnil3
          have s3 := s2.append (by simpa using hown3) hgrow3 hnil3
          clear p0 p1 p2 p3 own2 sz2 hown3 hgrow3 hnil3 s2
          obtain ⟨p0, p1, p2, p3⟩ := s3.cells
          have own3 := s3.own
          have sz3 := s3.below.size
          go_wp2_with (first | (at_builtin; refine wpList_append_own _ rfl _ _ 22 rfl w.heap.size 5 i0 (.int .u8 0) 1 1 Ydmm.underlying22 hi hz0 hz1 hz2 rfl (by decide) _ _ _ rfl (own3.alloc _) ⟨w3.heap.size, 0, none⟩ 1 1 (bytesC [o.old]) rfl rfl (byte_cells1 _ _ _) (byte_one1 _) (by simp [maxLen]; omega) (by simp; omega) (by simp; omega) ?_))
          intro v4 w4 hown4 hgrow4 hnil4
          have s4 := s3.append (by simpa using hown4) hgrow4 hnil4
          clear p0 p1 p2 p3 own3 sz3 hown4 hgrow4 hnil4 s3
          obtain ⟨p0, p1, p2, p3⟩ := s4.cells
          have own4 := s4.own
          have sz4 := s4.below.size
          go_wp2_with (first | (at_builtin; refine wpList_append_own _ rfl _ _ 22 rfl w.heap.size 5 i0 (.int .u8 0) 1 1 Ydmm.underlying22 hi hz0 hz1 hz2 rfl (by decide) _ _ _ rfl (own4.alloc _) ⟨w4.heap.size, 0, none⟩ 1 1 (bytesC [o.new]) rfl rfl (byte_cells1 _ _ _) (byte_one1 _) (by simp [maxLen]; omega) (by simp; omega) (by simp; omega) ?_))
          intro v5 w5 hown5 hgrow5 hnil5
          have s5 := s4.append (by simpa using hown5) hgrow5 hnil5
          clear p0 p1 p2 p3 own4 sz4 hown5 hgrow5 hnil5 s4
          obtain ⟨p0, p1, p2, p3⟩ := s5.cells
          have F5 : Hid (Below w.heap.size w w5 ∧ w5.ownsRow w.heap.size 5 1 v5 (((zs ++ [o.kind]) ++ [o.old]) ++ [o.new]).length (bytesC (((zs ++ [o.kind]) ++ [o.old]) ++ [o.new])) ∧ ¬ v5 = .slice none 0 0) := ⟨s5.below, s5.own, s5.notNil⟩
          clear s5
          go_wp2
          go_roundw
          case rel =>
            obtain ⟨g1, g2, g3⟩ := F5.out
            have ee : encT (os.take (k + 1)) = ((zs ++ [o.kind]) ++ [o.old]) ++ [o.new] := by rw [E.out, ← HZ.out]; simp [enc1, H126.out]
            exact ⟨k + 1, by omega, by go_num, g1, by rw [ee]; exact g2, g3⟩
          case measure => simp [intOf]; omega
        · have t2 : (o.kind == 126) = false := by simp [h126]
          have H126 : Hid (¬ o.kind = 126) := h126
          clear h126
          obtain ⟨p0, p1, p2, p3⟩ := s2.cells
          have own2 := s2.own
          have sz2 := s2.below.size
          go_wp2_with (first | (at_builtin; refine wpList_append_own _ rfl _ _ 22 rfl w.heap.size 5 i0 (.int .u8 0) 1 1 Ydmm.underlying22 hi hz0 hz1 hz2 rfl (by decide) _ _ _ rfl (own2.alloc _) ⟨w2.heap.size, 0, none⟩ 1 1 (bytesC [o.kind]) rfl rfl (byte_cells1 _ _ _) (byte_one1 _) (by simp [maxLen]; omega) (by simp; omega) (by simp; omega) ?_))
          intro v3 w3 hown3 hgrow3 hnil3
          have s3 := s2.append (by simpa using hown3) hgrow3 hnil3
          clear p0 p1 p2 p3 own2 sz2 hown3 hgrow3 hnil3 s2
          obtain ⟨p0, p1, p2, p3⟩ := s3.cells
          have own3 := s3.own
          have sz3 := s3.below.size
          go_wp2_with (first | (at_builtin; refine wpList_append_own _ rfl _ _ 22 rfl w.heap.size 5 i0 (.int .u8 0) 1 1 Ydmm.underlying22 hi hz0 hz1 hz2 rfl (by decide) _ _ _ rfl (own3.alloc _) ⟨w3.heap.size, 0, none⟩ 1 1 (bytesC [o.old]) rfl rfl (byte_cells1 _ _ _) (byte_one1 _) (by simp [maxLen]; omega) (by simp; omega) (by simp; omega) ?_))
          intro v4 w4 hown4 hgrow4 hnil4
          have s4 := s3.append (by simpa using hown4) hgrow4 hnil4
          clear p0 p1 p2 p3 own3 sz3 hown4 hgrow4 hnil4 s3
          obtain ⟨p0, p1, p2, p3⟩ := s4.cells
          have F4 : Hid (Below w.heap.size w w4 ∧ w4.ownsRow w.heap.size 5 1 v4 ((zs ++ [o.kind]) ++ [o.old]).length (bytesC ((zs ++ [o.kind]) ++ [o.old])) ∧ ¬ v4 = .slice none 0 0) := ⟨s4.below, s4.own, s4.notNil⟩
          clear s4
          go_wp2
          go_roundw
          case rel =>
            obtain ⟨g1, g2, g3⟩ := F4.out
            have ee : encT (os.take (k + 1)) = (zs ++ [o.kind]) ++ [o.old] := by rw [E.out, ← HZ.out]; simp [enc1, H43.out, H126.out]
            exact ⟨k + 1, by omega, by go_num, g1, by rw [ee]; exact g2, g3⟩
          case measure => simp [intOf]; omega
    · have hge : ¬ (k : Int) < (os.length : Int) := by omega
      obtain rfl : k = os.length := by omega
      rw [List.take_length] at hown
      obtain ⟨a', cap', hv'⟩ := own_val hown
      rw [hv'] at hown hnn
      rw [hv']
      clear hv' hv
      cases a' with
      | none =>
        exfalso
        rcases hown.2 with ⟨h1, _⟩ | ⟨g, cap, cur, h1, _⟩
        · exact hnn h1
        · simp at h1
      | some ad =>
      go_wp2
      go_ret2
      exact ⟨ad, cap', rfl, row_of_own hown, hb⟩
end Go.Proofs.Ymbrdm
