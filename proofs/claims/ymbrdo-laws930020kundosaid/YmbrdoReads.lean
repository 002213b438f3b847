/-
  THE WALKS OF THE LISTS OF BYTES THAT A SCRIPT READS, WRITES.
-/
import Derived.Test.YmbrdoAid
namespace Go.Proofs.Ymbrdo
open Go.ChangeShapes Go.WideShapes Go.ChangeAt Go.RowKit

theorem reads_calls (a : Option Addr) (cap : Nat) (os : List OpT) (w : World) (h : Row w a (opsC os)) (hl : os.length ≤ 1048576) :
    Calls Ydom.prog 29 #[.slice a os.length cap] w (RetBytes w (readsT os)) := by
  obtain ⟨i0, hi, hz0, hz1, hz2⟩ := info_parts infoU8
  go_enter Ydom.func29, Ydom.ntmps29
  go_wp2_with (first | (at_make; refine wpList_make_own _ rfl _ _ 30 rfl w.heap.size 5 i0 _ 1 Ydom.underlying30 hi hz0 hz1 _ _ _ os.length rfl rfl rfl (by rw [hz2]; omega) (by unfold maxLen; omega) (Nat.le_refl _) ?_))
  intro w1 hown hgrow
  have hb1 := (Below.refl w.heap.size w).grown hgrow (Nat.le_refl _) (by simp)
  have hown0 : w1.ownsRow w.heap.size 5 1 (.slice (some ⟨w.heap.size, 0, none⟩) 0 os.length) (readsT (os.take 0)).length (bytesC (readsT (os.take 0))) := hown
  clear hown hgrow
  go_wp2
  go_loopw [3, 11] (fun v i wr => ∃ k : Nat, k ≤ os.length ∧ i = .int .i64 k ∧ Below w.heap.size w wr ∧ wr.ownsRow w.heap.size 5 1 v (readsT (os.take k)).length (bytesC (readsT (os.take k)))) (fun _ i _ => os.length - (intOf i).toNat)
  case atStart => exact ⟨0, Nat.zero_le _, rfl, hb1, hown0⟩
  case round =>
    obtain ⟨k, hk, rfl, hb, hown⟩ := hrel
    have hrl := readsT_take_le os k
    by_cases hlt : k < os.length
    · obtain ⟨b, off, rfl, hc⟩ := (h.below hb (Nat.le_refl _)).ops (by omega)
      obtain ⟨o, ho⟩ := op_at hlt
      obtain ⟨c0, c1, c2⟩ := hc k o ho
      have hsz := hb.size
      have E : Hid (readsT (os.take (k + 1)) = readsT (os.take k) ++ (if o.kind = 43 then [] else [o.old])) := readsT_take_succ ho
      obtain ⟨rs, hrs⟩ : ∃ rs, rs = readsT (os.take k) := ⟨_, rfl⟩
      rw [← hrs] at hown hrl
      have HR : Hid (rs = readsT (os.take k)) := hrs
      clear hc h ho hrs
      by_cases hkd : o.kind = 43
      · have t : (o.kind != 43) = false := by simp [hkd]
        go_wp2
        go_roundw
        case rel =>
          refine ⟨k + 1, by omega, by go_num, hb.alloc hsz _, ?_⟩
          rw [E.out, if_pos hkd, List.append_nil, ← HR.out]
          exact hown.alloc _
        case measure => simp [intOf]; omega
      · have t : (o.kind != 43) = true := by simp [hkd]
        go_wp2_with (first | (at_builtin; refine wpList_append_own _ rfl _ _ 30 rfl w.heap.size 5 i0 (.int .u8 0) 1 1 Ydom.underlying30 hi hz0 hz1 hz2 rfl (by decide) _ _ _ rfl ((hown.alloc _).alloc _) ⟨wr.heap.size + 1, 0, none⟩ 1 1 (bytesC [o.old]) rfl rfl ?c1 (byte_one1 _) (by unfold maxLen; omega) (by omega) (by simp; omega) ?_))
        case c1 =>
          have := byte_cells1 (wr.alloc (Obj.cells #[Value.int IntKind.u8 o.kind, Value.int IntKind.u8 o.old, Value.int IntKind.u8 o.new] 23)) 5 o.old
          simpa using this
        intro v' w3 hown3 hgrow3 _
        have hb3 : Below w.heap.size w w3 := ((hb.alloc hsz _).alloc (by simp; omega) _).grown hgrow3 (by simp; omega) (fun q hq => (hown.lt q hq).1)
        rw [← bytesC_append] at hown3
        clear hown hgrow3
        go_wp2
        go_roundw
        case rel =>
          refine ⟨k + 1, by omega, by go_num, hb3, ?_⟩
          rw [E.out, if_neg hkd, ← HR.out]
          simpa using hown3
        case measure => simp [intOf]; omega
    · have hge : ¬ (k : Int) < (os.length : Int) := by omega
      obtain rfl : k = os.length := by omega
      rw [List.take_length] at hown
      obtain ⟨a', cap', hv⟩ := own_val hown
      rw [hv] at hown
      rw [hv]
      clear hv
      go_wp2
      go_ret
      exact ⟨a', cap', rfl, row_of_own hown, hb⟩

theorem writes_calls (a : Option Addr) (cap : Nat) (os : List OpT) (w : World) (h : Row w a (opsC os)) (hl : os.length ≤ 1048576) :
    Calls Ydom.prog 28 #[.slice a os.length cap] w (RetBytes w (writesT os)) := by
  obtain ⟨i0, hi, hz0, hz1, hz2⟩ := info_parts infoU8
  go_enter Ydom.func28, Ydom.ntmps28
  go_wp2_with (first | (at_make; refine wpList_make_own _ rfl _ _ 30 rfl w.heap.size 5 i0 _ 1 Ydom.underlying30 hi hz0 hz1 _ _ _ os.length rfl rfl rfl (by rw [hz2]; omega) (by unfold maxLen; omega) (Nat.le_refl _) ?_))
  intro w1 hown hgrow
  have hb1 := (Below.refl w.heap.size w).grown hgrow (Nat.le_refl _) (by simp)
  have hown0 : w1.ownsRow w.heap.size 5 1 (.slice (some ⟨w.heap.size, 0, none⟩) 0 os.length) (writesT (os.take 0)).length (bytesC (writesT (os.take 0))) := hown
  clear hown hgrow
  go_wp2
  go_loopw [3, 11] (fun v i wr => ∃ k : Nat, k ≤ os.length ∧ i = .int .i64 k ∧ Below w.heap.size w wr ∧ wr.ownsRow w.heap.size 5 1 v (writesT (os.take k)).length (bytesC (writesT (os.take k)))) (fun _ i _ => os.length - (intOf i).toNat)
  case atStart => exact ⟨0, Nat.zero_le _, rfl, hb1, hown0⟩
  case round =>
    obtain ⟨k, hk, rfl, hb, hown⟩ := hrel
    have hrl := writesT_take_le os k
    by_cases hlt : k < os.length
    · obtain ⟨b, off, rfl, hc⟩ := (h.below hb (Nat.le_refl _)).ops (by omega)
      obtain ⟨o, ho⟩ := op_at hlt
      obtain ⟨c0, c1, c2⟩ := hc k o ho
      have hsz := hb.size
      have E : Hid (writesT (os.take (k + 1)) = writesT (os.take k) ++ (if o.kind = 45 then [] else [o.new])) := writesT_take_succ ho
      obtain ⟨rs, hrs⟩ : ∃ rs, rs = writesT (os.take k) := ⟨_, rfl⟩
      rw [← hrs] at hown hrl
      have HR : Hid (rs = writesT (os.take k)) := hrs
      clear hc h ho hrs
      by_cases hkd : o.kind = 45
      · have t : (o.kind != 45) = false := by simp [hkd]
        go_wp2
        go_roundw
        case rel =>
          refine ⟨k + 1, by omega, by go_num, hb.alloc hsz _, ?_⟩
          rw [E.out, if_pos hkd, List.append_nil, ← HR.out]
          exact hown.alloc _
        case measure => simp [intOf]; omega
      · have t : (o.kind != 45) = true := by simp [hkd]
        go_wp2_with (first | (at_builtin; refine wpList_append_own _ rfl _ _ 30 rfl w.heap.size 5 i0 (.int .u8 0) 1 1 Ydom.underlying30 hi hz0 hz1 hz2 rfl (by decide) _ _ _ rfl ((hown.alloc _).alloc _) ⟨wr.heap.size + 1, 0, none⟩ 1 1 (bytesC [o.new]) rfl rfl ?c1 (byte_one1 _) (by unfold maxLen; omega) (by omega) (by simp; omega) ?_))
        case c1 =>
          have := byte_cells1 (wr.alloc (Obj.cells #[Value.int IntKind.u8 o.kind, Value.int IntKind.u8 o.old, Value.int IntKind.u8 o.new] 23)) 5 o.new
          simpa using this
        intro v' w3 hown3 hgrow3 _
        have hb3 : Below w.heap.size w w3 := ((hb.alloc hsz _).alloc (by simp; omega) _).grown hgrow3 (by simp; omega) (fun q hq => (hown.lt q hq).1)
        rw [← bytesC_append] at hown3
        clear hown hgrow3
        go_wp2
        go_roundw
        case rel =>
          refine ⟨k + 1, by omega, by go_num, hb3, ?_⟩
          rw [E.out, if_neg hkd, ← HR.out]
          simpa using hown3
        case measure => simp [intOf]; omega
    · have hge : ¬ (k : Int) < (os.length : Int) := by omega
      obtain rfl : k = os.length := by omega
      rw [List.take_length] at hown
      obtain ⟨a', cap', hv⟩ := own_val hown
      rw [hv] at hown
      rw [hv]
      clear hv
      go_wp2
      go_ret
      exact ⟨a', cap', rfl, row_of_own hown, hb⟩

end Go.Proofs.Ymbrdo
