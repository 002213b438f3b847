/-
  THE WALK OF LawS930020JMirror.
-/
import Derived.Test.YmbrdoBuf
namespace Go.Proofs.Ymbrdo
open Go.ChangeShapes Go.WideShapes Go.ChangeAt Go.RowKit

set_option linter.unusedVariables false
theorem jmirror_walk (a : Option Addr) (cap : Nat) (os : List OpT) (w : World) (h : Row w a (opsC os)) (hok : ∀ z ∈ os, OpOk z) (hnil : a = none → os.length = 0 ∧ cap = 0) :
    Calls Ydom.prog 6 #[.slice a os.length cap] w fun e w' => e = .returned (.bool true) ∧ Below w.heap.size w w' := by
  clear hok
  by_cases hbig : 65536 < os.length
  · go_enter Ydom.func6, Ydom.ntmps6
    go_wp2
    go_ret
    exact ⟨rfl, Below.refl _ _⟩
  go_enter Ydom.func6, Ydom.ntmps6
  go_wp2_with fail
  refine (jcopy_calls a cap os w h hnil (by omega)).mono ?_
  rintro e w1 ⟨v, rfl, hbuf, b1⟩
  obtain ⟨a1, hv, -⟩ := hbuf.val
  have RV : Hid (Calls Ydom.prog 21 #[v] w1 fun e w' => e = .returned (.tuple #[]) ∧ Buf w' w.heap.size v os.reverse ∧ w1.grownBy w' v.ownBlock) := reverse_buf w.heap.size v os w1 hbuf (by omega)
  have hblk := hbuf.block
  rw [hv] at RV hblk
  rw [hv]
  clear hbuf hv hnil
  go_wp2_with fail
  refine RV.out.mono ?_
  rintro e w2 ⟨rfl, hbuf2, hg2⟩
  have hB2 : Below w.heap.size w w2 := b1.grown hg2 b1.size (fun q hq => (hblk q hq).1)
  obtain ⟨a2, hv2, r2⟩ := hbuf2.val
  simp only [List.length_reverse, Value.slice.injEq, and_true] at hv2
  subst hv2
  clear RV hblk hbuf2 hg2 b1
  go_wp2
  go_loopw [4] (fun i wr => ∃ k : Nat, k ≤ os.length ∧ i = .int .i64 k ∧ Below w.heap.size w wr ∧ Row wr a1 (opsC os.reverse)) (fun i _ => os.length - (intOf i).toNat)
  case atStart => exact ⟨0, Nat.zero_le _, rfl, hB2, r2⟩
  case round =>
    clear r2 hB2
    obtain ⟨k, hk, rfl, hb, s1⟩ := hrel
    by_cases hlt : k < os.length
    · obtain ⟨b1, off1, rfl, hc1⟩ := s1.ops (by simp; omega)
      obtain ⟨b2, off2, rfl, hc2⟩ := (h.below hb (Nat.le_refl _)).ops (by omega)
      obtain ⟨m, hm⟩ : ∃ m : Nat, (os.length : Int) - 1 - (k : Int) = m := ⟨os.length - 1 - k, by omega⟩
      obtain ⟨o, ho⟩ := op_at (os := os) (k := m) (by omega)
      have ho' : os.reverse[k]? = some o := by
        rw [List.getElem?_reverse hlt, show os.length - 1 - k = m by omega]; exact ho
      obtain ⟨c0, c1, c2⟩ := hc1 k o ho'
      obtain ⟨d0, d1, d2⟩ := hc2 m o ho
      have i1 : (k : Int) < (os.length : Int) := by omega
      have i2 : (m : Int) < (os.length : Int) := by omega
      have S1 : Hid (Row wr (some ⟨b1, off1, none⟩) (opsC os.reverse)) := s1
      clear hc1 hc2 ho ho' s1 h
      go_wp2
      go_quiet (fail)
      go_wp2
      go_roundw
      case rel => exact ⟨k + 1, by omega, by go_num, below_dn hb _, Row.dn S1.out _⟩
      case measure => simp [intOf]; omega
    · have hge : ¬ (k : Int) < (os.length : Int) := by omega
      go_wp2
      go_ret
      exact ⟨rfl, hb⟩
end Go.Proofs.Ymbrdo
