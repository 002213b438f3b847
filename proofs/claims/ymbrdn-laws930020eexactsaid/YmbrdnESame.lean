/-
  THE WALKS OF zzs930020eequal, zzs930020esame AT TWO SLICES OF ONE CONTENT.
-/
import Derived.Test.YmbrdnAid
namespace Go.Proofs.Ymbrdn
open Go.ChangeShapes Go.WideShapes Go.ChangeAt Go.RowKit

theorem eequal_same (a b : Option Addr) (ca cb : Nat) (os : List OpT) (w : World) (ha : Row w a (opsC os)) (hbb : Row w b (opsC os)) (hl : os.length ≤ 1048576) :
    Calls Ydnm.prog 17 #[.slice a os.length ca, .slice b os.length cb] w fun e w' => e = .returned (.bool true) ∧ Below w.heap.size w w' := by
  go_enter Ydnm.func17, Ydnm.ntmps17
  go_wp2
  go_loopw [13] (fun i wr => ∃ k : Nat, k ≤ os.length ∧ i = .int .i64 k ∧ Below w.heap.size w wr) (fun i _ => os.length - (intOf i).toNat)
  case atStart => exact ⟨0, Nat.zero_le _, rfl, Below.refl _ _⟩
  case round =>
    obtain ⟨k, hk, rfl, hb⟩ := hrel
    by_cases hlt : k < os.length
    · obtain ⟨b1, off1, rfl, hc1⟩ := (ha.below hb (Nat.le_refl _)).ops (by omega)
      obtain ⟨b2, off2, rfl, hc2⟩ := (hbb.below hb (Nat.le_refl _)).ops (by omega)
      obtain ⟨o, ho⟩ := op_at hlt
      obtain ⟨c0, c1, c2⟩ := hc1 k o ho
      obtain ⟨d0, d1, d2⟩ := hc2 k o ho
      have i1 : (k : Int) < (os.length : Int) := by omega
      clear hc1 hc2 ho ha hbb
      go_wp2
      go_quiet (fail)
      go_wp2
      go_roundw
      case rel => exact ⟨k + 1, by omega, by go_num, below_dn hb _⟩
      case measure => simp [intOf]; omega
    · have hge : ¬ (k : Int) < (os.length : Int) := by omega
      go_wp2
      go_ret
      exact ⟨rfl, hb⟩

theorem esame_same (a b : Option Addr) (ca cb : Nat) (zs : List Int) (w : World) (ha : Row w a (bytesC zs)) (hbb : Row w b (bytesC zs)) (hl : zs.length ≤ 1048576) :
    Calls Ydnm.prog 19 #[.slice a zs.length ca, .slice b zs.length cb] w fun e w' => e = .returned (.bool true) ∧ Below w.heap.size w w' := by
  go_enter Ydnm.func19, Ydnm.ntmps19
  go_wp2
  go_loopw [13] (fun i wr => ∃ k : Nat, k ≤ zs.length ∧ i = .int .i64 k ∧ Below w.heap.size w wr) (fun i _ => zs.length - (intOf i).toNat)
  case atStart => exact ⟨0, Nat.zero_le _, rfl, Below.refl _ _⟩
  case round =>
    obtain ⟨k, hk, rfl, hb⟩ := hrel
    by_cases hlt : k < zs.length
    · obtain ⟨b1, off1, rfl, hc1⟩ := (ha.below hb (Nat.le_refl _)).bytes (by omega)
      obtain ⟨b2, off2, rfl, hc2⟩ := (hbb.below hb (Nat.le_refl _)).bytes (by omega)
      obtain ⟨o, ho⟩ := op_at hlt
      have c0 := hc1 k o ho
      have d0 := hc2 k o ho
      have i1 : (k : Int) < (zs.length : Int) := by omega
      clear hc1 hc2 ho ha hbb
      go_wp2
      go_quiet (fail)
      go_wp2
      go_roundw
      case rel => exact ⟨k + 1, by omega, by go_num, below_dn hb _⟩
      case measure => simp [intOf]; omega
    · have hge : ¬ (k : Int) < (zs.length : Int) := by omega
      go_wp2
      go_ret
      exact ⟨rfl, hb⟩
end Go.Proofs.Ymbrdn
