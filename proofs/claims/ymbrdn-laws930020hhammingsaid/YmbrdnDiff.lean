/-
  THE WALK OF zzs930020hdiffer.
-/
import Derived.Test.YmbrdnPlain
namespace Go.Proofs.Ymbrdn
open Go.ChangeShapes Go.WideShapes Go.ChangeAt Go.RowKit

/-- At how many places below n do the two lists differ? -/
def diffN (a b : List Int) : Nat → Nat
  | 0 => 0
  | n + 1 => diffN a b n + (if a[n]? = b[n]? then 0 else 1)
theorem diffN_le (a b : List Int) (n : Nat) : diffN a b n ≤ n := by
  induction n with
  | zero => simp [diffN]
  | succ n ih => simp only [diffN]; split <;> omega
theorem diffN_same {a b : List Int} {n : Nat} {u : Int} (ha : a[n]? = some u) (hb : b[n]? = some u) : diffN a b (n + 1) = diffN a b n := by simp [diffN, ha, hb]
theorem diffN_diff {a b : List Int} {n : Nat} {u v : Int} (ha : a[n]? = some u) (hb : b[n]? = some v) (h : u ≠ v) : diffN a b (n + 1) = diffN a b n + 1 := by simp [diffN, ha, hb, h]

theorem hdiffer_calls (a b : Option Addr) (ca cb : Nat) (x y : List Int) (n : Nat) (w : World) (hx : Row w a (bytesC x)) (hy : Row w b (bytesC y)) (hnx : n ≤ x.length) (hny : n ≤ y.length) (hl : n ≤ 1048576) :
    Calls Ydnm.prog 28 #[.slice a x.length ca, .slice b y.length cb, .int .i64 n] w fun e w' => e = .returned (.int .i64 (diffN x y n)) ∧ Below w.heap.size w w' := by
  go_enter Ydnm.func28, Ydnm.ntmps28
  go_wp2
  go_loopw [7, 8] (fun v i wr => ∃ k : Nat, k ≤ n ∧ i = .int .i64 k ∧ v = .int .i64 (diffN x y k) ∧ Below w.heap.size w wr) (fun _ i _ => n - (intOf i).toNat)
  case atStart => exact ⟨0, Nat.zero_le _, rfl, rfl, Below.refl _ _⟩
  case round =>
    obtain ⟨k, hk, rfl, rfl, hb⟩ := hrel
    by_cases hlt : k < n
    · obtain ⟨b1, o1, rfl, hc1⟩ := (hx.below hb (Nat.le_refl _)).bytes (by omega)
      obtain ⟨b2, o2, rfl, hc2⟩ := (hy.below hb (Nat.le_refl _)).bytes (by omega)
      obtain ⟨u, hu⟩ := op_at (os := x) (k := k) (by omega)
      obtain ⟨v, hv⟩ := op_at (os := y) (k := k) (by omega)
      have c1 := hc1 k u hu
      have c2 := hc2 k v hv
      have hle := diffN_le x y k
      have i1 : (k : Int) < (x.length : Int) := by omega
      have i2 : (k : Int) < (y.length : Int) := by omega
      by_cases huv : u = v
      · subst huv
        have E : Hid _ := diffN_same hu hv
        clear hc1 hc2 hu hv hx hy
        go_wp2
        go_quiet (fail)
        go_wp2
        go_roundw
        case rel => exact ⟨k + 1, by omega, by go_num, by rw [E.out], below_dn hb _⟩
        case measure => simp [intOf]; omega
      · have E : Hid _ := diffN_diff hu hv huv
        have t : (u != v) = true := by simp [huv]
        clear hc1 hc2 hu hv hx hy
        go_wp2
        go_quiet (fail)
        go_wp2
        go_roundw
        case rel => exact ⟨k + 1, by omega, by go_num, by rw [E.out]; rfl, below_dn hb _⟩
        case measure => simp [intOf]; omega
    · have hge : ¬ (k : Int) < (n : Int) := by omega
      obtain rfl : k = n := by omega
      go_wp2
      go_ret
      exact ⟨rfl, hb⟩
end Go.Proofs.Ymbrdn
