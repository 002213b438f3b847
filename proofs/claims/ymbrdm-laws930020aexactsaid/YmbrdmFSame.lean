/-
  THE WALK OF A TEST OF TWO BYTE SLICES FOR THE SAME BYTES (zzs930020fsame | zzs930020asame: the same code).
-/
import Derived.Test.YmbrdmAid
namespace Go.Proofs.Ymbrdm
open Go.ChangeShapes Go.WideShapes Go.ChangeAt Go.RowKit

theorem samebytes_calls (a b : Option Addr) (ca cb : Nat) (x y : List Int) (w : World) (hx : Row w a (bytesC x)) (hy : Row w b (bytesC y)) (hlx : x.length ≤ 1048576) :
    Calls Ydmm.prog 17 #[.slice a x.length ca, .slice b y.length cb] w fun e w' => e = .returned (.bool (x == y)) ∧ Below w.heap.size w w' := by
  by_cases hl : x.length = y.length
  · have hle : x.length ≤ y.length := by omega
    have t : ((x.length : Int) != (y.length : Int)) = false := by rw [hl]; simp
    have HL : Hid (x.length = y.length) := hl
    clear hl
    go_enter Ydmm.func17, Ydmm.ntmps17
    go_wp2
    go_loopw [5] (fun i wr => ∃ k : Nat, k ≤ x.length ∧ i = .int .i64 k ∧ (∀ j, j < k → x[j]? = y[j]?) ∧ Below w.heap.size w wr) (fun i _ => x.length - (intOf i).toNat)
    case atStart => exact ⟨0, Nat.zero_le _, rfl, fun j hj => absurd hj (Nat.not_lt_zero _), Below.refl _ _⟩
    case round =>
      obtain ⟨k, hk, rfl, hs, hb⟩ := hrel
      by_cases hlt : k < x.length
      · obtain ⟨b1, o1, rfl, hc1⟩ := (hx.below hb (Nat.le_refl _)).bytes (by omega)
        obtain ⟨b2, o2, rfl, hc2⟩ := (hy.below hb (Nat.le_refl _)).bytes (by omega)
        obtain ⟨u, hu⟩ := op_at (os := x) (k := k) (by omega)
        obtain ⟨v, hv⟩ := op_at (os := y) (k := k) (by omega)
        have c1 := hc1 k u hu
        have c2 := hc2 k v hv
        have i1 : (k : Int) < (x.length : Int) := by omega
        have i2 : (k : Int) < (y.length : Int) := by omega
        by_cases huv : u = v
        · have HS : Hid (∀ j, j < k + 1 → x[j]? = y[j]?) := fun j hj => by
            by_cases hjk : j = k
            · rw [hjk, hu, hv, huv]
            · exact hs j (by omega)
          subst huv
          clear hc1 hc2 hu hv hx hy hs
          go_wp2
          go_quiet (fail)
          go_wp2
          go_roundw
          case rel => exact ⟨k + 1, by omega, by go_num, HS.out, below_dn hb _⟩
          case measure => simp [intOf]; omega
        · have HE : Hid ((x == y) = false) := by
            show (x == y) = false
            rw [beq_eq_false_iff_ne]
            intro e
            rw [e] at hu
            rw [hu] at hv
            exact huv (Option.some.inj hv)
          have t2 : (u != v) = true := by simp [huv]
          clear hc1 hc2 hu hv hx hy hs
          go_wp2
          go_quiet (fail)
          go_wp2
          go_ret
          rw [HE.out]
          exact ⟨rfl, below_dn hb _⟩
      · have hge : ¬ (k : Int) < (x.length : Int) := by omega
        have HE : Hid ((x == y) = true) := by
          show (x == y) = true
          rw [beq_iff_eq]
          apply List.ext_getElem?
          intro j
          by_cases hj : j < k
          · exact hs j hj
          · rw [List.getElem?_eq_none (by omega), List.getElem?_eq_none (by have := HL.out; omega)]
        clear hs hx hy
        go_wp2
        go_ret
        rw [HE.out]
        exact ⟨rfl, hb⟩
  · have t : ((x.length : Int) != (y.length : Int)) = true := by rw [bne_iff_ne]; omega
    have HE : Hid ((x == y) = false) := by
      show (x == y) = false
      rw [beq_eq_false_iff_ne]
      intro e
      exact hl (by rw [e])
    clear hl
    go_enter Ydmm.func17, Ydmm.ntmps17
    go_wp2
    go_ret
    rw [HE.out]
    exact ⟨rfl, Below.refl _ _⟩
end Go.Proofs.Ymbrdm
