/-
  THE WALKS OF zzs930020keqbytes, kvalid, kop, kops.
-/
import Derived.Test.YmbrdoAid
namespace Go.Proofs.Ymbrdo
open Go.ChangeShapes Go.WideShapes Go.ChangeAt Go.RowKit

theorem keqbytes_calls (a b : Option Addr) (ca cb : Nat) (x y : List Int) (w : World) (hx : Row w a (bytesC x)) (hy : Row w b (bytesC y)) (hlx : x.length ≤ 1048576) :
    Calls Ydom.prog 27 #[.slice a x.length ca, .slice b y.length cb] w fun e w' => e = .returned (.bool (x == y)) ∧ Below w.heap.size w w' := by
  by_cases hl : x.length = y.length
  · have hle : x.length ≤ y.length := by omega
    have t : ((x.length : Int) != (y.length : Int)) = false := by rw [hl]; simp
    have HL : Hid (x.length = y.length) := hl
    clear hl
    go_enter Ydom.func27, Ydom.ntmps27
    go_wp2
    go_loopw [13] (fun i wr => ∃ k : Nat, k ≤ x.length ∧ i = .int .i64 k ∧ (∀ j, j < k → x[j]? = y[j]?) ∧ Below w.heap.size w wr) (fun i _ => x.length - (intOf i).toNat)
    case atStart => exact ⟨0, Nat.zero_le _, rfl, fun j hj => absurd hj (Nat.not_lt_zero _), Below.refl _ _⟩
    case round =>
      obtain ⟨k, hk, rfl, hs, hb⟩ := hrel
      by_cases hlt : k < x.length
      · obtain ⟨b1, o1, rfl, hc1⟩ := (hx.below hb (Nat.le_refl _)).bytes (by omega)
        obtain ⟨b2, o2, rfl, hc2⟩ := (hy.below hb (Nat.le_refl _)).bytes (by omega)
        obtain ⟨u, hu⟩ := op_at (os := x) (k := k) (by omega)
        obtain ⟨v, hv⟩ := op_at (os := y) (k := k) (by omega)
        have c1 := hc1 k u hu
        have c2 := hc2 k v hv
        have i1 : (k : Int) < (x.length : Int) := by omega
        have i2 : (k : Int) < (y.length : Int) := by omega
        by_cases huv : u = v
        · have HS : Hid (∀ j, j < k + 1 → x[j]? = y[j]?) := fun j hj => by
            by_cases hjk : j = k
            · rw [hjk, hu, hv, huv]
            · exact hs j (by omega)
          subst huv
          clear hc1 hc2 hu hv hx hy hs
          go_wp2
          go_quiet (fail)
          go_wp2
          go_roundw
          case rel => exact ⟨k + 1, by omega, by go_num, HS.out, below_dn hb _⟩
          case measure => simp [intOf]; omega
        · have HE : Hid ((x == y) = false) := by
            show (x == y) = false
            rw [beq_eq_false_iff_ne]
            intro e
            rw [e] at hu
            rw [hu] at hv
            exact huv (Option.some.inj hv)
          have t2 : (u != v) = true := by simp [huv]
          clear hc1 hc2 hu hv hx hy hs
          go_wp2
          go_quiet (fail)
          go_wp2
          go_ret
          rw [HE.out]
          exact ⟨rfl, below_dn hb _⟩
      · have hge : ¬ (k : Int) < (x.length : Int) := by omega
        have HE : Hid ((x == y) = true) := by
          show (x == y) = true
          rw [beq_iff_eq]
          apply List.ext_getElem?
          intro j
          by_cases hj : j < k
          · exact hs j hj
          · rw [List.getElem?_eq_none (by omega), List.getElem?_eq_none (by have := HL.out; omega)]
        clear hs hx hy
        go_wp2
        go_ret
        rw [HE.out]
        exact ⟨rfl, hb⟩
  · have t : ((x.length : Int) != (y.length : Int)) = true := by rw [bne_iff_ne]; omega
    have HE : Hid ((x == y) = false) := by
      show (x == y) = false
      rw [beq_eq_false_iff_ne]
      intro e
      exact hl (by rw [e])
    clear hl
    go_enter Ydom.func27, Ydom.ntmps27
    go_wp2
    go_ret
    rw [HE.out]
    exact ⟨rfl, Below.refl _ _⟩

theorem all_take_succ {os : List OpT} {k : Nat} {o : OpT} (h : os[k]? = some o) : (os.take (k + 1)).all validT = ((os.take k).all validT && validT o) := by
  rw [take_succ_get h, List.all_append]
  simp

theorem all_bad {os : List OpT} {k : Nat} {o : OpT} (h : os[k]? = some o) (hv : validT o = false) : os.all validT = false := by
  rw [List.all_eq_false]
  exact ⟨o, List.mem_of_getElem? h, by simp [hv]⟩

theorem kvalid_calls (a : Option Addr) (cap : Nat) (os : List OpT) (w : World) (h : Row w a (opsC os)) (hl : os.length ≤ 1048576) :
    Calls Ydom.prog 26 #[.slice a os.length cap] w fun e w' => e = .returned (.bool (os.all validT)) ∧ Below w.heap.size w w' := by
  go_enter Ydom.func26, Ydom.ntmps26
  go_wp2
  go_loopw [8] (fun i wr => ∃ k : Nat, k ≤ os.length ∧ i = .int .i64 k ∧ (os.take k).all validT = true ∧ Below w.heap.size w wr) (fun i _ => os.length - (intOf i).toNat)
  case atStart => exact ⟨0, Nat.zero_le _, rfl, rfl, Below.refl _ _⟩
  case round =>
    obtain ⟨k, hk, rfl, hall, hb⟩ := hrel
    by_cases hlt : k < os.length
    · obtain ⟨b, off, rfl, hc⟩ := (h.below hb (Nat.le_refl _)).ops (by omega)
      obtain ⟨⟨ok, ox, oy⟩, ho⟩ := op_at hlt
      obtain ⟨c0, c1, c2⟩ := hc k _ ho
      simp only at c0 c1 c2
      have hsz := hb.size
      have GO : Hid (validT ⟨ok, ox, oy⟩ = true → (os.take (k + 1)).all validT = true) := fun hv => by rw [all_take_succ ho, hall, hv]; rfl
      have NO : Hid (validT ⟨ok, ox, oy⟩ = false → os.all validT = false) := fun hv => all_bad ho hv
      clear hc h ho hall
      by_cases e1 : ok = 61
      · subst e1
        by_cases f1 : ox = oy
        · subst f1
          have G : Hid ((os.take (k + 1)).all validT = true) := GO.out (by simp [validT])
          clear GO NO
          go_wp2
          go_roundw
          case rel => exact ⟨k + 1, by omega, by go_num, G.out, hb.alloc hsz _⟩
          case measure => simp [intOf]; omega
        · have t1 : (ox == oy) = false := by simp [f1]
          have N : Hid (os.all validT = false) := NO.out (by simp [validT, f1])
          clear GO NO f1
          go_wp2
          go_ret
          rw [N.out]
          exact ⟨rfl, hb.alloc hsz _⟩
      · have t1 : (ok == 61) = false := by simp [e1]
        by_cases e2 : ok = 126
        · subst e2
          by_cases f1 : ox = oy
          · subst f1
            have N : Hid (os.all validT = false) := NO.out (by simp [validT])
            clear GO NO e1 t1
            go_wp2
            go_ret
            rw [N.out]
            exact ⟨rfl, hb.alloc hsz _⟩
          · have t2 : (ox != oy) = true := by simp [f1]
            have G : Hid ((os.take (k + 1)).all validT = true) := GO.out (by simp [validT, f1])
            clear GO NO f1 e1 t1
            go_wp2
            go_roundw
            case rel => exact ⟨k + 1, by omega, by go_num, G.out, hb.alloc hsz _⟩
            case measure => simp [intOf]; omega
        · have t2 : (ok == 126) = false := by simp [e2]
          by_cases e3 : ok = 43
          · subst e3
            by_cases f1 : ox = 0
            · subst f1
              have G : Hid ((os.take (k + 1)).all validT = true) := GO.out (by simp [validT])
              clear GO NO e1 t1 e2 t2
              go_wp2
              go_roundw
              case rel => exact ⟨k + 1, by omega, by go_num, G.out, hb.alloc hsz _⟩
              case measure => simp [intOf]; omega
            · have t3 : (ox == 0) = false := by simp [f1]
              have N : Hid (os.all validT = false) := NO.out (by simp [validT, f1])
              clear GO NO f1 e1 t1 e2 t2
              go_wp2
              go_ret
              rw [N.out]
              exact ⟨rfl, hb.alloc hsz _⟩
          · have t3 : (ok == 43) = false := by simp [e3]
            by_cases e4 : ok = 45
            · subst e4
              by_cases f1 : oy = 0
              · subst f1
                have G : Hid ((os.take (k + 1)).all validT = true) := GO.out (by simp [validT])
                clear GO NO e1 t1 e2 t2 e3 t3
                go_wp2
                go_roundw
                case rel => exact ⟨k + 1, by omega, by go_num, G.out, hb.alloc hsz _⟩
                case measure => simp [intOf]; omega
              · have t4 : (oy == 0) = false := by simp [f1]
                have N : Hid (os.all validT = false) := NO.out (by simp [validT, f1])
                clear GO NO f1 e1 t1 e2 t2 e3 t3
                go_wp2
                go_ret
                rw [N.out]
                exact ⟨rfl, hb.alloc hsz _⟩
            · have t4 : (ok == 45) = false := by simp [e4]
              have N : Hid (os.all validT = false) := NO.out (by simp [validT, e1, e2, e3, e4])
              clear GO NO e1 e2 e3 e4
              go_wp2
              go_ret
              rw [N.out]
              exact ⟨rfl, hb.alloc hsz _⟩
    · have hge : ¬ (k : Int) < (os.length : Int) := by omega
      obtain rfl : k = os.length := by omega
      rw [List.take_length] at hall
      have H : Hid (os.all validT = true) := hall
      clear hall
      go_wp2
      go_ret
      rw [H.out]
      exact ⟨rfl, hb⟩

/-- Some op comes back. -/
def RetAnOp (w : World) (e : Ending) (w' : World) : Prop :=
  ∃ k x y : Int, e = .returned (.agg #[.int .u8 k, .int .u8 x, .int .u8 y]) ∧ Below w.heap.size w w'

set_option maxHeartbeats 4000000 in
theorem kop_calls (k x y mode : Int) (w : World) (h0 : 0 ≤ mode ∧ mode ≤ 255) (h1 : 0 ≤ k ∧ k ≤ 255) (h2 : 0 ≤ x ∧ x ≤ 255) (h3 : 0 ≤ y ∧ y ≤ 255) :
    Calls Ydom.prog 33 #[.agg #[.int .u8 k, .int .u8 x, .int .u8 y], .int .u8 mode] w (RetAnOp w) := by
  by_cases m0 : mode % 3 = 0
  · have t : (mode % 3 == 0) = true := by simp [m0]
    clear m0
    go_enter Ydom.func33, Ydom.ntmps33
    go_wp2
    go_returns
    exact ⟨_, _, _, rfl, by go_grown⟩
  · have t : (mode % 3 == 0) = false := by simp [m0]
    by_cases m1 : mode % 3 = 1
    · have t1 : (mode % 3 == 1) = true := by simp [m1]
      clear m0 m1
      go_enter Ydom.func33, Ydom.ntmps33
      go_wp2
      all_goals go_returns
      all_goals exact ⟨_, _, _, rfl, by go_grown⟩
    · have t1 : (mode % 3 == 1) = false := by simp [m1]
      clear m0 m1
      go_enter Ydom.func33, Ydom.ntmps33
      go_wp2
      all_goals go_quiet (fail)
      all_goals go_wp2
      all_goals go_returns
      all_goals exact ⟨_, _, _, rfl, (((below_dn (((Below.refl _ _).alloc (Nat.le_refl _) _).alloc (by simp) _) _).setCell (Nat.le_succ _) _).setCell (Nat.le_succ _) _).setCell (Nat.le_succ _) _⟩

/-- A list of n ops comes back. -/
def RetSome (w : World) (n : Nat) (e : Ending) (w' : World) : Prop := ∃ (os : List OpT) (a : Option Addr) (cap : Nat), os.length = n ∧ e = .returned (.slice a os.length cap) ∧ Row w' a (opsC os) ∧ Below w.heap.size w w'

set_option maxHeartbeats 1000000 in
theorem kops_calls (a : Option Addr) (cap : Nat) (os : List OpT) (mode : Int) (w : World) (h : Row w a (opsC os)) (hok : ∀ o ∈ os, OpOk o) (hm : 0 ≤ mode ∧ mode ≤ 255) (hl : os.length ≤ 1048576) :
    Calls Ydom.prog 25 #[.slice a os.length cap, .int .u8 mode] w (RetSome w os.length) := by
  obtain ⟨i0, hi, hz0, hz1, hz2⟩ := info_parts infoOp
  have HOK : Hid (∀ o ∈ os, OpOk o) := hok
  clear hok
  go_enter Ydom.func25, Ydom.ntmps25
  go_wp2_with (first | (at_make; refine wpList_make_own _ rfl _ _ 28 rfl w.heap.size 23 i0 _ 3 Ydom.underlying28 hi hz0 hz1 _ _ _ os.length rfl rfl (by omega) (by rw [hz2]; omega) (by unfold maxLen; omega) (Nat.le_refl _) ?_))
  intro w1 hown hgrow
  have hb1 := (Below.refl w.heap.size w).grown hgrow (Nat.le_refl _) (by simp)
  have hown0 : w1.ownsRow w.heap.size 23 3 (.slice (some ⟨w.heap.size, 0, none⟩) 0 os.length) ([] : List OpT).length (opsC []) := hown
  clear hown hgrow
  go_wp2
  go_loopw [5, 13] (fun v i wr => ∃ (k : Nat) (acc : List OpT), k ≤ os.length ∧ i = .int .i64 k ∧ acc.length = k ∧ Below w.heap.size w wr ∧ wr.ownsRow w.heap.size 23 3 v acc.length (opsC acc)) (fun _ i _ => os.length - (intOf i).toNat)
  case atStart => exact ⟨0, [], Nat.zero_le _, rfl, rfl, hb1, hown0⟩
  case round =>
    clear hown0 hb1
    obtain ⟨k, acc, hk, rfl, hal, hb, hown⟩ := hrel
    by_cases hlt : k < os.length
    · obtain ⟨b, off, rfl, hc⟩ := (h.below hb (Nat.le_refl _)).ops (by omega)
      obtain ⟨⟨ok, ox, oy⟩, ho⟩ := op_at hlt
      obtain ⟨c0, c1, c2⟩ := hc k _ ho
      simp only at c0 c1 c2
      obtain ⟨g1, g2, g3⟩ := HOK.out _ (List.mem_of_getElem? ho)
      simp only at g1 g2 g3
      have hsz := hb.size
      clear hc h ho
      go_wp2_with fail
      refine (kop_calls ok ox oy mode _ hm g1 g2 g3).mono ?_
      rintro e w2 ⟨zk, zx, zy, rfl, b2⟩
      have hb2 : Below w.heap.size w w2 := (hb.alloc hsz _).trans (b2.mono (by simp; omega))
      have own2 := own_keep (hown.alloc _) b2
      clear b2 hown hb
      go_wp2_with (first | (at_builtin; refine wpList_append_own _ rfl _ _ 28 rfl w.heap.size 23 i0 (.agg #[.int .u8 0, .int .u8 0, .int .u8 0]) 3 3 Ydom.underlying28 hi hz0 hz1 hz2 rfl (by decide) _ _ _ rfl (own2.alloc _) ⟨w2.heap.size, 0, none⟩ 1 1 (opsC [(⟨zk, zx, zy⟩ : OpT)]) rfl rfl (op_cells1 _ _ _ _ _) (op_one1 _ _ _) (by unfold maxLen; omega) (by omega) (by have := hb2.size; simp; omega) ?_))
      intro v' w9 hown9 hgrow9 _
      have hb9 : Below w.heap.size w w9 := (hb2.alloc hb2.size _).grown hgrow9 (by have := hb2.size; simp; omega) (fun q hq => (own2.lt q hq).1)
      rw [← opsC_append] at hown9
      clear own2 hgrow9 hb2
      go_wp2
      go_roundw
      case rel => exact ⟨k + 1, acc ++ [⟨zk, zx, zy⟩], by omega, by go_num, by simp [hal], hb9, by simpa [hal] using hown9⟩
      case measure => simp [intOf]; omega
    · have hge : ¬ (k : Int) < (os.length : Int) := by omega
      obtain ⟨a', cap', hv⟩ := own_val hown
      rw [hv] at hown
      rw [hv]
      have HL : Hid (acc.length = os.length) := show acc.length = os.length by omega
      clear hv hal
      go_wp2
      go_ret
      exact ⟨acc, a', cap', HL.out, rfl, row_of_own hown, hb⟩
end Go.Proofs.Ymbrdo
