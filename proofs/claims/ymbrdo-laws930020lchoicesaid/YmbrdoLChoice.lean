/-
  THE WALK OF LawS930020LChoice.
-/
import Derived.Test.YmbrdoScript2
import Derived.Test.YmbrdoLater
import Derived.Test.YmbrdoOpenC
import Derived.Deep.Cut
namespace Go.Proofs.Ymbrdo
open Go.ChangeShapes Go.WideShapes Go.ChangeAt Go.RowKit

/-- The last op of a script, and what it says. -/
theorem back_last {a b : List Int} {i j : Nat} {l : List OpT} {o : OpT} (h : Back a b i j (l ++ [o])) :
    (∃ i' j' c, i = i' + 1 ∧ j = j' + 1 ∧ o = ⟨61, c, c⟩ ∧ a[i']? = some c ∧ b[j']? = some c ∧ Back a b i' j' l) ∨
    (∃ i' j' c d, i = i' + 1 ∧ j = j' + 1 ∧ o = ⟨126, c, d⟩ ∧ a[i']? = some c ∧ b[j']? = some d ∧ c ≠ d ∧ dp a b (i' + 1) (j' + 1) = dp a b i' j' + 1 ∧ Back a b i' j' l) ∨
    (∃ i' c, i = i' + 1 ∧ o = ⟨45, c, 0⟩ ∧ a[i']? = some c ∧ (∀ j', j = j' + 1 → b[j']? ≠ some c ∧ dp a b (i' + 1) j ≠ dp a b i' j' + 1) ∧ dp a b (i' + 1) j = dp a b i' j + 1 ∧ Back a b i' j l) ∨
    (∃ j' d, j = j' + 1 ∧ o = ⟨43, 0, d⟩ ∧ b[j']? = some d ∧ (∀ i', i = i' + 1 → a[i']? ≠ some d ∧ dp a b i (j' + 1) ≠ dp a b i' j' + 1 ∧ dp a b i (j' + 1) ≠ dp a b i' (j' + 1) + 1) ∧ Back a b i j' l) := by
  generalize hL : l ++ [o] = L at h
  cases h with
  | nil => simp at hL
  | keep h1 h2 h3 =>
    obtain ⟨rfl, h⟩ := List.append_inj' hL rfl
    obtain rfl := List.singleton_inj.1 h
    exact .inl ⟨_, _, _, rfl, rfl, rfl, h2, h3, h1⟩
  | sub h1 h2 h3 h4 h5 =>
    obtain ⟨rfl, h⟩ := List.append_inj' hL rfl
    obtain rfl := List.singleton_inj.1 h
    exact .inr (.inl ⟨_, _, _, _, rfl, rfl, rfl, h2, h3, h4, h5, h1⟩)
  | del h1 h2 h3 h4 =>
    obtain ⟨rfl, h⟩ := List.append_inj' hL rfl
    obtain rfl := List.singleton_inj.1 h
    exact .inr (.inr (.inl ⟨_, _, rfl, rfl, h2, h3, h4, h1⟩))
  | ins h1 h2 h3 h4 =>
    obtain ⟨rfl, h⟩ := List.append_inj' hL rfl
    obtain rfl := List.singleton_inj.1 h
    exact .inr (.inr (.inr ⟨_, _, rfl, rfl, h2, h3, h1⟩))

theorem back_nil {a b : List Int} {i j : Nat} (h : Back a b i j []) : i = 0 ∧ j = 0 := by
  generalize hL : ([] : List OpT) = L at h
  cases h with
  | nil => exact ⟨rfl, rfl⟩
  | keep => simp at hL
  | sub => simp at hL
  | del => simp at hL
  | ins => simp at hL

/-- The distance of two prefixes. -/
theorem ldist_heads (a b : Option Addr) (ca cb : Nat) (x y : List Int) (i j : Nat) (w : World) (hx : Row w a (bytesC x)) (hy : Row w b (bytesC y)) (hlx : x.length ≤ 256) (hly : y.length ≤ 256) (hi : i ≤ x.length) (hj : j ≤ y.length) :
    Calls Ydom.prog 32 #[.slice a i ca, .slice b j cb] w fun e w' => e = .returned (.int .i64 (dp x y i j)) ∧ Below w.heap.size w w' := by
  have e1 : (x.take i).length = i := by simp; omega
  have e2 : (y.take j).length = j := by simp; omega
  have h1 : Row w a (bytesC (x.take i)) := by
    have := hx.head i
    rwa [show (bytesC x).take i = bytesC (x.take i) by simp [bytesC, List.map_take]] at this
  have h2 : Row w b (bytesC (y.take j)) := by
    have := hy.head j
    rwa [show (bytesC y).take j = bytesC (y.take j) by simp [bytesC, List.map_take]] at this
  have := ldist_calls a b ca cb (x.take i) (y.take j) w h1 h2 (by omega) (by omega)
  rw [e1, e2, dp_take x y i j i j (Nat.le_refl _) (Nat.le_refl _)] at this
  exact this

theorem set3_far {w5 : World} {q : Nat} {k x y v : Value} {p : Addr} (h : w5.cell? p = some v) (hp : p.block ≠ q) : (((w5.setCell ⟨q, 0, none⟩ k).setCell ⟨q, 1, none⟩ x).setCell ⟨q, 2, none⟩ y).cell? p = some v := by
  rw [World.cell?_of_block (Below.heap_setCell _ _ _ _ hp), World.cell?_of_block (Below.heap_setCell _ _ _ _ hp), World.cell?_of_block (Below.heap_setCell _ _ _ _ hp)]
  exact h

theorem set3_at {w5 : World} {q : Nat} {k x y a b c : Value} (h0 : w5.cell? ⟨q, 0, none⟩ = some a) (h1 : w5.cell? ⟨q, 1, none⟩ = some b) (h2 : w5.cell? ⟨q, 2, none⟩ = some c) :
    (((w5.setCell ⟨q, 0, none⟩ k).setCell ⟨q, 1, none⟩ x).setCell ⟨q, 2, none⟩ y).cell? ⟨q, 0, none⟩ = some k ∧ (((w5.setCell ⟨q, 0, none⟩ k).setCell ⟨q, 1, none⟩ x).setCell ⟨q, 2, none⟩ y).cell? ⟨q, 1, none⟩ = some x ∧
      (((w5.setCell ⟨q, 0, none⟩ k).setCell ⟨q, 1, none⟩ x).setCell ⟨q, 2, none⟩ y).cell? ⟨q, 2, none⟩ = some y := by
  have n01 : (⟨q, 0, none⟩ : Addr) ≠ ⟨q, 1, none⟩ := by simp
  have n02 : (⟨q, 0, none⟩ : Addr) ≠ ⟨q, 2, none⟩ := by simp
  have n12 : (⟨q, 1, none⟩ : Addr) ≠ ⟨q, 2, none⟩ := by simp
  refine ⟨?_, ?_, ?_⟩
  · rw [World.cell?_setCell_other (h := n02.symm), World.cell?_setCell_other (h := n01.symm)]
    exact World.cell?_setCell_same' _ _ _ (by rw [h0]; rfl)
  · rw [World.cell?_setCell_other (h := n12.symm)]
    exact World.cell?_setCell_same' _ _ _ (by rw [World.cell?_setCell_other (h := n01), h1]; rfl)
  · exact World.cell?_setCell_same' _ _ _ (by rw [World.cell?_setCell_other (h := n12), World.cell?_setCell_other (h := n02), h2]; rfl)


set_option linter.unusedVariables false in
set_option maxHeartbeats 8000000 in
set_option maxRecDepth 100000 in
theorem lchoice_walk (a : Option Addr) (ca : Nat) (x : List Int) (b : Option Addr) (cb : Nat) (y : List Int) (w : World) (hx : Row w a (bytesC x)) (bx : ∀ z ∈ x, (Lit.int .u8 z).wf = true) (nx : a = none → x.length = 0 ∧ ca = 0) (lx : x.length ≤ ca)
    (hy : Row w b (bytesC y)) (bY : ∀ z ∈ y, (Lit.int .u8 z).wf = true) (ny : b = none → y.length = 0 ∧ cb = 0) (ly : y.length ≤ cb) :
    Calls Ydom.prog 14 #[.slice a x.length ca, .slice b y.length cb] w fun e w' => e = .returned (.bool true) ∧ Below w.heap.size w w' := by
  clear bx nx bY ny
  by_cases h1 : 256 < x.length
  · go_enter Ydom.func14, Ydom.ntmps14
    go_wp2
    go_ret
    exact ⟨rfl, Below.refl _ _⟩
  by_cases h2 : 256 < y.length
  · go_enter Ydom.func14, Ydom.ntmps14
    go_wp2
    go_ret
    exact ⟨rfl, Below.refl _ _⟩
  go_enter Ydom.func14, Ydom.ntmps14
  go_wp2_with fail
  refine (script_calls a b ca cb x y w hx hy (by omega) (by omega)).mono ?_
  rintro e w1 ⟨os, a1, c1, rfl, r1, bk, b1⟩
  have hl := back_len bk
  have hl' : os.length ≤ 512 := by omega
  have hx1 := hx.below b1 (Nat.le_refl _)
  have hy1 := hy.below b1 (Nat.le_refl _)
  have hbs := b1.size
  have BK : Hid (Back x y x.length y.length os) := bk
  clear bk hl hx hy
  go_wp2
  go_loopw [6, 7, 8] (fun iv jv kv wr => ∃ m i j : Nat, m ≤ os.length ∧ kv = .int .i64 ((m : Int) - 1) ∧ iv = .int .i64 i ∧ jv = .int .i64 j ∧ i ≤ x.length ∧ j ≤ y.length ∧ Back x y i j (os.take m) ∧ Below w1.heap.size w1 wr) (fun _ _ kv _ => (intOf kv + 1).toNat)
  case atStart => exact ⟨os.length, x.length, y.length, Nat.le_refl _, rfl, rfl, rfl, Nat.le_refl _, Nat.le_refl _, by rw [List.take_length]; exact BK.out, Below.refl _ _⟩
  case round =>
    clear BK
    obtain ⟨m, i, j, hm, rfl, rfl, rfl, hi, hj, hbk, hb⟩ := hrel
    match m, hm, hbk with
    | 0, hm, hbk =>
      rw [List.take_zero] at hbk
      obtain ⟨rfl, rfl⟩ := back_nil hbk
      have B : Below w.heap.size w wr := b1.trans (hb.mono hbs)
      have z0 : ((0 : Nat) : Int) = 0 := rfl
      have z1 : (0 : Int) - 1 = -1 := rfl
      simp only [z0, z1]
      clear hbk b1 hb r1 hx1 hy1
      go_wp2
      go_ret
      exact ⟨rfl, B⟩
    | m + 1, hm, hbk =>
      have zk : ((m + 1 : Nat) : Int) - 1 = (m : Int) := by omega
      rw [zk]
      obtain ⟨⟨ok, ox, oy⟩, ho⟩ := op_at (os := os) (k := m) (by omega)
      rw [take_succ_get ho] at hbk
      have hlo : (m : Int) < (os.length : Int) := by omega
      obtain ⟨b9, off, rfl, hc⟩ := (r1.below' hb).ops (by omega)
      obtain ⟨p0, p1, p2⟩ := hc m _ ho
      simp only at p0 p1 p2
      have lb9 : b9 < wr.heap.size := World.block_lt_of_cell? wr _ p0
      clear hc ho zk
      have hcase := back_last hbk
      clear hbk
      rcases hcase with ⟨i', j', c, rfl, rfl, he, hxc, hyc, hbk⟩ | ⟨i', j', c, d, rfl, rfl, he, hxc, hyd, hcd, hdp, hbk⟩ | ⟨i', c, rfl, he, hxc, hno, hdp, hbk⟩ | ⟨j', d, rfl, he, hyd, hno, hbk⟩
      · cases he
        have zi : ((i' + 1 : Nat) : Int) = (i' : Int) + 1 := rfl
        have zj : ((j' + 1 : Nat) : Int) = (j' : Int) + 1 := rfl
        simp only [zi, zj]
        clear zi zj
        have t1 : ((i' : Int) + 1 == 0) = false := beq_eq_false_iff_ne.2 (by omega)
        have t2 : ((j' : Int) + 1 == 0) = false := beq_eq_false_iff_ne.2 (by omega)
        obtain ⟨bx', ox', rfl, hcx⟩ := (hx1.below' hb).bytes (by omega)
        have cx := hcx i' ox hxc
        have g1 : (i' : Int) < (x.length : Int) := by omega
        obtain ⟨by', oy', rfl, hcy⟩ := (hy1.below' hb).bytes (by omega)
        have cy := hcy j' ox hyc
        have g2 : (j' : Int) < (y.length : Int) := by omega
        have HBK : Hid (Back x y i' j' (os.take m)) := hbk
        clear hcx hcy hxc hyc hbk hx1 hy1 r1
        have hs1 := hb.size
        go_upto_region 12 with fail
        obtain ⟨w5, hw5⟩ : ∃ w5, w5 = wr.alloc (.cells #[.int .u8 0, .int .u8 0, .int .u8 0] 23) := ⟨_, rfl⟩
        rw [← hw5]
        obtain ⟨q, hq⟩ : ∃ q, q = wr.heap.size := ⟨_, rfl⟩
        rw [← hq]
        have z0 : w5.cell? ⟨q, 0, none⟩ = some (.int .u8 0) := by rw [hw5, hq]; simp
        have z1 : w5.cell? ⟨q, 1, none⟩ = some (.int .u8 0) := by rw [hw5, hq]; simp
        have z2 : w5.cell? ⟨q, 2, none⟩ = some (.int .u8 0) := by rw [hw5, hq]; simp
        have y0 : w5.frozen? ⟨q, 0, none⟩ = false := by rw [hw5, hq]; exact World.frozen?_alloc_new _ _ _ _
        have y1 : w5.frozen? ⟨q, 1, none⟩ = false := by rw [hw5, hq]; exact World.frozen?_alloc_new _ _ _ _
        have y2 : w5.frozen? ⟨q, 2, none⟩ = false := by rw [hw5, hq]; exact World.frozen?_alloc_new _ _ _ _
        have b5 : Below wr.heap.size wr w5 := by rw [hw5]; exact (Below.refl _ _).alloc (Nat.le_refl _) _
        have B5 : Below w1.heap.size w1 w5 := by rw [hw5]; exact hb.alloc hb.size _
        have hq1 : w1.heap.size ≤ q := by rw [hq]; exact hs1
        have hb9 : b9 ≠ q := by rw [hq]; omega
        replace p0 := cell_later b5 p0
        replace p1 := cell_later b5 p1
        replace p2 := cell_later b5 p2
        replace cx := cell_later b5 cx
        replace cy := cell_later b5 cy
        clear hw5 hq hb b5 lb9 hs1
        go_wp2
        go_quiet (fail)
        obtain ⟨w7, hw7⟩ : ∃ w7, w7 = w5.drewN nq := ⟨_, rfl⟩
        rw [← hw7]
        have bw7 : Below w5.heap.size w5 w7 := by rw [hw7]; exact below_dn (Below.refl _ _) _
        clear hw7
        have lq : q < w5.heap.size := World.block_lt_of_cell? w5 _ z0
        replace p0 := cell_later bw7 p0
        replace p1 := cell_later bw7 p1
        replace p2 := cell_later bw7 p2
        replace z0 := cell_later bw7 z0
        replace z1 := cell_later bw7 z1
        replace z2 := cell_later bw7 z2
        replace cx := cell_later bw7 cx
        replace cy := cell_later bw7 cy
        replace y0 : w7.frozen? ⟨q, 0, none⟩ = false := by rw [bw7.frozen lq]; exact y0
        replace y1 : w7.frozen? ⟨q, 1, none⟩ = false := by rw [bw7.frozen lq]; exact y1
        replace y2 : w7.frozen? ⟨q, 2, none⟩ = false := by rw [bw7.frozen lq]; exact y2
        replace B5 := B5.trans (bw7.mono B5.size)
        clear lq
        clear bw7
        clear cy
        go_wp2
        go_region
        obtain ⟨w6, hw6⟩ : ∃ w6, w6 = (((w7.setCell ⟨q, 0, none⟩ (.int .u8 61)).setCell ⟨q, 1, none⟩ (.int .u8 ox)).setCell ⟨q, 2, none⟩ (.int .u8 ox)) := ⟨_, rfl⟩
        rw [← hw6]
        have r0 : w6.cell? ⟨b9, off + m * 3, none⟩ = some (.int .u8 61) := by rw [hw6]; exact set3_far p0 hb9
        have r1 : w6.cell? ⟨b9, off + m * 3 + 1, none⟩ = some (.int .u8 ox) := by rw [hw6]; exact set3_far p1 hb9
        have r2 : w6.cell? ⟨b9, off + m * 3 + 2, none⟩ = some (.int .u8 ox) := by rw [hw6]; exact set3_far p2 hb9
        have S3 : w6.cell? ⟨q, 0, none⟩ = some (.int .u8 61) ∧ w6.cell? ⟨q, 1, none⟩ = some (.int .u8 ox) ∧ w6.cell? ⟨q, 2, none⟩ = some (.int .u8 ox) := by rw [hw6]; exact set3_at z0 z1 z2
        obtain ⟨s0, s1, s2⟩ := S3
        have B6 : Below w1.heap.size w1 w6 := by rw [hw6]; exact ((B5.setCell hq1 _).setCell hq1 _).setCell hq1 _
        clear hw6 p0 p1 p2 z0 z1 z2 y0 y1 y2 B5
        go_wp2
        go_quiet (fail)
        go_wp2
        go_roundw
        case rel => exact ⟨m, i', j', by omega, by go_num, by go_num, by go_num, by omega, by omega, HBK.out, below_dn B6 _⟩
        case measure => simp [intOf]
      · cases he
        have zi : ((i' + 1 : Nat) : Int) = (i' : Int) + 1 := rfl
        have zj : ((j' + 1 : Nat) : Int) = (j' : Int) + 1 := rfl
        simp only [zi, zj]
        clear zi zj
        have t1 : ((i' : Int) + 1 == 0) = false := beq_eq_false_iff_ne.2 (by omega)
        have t2 : ((j' : Int) + 1 == 0) = false := beq_eq_false_iff_ne.2 (by omega)
        obtain ⟨bx', ox', rfl, hcx⟩ := (hx1.below' hb).bytes (by omega)
        have cx := hcx i' ox hxc
        have g1 : (i' : Int) < (x.length : Int) := by omega
        obtain ⟨by', oy', rfl, hcy⟩ := (hy1.below' hb).bytes (by omega)
        have cy := hcy j' oy hyd
        have g2 : (j' : Int) < (y.length : Int) := by omega
        have HBK : Hid (Back x y i' j' (os.take m)) := hbk
        have t3 : (ox == oy) = false := beq_eq_false_iff_ne.2 hcd
        have HX : Hid (Row wr (some ⟨bx', ox', none⟩) (bytesC x)) := hx1.below' hb
        have HY : Hid (Row wr (some ⟨by', oy', none⟩) (bytesC y)) := hy1.below' hb
        have LD : Hid (∀ (i j : Nat) (D : Int) (w' : World), i ≤ x.length → j ≤ y.length → D = dp x y i j → Row w' (some ⟨bx', ox', none⟩) (bytesC x) → Row w' (some ⟨by', oy', none⟩) (bytesC y) → Calls Ydom.prog 32 #[.slice (some ⟨bx', ox', none⟩) i ca, .slice (some ⟨by', oy', none⟩) j cb] w' fun e w'' => e = .returned (.int .i64 D) ∧ Below w'.heap.size w' w'') := fun i j D w' hi hj hD h h' => by
          rw [hD]; exact ldist_heads _ _ ca cb x y i j w' h h' (by omega) (by omega) hi hj
        have bd1 := dp_bd x y (i' + 1) (j' + 1) (by omega) (by omega)
        have bd2 := dp_bd x y i' j' (by omega) (by omega)
        have bd3 := dp_bd x y i' (j' + 1) (by omega) (by omega)
        obtain ⟨D1, hD1⟩ : ∃ D, D = dp x y (i' + 1) (j' + 1) := ⟨_, rfl⟩
        obtain ⟨D2, hD2⟩ : ∃ D, D = dp x y i' j' := ⟨_, rfl⟩
        obtain ⟨D3, hD3⟩ : ∃ D, D = dp x y i' (j' + 1) := ⟨_, rfl⟩
        rw [← hD1] at bd1
        rw [← hD2] at bd2
        rw [← hD3] at bd3
        have t4 : (D2 == D1 - 1) = true := by rw [hD1, hD2, hdp]; simp
        have HD1 : Hid (D1 = dp x y (i' + 1) (j' + 1)) := hD1
        have HD2 : Hid (D2 = dp x y i' j') := hD2
        have HD3 : Hid (D3 = dp x y i' (j' + 1)) := hD3
        have li : i' + 1 ≤ ca := by omega
        have lj : j' + 1 ≤ cb := by omega
        clear hD1 hD2 hD3
        clear hcx hcy hxc hyd hcd hbk hdp hx1 hy1 r1
        have hs1 := hb.size
        go_upto_region 12 with fail
        obtain ⟨w5, hw5⟩ : ∃ w5, w5 = wr.alloc (.cells #[.int .u8 0, .int .u8 0, .int .u8 0] 23) := ⟨_, rfl⟩
        rw [← hw5]
        obtain ⟨q, hq⟩ : ∃ q, q = wr.heap.size := ⟨_, rfl⟩
        rw [← hq]
        have z0 : w5.cell? ⟨q, 0, none⟩ = some (.int .u8 0) := by rw [hw5, hq]; simp
        have z1 : w5.cell? ⟨q, 1, none⟩ = some (.int .u8 0) := by rw [hw5, hq]; simp
        have z2 : w5.cell? ⟨q, 2, none⟩ = some (.int .u8 0) := by rw [hw5, hq]; simp
        have y0 : w5.frozen? ⟨q, 0, none⟩ = false := by rw [hw5, hq]; exact World.frozen?_alloc_new _ _ _ _
        have y1 : w5.frozen? ⟨q, 1, none⟩ = false := by rw [hw5, hq]; exact World.frozen?_alloc_new _ _ _ _
        have y2 : w5.frozen? ⟨q, 2, none⟩ = false := by rw [hw5, hq]; exact World.frozen?_alloc_new _ _ _ _
        have b5 : Below wr.heap.size wr w5 := by rw [hw5]; exact (Below.refl _ _).alloc (Nat.le_refl _) _
        have B5 : Below w1.heap.size w1 w5 := by rw [hw5]; exact hb.alloc hb.size _
        have hq1 : w1.heap.size ≤ q := by rw [hq]; exact hs1
        have hb9 : b9 ≠ q := by rw [hq]; omega
        replace p0 := cell_later b5 p0
        replace p1 := cell_later b5 p1
        replace p2 := cell_later b5 p2
        replace cx := cell_later b5 cx
        replace cy := cell_later b5 cy
        replace HX : Hid (Row w5 (some ⟨bx', ox', none⟩) (bytesC x)) := HX.out.below b5 (Nat.le_refl _)
        replace HY : Hid (Row w5 (some ⟨by', oy', none⟩) (bytesC y)) := HY.out.below b5 (Nat.le_refl _)
        clear hw5 hq hb b5 lb9 hs1
        go_wp2
        go_quiet (fail)
        obtain ⟨w7, hw7⟩ : ∃ w7, w7 = w5.drewN nq := ⟨_, rfl⟩
        rw [← hw7]
        have bw7 : Below w5.heap.size w5 w7 := by rw [hw7]; exact below_dn (Below.refl _ _) _
        clear hw7
        have lq : q < w5.heap.size := World.block_lt_of_cell? w5 _ z0
        replace p0 := cell_later bw7 p0
        replace p1 := cell_later bw7 p1
        replace p2 := cell_later bw7 p2
        replace z0 := cell_later bw7 z0
        replace z1 := cell_later bw7 z1
        replace z2 := cell_later bw7 z2
        replace cx := cell_later bw7 cx
        replace cy := cell_later bw7 cy
        replace y0 : w7.frozen? ⟨q, 0, none⟩ = false := by rw [bw7.frozen lq]; exact y0
        replace y1 : w7.frozen? ⟨q, 1, none⟩ = false := by rw [bw7.frozen lq]; exact y1
        replace y2 : w7.frozen? ⟨q, 2, none⟩ = false := by rw [bw7.frozen lq]; exact y2
        replace HX : Hid (Row w7 (some ⟨bx', ox', none⟩) (bytesC x)) := HX.out.below bw7 (Nat.le_refl _)
        replace HY : Hid (Row w7 (some ⟨by', oy', none⟩) (bytesC y)) := HY.out.below bw7 (Nat.le_refl _)
        replace B5 := B5.trans (bw7.mono B5.size)
        clear lq
        clear bw7
        go_wp2_with fail
        have hne : Nonempty (Later w7) := ⟨⟨w7, Below.refl _ _⟩⟩
        refine wp_region_later (by kernel_rfl) (by kernel_rfl) ?_
        repeat (go_big_quiet_step (first | (go_at_call 32; exact calls_later (LD.out (i' + 1) (j' + 1) D1 _ (by omega) (by omega) HD1.out (Later.row HX.out _) (Later.row HY.out _)))))
        refine wpQuiet_nil ?_
        rintro _ ⟨w8', rfl⟩
        clear hne
        obtain ⟨w8, bw8⟩ := w8'
        simp only
        have lq : q < w7.heap.size := World.block_lt_of_cell? w7 _ z0
        replace p0 := cell_later bw8 p0
        replace p1 := cell_later bw8 p1
        replace p2 := cell_later bw8 p2
        replace z0 := cell_later bw8 z0
        replace z1 := cell_later bw8 z1
        replace z2 := cell_later bw8 z2
        replace cx := cell_later bw8 cx
        replace cy := cell_later bw8 cy
        replace y0 : w8.frozen? ⟨q, 0, none⟩ = false := by rw [bw8.frozen lq]; exact y0
        replace y1 : w8.frozen? ⟨q, 1, none⟩ = false := by rw [bw8.frozen lq]; exact y1
        replace y2 : w8.frozen? ⟨q, 2, none⟩ = false := by rw [bw8.frozen lq]; exact y2
        replace HX : Hid (Row w8 (some ⟨bx', ox', none⟩) (bytesC x)) := HX.out.below bw8 (Nat.le_refl _)
        replace HY : Hid (Row w8 (some ⟨by', oy', none⟩) (bytesC y)) := HY.out.below bw8 (Nat.le_refl _)
        replace B5 := B5.trans (bw8.mono B5.size)
        clear lq
        clear bw8
        go_wp2_with fail
        have hne : Nonempty (Later w8) := ⟨⟨w8, Below.refl _ _⟩⟩
        refine wp_region_later (by kernel_rfl) (by kernel_rfl) ?_
        repeat (go_big_quiet_step (first | (go_at_call 32; exact calls_later (LD.out (i') (j') D2 _ (by omega) (by omega) HD2.out (Later.row HX.out _) (Later.row HY.out _)))))
        refine wpQuiet_nil ?_
        rintro _ ⟨w9', rfl⟩
        clear hne
        obtain ⟨w9, bw9⟩ := w9'
        simp only
        have lq : q < w8.heap.size := World.block_lt_of_cell? w8 _ z0
        replace p0 := cell_later bw9 p0
        replace p1 := cell_later bw9 p1
        replace p2 := cell_later bw9 p2
        replace z0 := cell_later bw9 z0
        replace z1 := cell_later bw9 z1
        replace z2 := cell_later bw9 z2
        replace cx := cell_later bw9 cx
        replace cy := cell_later bw9 cy
        replace y0 : w9.frozen? ⟨q, 0, none⟩ = false := by rw [bw9.frozen lq]; exact y0
        replace y1 : w9.frozen? ⟨q, 1, none⟩ = false := by rw [bw9.frozen lq]; exact y1
        replace y2 : w9.frozen? ⟨q, 2, none⟩ = false := by rw [bw9.frozen lq]; exact y2
        replace HX : Hid (Row w9 (some ⟨bx', ox', none⟩) (bytesC x)) := HX.out.below bw9 (Nat.le_refl _)
        replace HY : Hid (Row w9 (some ⟨by', oy', none⟩) (bytesC y)) := HY.out.below bw9 (Nat.le_refl _)
        replace B5 := B5.trans (bw9.mono B5.size)
        clear lq
        clear bw9
        clear HX HY LD HD1 HD2 HD3
        go_wp2
        go_region
        obtain ⟨w6, hw6⟩ : ∃ w6, w6 = (((w9.setCell ⟨q, 0, none⟩ (.int .u8 126)).setCell ⟨q, 1, none⟩ (.int .u8 ox)).setCell ⟨q, 2, none⟩ (.int .u8 oy)) := ⟨_, rfl⟩
        rw [← hw6]
        have r0 : w6.cell? ⟨b9, off + m * 3, none⟩ = some (.int .u8 126) := by rw [hw6]; exact set3_far p0 hb9
        have r1 : w6.cell? ⟨b9, off + m * 3 + 1, none⟩ = some (.int .u8 ox) := by rw [hw6]; exact set3_far p1 hb9
        have r2 : w6.cell? ⟨b9, off + m * 3 + 2, none⟩ = some (.int .u8 oy) := by rw [hw6]; exact set3_far p2 hb9
        have S3 : w6.cell? ⟨q, 0, none⟩ = some (.int .u8 126) ∧ w6.cell? ⟨q, 1, none⟩ = some (.int .u8 ox) ∧ w6.cell? ⟨q, 2, none⟩ = some (.int .u8 oy) := by rw [hw6]; exact set3_at z0 z1 z2
        obtain ⟨s0, s1, s2⟩ := S3
        have B6 : Below w1.heap.size w1 w6 := by rw [hw6]; exact ((B5.setCell hq1 _).setCell hq1 _).setCell hq1 _
        clear hw6 p0 p1 p2 z0 z1 z2 y0 y1 y2 B5
        go_wp2
        go_quiet (fail)
        go_wp2
        go_roundw
        case rel => exact ⟨m, i', j', by omega, by go_num, by go_num, by go_num, by omega, by omega, HBK.out, below_dn B6 _⟩
        case measure => simp [intOf]
      · cases he
        match j, hj, hno, hdp, hbk with
        | 0, hj, hno, hdp, hbk =>
          clear hno hdp
          have zi : ((i' + 1 : Nat) : Int) = (i' : Int) + 1 := rfl
          have zj : ((0 : Nat) : Int) = 0 := rfl
          simp only [zi, zj]
          clear zi zj
          have t1 : ((i' : Int) + 1 == 0) = false := beq_eq_false_iff_ne.2 (by omega)
          obtain ⟨bx', ox', rfl, hcx⟩ := (hx1.below' hb).bytes (by omega)
          have cx := hcx i' ox hxc
          have g1 : (i' : Int) < (x.length : Int) := by omega
          have HBK : Hid (Back x y i' 0 (os.take m)) := hbk
          clear hcx hxc hbk hx1 hy1 r1
          have hs1 := hb.size
          go_upto_region 12 with fail
          obtain ⟨w5, hw5⟩ : ∃ w5, w5 = wr.alloc (.cells #[.int .u8 0, .int .u8 0, .int .u8 0] 23) := ⟨_, rfl⟩
          rw [← hw5]
          obtain ⟨q, hq⟩ : ∃ q, q = wr.heap.size := ⟨_, rfl⟩
          rw [← hq]
          have z0 : w5.cell? ⟨q, 0, none⟩ = some (.int .u8 0) := by rw [hw5, hq]; simp
          have z1 : w5.cell? ⟨q, 1, none⟩ = some (.int .u8 0) := by rw [hw5, hq]; simp
          have z2 : w5.cell? ⟨q, 2, none⟩ = some (.int .u8 0) := by rw [hw5, hq]; simp
          have y0 : w5.frozen? ⟨q, 0, none⟩ = false := by rw [hw5, hq]; exact World.frozen?_alloc_new _ _ _ _
          have y1 : w5.frozen? ⟨q, 1, none⟩ = false := by rw [hw5, hq]; exact World.frozen?_alloc_new _ _ _ _
          have y2 : w5.frozen? ⟨q, 2, none⟩ = false := by rw [hw5, hq]; exact World.frozen?_alloc_new _ _ _ _
          have b5 : Below wr.heap.size wr w5 := by rw [hw5]; exact (Below.refl _ _).alloc (Nat.le_refl _) _
          have B5 : Below w1.heap.size w1 w5 := by rw [hw5]; exact hb.alloc hb.size _
          have hq1 : w1.heap.size ≤ q := by rw [hq]; exact hs1
          have hb9 : b9 ≠ q := by rw [hq]; omega
          replace p0 := cell_later b5 p0
          replace p1 := cell_later b5 p1
          replace p2 := cell_later b5 p2
          replace cx := cell_later b5 cx
          clear hw5 hq hb b5 lb9 hs1
          go_wp2
          obtain ⟨w6, hw6⟩ : ∃ w6, w6 = (((w5.setCell ⟨q, 0, none⟩ (.int .u8 45)).setCell ⟨q, 1, none⟩ (.int .u8 ox)).setCell ⟨q, 2, none⟩ (.int .u8 0)) := ⟨_, rfl⟩
          rw [← hw6]
          have r0 : w6.cell? ⟨b9, off + m * 3, none⟩ = some (.int .u8 45) := by rw [hw6]; exact set3_far p0 hb9
          have r1 : w6.cell? ⟨b9, off + m * 3 + 1, none⟩ = some (.int .u8 ox) := by rw [hw6]; exact set3_far p1 hb9
          have r2 : w6.cell? ⟨b9, off + m * 3 + 2, none⟩ = some (.int .u8 0) := by rw [hw6]; exact set3_far p2 hb9
          have S3 : w6.cell? ⟨q, 0, none⟩ = some (.int .u8 45) ∧ w6.cell? ⟨q, 1, none⟩ = some (.int .u8 ox) ∧ w6.cell? ⟨q, 2, none⟩ = some (.int .u8 0) := by rw [hw6]; exact set3_at z0 z1 z2
          obtain ⟨s0, s1, s2⟩ := S3
          have B6 : Below w1.heap.size w1 w6 := by rw [hw6]; exact ((B5.setCell hq1 _).setCell hq1 _).setCell hq1 _
          clear hw6 p0 p1 p2 z0 z1 z2 y0 y1 y2 B5
          go_wp2
          go_quiet (fail)
          go_wp2
          go_roundw
          case rel => exact ⟨m, i', 0, by omega, by go_num, by go_num, by go_num, by omega, by omega, HBK.out, below_dn B6 _⟩
          case measure => simp [intOf]
        | j' + 1, hj, hno, hdp, hbk =>
          obtain ⟨n1, n2⟩ := hno j' rfl
          obtain ⟨dy, hyd⟩ : ∃ dy, y[j']? = some dy := ⟨_, List.getElem?_eq_getElem (by omega)⟩
          have hcd : ox ≠ dy := fun h => n1 (by rw [hyd, h])
          clear hno n1
          have zi : ((i' + 1 : Nat) : Int) = (i' : Int) + 1 := rfl
          have zj : ((j' + 1 : Nat) : Int) = (j' : Int) + 1 := rfl
          simp only [zi, zj]
          clear zi zj
          have t1 : ((i' : Int) + 1 == 0) = false := beq_eq_false_iff_ne.2 (by omega)
          have t2 : ((j' : Int) + 1 == 0) = false := beq_eq_false_iff_ne.2 (by omega)
          obtain ⟨bx', ox', rfl, hcx⟩ := (hx1.below' hb).bytes (by omega)
          have cx := hcx i' ox hxc
          have g1 : (i' : Int) < (x.length : Int) := by omega
          obtain ⟨by', oy', rfl, hcy⟩ := (hy1.below' hb).bytes (by omega)
          have cy := hcy j' dy hyd
          have g2 : (j' : Int) < (y.length : Int) := by omega
          have HBK : Hid (Back x y i' (j' + 1) (os.take m)) := hbk
          have t3 : (ox == dy) = false := beq_eq_false_iff_ne.2 hcd
          have HX : Hid (Row wr (some ⟨bx', ox', none⟩) (bytesC x)) := hx1.below' hb
          have HY : Hid (Row wr (some ⟨by', oy', none⟩) (bytesC y)) := hy1.below' hb
          have LD : Hid (∀ (i j : Nat) (D : Int) (w' : World), i ≤ x.length → j ≤ y.length → D = dp x y i j → Row w' (some ⟨bx', ox', none⟩) (bytesC x) → Row w' (some ⟨by', oy', none⟩) (bytesC y) → Calls Ydom.prog 32 #[.slice (some ⟨bx', ox', none⟩) i ca, .slice (some ⟨by', oy', none⟩) j cb] w' fun e w'' => e = .returned (.int .i64 D) ∧ Below w'.heap.size w' w'') := fun i j D w' hi hj hD h h' => by
            rw [hD]; exact ldist_heads _ _ ca cb x y i j w' h h' (by omega) (by omega) hi hj
          have bd1 := dp_bd x y (i' + 1) (j' + 1) (by omega) (by omega)
          have bd2 := dp_bd x y i' j' (by omega) (by omega)
          have bd3 := dp_bd x y i' (j' + 1) (by omega) (by omega)
          obtain ⟨D1, hD1⟩ : ∃ D, D = dp x y (i' + 1) (j' + 1) := ⟨_, rfl⟩
          obtain ⟨D2, hD2⟩ : ∃ D, D = dp x y i' j' := ⟨_, rfl⟩
          obtain ⟨D3, hD3⟩ : ∃ D, D = dp x y i' (j' + 1) := ⟨_, rfl⟩
          rw [← hD1] at bd1
          rw [← hD2] at bd2
          rw [← hD3] at bd3
          have t4 : (D2 == D1 - 1) = false := beq_eq_false_iff_ne.2 (by rw [hD1, hD2]; omega)
          have t5 : (D3 == D1 - 1) = true := by rw [hD1, hD3, hdp]; simp
          have HD1 : Hid (D1 = dp x y (i' + 1) (j' + 1)) := hD1
          have HD2 : Hid (D2 = dp x y i' j') := hD2
          have HD3 : Hid (D3 = dp x y i' (j' + 1)) := hD3
          have li : i' + 1 ≤ ca := by omega
          have lj : j' + 1 ≤ cb := by omega
          clear hD1 hD2 hD3
          clear hcx hcy hxc hyd hcd hbk hdp n2 hx1 hy1 r1
          have hs1 := hb.size
          go_upto_region 12 with fail
          obtain ⟨w5, hw5⟩ : ∃ w5, w5 = wr.alloc (.cells #[.int .u8 0, .int .u8 0, .int .u8 0] 23) := ⟨_, rfl⟩
          rw [← hw5]
          obtain ⟨q, hq⟩ : ∃ q, q = wr.heap.size := ⟨_, rfl⟩
          rw [← hq]
          have z0 : w5.cell? ⟨q, 0, none⟩ = some (.int .u8 0) := by rw [hw5, hq]; simp
          have z1 : w5.cell? ⟨q, 1, none⟩ = some (.int .u8 0) := by rw [hw5, hq]; simp
          have z2 : w5.cell? ⟨q, 2, none⟩ = some (.int .u8 0) := by rw [hw5, hq]; simp
          have y0 : w5.frozen? ⟨q, 0, none⟩ = false := by rw [hw5, hq]; exact World.frozen?_alloc_new _ _ _ _
          have y1 : w5.frozen? ⟨q, 1, none⟩ = false := by rw [hw5, hq]; exact World.frozen?_alloc_new _ _ _ _
          have y2 : w5.frozen? ⟨q, 2, none⟩ = false := by rw [hw5, hq]; exact World.frozen?_alloc_new _ _ _ _
          have b5 : Below wr.heap.size wr w5 := by rw [hw5]; exact (Below.refl _ _).alloc (Nat.le_refl _) _
          have B5 : Below w1.heap.size w1 w5 := by rw [hw5]; exact hb.alloc hb.size _
          have hq1 : w1.heap.size ≤ q := by rw [hq]; exact hs1
          have hb9 : b9 ≠ q := by rw [hq]; omega
          replace p0 := cell_later b5 p0
          replace p1 := cell_later b5 p1
          replace p2 := cell_later b5 p2
          replace cx := cell_later b5 cx
          replace cy := cell_later b5 cy
          replace HX : Hid (Row w5 (some ⟨bx', ox', none⟩) (bytesC x)) := HX.out.below b5 (Nat.le_refl _)
          replace HY : Hid (Row w5 (some ⟨by', oy', none⟩) (bytesC y)) := HY.out.below b5 (Nat.le_refl _)
          clear hw5 hq hb b5 lb9 hs1
          go_wp2
          go_quiet (fail)
          obtain ⟨w7, hw7⟩ : ∃ w7, w7 = w5.drewN nq := ⟨_, rfl⟩
          rw [← hw7]
          have bw7 : Below w5.heap.size w5 w7 := by rw [hw7]; exact below_dn (Below.refl _ _) _
          clear hw7
          have lq : q < w5.heap.size := World.block_lt_of_cell? w5 _ z0
          replace p0 := cell_later bw7 p0
          replace p1 := cell_later bw7 p1
          replace p2 := cell_later bw7 p2
          replace z0 := cell_later bw7 z0
          replace z1 := cell_later bw7 z1
          replace z2 := cell_later bw7 z2
          replace cx := cell_later bw7 cx
          replace cy := cell_later bw7 cy
          replace y0 : w7.frozen? ⟨q, 0, none⟩ = false := by rw [bw7.frozen lq]; exact y0
          replace y1 : w7.frozen? ⟨q, 1, none⟩ = false := by rw [bw7.frozen lq]; exact y1
          replace y2 : w7.frozen? ⟨q, 2, none⟩ = false := by rw [bw7.frozen lq]; exact y2
          replace HX : Hid (Row w7 (some ⟨bx', ox', none⟩) (bytesC x)) := HX.out.below bw7 (Nat.le_refl _)
          replace HY : Hid (Row w7 (some ⟨by', oy', none⟩) (bytesC y)) := HY.out.below bw7 (Nat.le_refl _)
          replace B5 := B5.trans (bw7.mono B5.size)
          clear lq
          clear bw7
          go_wp2_with fail
          have hne : Nonempty (Later w7) := ⟨⟨w7, Below.refl _ _⟩⟩
          refine wp_region_later (by kernel_rfl) (by kernel_rfl) ?_
          repeat (go_big_quiet_step (first | (go_at_call 32; exact calls_later (LD.out (i' + 1) (j' + 1) D1 _ (by omega) (by omega) HD1.out (Later.row HX.out _) (Later.row HY.out _)))))
          refine wpQuiet_nil ?_
          rintro _ ⟨w8', rfl⟩
          clear hne
          obtain ⟨w8, bw8⟩ := w8'
          simp only
          have lq : q < w7.heap.size := World.block_lt_of_cell? w7 _ z0
          replace p0 := cell_later bw8 p0
          replace p1 := cell_later bw8 p1
          replace p2 := cell_later bw8 p2
          replace z0 := cell_later bw8 z0
          replace z1 := cell_later bw8 z1
          replace z2 := cell_later bw8 z2
          replace cx := cell_later bw8 cx
          replace cy := cell_later bw8 cy
          replace y0 : w8.frozen? ⟨q, 0, none⟩ = false := by rw [bw8.frozen lq]; exact y0
          replace y1 : w8.frozen? ⟨q, 1, none⟩ = false := by rw [bw8.frozen lq]; exact y1
          replace y2 : w8.frozen? ⟨q, 2, none⟩ = false := by rw [bw8.frozen lq]; exact y2
          replace HX : Hid (Row w8 (some ⟨bx', ox', none⟩) (bytesC x)) := HX.out.below bw8 (Nat.le_refl _)
          replace HY : Hid (Row w8 (some ⟨by', oy', none⟩) (bytesC y)) := HY.out.below bw8 (Nat.le_refl _)
          replace B5 := B5.trans (bw8.mono B5.size)
          clear lq
          clear bw8
          go_wp2_with fail
          have hne : Nonempty (Later w8) := ⟨⟨w8, Below.refl _ _⟩⟩
          refine wp_region_later (by kernel_rfl) (by kernel_rfl) ?_
          repeat (go_big_quiet_step (first | (go_at_call 32; exact calls_later (LD.out (i') (j') D2 _ (by omega) (by omega) HD2.out (Later.row HX.out _) (Later.row HY.out _)))))
          refine wpQuiet_nil ?_
          rintro _ ⟨w9', rfl⟩
          clear hne
          obtain ⟨w9, bw9⟩ := w9'
          simp only
          have lq : q < w8.heap.size := World.block_lt_of_cell? w8 _ z0
          replace p0 := cell_later bw9 p0
          replace p1 := cell_later bw9 p1
          replace p2 := cell_later bw9 p2
          replace z0 := cell_later bw9 z0
          replace z1 := cell_later bw9 z1
          replace z2 := cell_later bw9 z2
          replace cx := cell_later bw9 cx
          replace cy := cell_later bw9 cy
          replace y0 : w9.frozen? ⟨q, 0, none⟩ = false := by rw [bw9.frozen lq]; exact y0
          replace y1 : w9.frozen? ⟨q, 1, none⟩ = false := by rw [bw9.frozen lq]; exact y1
          replace y2 : w9.frozen? ⟨q, 2, none⟩ = false := by rw [bw9.frozen lq]; exact y2
          replace HX : Hid (Row w9 (some ⟨bx', ox', none⟩) (bytesC x)) := HX.out.below bw9 (Nat.le_refl _)
          replace HY : Hid (Row w9 (some ⟨by', oy', none⟩) (bytesC y)) := HY.out.below bw9 (Nat.le_refl _)
          replace B5 := B5.trans (bw9.mono B5.size)
          clear lq
          clear bw9
          go_wp2_with fail
          have hne : Nonempty (Later w9) := ⟨⟨w9, Below.refl _ _⟩⟩
          refine wp_region_later (by kernel_rfl) (by kernel_rfl) ?_
          repeat (go_big_quiet_step (first | (go_at_call 32; exact calls_later (LD.out (i') (j' + 1) D3 _ (by omega) (by omega) HD3.out (Later.row HX.out _) (Later.row HY.out _)))))
          refine wpQuiet_nil ?_
          rintro _ ⟨w10', rfl⟩
          clear hne
          obtain ⟨w10, bw10⟩ := w10'
          simp only
          have lq : q < w9.heap.size := World.block_lt_of_cell? w9 _ z0
          replace p0 := cell_later bw10 p0
          replace p1 := cell_later bw10 p1
          replace p2 := cell_later bw10 p2
          replace z0 := cell_later bw10 z0
          replace z1 := cell_later bw10 z1
          replace z2 := cell_later bw10 z2
          replace cx := cell_later bw10 cx
          replace cy := cell_later bw10 cy
          replace y0 : w10.frozen? ⟨q, 0, none⟩ = false := by rw [bw10.frozen lq]; exact y0
          replace y1 : w10.frozen? ⟨q, 1, none⟩ = false := by rw [bw10.frozen lq]; exact y1
          replace y2 : w10.frozen? ⟨q, 2, none⟩ = false := by rw [bw10.frozen lq]; exact y2
          replace HX : Hid (Row w10 (some ⟨bx', ox', none⟩) (bytesC x)) := HX.out.below bw10 (Nat.le_refl _)
          replace HY : Hid (Row w10 (some ⟨by', oy', none⟩) (bytesC y)) := HY.out.below bw10 (Nat.le_refl _)
          replace B5 := B5.trans (bw10.mono B5.size)
          clear lq
          clear bw10
          clear HX HY LD HD1 HD2 HD3
          go_wp2
          obtain ⟨w6, hw6⟩ : ∃ w6, w6 = (((w10.setCell ⟨q, 0, none⟩ (.int .u8 45)).setCell ⟨q, 1, none⟩ (.int .u8 ox)).setCell ⟨q, 2, none⟩ (.int .u8 0)) := ⟨_, rfl⟩
          rw [← hw6]
          have r0 : w6.cell? ⟨b9, off + m * 3, none⟩ = some (.int .u8 45) := by rw [hw6]; exact set3_far p0 hb9
          have r1 : w6.cell? ⟨b9, off + m * 3 + 1, none⟩ = some (.int .u8 ox) := by rw [hw6]; exact set3_far p1 hb9
          have r2 : w6.cell? ⟨b9, off + m * 3 + 2, none⟩ = some (.int .u8 0) := by rw [hw6]; exact set3_far p2 hb9
          have S3 : w6.cell? ⟨q, 0, none⟩ = some (.int .u8 45) ∧ w6.cell? ⟨q, 1, none⟩ = some (.int .u8 ox) ∧ w6.cell? ⟨q, 2, none⟩ = some (.int .u8 0) := by rw [hw6]; exact set3_at z0 z1 z2
          obtain ⟨s0, s1, s2⟩ := S3
          have B6 : Below w1.heap.size w1 w6 := by rw [hw6]; exact ((B5.setCell hq1 _).setCell hq1 _).setCell hq1 _
          clear hw6 p0 p1 p2 z0 z1 z2 y0 y1 y2 B5
          go_wp2
          go_quiet (fail)
          go_wp2
          go_roundw
          case rel => exact ⟨m, i', (j' + 1), by omega, by go_num, by go_num, by go_num, by omega, by omega, HBK.out, below_dn B6 _⟩
          case measure => simp [intOf]
      · cases he
        match i, hi, hno, hbk with
        | 0, hi, hno, hbk =>
          clear hno
          have zi : ((0 : Nat) : Int) = 0 := rfl
          have zj : ((j' + 1 : Nat) : Int) = (j' : Int) + 1 := rfl
          simp only [zi, zj]
          clear zi zj
          have t2 : ((j' : Int) + 1 == 0) = false := beq_eq_false_iff_ne.2 (by omega)
          obtain ⟨by', oy', rfl, hcy⟩ := (hy1.below' hb).bytes (by omega)
          have cy := hcy j' oy hyd
          have g2 : (j' : Int) < (y.length : Int) := by omega
          have HBK : Hid (Back x y 0 j' (os.take m)) := hbk
          clear hcy hyd hbk hx1 hy1 r1
          have hs1 := hb.size
          go_upto_region 12 with fail
          obtain ⟨w5, hw5⟩ : ∃ w5, w5 = wr.alloc (.cells #[.int .u8 0, .int .u8 0, .int .u8 0] 23) := ⟨_, rfl⟩
          rw [← hw5]
          obtain ⟨q, hq⟩ : ∃ q, q = wr.heap.size := ⟨_, rfl⟩
          rw [← hq]
          have z0 : w5.cell? ⟨q, 0, none⟩ = some (.int .u8 0) := by rw [hw5, hq]; simp
          have z1 : w5.cell? ⟨q, 1, none⟩ = some (.int .u8 0) := by rw [hw5, hq]; simp
          have z2 : w5.cell? ⟨q, 2, none⟩ = some (.int .u8 0) := by rw [hw5, hq]; simp
          have y0 : w5.frozen? ⟨q, 0, none⟩ = false := by rw [hw5, hq]; exact World.frozen?_alloc_new _ _ _ _
          have y1 : w5.frozen? ⟨q, 1, none⟩ = false := by rw [hw5, hq]; exact World.frozen?_alloc_new _ _ _ _
          have y2 : w5.frozen? ⟨q, 2, none⟩ = false := by rw [hw5, hq]; exact World.frozen?_alloc_new _ _ _ _
          have b5 : Below wr.heap.size wr w5 := by rw [hw5]; exact (Below.refl _ _).alloc (Nat.le_refl _) _
          have B5 : Below w1.heap.size w1 w5 := by rw [hw5]; exact hb.alloc hb.size _
          have hq1 : w1.heap.size ≤ q := by rw [hq]; exact hs1
          have hb9 : b9 ≠ q := by rw [hq]; omega
          replace p0 := cell_later b5 p0
          replace p1 := cell_later b5 p1
          replace p2 := cell_later b5 p2
          replace cy := cell_later b5 cy
          clear hw5 hq hb b5 lb9 hs1
          go_wp2
          obtain ⟨w6, hw6⟩ : ∃ w6, w6 = (((w5.setCell ⟨q, 0, none⟩ (.int .u8 43)).setCell ⟨q, 1, none⟩ (.int .u8 0)).setCell ⟨q, 2, none⟩ (.int .u8 oy)) := ⟨_, rfl⟩
          rw [← hw6]
          have r0 : w6.cell? ⟨b9, off + m * 3, none⟩ = some (.int .u8 43) := by rw [hw6]; exact set3_far p0 hb9
          have r1 : w6.cell? ⟨b9, off + m * 3 + 1, none⟩ = some (.int .u8 0) := by rw [hw6]; exact set3_far p1 hb9
          have r2 : w6.cell? ⟨b9, off + m * 3 + 2, none⟩ = some (.int .u8 oy) := by rw [hw6]; exact set3_far p2 hb9
          have S3 : w6.cell? ⟨q, 0, none⟩ = some (.int .u8 43) ∧ w6.cell? ⟨q, 1, none⟩ = some (.int .u8 0) ∧ w6.cell? ⟨q, 2, none⟩ = some (.int .u8 oy) := by rw [hw6]; exact set3_at z0 z1 z2
          obtain ⟨s0, s1, s2⟩ := S3
          have B6 : Below w1.heap.size w1 w6 := by rw [hw6]; exact ((B5.setCell hq1 _).setCell hq1 _).setCell hq1 _
          clear hw6 p0 p1 p2 z0 z1 z2 y0 y1 y2 B5
          go_wp2
          go_quiet (fail)
          go_wp2
          go_roundw
          case rel => exact ⟨m, 0, j', by omega, by go_num, by go_num, by go_num, by omega, by omega, HBK.out, below_dn B6 _⟩
          case measure => simp [intOf]
        | i' + 1, hi, hno, hbk =>
          obtain ⟨n1, n2, n3⟩ := hno i' rfl
          obtain ⟨dx, hxc⟩ : ∃ dx, x[i']? = some dx := ⟨_, List.getElem?_eq_getElem (by omega)⟩
          have hcd : dx ≠ oy := fun h => n1 (by rw [hxc, h])
          clear hno n1
          have zi : ((i' + 1 : Nat) : Int) = (i' : Int) + 1 := rfl
          have zj : ((j' + 1 : Nat) : Int) = (j' : Int) + 1 := rfl
          simp only [zi, zj]
          clear zi zj
          have t1 : ((i' : Int) + 1 == 0) = false := beq_eq_false_iff_ne.2 (by omega)
          have t2 : ((j' : Int) + 1 == 0) = false := beq_eq_false_iff_ne.2 (by omega)
          obtain ⟨bx', ox', rfl, hcx⟩ := (hx1.below' hb).bytes (by omega)
          have cx := hcx i' dx hxc
          have g1 : (i' : Int) < (x.length : Int) := by omega
          obtain ⟨by', oy', rfl, hcy⟩ := (hy1.below' hb).bytes (by omega)
          have cy := hcy j' oy hyd
          have g2 : (j' : Int) < (y.length : Int) := by omega
          have HBK : Hid (Back x y (i' + 1) j' (os.take m)) := hbk
          have t3 : (dx == oy) = false := beq_eq_false_iff_ne.2 hcd
          have HX : Hid (Row wr (some ⟨bx', ox', none⟩) (bytesC x)) := hx1.below' hb
          have HY : Hid (Row wr (some ⟨by', oy', none⟩) (bytesC y)) := hy1.below' hb
          have LD : Hid (∀ (i j : Nat) (D : Int) (w' : World), i ≤ x.length → j ≤ y.length → D = dp x y i j → Row w' (some ⟨bx', ox', none⟩) (bytesC x) → Row w' (some ⟨by', oy', none⟩) (bytesC y) → Calls Ydom.prog 32 #[.slice (some ⟨bx', ox', none⟩) i ca, .slice (some ⟨by', oy', none⟩) j cb] w' fun e w'' => e = .returned (.int .i64 D) ∧ Below w'.heap.size w' w'') := fun i j D w' hi hj hD h h' => by
            rw [hD]; exact ldist_heads _ _ ca cb x y i j w' h h' (by omega) (by omega) hi hj
          have bd1 := dp_bd x y (i' + 1) (j' + 1) (by omega) (by omega)
          have bd2 := dp_bd x y i' j' (by omega) (by omega)
          have bd3 := dp_bd x y i' (j' + 1) (by omega) (by omega)
          obtain ⟨D1, hD1⟩ : ∃ D, D = dp x y (i' + 1) (j' + 1) := ⟨_, rfl⟩
          obtain ⟨D2, hD2⟩ : ∃ D, D = dp x y i' j' := ⟨_, rfl⟩
          obtain ⟨D3, hD3⟩ : ∃ D, D = dp x y i' (j' + 1) := ⟨_, rfl⟩
          rw [← hD1] at bd1
          rw [← hD2] at bd2
          rw [← hD3] at bd3
          have t4 : (D2 == D1 - 1) = false := beq_eq_false_iff_ne.2 (by rw [hD1, hD2]; omega)
          have t5 : (D3 == D1 - 1) = false := beq_eq_false_iff_ne.2 (by rw [hD1, hD3]; omega)
          have HD1 : Hid (D1 = dp x y (i' + 1) (j' + 1)) := hD1
          have HD2 : Hid (D2 = dp x y i' j') := hD2
          have HD3 : Hid (D3 = dp x y i' (j' + 1)) := hD3
          have li : i' + 1 ≤ ca := by omega
          have lj : j' + 1 ≤ cb := by omega
          clear hD1 hD2 hD3
          clear hcx hcy hxc hyd hcd hbk n2 n3 hx1 hy1 r1
          have hs1 := hb.size
          go_upto_region 12 with fail
          obtain ⟨w5, hw5⟩ : ∃ w5, w5 = wr.alloc (.cells #[.int .u8 0, .int .u8 0, .int .u8 0] 23) := ⟨_, rfl⟩
          rw [← hw5]
          obtain ⟨q, hq⟩ : ∃ q, q = wr.heap.size := ⟨_, rfl⟩
          rw [← hq]
          have z0 : w5.cell? ⟨q, 0, none⟩ = some (.int .u8 0) := by rw [hw5, hq]; simp
          have z1 : w5.cell? ⟨q, 1, none⟩ = some (.int .u8 0) := by rw [hw5, hq]; simp
          have z2 : w5.cell? ⟨q, 2, none⟩ = some (.int .u8 0) := by rw [hw5, hq]; simp
          have y0 : w5.frozen? ⟨q, 0, none⟩ = false := by rw [hw5, hq]; exact World.frozen?_alloc_new _ _ _ _
          have y1 : w5.frozen? ⟨q, 1, none⟩ = false := by rw [hw5, hq]; exact World.frozen?_alloc_new _ _ _ _
          have y2 : w5.frozen? ⟨q, 2, none⟩ = false := by rw [hw5, hq]; exact World.frozen?_alloc_new _ _ _ _
          have b5 : Below wr.heap.size wr w5 := by rw [hw5]; exact (Below.refl _ _).alloc (Nat.le_refl _) _
          have B5 : Below w1.heap.size w1 w5 := by rw [hw5]; exact hb.alloc hb.size _
          have hq1 : w1.heap.size ≤ q := by rw [hq]; exact hs1
          have hb9 : b9 ≠ q := by rw [hq]; omega
          replace p0 := cell_later b5 p0
          replace p1 := cell_later b5 p1
          replace p2 := cell_later b5 p2
          replace cx := cell_later b5 cx
          replace cy := cell_later b5 cy
          replace HX : Hid (Row w5 (some ⟨bx', ox', none⟩) (bytesC x)) := HX.out.below b5 (Nat.le_refl _)
          replace HY : Hid (Row w5 (some ⟨by', oy', none⟩) (bytesC y)) := HY.out.below b5 (Nat.le_refl _)
          clear hw5 hq hb b5 lb9 hs1
          go_wp2
          go_quiet (fail)
          obtain ⟨w7, hw7⟩ : ∃ w7, w7 = w5.drewN nq := ⟨_, rfl⟩
          rw [← hw7]
          have bw7 : Below w5.heap.size w5 w7 := by rw [hw7]; exact below_dn (Below.refl _ _) _
          clear hw7
          have lq : q < w5.heap.size := World.block_lt_of_cell? w5 _ z0
          replace p0 := cell_later bw7 p0
          replace p1 := cell_later bw7 p1
          replace p2 := cell_later bw7 p2
          replace z0 := cell_later bw7 z0
          replace z1 := cell_later bw7 z1
          replace z2 := cell_later bw7 z2
          replace cx := cell_later bw7 cx
          replace cy := cell_later bw7 cy
          replace y0 : w7.frozen? ⟨q, 0, none⟩ = false := by rw [bw7.frozen lq]; exact y0
          replace y1 : w7.frozen? ⟨q, 1, none⟩ = false := by rw [bw7.frozen lq]; exact y1
          replace y2 : w7.frozen? ⟨q, 2, none⟩ = false := by rw [bw7.frozen lq]; exact y2
          replace HX : Hid (Row w7 (some ⟨bx', ox', none⟩) (bytesC x)) := HX.out.below bw7 (Nat.le_refl _)
          replace HY : Hid (Row w7 (some ⟨by', oy', none⟩) (bytesC y)) := HY.out.below bw7 (Nat.le_refl _)
          replace B5 := B5.trans (bw7.mono B5.size)
          clear lq
          clear bw7
          go_wp2_with fail
          have hne : Nonempty (Later w7) := ⟨⟨w7, Below.refl _ _⟩⟩
          refine wp_region_later (by kernel_rfl) (by kernel_rfl) ?_
          repeat (go_big_quiet_step (first | (go_at_call 32; exact calls_later (LD.out (i' + 1) (j' + 1) D1 _ (by omega) (by omega) HD1.out (Later.row HX.out _) (Later.row HY.out _)))))
          refine wpQuiet_nil ?_
          rintro _ ⟨w8', rfl⟩
          clear hne
          obtain ⟨w8, bw8⟩ := w8'
          simp only
          have lq : q < w7.heap.size := World.block_lt_of_cell? w7 _ z0
          replace p0 := cell_later bw8 p0
          replace p1 := cell_later bw8 p1
          replace p2 := cell_later bw8 p2
          replace z0 := cell_later bw8 z0
          replace z1 := cell_later bw8 z1
          replace z2 := cell_later bw8 z2
          replace cx := cell_later bw8 cx
          replace cy := cell_later bw8 cy
          replace y0 : w8.frozen? ⟨q, 0, none⟩ = false := by rw [bw8.frozen lq]; exact y0
          replace y1 : w8.frozen? ⟨q, 1, none⟩ = false := by rw [bw8.frozen lq]; exact y1
          replace y2 : w8.frozen? ⟨q, 2, none⟩ = false := by rw [bw8.frozen lq]; exact y2
          replace HX : Hid (Row w8 (some ⟨bx', ox', none⟩) (bytesC x)) := HX.out.below bw8 (Nat.le_refl _)
          replace HY : Hid (Row w8 (some ⟨by', oy', none⟩) (bytesC y)) := HY.out.below bw8 (Nat.le_refl _)
          replace B5 := B5.trans (bw8.mono B5.size)
          clear lq
          clear bw8
          go_wp2_with fail
          have hne : Nonempty (Later w8) := ⟨⟨w8, Below.refl _ _⟩⟩
          refine wp_region_later (by kernel_rfl) (by kernel_rfl) ?_
          repeat (go_big_quiet_step (first | (go_at_call 32; exact calls_later (LD.out (i') (j') D2 _ (by omega) (by omega) HD2.out (Later.row HX.out _) (Later.row HY.out _)))))
          refine wpQuiet_nil ?_
          rintro _ ⟨w9', rfl⟩
          clear hne
          obtain ⟨w9, bw9⟩ := w9'
          simp only
          have lq : q < w8.heap.size := World.block_lt_of_cell? w8 _ z0
          replace p0 := cell_later bw9 p0
          replace p1 := cell_later bw9 p1
          replace p2 := cell_later bw9 p2
          replace z0 := cell_later bw9 z0
          replace z1 := cell_later bw9 z1
          replace z2 := cell_later bw9 z2
          replace cx := cell_later bw9 cx
          replace cy := cell_later bw9 cy
          replace y0 : w9.frozen? ⟨q, 0, none⟩ = false := by rw [bw9.frozen lq]; exact y0
          replace y1 : w9.frozen? ⟨q, 1, none⟩ = false := by rw [bw9.frozen lq]; exact y1
          replace y2 : w9.frozen? ⟨q, 2, none⟩ = false := by rw [bw9.frozen lq]; exact y2
          replace HX : Hid (Row w9 (some ⟨bx', ox', none⟩) (bytesC x)) := HX.out.below bw9 (Nat.le_refl _)
          replace HY : Hid (Row w9 (some ⟨by', oy', none⟩) (bytesC y)) := HY.out.below bw9 (Nat.le_refl _)
          replace B5 := B5.trans (bw9.mono B5.size)
          clear lq
          clear bw9
          go_wp2_with fail
          have hne : Nonempty (Later w9) := ⟨⟨w9, Below.refl _ _⟩⟩
          refine wp_region_later (by kernel_rfl) (by kernel_rfl) ?_
          repeat (go_big_quiet_step (first | (go_at_call 32; exact calls_later (LD.out (i') (j' + 1) D3 _ (by omega) (by omega) HD3.out (Later.row HX.out _) (Later.row HY.out _)))))
          refine wpQuiet_nil ?_
          rintro _ ⟨w10', rfl⟩
          clear hne
          obtain ⟨w10, bw10⟩ := w10'
          simp only
          have lq : q < w9.heap.size := World.block_lt_of_cell? w9 _ z0
          replace p0 := cell_later bw10 p0
          replace p1 := cell_later bw10 p1
          replace p2 := cell_later bw10 p2
          replace z0 := cell_later bw10 z0
          replace z1 := cell_later bw10 z1
          replace z2 := cell_later bw10 z2
          replace cx := cell_later bw10 cx
          replace cy := cell_later bw10 cy
          replace y0 : w10.frozen? ⟨q, 0, none⟩ = false := by rw [bw10.frozen lq]; exact y0
          replace y1 : w10.frozen? ⟨q, 1, none⟩ = false := by rw [bw10.frozen lq]; exact y1
          replace y2 : w10.frozen? ⟨q, 2, none⟩ = false := by rw [bw10.frozen lq]; exact y2
          replace HX : Hid (Row w10 (some ⟨bx', ox', none⟩) (bytesC x)) := HX.out.below bw10 (Nat.le_refl _)
          replace HY : Hid (Row w10 (some ⟨by', oy', none⟩) (bytesC y)) := HY.out.below bw10 (Nat.le_refl _)
          replace B5 := B5.trans (bw10.mono B5.size)
          clear lq
          clear bw10
          clear HX HY LD HD1 HD2 HD3
          go_wp2
          obtain ⟨w6, hw6⟩ : ∃ w6, w6 = (((w10.setCell ⟨q, 0, none⟩ (.int .u8 43)).setCell ⟨q, 1, none⟩ (.int .u8 0)).setCell ⟨q, 2, none⟩ (.int .u8 oy)) := ⟨_, rfl⟩
          rw [← hw6]
          have r0 : w6.cell? ⟨b9, off + m * 3, none⟩ = some (.int .u8 43) := by rw [hw6]; exact set3_far p0 hb9
          have r1 : w6.cell? ⟨b9, off + m * 3 + 1, none⟩ = some (.int .u8 0) := by rw [hw6]; exact set3_far p1 hb9
          have r2 : w6.cell? ⟨b9, off + m * 3 + 2, none⟩ = some (.int .u8 oy) := by rw [hw6]; exact set3_far p2 hb9
          have S3 : w6.cell? ⟨q, 0, none⟩ = some (.int .u8 43) ∧ w6.cell? ⟨q, 1, none⟩ = some (.int .u8 0) ∧ w6.cell? ⟨q, 2, none⟩ = some (.int .u8 oy) := by rw [hw6]; exact set3_at z0 z1 z2
          obtain ⟨s0, s1, s2⟩ := S3
          have B6 : Below w1.heap.size w1 w6 := by rw [hw6]; exact ((B5.setCell hq1 _).setCell hq1 _).setCell hq1 _
          clear hw6 p0 p1 p2 z0 z1 z2 y0 y1 y2 B5
          go_wp2
          go_quiet (fail)
          go_wp2
          go_roundw
          case rel => exact ⟨m, (i' + 1), j', by omega, by go_num, by go_num, by go_num, by omega, by omega, HBK.out, below_dn B6 _⟩
          case measure => simp [intOf]
end Go.Proofs.Ymbrdo
