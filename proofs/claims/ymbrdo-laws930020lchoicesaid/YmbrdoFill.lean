/-
  THE WALKS OF min3 AND fillRow.
-/
import Derived.Test.YmbrdoAid
import Derived.Deep.RegionHeld3
namespace Go.Proofs.Ymbrdo
open Go.ChangeShapes Go.WideShapes Go.ChangeAt Go.RowKit

/-- The row of the n numbers f 0, f 1, .. -/
def intsF (f : Nat → Int) (n : Nat) : List Value := (List.range n).map fun j => Value.int .i64 (f j)
theorem intsF_length (f : Nat → Int) (n : Nat) : (intsF f n).length = n := by simp [intsF]
theorem intsF_get (f : Nat → Int) {n j : Nat} (h : j < n) : (intsF f n)[j]? = some (.int .i64 (f j)) := by simp [intsF, h]
theorem intsF_congr {f g : Nat → Int} {n : Nat} (h : ∀ j, j < n → f j = g j) : intsF f n = intsF g n := by
  unfold intsF
  exact List.map_congr_left fun j hj => by rw [h j (List.mem_range.1 hj)]
theorem intsF_set (f : Nat → Int) (n k : Nat) (v : Int) : (intsF f n).set k (.int .i64 v) = intsF (fun j => if j = k then v else f j) n := by
  apply List.ext_getElem?
  intro j
  by_cases hj : j < n
  · rw [intsF_get _ hj]
    by_cases hk : k = j
    · subst hk
      rw [List.getElem?_set_self (by rw [intsF_length]; exact hj)]
      simp
    · rw [List.getElem?_set_ne hk, intsF_get _ hj, if_neg (fun e => hk e.symm)]
  · rw [List.getElem?_eq_none (by simp [intsF]; omega), List.getElem?_eq_none (by rw [intsF_length]; omega)]
theorem intsF_zero (n : Nat) : (madeCells #[.int .i64 0] (n * 1)).toList = intsF (fun _ => 0) n := by
  rw [toList_madeCells_one, Nat.mul_one, intsF]
  apply List.ext_getElem?
  intro j
  by_cases hj : j < n <;> simp [hj]

theorem Row.intsAt {w : World} {a : Option Addr} {f : Nat → Int} {n : Nat} (h : Row w a (intsF f n)) (hne : 0 < n) :
    ∃ b off, a = some ⟨b, off, none⟩ ∧ ∀ j, j < n → w.cell? ⟨b, off + j, none⟩ = some (.int .i64 (f j)) := by
  obtain ⟨b, off, ha, hc⟩ := h.one (by intro e; have := congrArg List.length e; rw [intsF_length, List.length_nil] at this; omega)
  exact ⟨b, off, ha, fun j hj => hc j _ (intsF_get f hj)⟩

theorem own_ints_cell {w : World} {base g n cap : Nat} {f : Nat → Int} (h : w.ownsRow base 3 1 (.slice (some ⟨g, 0, none⟩) n cap) n (intsF f n)) {k : Nat} (hk : k < n) : w.cell? ⟨g, k, none⟩ = some (.int .i64 (f k)) := by
  rw [h.cellAt k (by omega)]
  exact intsF_get f hk

theorem own_ints_store {w : World} {base g n cap : Nat} {f : Nat → Int} (h : w.ownsRow base 3 1 (.slice (some ⟨g, 0, none⟩) n cap) n (intsF f n)) (k : Nat) (v : Int) :
    (w.setCell ⟨g, k, none⟩ (.int .i64 v)).ownsRow base 3 1 (.slice (some ⟨g, 0, none⟩) n cap) n (intsF (fun j => if j = k then v else f j) n) ∧ w.grownBy (w.setCell ⟨g, k, none⟩ (.int .i64 v)) (some g) := by
  obtain ⟨h1, h2⟩ := h.stored k (.int .i64 v)
  rw [intsF_set] at h1
  exact ⟨h1, h2⟩

theorem Row.grownAt {w w' : World} {a : Option Addr} {cs : List Value} {g : Nat} (h : Row w a cs) (hg : w.grownBy w' (some g)) (hne : ∀ b off, a = some ⟨b, off, none⟩ → b ≠ g) : Row w' a cs := by
  rcases h with h | ⟨b, off, ha, hc⟩
  · exact .inl h
  · refine .inr ⟨b, off, ha, fun j v hj => ?_⟩
    exact hg.cell (hc j v hj) (by simpa using hne b off ha)

/-- The least of three. -/
def mn3 (x y z : Int) : Int := min (min x y) z

theorem min3_calls (x y z : Int) (w : World) : Calls Ydom.prog 35 #[.int .i64 x, .int .i64 y, .int .i64 z] w fun e w' => e = .returned (.int .i64 (mn3 x y z)) ∧ w' = w := by
  by_cases h1 : y < x
  · by_cases h2 : z < y
    · have e : mn3 x y z = z := by unfold mn3; omega
      rw [e]
      clear e
      go_enter Ydom.func35, Ydom.ntmps35
      go_wp2
      go_ret
      exact ⟨rfl, rfl⟩
    · have e : mn3 x y z = y := by unfold mn3; omega
      rw [e]
      clear e
      go_enter Ydom.func35, Ydom.ntmps35
      go_wp2
      go_ret
      exact ⟨rfl, rfl⟩
  · by_cases h2 : z < x
    · have e : mn3 x y z = z := by unfold mn3; omega
      rw [e]
      clear e
      go_enter Ydom.func35, Ydom.ntmps35
      go_wp2
      go_ret
      exact ⟨rfl, rfl⟩
    · have e : mn3 x y z = x := by unfold mn3; omega
      rw [e]
      clear e
      go_enter Ydom.func35, Ydom.ntmps35
      go_wp2
      go_ret
      exact ⟨rfl, rfl⟩

/-- The row that follows the row P when the source grows by the byte c. -/
def nextAt (P : Nat → Int) (c : Int) (zs : List Int) : Nat → Int
  | 0 => P 0 + 1
  | j + 1 => mn3 (P j + (if zs[j]? = some c then 0 else 1)) (P (j + 1) + 1) (nextAt P c zs j + 1)

theorem nextAt_le (P : Nat → Int) (c : Int) (zs : List Int) (j : Nat) : nextAt P c zs j ≤ P 0 + 1 + j := by
  induction j with
  | zero => simp [nextAt]
  | succ j ih => simp only [nextAt, mn3]; omega
theorem nextAt_ge (P : Nat → Int) (c : Int) (zs : List Int) (B : Int) (n : Nat) (h : ∀ j, j < n → B ≤ P j) (j : Nat) (hj : j < n) : B ≤ nextAt P c zs j := by
  induction j with
  | zero => have := h 0 hj; simp only [nextAt]; omega
  | succ j ih =>
    have h1 := h j (by omega)
    have h2 := h (j + 1) hj
    have h3 := ih (by omega)
    simp only [nextAt, mn3]
    split <;> omega

theorem keep1 {wr : World} {g i : Nat} {v1 : Value} {q : Addr} {v : Value} (h : wr.cell? q = some v) (hq : q.block ≠ g) : (wr.setCell ⟨g, i, none⟩ v1).drew.cell? q = some v := by
  show (wr.setCell ⟨g, i, none⟩ v1).cell? q = some v
  rw [World.cell?_of_block (Below.heap_setCell _ _ _ _ hq)]
  exact h
theorem keep2 {wr : World} {g i k : Nat} {v1 : Value} {v : Value} (h : wr.cell? ⟨g, k, none⟩ = some v) (hq : k ≠ i) : (wr.setCell ⟨g, i, none⟩ v1).drew.cell? ⟨g, k, none⟩ = some v := by
  show (wr.setCell ⟨g, i, none⟩ v1).cell? ⟨g, k, none⟩ = some v
  have hne : (⟨g, i, none⟩ : Addr) ≠ ⟨g, k, none⟩ := by
    intro e
    cases e
    exact hq rfl
  rw [World.cell?_setCell_other (h := hne)]
  exact h
theorem grown_dr {w w' : World} {row : Option Nat} (h : w.grownBy w' row) : w.grownBy w'.drew row := ⟨h.os, h.tape, h.output, h.size, h.block⟩

def RetFill (w : World) (base g n : Nat) (f : Nat → Int) (e : Ending) (w' : World) : Prop :=
  e = .returned (.tuple #[]) ∧ w'.ownsRow base 3 1 (.slice (some ⟨g, 0, none⟩) n n) n (intsF f n) ∧ w.grownBy w' (some g)

set_option maxHeartbeats 1000000 in
theorem fill_calls (base g : Nat) (a ab : Option Addr) (ca cb : Nat) (P f0 : Nat → Int) (c : Int) (zs : List Int) (n : Nat) (w : World) (hn : n = zs.length + 1) (hl : zs.length ≤ 1048576)
    (hP : ∀ j, j < n → -1099511627776 ≤ P j ∧ P j ≤ 1099511627776)
    (hown : w.ownsRow base 3 1 (.slice (some ⟨g, 0, none⟩) n n) n (intsF f0 n)) (hp : Row w a (intsF P n)) (hpg : ∀ b off, a = some ⟨b, off, none⟩ → b ≠ g) (hb : Row w ab (bytesC zs)) (hbg : ∀ b off, ab = some ⟨b, off, none⟩ → 0 < zs.length → b ≠ g) :
    Calls Ydom.prog 34 #[.slice a n ca, .slice (some ⟨g, 0, none⟩) n n, .int .u8 c, .slice ab zs.length cb] w (RetFill w base g n (nextAt P c zs)) := by
  obtain ⟨bp, op, rfl, hpc⟩ := hp.intsAt (by omega)
  have p0 := hpc 0 (by omega)
  have g0 := own_ints_cell hown (k := 0) (by omega)
  have fr0 := hown.frozenAt 0
  have hP0 := hP 0 (by omega)
  have hnl : (0 : Int) < (n : Int) := by omega
  rw [Nat.add_zero] at p0
  have HP : Hid (∀ j, j < n → -1099511627776 ≤ P j ∧ P j ≤ 1099511627776) := hP
  have hpg' : bp ≠ g := hpg bp op rfl
  have HOWN : Hid (w.ownsRow base 3 1 (.slice (some ⟨g, 0, none⟩) n n) n (intsF f0 n)) := hown
  have HN : Hid (n = zs.length + 1) := hn
  have hn1 : n ≤ zs.length + 1 := by omega
  have hn2 : zs.length + 1 ≤ n := by omega
  clear hP hown hpc hn
  go_enter Ydom.func34, Ydom.ntmps34
  go_wp2
  go_loopw [8] (fun i wr => ∃ (k : Nat) (f : Nat → Int), k ≤ zs.length ∧ i = .int .i64 k ∧ wr.ownsRow base 3 1 (.slice (some ⟨g, 0, none⟩) n n) n (intsF f n) ∧ (∀ i, i ≤ k → f i = nextAt P c zs i) ∧ w.grownBy wr (some g)) (fun i _ => zs.length - (intOf i).toNat)
  case atStart =>
    obtain ⟨r1, r2⟩ := own_ints_store HOWN.out 0 (P 0 + 1)
    exact ⟨0, _, Nat.zero_le _, rfl, r1, fun i hi => by obtain rfl : i = 0 := (by omega); simp [nextAt], r2⟩
  case round =>
    clear p0 g0 fr0
    obtain ⟨k, f, hk, rfl, ho, hf, hgr⟩ := hrel
    by_cases hlt : k < zs.length
    · obtain ⟨bb, ob, rfl, hcb⟩ := (hb.grownAt hgr (fun b off he => hbg b off he (by omega))).bytes (by omega)
      have hpr := hp.grownAt hgr hpg
      obtain ⟨bp', op', he', hcp⟩ := hpr.intsAt (by omega)
      simp only [Option.some.injEq, Addr.mk.injEq, and_true] at he'
      obtain ⟨rfl, rfl⟩ := he'
      obtain ⟨z, hz⟩ := op_at hlt
      have cb1 := hcb k z hz
      have c1 := hcp k (by omega)
      have c2 := hcp (k + 1) (by omega)
      have c3 : wr.cell? ⟨g, k, none⟩ = some (.int .i64 (nextAt P c zs k)) := by rw [own_ints_cell ho (k := k) (by omega), hf k (Nat.le_refl _)]
      have c4 := own_ints_cell ho (k := k + 1) (by omega)
      have fr1 := ho.frozenAt (k + 1)
      have b1 := HP.out k (by omega)
      have b2 := HP.out (k + 1) (by omega)
      have b3 := nextAt_le P c zs k
      have b4 := nextAt_ge P c zs (-1099511627776) n (fun j hj => (HP.out j hj).1) k (by omega)
      have HO : Hid (wr.ownsRow base 3 1 (.slice (some ⟨g, 0, none⟩) n n) n (intsF f n)) := ho
      have HF : Hid (∀ i, i ≤ k → f i = nextAt P c zs i) := hf
      have i1 : (k : Int) < (zs.length : Int) := by omega
      have i2 : (k : Int) < (n : Int) := by omega
      have i3 : (k : Int) + 1 < (n : Int) := by omega
      have i4 : (0 : Int) ≤ (k : Int) + 1 := by omega
      have i5 : (0 : Int) ≤ (k : Int) := by omega
      have v1 : IntKind.i64.wrap ((k : Int) + 1) = (k : Int) + 1 := IntWalk.i64_in _ (by omega)
      have v2 : IntKind.i64.wrap (P (k + 1) + 1) = P (k + 1) + 1 := IntWalk.i64_in _ (by omega)
      have v3 : IntKind.i64.wrap (nextAt P c zs k + 1) = nextAt P c zs k + 1 := IntWalk.i64_in _ (by omega)
      have v4 : ((k : Int) + 1).toNat = k + 1 := by omega
      clear hcb hcp hpr ho hf hb hp hbg hpg
      by_cases hzc : z = c
      · have NX : Hid (nextAt P c zs (k + 1) = mn3 (P k) (P (k + 1) + 1) (nextAt P c zs k + 1)) := by
          show nextAt P c zs (k + 1) = mn3 (P k) (P (k + 1) + 1) (nextAt P c zs k + 1)
          simp only [nextAt]
          rw [if_pos (by rw [hz, hzc]), Int.add_zero]
        have t : (z != c) = false := by simp [hzc]
        clear hz hzc
        go_wp2
        go_region_held3 (fun w' => w'.cell? ⟨bp, op + (k + 1), none⟩ = some (.int .i64 (P (k + 1))) ∧ w'.cell? ⟨g, k, none⟩ = some (.int .i64 (nextAt P c zs k))) (first | (go_keep; done) | exact ⟨keep1 c2 hpg', keep2 c3 (by omega)⟩)
          (first | (go_at_call 35; refine (min3_calls _ _ _ _).mono ?_; rintro e w' ⟨rfl, rfl⟩))
        go_wp2
        go_roundw
        case rel =>
          obtain ⟨r1, r2⟩ := own_ints_store HO.out (k + 1) (nextAt P c zs (k + 1))
          rw [NX.out] at r1 r2
          refine ⟨k + 1, _, by omega, by go_num, r1.drew, ?_, grown_dr (grown_trans hgr r2)⟩
          intro i hi
          by_cases hik : i = k + 1
          · rw [if_pos hik, hik, NX.out]
          · rw [if_neg hik]
            exact HF.out i (by omega)
        case measure => simp [intOf]; omega
      · have NX : Hid (nextAt P c zs (k + 1) = mn3 (P k + 1) (P (k + 1) + 1) (nextAt P c zs k + 1)) := by
          show nextAt P c zs (k + 1) = mn3 (P k + 1) (P (k + 1) + 1) (nextAt P c zs k + 1)
          simp only [nextAt]
          rw [if_neg (by rw [hz]; simpa using hzc)]
        have t : (z != c) = true := by simp [hzc]
        clear hz hzc
        go_wp2
        go_region_held3 (fun w' => w'.cell? ⟨bp, op + (k + 1), none⟩ = some (.int .i64 (P (k + 1))) ∧ w'.cell? ⟨g, k, none⟩ = some (.int .i64 (nextAt P c zs k))) (first | (go_keep; done) | exact ⟨keep1 c2 hpg', keep2 c3 (by omega)⟩)
          (first | (go_at_call 35; refine (min3_calls _ _ _ _).mono ?_; rintro e w' ⟨rfl, rfl⟩))
        go_wp2
        go_roundw
        case rel =>
          obtain ⟨r1, r2⟩ := own_ints_store HO.out (k + 1) (nextAt P c zs (k + 1))
          rw [NX.out] at r1 r2
          refine ⟨k + 1, _, by omega, by go_num, r1.drew, ?_, grown_dr (grown_trans hgr r2)⟩
          intro i hi
          by_cases hik : i = k + 1
          · rw [if_pos hik, hik, NX.out]
          · rw [if_neg hik]
            exact HF.out i (by omega)
        case measure => simp [intOf]; omega
    · have hge : ¬ (k : Int) < (zs.length : Int) := by omega
      obtain rfl : k = zs.length := by omega
      have hfe : intsF f n = intsF (nextAt P c zs) n := intsF_congr (fun j hj => hf j (by omega))
      rw [hfe] at ho
      clear hfe hf
      go_wp2
      go_end0
      exact ⟨rfl, ho, hgr⟩
end Go.Proofs.Ymbrdo
