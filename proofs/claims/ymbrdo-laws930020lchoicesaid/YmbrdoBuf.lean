/-
  A BUFFER OF OPS THAT THE CALL MADE (nil, or a row of its own): jcopy makes one, reverse mirrors one.
-/
import Derived.Test.YmbrdoReverse
namespace Go.Proofs.Ymbrdo
open Go.ChangeShapes Go.WideShapes Go.ChangeAt Go.RowKit

def Buf (w : World) (base : Nat) (v : Value) (os : List OpT) : Prop :=
  (v = .slice none 0 0 ∧ os = []) ∨ ∃ g, v = .slice (some ⟨g, 0, none⟩) os.length os.length ∧ w.ownsRow base 23 3 (.slice (some ⟨g, 0, none⟩) os.length os.length) os.length (opsC os)

def RetBuf (w : World) (os : List OpT) (e : Ending) (w' : World) : Prop := ∃ v, e = .returned v ∧ Buf w' w.heap.size v os ∧ Below w.heap.size w w'

theorem Buf.val {w : World} {base : Nat} {v : Value} {os : List OpT} (h : Buf w base v os) : ∃ a, v = .slice a os.length os.length ∧ Row w a (opsC os) := by
  rcases h with ⟨rfl, rfl⟩ | ⟨g, rfl, ho⟩
  · exact ⟨none, rfl, .inl rfl⟩
  · exact ⟨_, rfl, row_of_own ho⟩

theorem Buf.grown {w w' : World} {base : Nat} {v : Value} {os : List OpT} {row : Option Nat} (h : Buf w base v os) (hg : w.grownBy w' row) (hne : v.ownBlock = none ∨ v.ownBlock ≠ row) : Buf w' base v os := by
  rcases h with ⟨rfl, rfl⟩ | ⟨g, rfl, ho⟩
  · exact .inl ⟨rfl, rfl⟩
  · exact .inr ⟨g, rfl, ho.kept hg hne⟩

theorem Buf.below {w w' : World} {base : Nat} {v : Value} {os : List OpT} (h : Buf w base v os) (hb : Below w.heap.size w w') : Buf w' base v os :=
  h.grown (row := none) ⟨hb.os, hb.tape, hb.output, hb.size, fun k hk _ => hb.block k hk⟩ (by cases hv : v.ownBlock <;> simp)

theorem Buf.block {w : World} {base : Nat} {v : Value} {os : List OpT} (h : Buf w base v os) : ∀ k, v.ownBlock = some k → base ≤ k ∧ k < w.heap.size := by
  intro k hk
  rcases h with ⟨rfl, rfl⟩ | ⟨g, rfl, ho⟩
  · simp [Value.ownBlock] at hk
  · exact ho.lt k hk

theorem rev_reverse {qs ps : List OpT} (h : Rev qs 0 qs.length ps) : ps = qs.reverse := by
  apply List.ext_getElem?
  intro p
  rw [h p]
  by_cases hp : p < qs.length
  · rw [if_pos (by omega), List.getElem?_reverse hp]
    congr 1
    omega
  · rw [if_neg (by omega), List.getElem?_eq_none (by omega), List.getElem?_eq_none (by simp; omega)]

theorem reverse_buf (base : Nat) (v : Value) (os : List OpT) (w : World) (h : Buf w base v os) (hl : os.length ≤ 1048576) :
    Calls Ydom.prog 21 #[v] w fun e w' => e = .returned (.tuple #[]) ∧ Buf w' base v os.reverse ∧ w.grownBy w' v.ownBlock := by
  rcases h with ⟨rfl, rfl⟩ | ⟨g, rfl, ho⟩
  · refine (reverse_short none 0 0 w (by omega)).mono ?_
    rintro e w' ⟨rfl, rfl⟩
    exact ⟨rfl, .inl ⟨rfl, rfl⟩, World.grownBy.refl _ _⟩
  · by_cases hn : os.length ≤ 1
    · refine (reverse_short (some ⟨g, 0, none⟩) os.length os.length w hn).mono ?_
      rintro e w' ⟨rfl, rfl⟩
      have er : os.reverse = os := by
        match os, hn with
        | [], _ => rfl
        | [_], _ => rfl
      rw [er]
      exact ⟨rfl, .inr ⟨g, rfl, ho⟩, World.grownBy.refl _ _⟩
    · refine (reverse_calls base g 0 0 os.length os.length os.length os.length os w (by omega) rfl (by omega) hl ho).mono ?_
      rintro e w' ⟨rfl, ps, h1, h2, h3⟩
      obtain rfl := rev_reverse h2
      have hr : os.reverse.length = os.length := by simp
      exact ⟨rfl, .inr ⟨g, by rw [hr], by rw [hr]; exact h1⟩, h3⟩

theorem jcopy_calls (a : Option Addr) (cap : Nat) (os : List OpT) (w : World) (h : Row w a (opsC os)) (hnil : a = none → os.length = 0 ∧ cap = 0) (hl : os.length ≤ 1048576) :
    Calls Ydom.prog 20 #[.slice a os.length cap] w (RetBuf w os) := by
  obtain ⟨i0, hi, hz0, hz1, hz2⟩ := info_parts infoOp
  have q28 : ∀ (w : World) (a : Option Addr) (n c n' c' : Nat), (binOp .eql 28 (.slice a n c) (.slice none n' c')).run Ydom.prog w = .ok (.bool a.isNone) w := fun w a n c n' c' => Lib.run_eql_slice_nil w _ _ a n c n' c' Ydom.underlying28
  cases a with
  | none =>
    obtain ⟨h1, rfl⟩ := hnil rfl
    obtain rfl := List.eq_nil_of_length_eq_zero h1
    go_enter Ydom.func20, Ydom.ntmps20
    go_wp2
    go_ret
    exact ⟨_, rfl, .inl ⟨rfl, rfl⟩, Below.refl _ _⟩
  | some ad =>
  clear hnil
  go_enter Ydom.func20, Ydom.ntmps20
  go_wp2_with (first | (at_make; refine wpList_make_full _ rfl _ _ 28 rfl w.heap.size 23 i0 _ 3 Ydom.underlying28 hi hz0 hz1 _ _ _ _ os.length rfl rfl rfl rfl (by rw [hz2]; omega) (by unfold maxLen; omega) (Nat.le_refl _) ?_))
  intro w1 hown hgrow
  have hb1 := (Below.refl w.heap.size w).grown hgrow (Nat.le_refl _) (by simp)
  have hw1 := (own_lt hown).2
  simp only [made_ops] at hown
  go_wp2
  go_loopw [4] (fun i wr => ∃ (k : Nat) (qs : List OpT), k ≤ os.length ∧ i = .int .i64 k ∧ Below w.heap.size w wr ∧ w.heap.size < wr.heap.size ∧
     wr.ownsRow w.heap.size 23 3 (.slice (some ⟨w.heap.size, 0, none⟩) os.length os.length) os.length (opsC qs) ∧ Upto (fun j => os[j]?) k qs) (fun i _ => os.length - (intOf i).toNat)
  case atStart => exact ⟨0, _, Nat.zero_le _, rfl, hb1, hw1, hown, upto_zero _ _⟩
  case round =>
    obtain ⟨k, qs, hk, rfl, hb, hlts, hown, hq⟩ := hrel
    have hql := own_ops_len hown
    by_cases hlt : k < os.length
    · obtain ⟨b, off, hae, hc⟩ := (h.below hb (Nat.le_refl _)).ops (by omega)
      obtain rfl := Option.some.inj hae
      obtain ⟨o, ho⟩ := op_at hlt
      obtain ⟨c0, c1, c2⟩ := hc k o ho
      have f0 := hown.frozenAt (k * 3)
      have f1 := hown.frozenAt (k * 3 + 1)
      have f2 := hown.frozenAt (k * 3 + 2)
      obtain ⟨q, hqk⟩ := op_at (os := qs) (k := k) (by omega)
      obtain ⟨g0, g1, g2⟩ := own_ops_cells hown hqk
      have hsz := hb.size
      have HO : Hid (wr.ownsRow w.heap.size 23 3 (.slice (some ⟨w.heap.size, 0, none⟩) os.length os.length) os.length (opsC qs)) := hown
      have KEY : Hid (Upto (fun j => os[j]?) (k + 1) (qs.set k o)) := upto_step hq (by omega) ho
      clear hc h ho hown hq hqk
      go_wp2
      go_roundw
      case rel => exact ⟨k + 1, _, by omega, by go_num, by go_grown, by go_size, (own_ops_store HO.out k o.kind o.old o.new).1, KEY.out⟩
      case measure => simp [intOf]; omega
    · have hge : ¬ (k : Int) < (os.length : Int) := by omega
      obtain rfl : k = os.length := by omega
      have hqe : qs = os := upto_done hq hql
      clear hq
      subst hqe
      go_wp2
      go_ret
      exact ⟨_, rfl, .inr ⟨w.heap.size, rfl, hown⟩, hb⟩
end Go.Proofs.Ymbrdo
