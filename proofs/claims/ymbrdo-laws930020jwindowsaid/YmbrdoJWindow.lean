/-
  THE WALK OF LawS930020JWindow.
-/
import Derived.Test.YmbrdoBuf
namespace Go.Proofs.Ymbrdo
open Go.ChangeShapes Go.WideShapes Go.ChangeAt Go.RowKit

/-- The buffer behind the window's reversal, and what it holds. -/
def RetWin (w : World) (base : Nat) (v : Value) (os : List OpT) (lo t : Nat) (e : Ending) (w' : World) : Prop :=
  e = .returned (.tuple #[]) ∧ ∃ ps, ps.length = os.length ∧ Rev os lo t ps ∧ Buf w' base v ps ∧ w.grownBy w' v.ownBlock

theorem rev_none (os : List OpT) (lo t : Nat) (ht : t ≤ 1) : Rev os lo t os := by
  intro p
  split
  · congr 1; omega
  · rfl

theorem window_calls (base : Nat) (a ad : Option Addr) (os : List OpT) (lo t : Nat) (w : World) (h : Buf w base (.slice a os.length os.length) os) (hl : os.length ≤ 1048576) (hlo : lo + t ≤ os.length)
    (had : (if os.length = lo then a else Option.map (fun x => x.add (lo * 3)) a) = ad) (c : Nat) :
    Calls Ydom.prog 21 #[.slice ad t c] w (RetWin w base (.slice a os.length os.length) os lo t) := by
  by_cases ht : t ≤ 1
  · refine (reverse_short ad t c w ht).mono ?_
    rintro e w' ⟨rfl, rfl⟩
    exact ⟨rfl, os, rfl, rev_none os lo t ht, h, World.grownBy.refl _ _⟩
  · rcases h with ⟨h1, rfl⟩ | ⟨g, h1, ho⟩
    · simp at hlo; omega
    · simp only [Value.slice.injEq, and_true] at h1
      subst h1
      rw [if_neg (by omega), Option.map_some, Addr.add_lit, Nat.zero_add] at had
      subst had
      refine (reverse_calls base g (lo * 3) lo t c os.length os.length os w (by omega) rfl hlo hl ho).mono ?_
      rintro e w' ⟨rfl, ps, h1, h2, h3⟩
      have hp := rev_len h2 hlo
      exact ⟨rfl, ps, hp, h2, .inr ⟨g, by rw [hp], by rw [hp]; exact h1⟩, h3⟩

set_option linter.unusedVariables false
theorem jwindow_walk (a : Option Addr) (cap : Nat) (os : List OpT) (fr sz : Int) (w : World) (h : Row w a (opsC os)) (hok : ∀ z ∈ os, OpOk z) (hnil : a = none → os.length = 0 ∧ cap = 0) (wf : (Lit.int .u64 fr).wf = true) (ws : (Lit.int .u64 sz).wf = true) :
    Calls Ydom.prog 7 #[.slice a os.length cap, .int .u64 fr, .int .u64 sz] w fun e w' => e = .returned (.bool true) ∧ Below w.heap.size w w' := by
  clear hok
  by_cases hbig : 65536 < os.length
  · go_enter Ydom.func7, Ydom.ntmps7
    go_wp2
    go_ret
    exact ⟨rfl, Below.refl _ _⟩
  have bf := bounds_u64 wf
  have bs := bounds_u64 ws
  clear wf ws
  have n1 := Int.emod_nonneg fr (show (os.length : Int) + 1 ≠ 0 by omega)
  have n2 := Int.emod_lt_of_pos fr (show (0 : Int) < (os.length : Int) + 1 by omega)
  obtain ⟨lo, hlo⟩ : ∃ lo : Nat, fr % ((os.length : Int) + 1) = lo := ⟨(fr % ((os.length : Int) + 1)).toNat, by omega⟩
  rw [hlo] at n1 n2
  have n3 := Int.emod_nonneg sz (show (os.length : Int) - (lo : Int) + 1 ≠ 0 by omega)
  have n4 := Int.emod_lt_of_pos sz (show (0 : Int) < (os.length : Int) - (lo : Int) + 1 by omega)
  obtain ⟨t, ht⟩ : ∃ t : Nat, sz % ((os.length : Int) - (lo : Int) + 1) = t := ⟨(sz % ((os.length : Int) - (lo : Int) + 1)).toNat, by omega⟩
  rw [ht] at n3 n4
  have hlt : lo + t ≤ os.length := by omega
  clear n1 n2 n3 n4
  go_enter Ydom.func7, Ydom.ntmps7
  go_wp2_with fail
  refine (jcopy_calls a cap os w h hnil (by omega)).mono ?_
  rintro e w1 ⟨v, rfl, hbuf, b1⟩
  obtain ⟨a1, hv, -⟩ := hbuf.val
  subst hv
  obtain ⟨ad, had⟩ : ∃ ad, (if os.length = lo then a1 else Option.map (fun x => x.add (lo * 3)) a1) = ad := ⟨_, rfl⟩
  have RV : Hid (∀ c, Calls Ydom.prog 21 #[.slice ad t c] w1 (RetWin w1 w.heap.size (.slice a1 os.length os.length) os lo t)) := window_calls w.heap.size a1 ad os lo t w1 hbuf (by omega) hlt had
  have hblk := hbuf.block
  clear hbuf hnil
  have i1 : (lo : Int) ≤ (lo : Int) + (t : Int) := by omega
  have i2 : (lo : Int) + (t : Int) ≤ (os.length : Int) := by omega
  go_wp2_with fail
  refine (RV.out _).mono ?_
  rintro e w2 ⟨rfl, ps, hpl, hrev, hbuf2, hg2⟩
  have hB2 : Below w.heap.size w w2 := b1.grown hg2 b1.size (fun q hq => (hblk q hq).1)
  obtain ⟨a2, hv2, r2⟩ := hbuf2.val
  rw [hpl] at hv2
  simp only [Value.slice.injEq, and_true] at hv2
  subst hv2
  have HREV : Hid (Rev os lo t ps) := hrev
  have HPL : Hid (ps.length = os.length) := hpl
  have hp1 : os.length ≤ ps.length := by omega
  clear RV hblk hbuf2 hg2 b1 hrev hpl had i1 i2
  go_wp2
  go_loopw [11] (fun i wr => ∃ k : Nat, k ≤ os.length ∧ i = .int .i64 k ∧ Below w.heap.size w wr ∧ Row wr a1 (opsC ps)) (fun i _ => os.length - (intOf i).toNat)
  case atStart => exact ⟨0, Nat.zero_le _, rfl, hB2, r2⟩
  case round =>
    clear r2 hB2
    obtain ⟨k, hk, rfl, hb, s1⟩ := hrel
    by_cases hkl : k < os.length
    · obtain ⟨b1, off1, rfl, hc1⟩ := s1.ops (by omega)
      obtain ⟨b2, off2, rfl, hc2⟩ := (h.below hb (Nat.le_refl _)).ops (by omega)
      obtain ⟨o, ho⟩ := op_at (os := os) (k := k) hkl
      obtain ⟨d0, d1, d2⟩ := hc2 k o ho
      have l2 : b2 < wr.heap.size := World.block_lt_of_cell? wr _ d0
      have hsz := hb.size
      have S1 : Hid (Row wr (some ⟨b1, off1, none⟩) (opsC ps)) := s1
      have i1 : (k : Int) < (os.length : Int) := by omega
      by_cases hin : lo ≤ k ∧ k < lo + t
      · obtain ⟨m, hm⟩ : ∃ m : Nat, (lo : Int) + ((lo : Int) + (t : Int)) - 1 - (k : Int) = m := ⟨lo + lo + t - 1 - k, by omega⟩
        obtain ⟨p, hp⟩ := op_at (os := os) (k := m) (by omega)
        have hpk : ps[k]? = some p := by
          rw [HREV.out k, if_pos hin, show lo + lo + t - 1 - k = m by omega]; exact hp
        obtain ⟨c0, c1, c2⟩ := hc1 k p hpk
        obtain ⟨e0, e1, e2⟩ := hc2 m p hp
        have l1 : b1 < wr.heap.size := World.block_lt_of_cell? wr _ c0
        have j1 : (lo : Int) ≤ (k : Int) := by omega
        have j2 : (k : Int) < (lo : Int) + (t : Int) := by omega
        have j3 : (m : Int) < (os.length : Int) := by omega
        clear hc1 hc2 ho hp hpk s1 h hin hlo ht
        go_wp2
        go_quiet (fail)
        go_wp2
        go_roundw
        case rel => exact ⟨k + 1, by omega, by go_num, below_dn (hb.alloc hsz _) _, Row.dn (Row.below S1.out ((Below.refl _ _).alloc (Nat.le_refl _) _) (Nat.le_refl _)) _⟩
        case measure => simp [intOf]; omega
      · have hpk : ps[k]? = some o := by rw [HREV.out k, if_neg hin]; exact ho
        obtain ⟨c0, c1, c2⟩ := hc1 k o hpk
        have l1 : b1 < wr.heap.size := World.block_lt_of_cell? wr _ c0
        clear hc1 hc2 ho hpk s1 h hlo ht
        by_cases j1 : (lo : Int) ≤ (k : Int)
        · have j2 : ¬ (k : Int) < (lo : Int) + (t : Int) := by omega
          clear hin
          go_wp2
          go_quiet (fail)
          go_wp2
          go_roundw
          case rel => exact ⟨k + 1, by omega, by go_num, below_dn (hb.alloc hsz _) _, Row.dn (Row.below S1.out ((Below.refl _ _).alloc (Nat.le_refl _) _) (Nat.le_refl _)) _⟩
          case measure => simp [intOf]; omega
        · clear hin
          go_wp2
          go_quiet (fail)
          go_wp2
          go_roundw
          case rel => exact ⟨k + 1, by omega, by go_num, below_dn (hb.alloc hsz _) _, Row.dn (Row.below S1.out ((Below.refl _ _).alloc (Nat.le_refl _) _) (Nat.le_refl _)) _⟩
          case measure => simp [intOf]; omega
    · have hge : ¬ (k : Int) < (os.length : Int) := by omega
      go_wp2
      go_ret
      exact ⟨rfl, hb⟩
end Go.Proofs.Ymbrdo
