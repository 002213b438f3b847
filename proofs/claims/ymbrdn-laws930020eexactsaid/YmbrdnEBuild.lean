/-
  THE WALK OF zzs930020ebuild.
-/
import Derived.Test.YmbrdnBuild
namespace Go.Proofs.Ymbrdn
open Go.ChangeShapes Go.WideShapes Go.ChangeAt Go.RowKit

def eT (s : St4) : OpT := ⟨if s.f0 % 6 == 0 then 61 else if s.f0 % 6 == 1 then 126 else if s.f0 % 6 == 2 then 43 else if s.f0 % 6 == 3 then 45 else s.f1, s.f2, s.f3⟩

/-- A slice of ops comes back, which lies in new memory. -/
def RetFresh (w : World) (os : List OpT) (e : Ending) (w' : World) : Prop :=
  ∃ a cap, e = .returned (.slice a os.length cap) ∧ Row w' a (opsC os) ∧ (∀ b off, a = some ⟨b, off, none⟩ → w.heap.size ≤ b) ∧ Below w.heap.size w w'

theorem ebuild_calls (a : Option Addr) (cap : Nat) (os : List St4) (w : World) (h : Row w a (st4C os)) (hok : ∀ z ∈ os, St4Ok z) (hnil : a = none → os.length = 0 ∧ cap = 0) (hl : os.length ≤ 1048576) :
    Calls Ydnm.prog 15 #[.slice a os.length cap] w (RetFresh w (os.map eT)) := by
  obtain ⟨i0, hi, hz0, hz1, hz2⟩ := info_parts infoOp
  have q22 : ∀ (w : World) (a : Option Addr) (n c n' c' : Nat), (binOp .eql 22 (.slice a n c) (.slice none n' c')).run Ydnm.prog w = .ok (.bool a.isNone) w := fun w a n c n' c' => Lib.run_eql_slice_nil w _ _ a n c n' c' Ydnm.underlying22
  cases a with
  | none =>
    obtain ⟨h1, rfl⟩ := hnil rfl
    obtain rfl := List.eq_nil_of_length_eq_zero h1
    go_enter Ydnm.func15, Ydnm.ntmps15
    go_wp2
    go_ret
    exact ⟨none, 0, rfl, .inl rfl, (fun _ _ h => by cases h), Below.refl _ _⟩
  | some ad =>
  clear hnil
  go_enter Ydnm.func15, Ydnm.ntmps15
  go_wp2_with (first | (at_make; refine wpList_make_full _ rfl _ _ 23 rfl w.heap.size 27 i0 _ 3 Ydnm.underlying23 hi hz0 hz1 _ _ _ _ os.length rfl rfl rfl rfl (by rw [hz2]; omega) (by unfold maxLen; omega) (Nat.le_refl _) ?_))
  intro w1 hown hgrow
  have hb1 := (Below.refl w.heap.size w).grown hgrow (Nat.le_refl _) (by simp)
  have hw1 := (own_lt hown).2
  simp only [made_ops] at hown
  go_wp2
  go_loopw [14] (fun i wr => ∃ (k : Nat) (qs : List OpT), k ≤ os.length ∧ i = .int .i64 k ∧ Below w.heap.size w wr ∧ w.heap.size < wr.heap.size ∧
     wr.ownsRow w.heap.size 27 3 (.slice (some ⟨w.heap.size, 0, none⟩) os.length os.length) os.length (opsC qs) ∧ Upto (fun j => (os.map eT)[j]?) k qs) (fun i _ => os.length - (intOf i).toNat)
  case atStart => exact ⟨0, _, Nat.zero_le _, rfl, hb1, hw1, hown, upto_zero _ _⟩
  case round =>
    obtain ⟨k, qs, hk, rfl, hb, hlts, hown, hq⟩ := hrel
    have hql := own_ops_len hown
    by_cases hlt : k < os.length
    · obtain ⟨b, off, hae, hc⟩ := (h.below hb (Nat.le_refl _)).st4 (by omega)
      obtain rfl := Option.some.inj hae
      obtain ⟨o, ho⟩ := op_at hlt
      obtain ⟨c0, c1, c2, c3⟩ := hc k o ho
      obtain ⟨⟨k0, k1⟩, ⟨k2, k3⟩, ⟨k4, k5⟩, ⟨k6, k7⟩⟩ := hok o (List.mem_of_getElem? ho)
      have f0 := hown.frozenAt (k * 3)
      have f1 := hown.frozenAt (k * 3 + 1)
      have f2 := hown.frozenAt (k * 3 + 2)
      obtain ⟨q, hqk⟩ := op_at (os := qs) (k := k) (by omega)
      obtain ⟨g0, g1, g2⟩ := own_ops_cells hown hqk
      have hsz := hb.size
      have HO : Hid _ := hown
      have KEY : Hid (∀ x y z, (⟨x, y, z⟩ : OpT) = eT o → Upto (fun j => (os.map eT)[j]?) (k + 1) (qs.set k ⟨x, y, z⟩)) := fun x y z hx => upto_step hq (by omega) (by simp [ho, hx])
      clear hc h ho hown hq hqk hok
      go_wp2
      all_goals
        go_roundw
        case rel =>
          refine ⟨k + 1, _, by omega, by go_num, by go_grown, by go_size, (own_ops_store HO.out k _ _ _).1.alloc _, KEY.out _ _ _ ?_⟩
          simp [eT, *]
        case measure => simp [intOf]; omega
    · have hge : ¬ (k : Int) < (os.length : Int) := by omega
      obtain rfl : k = os.length := by omega
      have hqe : qs = os.map eT := upto_done (by simpa using hq) (by simpa using hql)
      clear hq
      subst hqe
      go_wp2
      go_ret
      exact ⟨some ⟨w.heap.size, 0, none⟩, os.length, by simp, row_of_own hown, (fun b off h => by cases h; exact Nat.le_refl _), hb⟩
end Go.Proofs.Ymbrdn
