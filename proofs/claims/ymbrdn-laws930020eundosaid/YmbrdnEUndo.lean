/-
  THE WALK OF LawS930020EUndo.
-/
import Derived.Test.YmbrdnETwice
import Derived.Test.YmbrdnReads
import Derived.Test.YmbrdnValid
import Derived.Test.YmbrdnLater
namespace Go.Proofs.Ymbrdn
open Go.ChangeShapes Go.WideShapes Go.ChangeAt Go.RowKit

theorem eundo_walk (a : Option Addr) (cap : Nat) (sts : List St4) (w : World) (h : Row w a (st4C sts)) (hok : ∀ z ∈ sts, St4Ok z) (hnil : a = none → sts.length = 0 ∧ cap = 0) :
    Calls Ydnm.prog 5 #[.slice a sts.length cap] w fun e w' => e = .returned (.bool true) ∧ Below w.heap.size w w' := by
  by_cases hbig : 1024 < sts.length
  · go_enter Ydnm.func5, Ydnm.ntmps5
    go_wp2
    go_ret
    exact ⟨rfl, Below.refl _ _⟩
  obtain ⟨os, hos⟩ : ∃ os, os = sts.map eT := ⟨_, rfl⟩
  have hle : os.length ≤ sts.length := by rw [hos]; simp
  have G : Hid (∀ w', Row w' a (st4C sts) → Calls Ydnm.prog 15 #[.slice a sts.length cap] w' (RetFresh w' os)) := fun w' hw => by
    rw [hos]; exact ebuild_calls a cap sts w' hw hok hnil (by omega)
  clear hok hnil hos
  obtain ⟨inv, hinv⟩ : ∃ inv, inv = os.map invT := ⟨_, rfl⟩
  have hil : inv.length ≤ os.length := by rw [hinv]; simp
  have hil' : os.length ≤ inv.length := by rw [hinv]; simp
  have hlen : ((inv.length : Int) != (os.length : Int)) = false := by
    have : inv.length = os.length := by omega
    rw [this]; simp
  have hget : Hid (∀ k o, os[k]? = some o → inv[k]? = some (invT o)) := fun k o ho => by rw [hinv, List.getElem?_map, ho]; rfl
  have I1 : Hid (∀ w' a' c', Row w' a' (opsC os) → Calls Ydnm.prog 16 #[.slice a' os.length c'] w' (RetOps w' inv)) := fun w' a' c' hw => invert_ops a' c' os inv hinv w' hw (by omega)
  obtain ⟨z1, hz1⟩ : ∃ z1, z1 = writesT os := ⟨_, rfl⟩
  obtain ⟨z2, hz2⟩ : ∃ z2, z2 = readsT os := ⟨_, rfl⟩
  have hzl1 : z1.length ≤ os.length := by rw [hz1]; exact writesT_le _
  have hzl2 : z2.length ≤ os.length := by rw [hz2]; exact readsT_le _
  have R1 : Hid (∀ w' a' c', Row w' a' (opsC inv) → Calls Ydnm.prog 20 #[.slice a' inv.length c'] w' (RetBytes w' z1)) := fun w' a' c' hw => by
    rw [hz1, ← readsT_inv, ← hinv]; exact reads_calls a' c' inv w' hw (by omega)
  have W1 : Hid (∀ w' a' c', Row w' a' (opsC os) → Calls Ydnm.prog 21 #[.slice a' os.length c'] w' (RetBytes w' z1)) := fun w' a' c' hw => by
    rw [hz1]; exact writes_calls a' c' os w' hw (by omega)
  have W2 : Hid (∀ w' a' c', Row w' a' (opsC inv) → Calls Ydnm.prog 21 #[.slice a' inv.length c'] w' (RetBytes w' z2)) := fun w' a' c' hw => by
    rw [hz2, ← writesT_inv, ← hinv]; exact writes_calls a' c' inv w' hw (by omega)
  have R2 : Hid (∀ w' a' c', Row w' a' (opsC os) → Calls Ydnm.prog 20 #[.slice a' os.length c'] w' (RetBytes w' z2)) := fun w' a' c' hw => by
    rw [hz2]; exact reads_calls a' c' os w' hw (by omega)
  clear hinv hz1 hz2
  go_enter Ydnm.func5, Ydnm.ntmps5
  go_wp2_with fail
  refine (G.out w h).mono ?_
  rintro e w1 ⟨a1, c1, rfl, r1, -, b1⟩
  go_wp2_with fail
  refine (I1.out w1 a1 c1 r1).mono ?_
  rintro e w2 ⟨a2, c2, rfl, -, r2, b2⟩
  have s1 := r1.below b2 (Nat.le_refl _)
  have B2 : Below w.heap.size w w2 := b1.trans (b2.mono b1.size)
  clear r1 b1 b2 G I1 h
  go_wp2
  go_loopw [20] (fun i wr => ∃ k : Nat, k ≤ inv.length ∧ i = .int .i64 k ∧ Below w.heap.size w wr ∧ Row wr a1 (opsC os) ∧ Row wr a2 (opsC inv)) (fun i _ => inv.length - (intOf i).toNat)
  case atStart => exact ⟨0, Nat.zero_le _, rfl, B2, s1, r2⟩
  case round =>
    clear s1 r2 B2
    obtain ⟨k, hk, rfl, hb, s1, s2⟩ := hrel
    by_cases hlt : k < inv.length
    · obtain ⟨b1, off1, rfl, hc1⟩ := s1.ops (by omega)
      obtain ⟨b2, off2, rfl, hc2⟩ := s2.ops (by omega)
      obtain ⟨o, ho⟩ := op_at (os := os) (k := k) (by omega)
      obtain ⟨c0, c1, c2⟩ := hc1 k o ho
      obtain ⟨d0, d1, d2⟩ := hc2 k _ (hget.out k o ho)
      obtain ⟨⟨k', x', y'⟩, ho'⟩ : ∃ p, p = invT o := ⟨_, rfl⟩
      rw [← ho'] at d0 d1 d2
      have hvv : validT ⟨k', x', y'⟩ = validT o := by rw [ho', valid_inv]
      have i1 : (k : Int) < (inv.length : Int) := by omega
      have i2 : (k : Int) < (os.length : Int) := by omega
      have V1 : Hid (∀ w', Calls Ydnm.prog 18 #[.agg #[.int .u8 k', .int .u8 x', .int .u8 y']] w' fun e w'' => e = .returned (.bool (validT o)) ∧ Below w'.heap.size w' w'') := fun w' => by
        rw [← hvv]; exact valid_calls k' x' y' w'
      have V2 : Hid (∀ w', Calls Ydnm.prog 18 #[.agg #[.int .u8 o.kind, .int .u8 o.old, .int .u8 o.new]] w' fun e w'' => e = .returned (.bool (validT o)) ∧ Below w'.heap.size w' w'') := fun w' => valid_calls o.kind o.old o.new w'
      have p0 := Later.cell c0
      have p1 := Later.cell c1
      have p2 := Later.cell c2
      have q0 := Later.cell d0
      have q1 := Later.cell d1
      have q2 := Later.cell d2
      have hne : Nonempty (Later wr) := ⟨⟨wr, Below.refl _ _⟩⟩
      have S1 : Hid (Row wr (some ⟨b1, off1, none⟩) (opsC os)) := s1
      have S2 : Hid (Row wr (some ⟨b2, off2, none⟩) (opsC inv)) := s2
      clear hc1 hc2 ho s1 s2 ho' hvv c0 c1 c2 d0 d1 d2 W1 W2 R1 R2
      go_wp2_with fail
      refine wp_region_later (by kernel_rfl) (by kernel_rfl) ?_
      repeat (go_big_quiet_step (first
        | (go_at_call_of 18 k'; exact calls_later (V1.out _))
        | (go_at_call 18; exact calls_later (V2.out _))))
      refine wpQuiet_nil ?_
      rintro _ ⟨q, rfl⟩
      go_wp2
      go_roundw
      case rel => exact ⟨k + 1, by omega, by go_num, hb.trans (q.below.mono hb.size), Later.row S1.out q, Later.row S2.out q⟩
      case measure => simp [intOf]; omega
    · have hge : ¬ (k : Int) < (inv.length : Int) := by omega
      go_wp2_with fail
      refine (R1.out wr a2 c2 s2).mono ?_
      rintro e w3 ⟨a3, c3, rfl, r3, b3⟩
      go_wp2_with fail
      refine (W1.out w3 a1 c1 (s1.below b3 (Nat.le_refl _))).mono ?_
      rintro e w4 ⟨a4, c4, rfl, r4, b4⟩
      go_wp2_with fail
      refine (esame_same a3 a4 c3 c4 z1 w4 (r3.below b4 (Nat.le_refl _)) r4 (by omega)).mono ?_
      rintro e w5 ⟨rfl, b5⟩
      have B5 : Below wr.heap.size wr w5 := (b3.trans (b4.mono b3.size)).trans (b5.mono (Nat.le_trans b3.size b4.size))
      have t1 := s1.below B5 (Nat.le_refl _)
      have t2 := s2.below B5 (Nat.le_refl _)
      have C5 := hb.trans (B5.mono hb.size)
      clear r3 r4 b3 b4 b5 s1 s2 R1 W1 hb B5
      go_wp2_with fail
      refine (W2.out w5 a2 c2 t2).mono ?_
      rintro e w6 ⟨a6, c6, rfl, r6, b6⟩
      go_wp2_with fail
      refine (R2.out w6 a1 c1 (t1.below b6 (Nat.le_refl _))).mono ?_
      rintro e w7 ⟨a7, c7, rfl, r7, b7⟩
      go_wp2_with fail
      refine (esame_same a6 a7 c6 c7 z2 w7 (r6.below b7 (Nat.le_refl _)) r7 (by omega)).mono ?_
      rintro e w8 ⟨rfl, b8⟩
      go_wp2
      go_ret
      exact ⟨rfl, ((C5.trans (b6.mono C5.size)).trans (b7.mono (Nat.le_trans C5.size b6.size))).trans (b8.mono (Nat.le_trans C5.size (Nat.le_trans b6.size b7.size)))⟩
end Go.Proofs.Ymbrdn
