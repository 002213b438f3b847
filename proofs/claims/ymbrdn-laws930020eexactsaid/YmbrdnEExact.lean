/-
  THE WALK OF LawS930020EExact.
-/
import Derived.Test.YmbrdnEBuild
import Derived.Test.YmbrdnInvert
import Derived.Test.YmbrdnESame
namespace Go.Proofs.Ymbrdn
open Go.ChangeShapes Go.WideShapes Go.ChangeAt Go.RowKit

/-- A row apart from the block that is written stays. -/
theorem Row.grown {w w' : World} {a : Option Addr} {cs : List Value} {g : Nat} (h : Row w a cs) (hg : w.grownBy w' (some g)) (hne : ∀ b off, a = some ⟨b, off, none⟩ → b ≠ g) : Row w' a cs := by
  rcases h with h | ⟨b, off, ha, hc⟩
  · exact .inl h
  · refine .inr ⟨b, off, ha, fun j v hj => ?_⟩
    exact hg.cell (hc j v hj) (by simpa using hne b off ha)

theorem eexact_walk (a : Option Addr) (cap : Nat) (sts : List St4) (w : World) (h : Row w a (st4C sts)) (hok : ∀ z ∈ sts, St4Ok z) (hnil : a = none → sts.length = 0 ∧ cap = 0) :
    Calls Ydnm.prog 3 #[.slice a sts.length cap] w fun e w' => e = .returned (.bool true) ∧ Below w.heap.size w w' := by
  have q23 : ∀ (w : World) (a : Option Addr) (n c n' c' : Nat), (binOp .eql 23 (.slice a n c) (.slice none n' c')).run Ydnm.prog w = .ok (.bool a.isNone) w := fun w a n c n' c' => Lib.run_eql_slice_nil w _ _ a n c n' c' Ydnm.underlying23
  by_cases hbig : 1024 < sts.length
  · go_enter Ydnm.func3, Ydnm.ntmps3
    go_wp2
    go_ret
    exact ⟨rfl, Below.refl _ _⟩
  obtain ⟨os, hos⟩ : ∃ os, os = sts.map eT := ⟨_, rfl⟩
  have hle : os.length ≤ sts.length := by rw [hos]; simp
  have hle' : sts.length ≤ os.length := by rw [hos]; simp
  have G : Hid (∀ w', Row w' a (st4C sts) → Calls Ydnm.prog 15 #[.slice a sts.length cap] w' (RetFresh w' os)) := fun w' hw => by
    rw [hos]; exact ebuild_calls a cap sts w' hw hok hnil (by omega)
  clear hok hnil hos
  obtain ⟨inv, hinv⟩ : ∃ inv, inv = os.map invT := ⟨_, rfl⟩
  have hget : Hid (∀ k o, os[k]? = some o → inv[k]? = some (invT o)) := fun k o ho => by rw [hinv, List.getElem?_map, ho]; rfl
  have hlen : ((os.length : Int) != (sts.length : Int)) = false := by
    have : os.length = sts.length := by omega
    rw [this]; simp
  have I1 : Hid (∀ w' a' c', Row w' a' (opsC os) → Calls Ydnm.prog 16 #[.slice a' os.length c'] w' fun e w'' => ∃ g, e = .returned (.slice (some ⟨g, 0, none⟩) os.length os.length) ∧
      w''.ownsRow w'.heap.size 27 3 (.slice (some ⟨g, 0, none⟩) os.length os.length) os.length (opsC inv) ∧ Below w'.heap.size w' w'') := fun w' a' c' hw => by
    rw [hinv]; exact invert_calls a' c' os w' hw (by omega)
  clear hinv
  go_enter Ydnm.func3, Ydnm.ntmps3
  go_wp2_with fail
  refine (G.out w h).mono ?_
  rintro e w1 ⟨a1, c1, rfl, r1, f1, b1⟩
  go_wp2_with fail
  refine (I1.out w1 a1 c1 r1).mono ?_
  rintro e w2 ⟨g, rfl, own2, b2⟩
  have B2 : Below w.heap.size w w2 := b1.trans (b2.mono b1.size)
  have s1 := r1.below b2 (Nat.le_refl _)
  have hg1 := own_lt own2
  have bs1 := b1.size
  have n1 : ∀ b off, a1 = some ⟨b, off, none⟩ → 0 < os.length → b ≠ g := by
    intro b off he hl
    rw [he] at r1
    obtain ⟨b', off', hb', hc'⟩ := r1.ops hl
    simp only [Option.some.injEq, Addr.mk.injEq, and_true] at hb'
    obtain ⟨rfl, rfl⟩ := hb'
    obtain ⟨o, ho⟩ := op_at (os := os) (k := 0) hl
    have := World.block_lt_of_cell? w1 _ (hc' 0 o ho).1
    simp at this
    omega
  have N1 : Hid (∀ b off, a1 = some ⟨b, off, none⟩ → 0 < os.length → b ≠ g) := n1
  have O2 : Hid (w2.ownsRow w1.heap.size 27 3 (.slice (some ⟨g, 0, none⟩) os.length os.length) os.length (opsC inv)) := own2
  have S1 : Hid (Row w2 a1 (opsC os)) := s1
  clear r1 f1 b1 b2 I1 n1 own2 s1
  go_wp2_with fail
  refine (G.out w2 (h.below B2 (Nat.le_refl _))).mono ?_
  rintro e w3 ⟨a3, c3, rfl, r3, f3, b3⟩
  have own3 : w3.ownsRow w1.heap.size 27 3 (.slice (some ⟨g, 0, none⟩) os.length os.length) os.length (opsC inv) := O2.out.kept (row := none) ⟨b3.os, b3.tape, b3.output, b3.size, fun k hk _ => b3.block k hk⟩ (.inr (by simp [Value.ownBlock]))
  have s3 : Row w3 a1 (opsC os) := Row.below S1.out b3 (Nat.le_refl _)
  have N3 : Hid (∀ b off, a3 = some ⟨b, off, none⟩ → b ≠ g) := fun b off he => by have := f3 b off he; omega
  have hgw : w.heap.size ≤ g := by omega
  have B3 : Below w.heap.size w w3 := B2.trans (b3.mono B2.size)
  clear G h S1 O2 b3 B2 f3
  go_wp2
  go_loopw [31] (fun i wr => ∃ k : Nat, k ≤ os.length ∧ i = .int .i64 k ∧ Below w.heap.size w wr ∧ wr.ownsRow w1.heap.size 27 3 (.slice (some ⟨g, 0, none⟩) os.length os.length) os.length (opsC inv) ∧
      Row wr a1 (opsC os) ∧ Row wr a3 (opsC os)) (fun i _ => os.length - (intOf i).toNat)
  case atStart => exact ⟨0, Nat.zero_le _, rfl, B3, own3, s3, r3⟩
  case round =>
    clear own3 s3 r3 B3
    obtain ⟨k, hk, rfl, hb, ho2, s1, s3⟩ := hrel
    by_cases hlt : k < os.length
    · obtain ⟨b3, off3, rfl, hc3⟩ := s3.ops (by omega)
      obtain ⟨o, ho⟩ := op_at hlt
      obtain ⟨c0, c1, c2⟩ := hc3 k o ho
      obtain ⟨g0, g1, g2⟩ := own_ops_cells ho2 (hget.out k o ho)
      have hgl := (own_lt ho2).2
      have hsz := hb.size
      have g1' : wr.cell? ⟨g, k * 3 + 1, none⟩ = some (.int .u8 o.new) := g1
      have g2' : wr.cell? ⟨g, k * 3 + 2, none⟩ = some (.int .u8 o.old) := g2
      have i1 : (k : Int) < (os.length : Int) := by omega
      have HO : Hid (wr.ownsRow w1.heap.size 27 3 (.slice (some ⟨g, 0, none⟩) os.length os.length) os.length (opsC inv)) := ho2
      have S1 : Hid (Row wr a1 (opsC os)) := s1
      have S3 : Hid (Row wr (some ⟨b3, off3, none⟩) (opsC os)) := s3
      clear hc3 ho s1 s3 ho2 g1 g2
      by_cases h43 : o.kind = 43
      · have t1 : (o.kind == 43) = true := by simp [h43]
        have g0' : wr.cell? ⟨g, k * 3, none⟩ = some (.int .u8 45) := by rw [g0]; simp [invT, h43]
        clear g0 h43
        go_wp2
        go_roundw
        case rel => exact ⟨k + 1, by omega, by go_num, (hb.alloc hsz _).alloc (by simp; omega) _, HO.out.alloc _ |>.alloc _, (Row.below S1.out ((Below.refl _ _).alloc (Nat.le_refl _) _) (Nat.le_refl _)).below ((Below.refl _ _).alloc (Nat.le_refl _) _) (Nat.le_refl _), (Row.below S3.out ((Below.refl _ _).alloc (Nat.le_refl _) _) (Nat.le_refl _)).below ((Below.refl _ _).alloc (Nat.le_refl _) _) (Nat.le_refl _)⟩
        case measure => simp [intOf]; omega
      · have t1 : (o.kind == 43) = false := by simp [h43]
        by_cases h45 : o.kind = 45
        · have t2 : (o.kind == 45) = true := by simp [h45]
          have g0' : wr.cell? ⟨g, k * 3, none⟩ = some (.int .u8 43) := by rw [g0]; simp [invT, h45]
          clear g0 h43 h45
          go_wp2
          go_roundw
          case rel => exact ⟨k + 1, by omega, by go_num, (hb.alloc hsz _).alloc (by simp; omega) _, HO.out.alloc _ |>.alloc _, (Row.below S1.out ((Below.refl _ _).alloc (Nat.le_refl _) _) (Nat.le_refl _)).below ((Below.refl _ _).alloc (Nat.le_refl _) _) (Nat.le_refl _), (Row.below S3.out ((Below.refl _ _).alloc (Nat.le_refl _) _) (Nat.le_refl _)).below ((Below.refl _ _).alloc (Nat.le_refl _) _) (Nat.le_refl _)⟩
          case measure => simp [intOf]; omega
        · have t2 : (o.kind == 45) = false := by simp [h45]
          have g0' : wr.cell? ⟨g, k * 3, none⟩ = some (.int .u8 o.kind) := by rw [g0]; simp [invT, h43, h45]
          clear g0 h43 h45
          go_wp2
          go_roundw
          case rel => exact ⟨k + 1, by omega, by go_num, (hb.alloc hsz _).alloc (by simp; omega) _, HO.out.alloc _ |>.alloc _, (Row.below S1.out ((Below.refl _ _).alloc (Nat.le_refl _) _) (Nat.le_refl _)).below ((Below.refl _ _).alloc (Nat.le_refl _) _) (Nat.le_refl _), (Row.below S3.out ((Below.refl _ _).alloc (Nat.le_refl _) _) (Nat.le_refl _)).below ((Below.refl _ _).alloc (Nat.le_refl _) _) (Nat.le_refl _)⟩
          case measure => simp [intOf]; omega
    · have hge : ¬ (k : Int) < (os.length : Int) := by omega
      obtain ⟨w4, rfl⟩ : ∃ w4 : World, w4 = wr := ⟨_, rfl⟩
      go_wp2
      go_loopw [67] (fun i wr => ∃ (k : Nat) (qs : List OpT), k ≤ os.length ∧ i = .int .i64 k ∧ Below w.heap.size w wr ∧ wr.ownsRow w1.heap.size 27 3 (.slice (some ⟨g, 0, none⟩) os.length os.length) os.length (opsC qs) ∧
          Row wr a1 (opsC os) ∧ Row wr a3 (opsC os)) (fun i _ => os.length - (intOf i).toNat)
      case atStart => exact ⟨0, inv, Nat.zero_le _, rfl, hb, ho2, s1, s3⟩
      case round =>
        clear hb ho2 s1 s3 hlt hge hk
        obtain ⟨k, qs, hk, rfl, hb, ho2, s1, s3⟩ := hrel
        have hql := own_ops_len ho2
        by_cases hlt : k < os.length
        · have f0 := ho2.frozenAt (k * 3)
          have f1 := ho2.frozenAt (k * 3 + 1)
          have f2 := ho2.frozenAt (k * 3 + 2)
          obtain ⟨q, hqk⟩ := op_at (os := qs) (k := k) (by omega)
          obtain ⟨g0, g1, g2⟩ := own_ops_cells ho2 hqk
          have hsz := hb.size
          have i1 : (k : Int) < (os.length : Int) := by omega
          have HO : Hid (wr.ownsRow w1.heap.size 27 3 (.slice (some ⟨g, 0, none⟩) os.length os.length) os.length (opsC qs)) := ho2
          have S1 : Hid (Row wr a1 (opsC os)) := s1
          have S3 : Hid (Row wr a3 (opsC os)) := s3
          clear ho2 hqk s1 s3
          go_wp2
          go_roundw
          case rel =>
            obtain ⟨r1, r2⟩ := own_ops_store HO.out k 63 1 2
            exact ⟨k + 1, _, by omega, by go_num, by go_grown, r1, Row.grown S1.out r2 (fun b off he => N1.out b off he (by omega)), Row.grown S3.out r2 N3.out⟩
          case measure => simp [intOf]; omega
        · have hge : ¬ (k : Int) < (os.length : Int) := by omega
          go_wp2_with fail
          refine (eequal_same a1 a3 c1 c3 os wr s1 s3 (by omega)).mono ?_
          rintro e w5 ⟨rfl, b5⟩
          go_wp2
          go_ret
          exact ⟨rfl, hb.trans (b5.mono hb.size)⟩
end Go.Proofs.Ymbrdn
