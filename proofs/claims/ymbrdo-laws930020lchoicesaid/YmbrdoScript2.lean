/-
  THE WALK OF Script.
-/
import Derived.Test.YmbrdoSBase
import Derived.Test.YmbrdoSPlain
import Derived.Test.YmbrdoPair
import Derived.Deep.RegionHeld3
import Derived.Deep.AppendLies
namespace Go.Proofs.Ymbrdo
open Go.ChangeShapes Go.WideShapes Go.ChangeAt Go.RowKit

def tab0 (f : Nat → Int) (r : Nat) : Nat → Int := if r = 0 then f else fun _ => 0
def tabP (x y : List Int) (p r : Nat) : Nat → Int := if r ≤ p then dp x y r else fun _ => 0

/-- What Script hands back. -/
def RetScript (w : World) (x y : List Int) (e : Ending) (w' : World) : Prop :=
  ∃ (os : List OpT) (a : Option Addr) (cap : Nat), e = .returned (.slice a os.length cap) ∧ Row w' a (opsC os) ∧ Back x y x.length y.length os ∧ Below w.heap.size w w'

theorem reverse_any (base : Nat) (v : Value) (os : List OpT) (w : World) (h : w.ownsRow base 23 3 v os.length (opsC os)) (hl : os.length ≤ 1048576) :
    Calls Ydom.prog 21 #[v] w fun e w' => e = .returned (.tuple #[]) ∧ w'.ownsRow base 23 3 v os.length (opsC os.reverse) ∧ w.grownBy w' v.ownBlock := by
  by_cases hn : os.length ≤ 1
  · obtain ⟨a, cap, rfl⟩ := own_val h
    refine (reverse_short a os.length cap w hn).mono ?_
    rintro e w' ⟨rfl, rfl⟩
    have er : os.reverse = os := by
      match os, hn with
      | [], _ => rfl
      | [_], _ => rfl
    rw [er]
    exact ⟨rfl, h, World.grownBy.refl _ _⟩
  · have h0 : ∃ g cap, v = .slice (some ⟨g, 0, none⟩) os.length cap := by
      rcases h.2 with ⟨h1, h2⟩ | ⟨g, cap, cur, h1, _⟩
      · omega
      · exact ⟨g, cap, h1⟩
    obtain ⟨g, cap, rfl⟩ := h0
    refine (reverse_calls base g 0 0 os.length cap os.length cap os w (by omega) rfl (by omega) hl h).mono ?_
    rintro e w' ⟨rfl, ps, h1, h2, h3⟩
    obtain rfl := rev_reverse h2
    exact ⟨rfl, h1, h3⟩

set_option maxRecDepth 100000 in
set_option maxHeartbeats 8000000 in
theorem script_calls (a b : Option Addr) (ca cb : Nat) (x y : List Int) (w : World) (hx : Row w a (bytesC x)) (hy : Row w b (bytesC y)) (hlx : x.length ≤ 256) (hly : y.length ≤ 256) :
    Calls Ydom.prog 31 #[.slice a x.length ca, .slice b y.length cb] w (RetScript w x y) := by
  obtain ⟨i0, hi, hz0, hz1, hz2⟩ := info_parts infoInt
  obtain ⟨i1, ki, kz0, kz1, kz2⟩ := info_parts infoRow
  obtain ⟨i2, oi, oz0, oz1, oz2⟩ := info_parts infoOp
  go_enter Ydom.func31, Ydom.ntmps31
  go_wp2_with (first | (at_make; refine wpList_make_full _ rfl _ _ 52 rfl w.heap.size 53 i1 _ 1 Ydom.underlying52 ki kz0 kz1 _ _ _ _ (x.length + 1) rfl rfl (by omega) (by omega) (by rw [kz2]; omega) (by unfold maxLen; omega) (Nat.le_refl _) ?_))
  intro w1 own1 grow1
  have hb1 := (Below.refl w.heap.size w).grown grow1 (Nat.le_refl _) (by simp)
  have own1' : w1.ownsRow w.heap.size 53 1 (.slice (some ⟨w.heap.size, 0, none⟩) (x.length + 1) (x.length + 1)) (x.length + 1) (valsF (rowV (y.length + 1) (fun _ => 0) 0) (x.length + 1)) := by
    have e : valsF (rowV (y.length + 1) (fun _ => 0) 0) (x.length + 1) = (madeCells #[.slice none 0 0] ((x.length + 1) * 1)).toList := by
      rw [Nat.mul_one, valsF_made]
      apply valsF_congr
      intro j _
      unfold rowV
      rw [if_neg (by omega)]
    rw [e]
    simpa using own1
  clear grow1 own1
  go_wp2
  go_loopw [19] (fun iv wr => ∃ (k : Nat) (gs : Nat → Nat), k ≤ x.length + 1 ∧ iv = .int .i64 k ∧ wr.ownsRow w.heap.size 53 1 (.slice (some ⟨w.heap.size, 0, none⟩) (x.length + 1) (x.length + 1)) (x.length + 1) (valsF (rowV (y.length + 1) gs k) (x.length + 1)) ∧
      RowsOK wr w.heap.size w.heap.size (y.length + 1) k gs (fun _ _ => 0) ∧ Below w.heap.size w wr) (fun iv _ => x.length + 1 - (intOf iv).toNat)
  case atStart => exact ⟨0, _, Nat.zero_le _, rfl, own1', fun j hj => absurd hj (Nat.not_lt_zero _), hb1⟩
  case round =>
    clear own1' hb1
    obtain ⟨k, gs, hk, rfl, o1, hrows, hb⟩ := hrel
    have HR : Hid (RowsOK wr w.heap.size w.heap.size (y.length + 1) k gs (fun _ _ => 0)) := hrows
    clear hrows
    by_cases hlt : k < x.length + 1
    · have i1' : (k : Int) < (x.length : Int) + 1 := by omega
      clear hx hy
      go_wp2_with (first | (at_make; refine wpList_make_full _ rfl _ _ 53 rfl w.heap.size 3 i0 _ 1 Ydom.underlying53 hi hz0 hz1 _ _ _ _ (y.length + 1) rfl rfl (by omega) (by omega) (by rw [hz2]; omega) (by unfold maxLen; omega) hb.size ?_))
      intro w2 own2 grow2
      rw [intsF_zero3] at own2
      have o2 := o1.kept grow2 (.inr (by simp [Value.ownBlock]))
      have c1 := own_vals_cell o2 hlt
      have f1 := o2.frozenAt k
      have hb2 := hb.grown grow2 hb.size (by simp)
      have hgl := (own_lt o1).2
      have HR2 : Hid (RowsOK w2 w.heap.size w.heap.size (y.length + 1) k gs (fun _ _ => 0)) := HR.out.kept grow2 (by simp)
      have HLT : Hid (∀ i, i < k → gs i < wr.heap.size) := fun i hi => ((HR.out i hi).2.2.lt _ rfl).2
      have ec : rowV (y.length + 1) gs k k = .slice none 0 0 := by unfold rowV; rw [if_neg (by omega)]
      rw [ec] at c1
      have O2 : Hid (w2.ownsRow w.heap.size 53 1 (.slice (some ⟨w.heap.size, 0, none⟩) (x.length + 1) (x.length + 1)) (x.length + 1) (valsF (rowV (y.length + 1) gs k) (x.length + 1))) := o2
      have ON : Hid (w2.ownsRow w.heap.size 3 1 (.slice (some ⟨wr.heap.size, 0, none⟩) (y.length + 1) (y.length + 1)) (y.length + 1) (intsF (fun _ => 0) (y.length + 1))) := own2
      clear grow2 o1 o2 HR ec own2 hb
      go_wp2
      go_roundw
      case rel =>
        obtain ⟨r1, r2⟩ := O2.out.stored k (.slice (some ⟨wr.heap.size, 0, none⟩) (y.length + 1) (y.length + 1))
        rw [rowV_set] at r1
        exact ⟨k + 1, _, by omega, by go_num, r1, HR2.out.more r2 hgl HLT.out (ON.out.kept r2 (.inr (by simp [Value.ownBlock]; omega))) rfl, hb2.setCell (Nat.le_refl _) _⟩
      case measure => simp [intOf]; omega
    · have hge : ¬ (k : Int) < (x.length : Int) + 1 := by omega
      obtain rfl : k = x.length + 1 := by omega
      have hN0 : (0 : Int) < (y.length : Int) + 1 := by omega
      have hM0 : (0 : Int) < (x.length : Int) + 1 := by omega
      have HRV : Hid (∀ j, j < x.length + 1 → rowV (y.length + 1) gs (x.length + 1) j = .slice (some ⟨gs j, 0, none⟩) (y.length + 1) (y.length + 1)) := fun j hj => by unfold rowV; rw [if_pos hj]
      have HG : Hid (∀ j, j < x.length + 1 → w.heap.size < gs j) := fun j hj => (HR.out j hj).1
      have c0 := own_vals_cell o1 (k := 0) (by omega)
      rw [HRV.out 0 (by omega)] at c0
      have HR0 : Hid (RowsOK wr w.heap.size w.heap.size (y.length + 1) (x.length + 1) gs (tab0 (fun _ => 0))) := by
        intro j hj
        obtain ⟨h1, h2, h3⟩ := HR.out j hj
        refine ⟨h1, h2, ?_⟩
        have : tab0 (fun _ => 0) j = fun _ => 0 := by unfold tab0; split <;> rfl
        rw [this]
        exact h3
      have O1 : Hid (wr.ownsRow w.heap.size 53 1 (.slice (some ⟨w.heap.size, 0, none⟩) (x.length + 1) (x.length + 1)) (x.length + 1) (valsF (rowV (y.length + 1) gs (x.length + 1)) (x.length + 1))) := o1
      have hg0 := HG.out 0 (by omega)
      clear HR o1 hlt hge hk
      go_wp2
      go_loopw [34] (fun jv wr => ∃ (q : Nat) (f : Nat → Int), q ≤ y.length + 1 ∧ jv = .int .i64 q ∧ wr.ownsRow w.heap.size 53 1 (.slice (some ⟨w.heap.size, 0, none⟩) (x.length + 1) (x.length + 1)) (x.length + 1) (valsF (rowV (y.length + 1) gs (x.length + 1)) (x.length + 1)) ∧
          RowsOK wr w.heap.size w.heap.size (y.length + 1) (x.length + 1) gs (tab0 f) ∧ (∀ j : Nat, j < q → f j = j) ∧ Below w.heap.size w wr) (fun jv _ => y.length + 1 - (intOf jv).toNat)
      case atStart => exact ⟨0, _, Nat.zero_le _, rfl, O1.out, HR0.out, fun j hj => absurd hj (Nat.not_lt_zero _), hb⟩
      case round =>
        clear O1 HR0 hb c0
        obtain ⟨q, f, hq, rfl, o1, hr, hf, hb⟩ := hrel
        by_cases hlt : q < y.length + 1
        · have i1' : (q : Int) < (y.length : Int) + 1 := by omega
          have c0 := own_vals_cell o1 (k := 0) (by omega)
          rw [HRV.out 0 (by omega)] at c0
          have ho := (hr 0 (by omega)).2.2
          have ef : tab0 f 0 = f := by simp [tab0]
          rw [ef] at ho
          have c1 := own_ints_cell ho hlt
          have f1 := ho.frozenAt q
          have hne : ¬ gs 0 = w.heap.size := by omega
          have hne' : ¬ w.heap.size = gs 0 := by omega
          have OH : Hid (wr.ownsRow w.heap.size 3 1 (.slice (some ⟨gs 0, 0, none⟩) (y.length + 1) (y.length + 1)) (y.length + 1) (intsF f (y.length + 1))) := ho
          have O1 : Hid (wr.ownsRow w.heap.size 53 1 (.slice (some ⟨w.heap.size, 0, none⟩) (x.length + 1) (x.length + 1)) (x.length + 1) (valsF (rowV (y.length + 1) gs (x.length + 1)) (x.length + 1))) := o1
          have HR : Hid (RowsOK wr w.heap.size w.heap.size (y.length + 1) (x.length + 1) gs (tab0 f)) := hr
          have HF : Hid (∀ j : Nat, j < q → f j = j) := hf
          clear ho o1 hr hf ef hx hy
          go_wp2
          go_roundw
          case rel =>
            obtain ⟨r1, r2⟩ := own_ints_store OH.out q (q : Int)
            refine ⟨q + 1, fun j => if j = q then (q : Int) else f j, by omega, by go_num, O1.out.kept r2 (.inr (by simpa [Value.ownBlock] using hne')), HR.out.write (by omega) r2 r1 ?_, ?_, hb.setCell (Nat.le_of_lt hg0) _⟩
            · intro j hj
              by_cases hj0 : j = 0
              · rw [if_pos hj0, hj0]; simp [tab0]
              · rw [if_neg hj0]; simp [tab0, hj0]
            · intro j hj
              by_cases hjq : j = q
              · simp only; rw [if_pos hjq, hjq]
              · simp only; rw [if_neg hjq]; exact HF.out j (by omega)
          case measure => simp [intOf]; omega
        · have hge : ¬ (q : Int) < (y.length : Int) + 1 := by omega
          have HR : Hid (RowsOK wr w.heap.size w.heap.size (y.length + 1) (x.length + 1) gs (tabP x y 0)) := by
            intro j hj
            obtain ⟨h1, h2, h3⟩ := hr j hj
            refine ⟨h1, h2, ?_⟩
            by_cases hj0 : j = 0
            · subst hj0
              have e : intsF (tabP x y 0 0) (y.length + 1) = intsF (tab0 f 0) (y.length + 1) := intsF_congr (fun j hj => by simp only [tabP, tab0, Nat.le_refl, if_true]; rw [hf j (by omega)]; rfl)
              rw [e]
              exact h3
            · have e : tabP x y 0 j = tab0 f j := by simp only [tabP, tab0]; rw [if_neg (by omega), if_neg hj0]
              rw [e]
              exact h3
          have O1 : Hid (wr.ownsRow w.heap.size 53 1 (.slice (some ⟨w.heap.size, 0, none⟩) (x.length + 1) (x.length + 1)) (x.length + 1) (valsF (rowV (y.length + 1) gs (x.length + 1)) (x.length + 1))) := o1
          clear o1 hr hf hlt hq
          go_wp2
          go_loopw [8] (fun iv wr => ∃ p : Nat, p ≤ x.length ∧ iv = .int .i64 p ∧ wr.ownsRow w.heap.size 53 1 (.slice (some ⟨w.heap.size, 0, none⟩) (x.length + 1) (x.length + 1)) (x.length + 1) (valsF (rowV (y.length + 1) gs (x.length + 1)) (x.length + 1)) ∧
              RowsOK wr w.heap.size w.heap.size (y.length + 1) (x.length + 1) gs (tabP x y p) ∧ Below w.heap.size w wr) (fun iv _ => x.length - (intOf iv).toNat)
          case atStart => exact ⟨0, Nat.zero_le _, rfl, O1.out, HR.out, hb⟩
          case round =>
            clear O1 HR hb hge
            obtain ⟨p, hp, rfl, o1, hr, hb⟩ := hrel
            by_cases hlt : p < x.length
            · have k1 := own_vals_cell o1 (k := p) (by omega)
              have k2 := own_vals_cell o1 (k := p + 1) (by omega)
              rw [HRV.out p (by omega)] at k1
              rw [HRV.out (p + 1) (by omega)] at k2
              obtain ⟨c, hc⟩ := op_at hlt
              obtain ⟨b1, q1, rfl, hcx⟩ := (hx.below hb (Nat.le_refl _)).bytes (by omega)
              have k3 := hcx p c hc
              have hg1 := HG.out (p + 1) (by omega)
              have hg2 := HG.out p (by omega)
              have hbx : b1 ≠ gs (p + 1) := by
                intro e
                obtain ⟨b', o', he', hc'⟩ := hx.bytes (by omega)
                simp only [Option.some.injEq, Addr.mk.injEq, and_true] at he'
                obtain ⟨rfl, rfl⟩ := he'
                have := World.block_lt_of_cell? w _ (hc' p c hc)
                simp at this
                omega
              have hpn := (hr (p + 1) (by omega)).2.1 p (by omega)
              have ow1 := (hr p (by omega)).2.2
              have ow2 := (hr (p + 1) (by omega)).2.2
              have e1 : tabP x y p p = dp x y p := by simp [tabP]
              rw [e1] at ow1
              have FC : Hid (Calls Ydom.prog 34 #[.slice (some ⟨gs p, 0, none⟩) (y.length + 1) (y.length + 1), .slice (some ⟨gs (p + 1), 0, none⟩) (y.length + 1) (y.length + 1), .int .u8 c, .slice b y.length cb] wr.drew (RetFill wr.drew w.heap.size (gs (p + 1)) (y.length + 1) (nextAt (dp x y p) c y))) :=
                fill_calls w.heap.size (gs (p + 1)) (some ⟨gs p, 0, none⟩) b (y.length + 1) cb (dp x y p) _ c y (y.length + 1) wr.drew rfl (by omega) (fun j hj => by have := dp_bd x y p j (by omega) (by omega); omega) ow2.drew (row_of_own ow1.drew)
                  (fun b' off' he => by simp only [Option.some.injEq, Addr.mk.injEq, and_true] at he; omega) (hy.below hb.drew (Nat.le_refl _)) (fun b' off' he hl => by
                    obtain ⟨b'', o'', he'', hc''⟩ := hy.bytes hl
                    rw [he''] at he
                    simp only [Option.some.injEq, Addr.mk.injEq, and_true] at he
                    obtain ⟨rfl, rfl⟩ := he
                    obtain ⟨z, hz⟩ := op_at hl
                    have := World.block_lt_of_cell? w _ (hc'' 0 z hz)
                    simp at this
                    omega)
              have NXT : Hid (∀ w', wr.drew.grownBy w' (some (gs (p + 1))) → w'.ownsRow w.heap.size 3 1 (.slice (some ⟨gs (p + 1), 0, none⟩) (y.length + 1) (y.length + 1)) (y.length + 1) (intsF (nextAt (dp x y p) c y) (y.length + 1)) → RowsOK w' w.heap.size w.heap.size (y.length + 1) (x.length + 1) gs (tabP x y (p + 1)) ∧
                  w'.ownsRow w.heap.size 53 1 (.slice (some ⟨w.heap.size, 0, none⟩) (x.length + 1) (x.length + 1)) (x.length + 1) (valsF (rowV (y.length + 1) gs (x.length + 1)) (x.length + 1)) ∧ Below w.heap.size w w') := by
                intro w' hg ho
                refine ⟨hr.draw.write (by omega) hg ho ?_, o1.drew.kept hg (.inr (by simp [Value.ownBlock]; omega)), hb.drew.grown hg hb.drew.size (fun q hq => by cases hq; omega)⟩
                intro j hj
                by_cases hjp : j = p + 1
                · rw [if_pos hjp, hjp]
                  simp only [tabP, Nat.le_refl, if_true]
                  rw [dp_row x y p hc]
                · rw [if_neg hjp]
                  simp only [tabP]
                  by_cases hj2 : j ≤ p
                  · rw [if_pos hj2, if_pos (by omega)]
                  · rw [if_neg hj2, if_neg (by omega)]
              have i1' : (p : Int) < (x.length : Int) := by omega
              have i2' : (p : Int) < (x.length : Int) + 1 := by omega
              have i3' : (p : Int) + 1 < (x.length : Int) + 1 := by omega
              have i4' : (0 : Int) ≤ (p : Int) := by omega
              have i5' : (0 : Int) ≤ (p : Int) + 1 := by omega
              have v1 : IntKind.i64.wrap ((p : Int) + 1) = (p : Int) + 1 := IntWalk.i64_in _ (by omega)
              have v4 : ((p : Int) + 1).toNat = p + 1 := by omega
              have hwg : w.heap.size ≠ gs (p + 1) := by omega
              have hbx' : wr.heap.size = wr.heap.size := rfl
              clear o1 hr hc hcx ow1 ow2 e1 hx hy hb
              go_wp2
              go_region_held3 (fun w' => w'.cell? ⟨w.heap.size, p, none⟩ = some (.slice (some ⟨gs p, 0, none⟩) (y.length + 1) (y.length + 1)) ∧ w'.cell? ⟨w.heap.size, p + 1, none⟩ = some (.slice (some ⟨gs (p + 1), 0, none⟩) (y.length + 1) (y.length + 1)) ∧ w'.cell? ⟨b1, q1 + p, none⟩ = some (.int .u8 c))
                (first | (go_keep; done) | exact ⟨g6.cell k1 (by simpa using hwg), g6.cell k2 (by simpa using hwg), g6.cell k3 (by simpa using hbx)⟩)
                (first | (go_at_call 34; refine FC.out.mono ?_; rintro e w6 ⟨rfl, o6, g6⟩))
              obtain ⟨R1, R2, R3⟩ := NXT.out _ g6 o6
              go_wp2
              go_roundw
              case rel => exact ⟨p + 1, by omega, by go_num, R2, R1, R3⟩
              case measure => simp [intOf]; omega
            · have hge : ¬ (p : Int) < (x.length : Int) := by omega
              obtain rfl : p = x.length := by omega
              have RC : Hid (∀ i, i ≤ x.length → wr.cell? ⟨w.heap.size, i, none⟩ = some (.slice (some ⟨gs i, 0, none⟩) (y.length + 1) (y.length + 1))) := fun i hi => by
                rw [own_vals_cell o1 (by omega), HRV.out i (by omega)]
              have RD : Hid (∀ i j, i ≤ x.length → j ≤ y.length → wr.cell? ⟨gs i, j, none⟩ = some (.int .i64 (dp x y i j))) := fun i j hi hj => by
                rw [own_ints_cell (hr i (by omega)).2.2 (by omega)]
                simp only [tabP]
                rw [if_pos hi]
              have hx4 := hx.below hb (Nat.le_refl _)
              have hy4 := hy.below hb (Nat.le_refl _)
              have hbw := hb.size
              obtain ⟨w4, rfl⟩ : ∃ w4 : World, w4 = wr := ⟨_, rfl⟩
              clear o1 hr hx hy hlt hge HRV HG hg0 hp
              go_wp2_with (first | (at_make; refine wpList_make_own _ rfl _ _ 28 rfl w4.heap.size 23 i2 _ 3 Ydom.underlying28 oi oz0 oz1 _ _ _ x.length rfl rfl (by omega) (by rw [oz2]; omega) (by unfold maxLen; omega) (Nat.le_refl _) ?_))
              intro w5 own5 grow5
              have hb5 := (Below.refl w4.heap.size w4).grown grow5 (Nat.le_refl _) (by simp)
              have own5' : w5.ownsRow w4.heap.size 23 3 (.slice (some ⟨w4.heap.size, 0, none⟩) 0 x.length) ([] : List OpT).length (opsC []) := own5
              clear own5 grow5
              go_wp2
              go_loopw [9, 10, 11] (fun v iv jv wr => ∃ (p q : Nat) (out : List OpT), p ≤ x.length ∧ q ≤ y.length ∧ iv = .int .i64 p ∧ jv = .int .i64 q ∧ Below w4.heap.size w4 wr ∧ wr.ownsRow w4.heap.size 23 3 v out.length (opsC out) ∧ Trail x y p q out ∧ out.length + p + q ≤ x.length + y.length) (fun _ iv jv _ => (intOf iv).toNat + (intOf jv).toNat)
              case atStart => exact ⟨x.length, y.length, [], Nat.le_refl _, Nat.le_refl _, rfl, rfl, hb5, own5', trail_start _ _, by simp⟩
              case round =>
                clear own5' hb5
                obtain ⟨p, q, out, hp, hq, rfl, rfl, hb', hown, htr, hol⟩ := hrel
                have TR : Hid (Trail x y p q out) := htr
                clear htr
                have hbw' := hb.size
                have HB4 : Hid (Below w.heap.size w w4) := hb
                clear hb
                have hb := hb'
                clear hb'
                match p, q, hp, hq, TR, hol with
                | 0, 0, hp, hq, TR, hol =>
                  have HBK : Hid (Back x y x.length y.length out.reverse) := trail_end TR.out
                  clear TR
                  have z0 : ((0 : Nat) : Int) = 0 := rfl
                  simp only [z0]
                  go_wp2_with fail
                  refine (reverse_any w4.heap.size u9 out wr hown (by omega)).mono ?_
                  rintro e w7 ⟨rfl, own7, grow7⟩
                  have hb7 : Below w4.heap.size w4 w7 := hb.grown grow7 hb.size (fun q hq => (hown.lt q hq).1)
                  obtain ⟨a7, cap7, rfl⟩ := own_val hown
                  clear grow7 hown hb
                  go_wp2
                  go_ret
                  exact ⟨out.reverse, a7, cap7, by simp, row_of_own own7, HBK.out, HB4.out.trans (hb7.mono hbw')⟩
                | 0, q + 1, hp, hq, TR, hol =>
                  obtain ⟨d, hd⟩ := op_at (os := y) (k := q) (by omega)
                  obtain ⟨b2, o2, rfl, hc2⟩ := hy4.bytes (by omega)
                  have CY : Hid (w4.cell? ⟨b2, o2 + q, none⟩ = some (.int .u8 d)) := hc2 q d hd
                  have cy := cell_later hb CY.out
                  have r1 := cell_later hb (RC.out 0 (by omega))
                  have r2 := cell_later hb (RD.out 0 (q + 1) (by omega) (by omega))
                  have hD := dp_bd x y 0 (q + 1) (by omega) (by omega)
                  have j1 : (q : Int) + 1 < (y.length : Int) + 1 := by omega
                  have j2 : (q : Int) < (y.length : Int) := by omega
                  have m1 : (0 : Int) < (x.length : Int) + 1 := by omega
                  have HDD : Hid (y[q]? = some d) := hd
                  clear hc2 hd
                  have z0 : ((0 : Nat) : Int) = 0 := rfl
                  have z1 : ((q + 1 : Nat) : Int) = (q : Int) + 1 := rfl
                  simp only [z0, z1]
                  go_wp2
                  go_quiet (fail)
                  obtain ⟨w5, hw5⟩ : ∃ w5, w5 = wr.drewN nq := ⟨_, rfl⟩
                  rw [← hw5]
                  have b5 : Below w4.heap.size w4 w5 := by rw [hw5]; exact below_dn hb _
                  have own5 : w5.ownsRow w4.heap.size 23 3 u9 out.length (opsC out) := by rw [hw5]; exact own_dn hown _
                  have cy5 := cell_later b5 CY.out
                  clear hw5 hown hb cy r1 r2 CY
                  go_wp2_with (first | (at_builtin; refine wpList_append_own _ rfl _ _ 28 rfl w4.heap.size 23 i2 (.agg #[.int .u8 0, .int .u8 0, .int .u8 0]) 3 3 Ydom.underlying28 oi oz0 oz1 oz2 rfl (by decide) _ _ _ rfl (own5.alloc _) ⟨w5.heap.size, 0, none⟩ 1 1 (opsC [(⟨43, 0, d⟩ : OpT)]) rfl rfl (op_cells1 _ _ _ _ _) (op_one1 _ _ _) (by unfold maxLen; omega) (by omega) (by have := b5.size; simp; omega) ?_))
                  intro v' w9 own9 grow9 _
                  have hb9 : Below w4.heap.size w4 w9 := (b5.alloc b5.size _).grown grow9 (by have := b5.size; simp; omega) (fun q hq => (own5.lt q hq).1)
                  rw [← opsC_append] at own9
                  have NX : Hid (Trail x y 0 q (out ++ [⟨43, 0, d⟩])) := trail_step TR.out (fun os hos => .ins hos HDD.out (fun i' hi' => by omega) (top_ins x y q))
                  clear own5 grow9 b5 TR
                  go_wp2
                  go_roundw
                  case rel => exact ⟨0, q, out ++ [⟨43, 0, d⟩], by omega, by omega, by go_num, by go_num, hb9, by simpa using own9, NX.out, by simp; omega⟩
                  case measure => first | (simp [intOf]; done) | (simp [intOf]; omega)
                | p + 1, 0, hp, hq, TR, hol =>
                  obtain ⟨c, hc⟩ := op_at (os := x) (k := p) (by omega)
                  obtain ⟨b1, o1, rfl, hc1⟩ := hx4.bytes (by omega)
                  have CX : Hid (w4.cell? ⟨b1, o1 + p, none⟩ = some (.int .u8 c)) := hc1 p c hc
                  have cx := cell_later hb CX.out
                  have r1 := cell_later hb (RC.out (p + 1) (by omega))
                  have r2 := cell_later hb (RD.out (p + 1) 0 (by omega) (by omega))
                  have hD := dp_bd x y (p + 1) 0 (by omega) (by omega)
                  have hU := dp_bd x y p 0 (by omega) (by omega)
                  have m1 : (p : Int) + 1 < (x.length : Int) + 1 := by omega
                  have m2 : (p : Int) < (x.length : Int) + 1 := by omega
                  have m3 : (p : Int) < (x.length : Int) := by omega
                  have j1 : (0 : Int) < (y.length : Int) + 1 := by omega
                  have HCC : Hid (x[p]? = some c) := hc
                  have TD : Hid ((dp x y (p + 1) 0 == dp x y p 0 + 1) = true) := by show (dp x y (p + 1) 0 == dp x y p 0 + 1) = true; rw [side_del]; simp
                  clear hc1 hc
                  have z0 : ((0 : Nat) : Int) = 0 := rfl
                  have z1 : ((p + 1 : Nat) : Int) = (p : Int) + 1 := rfl
                  simp only [z0, z1]
                  go_wp2
                  go_quiet (fail)
                  obtain ⟨w5, hw5⟩ : ∃ w5, w5 = wr.drewN nq := ⟨_, rfl⟩
                  rw [← hw5]
                  have b5 : Below w4.heap.size w4 w5 := by rw [hw5]; exact below_dn hb _
                  have own5 : w5.ownsRow w4.heap.size 23 3 u9 out.length (opsC out) := by rw [hw5]; exact own_dn hown _
                  have cx5 := cell_later b5 CX.out
                  have r3 := cell_later b5 (RC.out p (by omega))
                  have r4 := cell_later b5 (RD.out p 0 (by omega) (by omega))
                  have td := TD.out
                  clear hw5 hown hb cx r1 r2 CX TD
                  go_wp2_with (first | (at_builtin; refine wpList_append_own _ rfl _ _ 28 rfl w4.heap.size 23 i2 (.agg #[.int .u8 0, .int .u8 0, .int .u8 0]) 3 3 Ydom.underlying28 oi oz0 oz1 oz2 rfl (by decide) _ _ _ rfl (own5.alloc _) ⟨w5.heap.size, 0, none⟩ 1 1 (opsC [(⟨45, c, 0⟩ : OpT)]) rfl rfl (op_cells1 _ _ _ _ _) (op_one1 _ _ _) (by unfold maxLen; omega) (by omega) (by have := b5.size; simp; omega) ?_))
                  intro v' w9 own9 grow9 _
                  have hb9 : Below w4.heap.size w4 w9 := (b5.alloc b5.size _).grown grow9 (by have := b5.size; simp; omega) (fun q hq => (own5.lt q hq).1)
                  rw [← opsC_append] at own9
                  have NX : Hid (Trail x y p 0 (out ++ [⟨45, c, 0⟩])) := trail_step TR.out (fun os hos => .del hos HCC.out (fun j' hj' => by omega) (side_del x y p))
                  clear own5 grow9 b5 TR
                  go_wp2
                  go_roundw
                  case rel => exact ⟨p, 0, out ++ [⟨45, c, 0⟩], by omega, by omega, by go_num, by go_num, hb9, by simpa using own9, NX.out, by simp; omega⟩
                  case measure => first | (simp [intOf]; done) | (simp [intOf]; omega)
                | p + 1, q + 1, hp, hq, TR, hol =>
                  obtain ⟨c, hc⟩ := op_at (os := x) (k := p) (by omega)
                  obtain ⟨b1, o1, rfl, hc1⟩ := hx4.bytes (by omega)
                  have CX : Hid (w4.cell? ⟨b1, o1 + p, none⟩ = some (.int .u8 c)) := hc1 p c hc
                  have cx := cell_later hb CX.out
                  obtain ⟨d, hd⟩ := op_at (os := y) (k := q) (by omega)
                  obtain ⟨b2, o2, rfl, hc2⟩ := hy4.bytes (by omega)
                  have CY : Hid (w4.cell? ⟨b2, o2 + q, none⟩ = some (.int .u8 d)) := hc2 q d hd
                  have cy := cell_later hb CY.out
                  have lb1 : b1 < w4.heap.size := World.block_lt_of_cell? w4 _ CX.out
                  have lb2 : b2 < w4.heap.size := World.block_lt_of_cell? w4 _ CY.out
                  have r1 := cell_later hb (RC.out (p + 1) (by omega))
                  have r2 := cell_later hb (RD.out (p + 1) (q + 1) (by omega) (by omega))
                  have r3 := cell_later hb (RC.out p (by omega))
                  have r4 := cell_later hb (RD.out p q (by omega) (by omega))
                  have hD := dp_bd x y (p + 1) (q + 1) (by omega) (by omega)
                  have hU := dp_bd x y p (q + 1) (by omega) (by omega)
                  have hE := dp_bd x y p q (by omega) (by omega)
                  have m1 : (p : Int) + 1 < (x.length : Int) + 1 := by omega
                  have m2 : (p : Int) < (x.length : Int) + 1 := by omega
                  have m3 : (p : Int) < (x.length : Int) := by omega
                  have j1 : (q : Int) + 1 < (y.length : Int) + 1 := by omega
                  have j2 : (q : Int) < (y.length : Int) := by omega
                  have j3 : (q : Int) < (y.length : Int) + 1 := by omega
                  have HCC : Hid (x[p]? = some c) := hc
                  have HDD : Hid (y[q]? = some d) := hd
                  have v1 : IntKind.i64.wrap (dp x y p q + 1) = dp x y p q + 1 := IntWalk.i64_in _ (by omega)
                  have v5 : IntKind.i64.wrap ((p : Int) + 1 - 1) = (p : Int) := by rw [show (p : Int) + 1 - 1 = (p : Int) by omega]; exact IntWalk.i64_in _ (by omega)
                  have v6 : IntKind.i64.wrap ((q : Int) + 1 - 1) = (q : Int) := by rw [show (q : Int) + 1 - 1 = (q : Int) by omega]; exact IntWalk.i64_in _ (by omega)
                  have v7 : IntKind.i64.wrap (p : Int) = (p : Int) := IntWalk.i64_in _ (by omega)
                  have v8 : IntKind.i64.wrap (q : Int) = (q : Int) := IntWalk.i64_in _ (by omega)
                  have i4 : (0 : Int) ≤ (p : Int) := by omega
                  have i5 : (0 : Int) ≤ (q : Int) := by omega
                  clear hc1 hc hc2 hd
                  have z0 : ((p + 1 : Nat) : Int) = (p : Int) + 1 := rfl
                  have z1 : ((q + 1 : Nat) : Int) = (q : Int) + 1 := rfl
                  simp only [z0, z1]
                  by_cases hcd : c = d
                  · subst hcd
                    have t : (c == c) = true := by simp
                    go_wp2
                    go_quiet (fail)
                    obtain ⟨w5, hw5⟩ : ∃ w5, w5 = wr.drewN nq := ⟨_, rfl⟩
                    rw [← hw5]
                    have b5 : Below w4.heap.size w4 w5 := by rw [hw5]; exact below_dn hb _
                    have own5 : w5.ownsRow w4.heap.size 23 3 u9 out.length (opsC out) := by rw [hw5]; exact own_dn hown _
                    have cx5 := cell_later b5 CX.out
                    have cy5 := cell_later b5 CY.out
                    have EK : (pairT c c).kind = 61 := by simp [pairT]
                    have nx : some b1 ≠ u9.ownBlock := fun e => by have := (own5.lt _ e.symm).1; omega
                    have ny : some b2 ≠ u9.ownBlock := fun e => by have := (own5.lt _ e.symm).1; omega
                    have PC : Hid (∀ w' : World, Calls Ydom.prog 16 #[.int .u8 c, .int .u8 c] w' fun e w'' => e = .returned (.agg #[.int .u8 61, .int .u8 c, .int .u8 c]) ∧ Below w'.heap.size w' w'') := fun w' => (pair_calls c c w').mono (by
                      rintro e w'' ⟨rfl, rfl⟩
                      rw [EK]
                      exact ⟨rfl, (Below.refl _ _).alloc (Nat.le_refl _) _⟩)
                    have BD : Hid (Below w5.heap.size w5 w5.drew) := (Below.refl _ _).drew
                    clear hw5 EK
                    go_wp2
                    go_region_held3 (fun w' => w'.cell? ⟨b1, o1 + p, none⟩ = some (.int .u8 c) ∧ w'.cell? ⟨b2, o2 + q, none⟩ = some (.int .u8 c))
                      (first | (go_keep; done) | (exact ⟨grow9.cell (al_old _ (cell_later b6 cx5)) nx, grow9.cell (al_old _ (cell_later b6 cy5)) ny⟩) | (exact ⟨al_old _ (cell_later b6 cx5), al_old _ (cell_later b6 cy5)⟩) | (exact ⟨cell_later b6 cx5, cell_later b6 cy5⟩))
                      (first | (go_at_call 16; refine (PC.out _).mono ?_; rintro e w6 ⟨rfl, b6'⟩; have b6 : Below w5.heap.size w5 w6 := BD.out.trans (b6'.mono (by simp))) | (refine step_append_lies _ (by rfl) _ _ _ (by rfl) w4.heap.size 23 i2 (.agg #[.int .u8 0, .int .u8 0, .int .u8 0]) 3 3 Ydom.underlying28 oi oz0 oz1 oz2 rfl (by decide) u9 out.length (opsC out) (by rfl) ((own_keep own5 b6).alloc _) ⟨w6.heap.size, 0, none⟩ 1 1 (opsC [(⟨61, c, c⟩ : OpT)]) (by rfl) (by rfl) (op_cells1 _ _ _ _ _) (op_one1 _ _ _) (by omega) (by unfold maxLen; omega) (by omega) (by have := b5.size; have := b6.size; simp; omega) (w6.heap.size + 1) (by simp) ?_; intro g9 cap9 w9 own9 grow9 hat9 hlt9))
                    have b6s := b6.size
                    have hb9 : Below w4.heap.size w4 w9 := ((b5.trans (b6.mono b5.size)).alloc (by have := b5.size; omega) _).grown grow9 (by have := b5.size; simp; omega) (fun q hq => (own5.lt q hq).1)
                    rw [← opsC_append] at own9
                    have NX : Hid (Trail x y p q (out ++ [⟨61, c, c⟩])) := trail_step TR.out (fun os hos => .keep hos HCC.out HDD.out)
                    clear own5 grow9 b5 TR hat9 hlt9 b6 b6s
                    go_wp2
                    go_roundw
                    case rel => exact ⟨p, q, out ++ [⟨61, c, c⟩], by omega, by omega, by go_num, by go_num, hb9, by simpa using own9, NX.out, by simp; omega⟩
                    case measure => first | (simp [intOf]; done) | (simp [intOf]; omega)
                  · have t : (c == d) = false := by simp [hcd]
                    by_cases hsub : dp x y (p + 1) (q + 1) = dp x y p q + 1
                    · have t2 : (dp x y (p + 1) (q + 1) == dp x y p q + 1) = true := by simp [hsub]
                      have HSUB : Hid (dp x y (p + 1) (q + 1) = dp x y p q + 1) := hsub
                      clear hsub
                      go_wp2
                      go_quiet (fail)
                      obtain ⟨w5, hw5⟩ : ∃ w5, w5 = wr.drewN nq := ⟨_, rfl⟩
                      rw [← hw5]
                      have b5 : Below w4.heap.size w4 w5 := by rw [hw5]; exact below_dn hb _
                      have own5 : w5.ownsRow w4.heap.size 23 3 u9 out.length (opsC out) := by rw [hw5]; exact own_dn hown _
                      have cx5 := cell_later b5 CX.out
                      have cy5 := cell_later b5 CY.out
                      have EK : (pairT c d).kind = 126 := by simp [pairT, hcd]
                      have nx : some b1 ≠ u9.ownBlock := fun e => by have := (own5.lt _ e.symm).1; omega
                      have ny : some b2 ≠ u9.ownBlock := fun e => by have := (own5.lt _ e.symm).1; omega
                      have PC : Hid (∀ w' : World, Calls Ydom.prog 16 #[.int .u8 c, .int .u8 d] w' fun e w'' => e = .returned (.agg #[.int .u8 126, .int .u8 c, .int .u8 d]) ∧ Below w'.heap.size w' w'') := fun w' => (pair_calls c d w').mono (by
                        rintro e w'' ⟨rfl, rfl⟩
                        rw [EK]
                        exact ⟨rfl, (Below.refl _ _).alloc (Nat.le_refl _) _⟩)
                      have BD : Hid (Below w5.heap.size w5 w5.drew) := (Below.refl _ _).drew
                      clear hw5 EK
                      go_wp2
                      go_region_held3 (fun w' => w'.cell? ⟨b1, o1 + p, none⟩ = some (.int .u8 c) ∧ w'.cell? ⟨b2, o2 + q, none⟩ = some (.int .u8 d))
                        (first | (go_keep; done) | (exact ⟨grow9.cell (al_old _ (cell_later b6 cx5)) nx, grow9.cell (al_old _ (cell_later b6 cy5)) ny⟩) | (exact ⟨al_old _ (cell_later b6 cx5), al_old _ (cell_later b6 cy5)⟩) | (exact ⟨cell_later b6 cx5, cell_later b6 cy5⟩))
                        (first | (go_at_call 16; refine (PC.out _).mono ?_; rintro e w6 ⟨rfl, b6'⟩; have b6 : Below w5.heap.size w5 w6 := BD.out.trans (b6'.mono (by simp))) | (refine step_append_lies _ (by rfl) _ _ _ (by rfl) w4.heap.size 23 i2 (.agg #[.int .u8 0, .int .u8 0, .int .u8 0]) 3 3 Ydom.underlying28 oi oz0 oz1 oz2 rfl (by decide) u9 out.length (opsC out) (by rfl) ((own_keep own5 b6).alloc _) ⟨w6.heap.size, 0, none⟩ 1 1 (opsC [(⟨126, c, d⟩ : OpT)]) (by rfl) (by rfl) (op_cells1 _ _ _ _ _) (op_one1 _ _ _) (by omega) (by unfold maxLen; omega) (by omega) (by have := b5.size; have := b6.size; simp; omega) (w6.heap.size + 1) (by simp) ?_; intro g9 cap9 w9 own9 grow9 hat9 hlt9))
                      have b6s := b6.size
                      have hb9 : Below w4.heap.size w4 w9 := ((b5.trans (b6.mono b5.size)).alloc (by have := b5.size; omega) _).grown grow9 (by have := b5.size; simp; omega) (fun q hq => (own5.lt q hq).1)
                      rw [← opsC_append] at own9
                      have NX : Hid (Trail x y p q (out ++ [⟨126, c, d⟩])) := trail_step TR.out (fun os hos => .sub hos HCC.out HDD.out hcd HSUB.out)
                      clear own5 grow9 b5 TR hat9 hlt9 b6 b6s
                      go_wp2
                      go_roundw
                      case rel => exact ⟨p, q, out ++ [⟨126, c, d⟩], by omega, by omega, by go_num, by go_num, hb9, by simpa using own9, NX.out, by simp; omega⟩
                      case measure => first | (simp [intOf]; done) | (simp [intOf]; omega)
                    · have t2 : (dp x y (p + 1) (q + 1) == dp x y p q + 1) = false := by simp [hsub]
                      by_cases hdel : dp x y (p + 1) (q + 1) = dp x y p (q + 1) + 1
                      · have t3 : (dp x y (p + 1) (q + 1) == dp x y p (q + 1) + 1) = true := by simp [hdel]
                        have HDEL : Hid (dp x y (p + 1) (q + 1) = dp x y p (q + 1) + 1) := hdel
                        have HSUB : Hid (dp x y (p + 1) (q + 1) ≠ dp x y p q + 1) := hsub
                        clear hdel hsub
                        go_wp2
                        go_quiet (fail)
                        obtain ⟨w5, hw5⟩ : ∃ w5, w5 = wr.drewN nq := ⟨_, rfl⟩
                        rw [← hw5]
                        have b5 : Below w4.heap.size w4 w5 := by rw [hw5]; exact below_dn hb _
                        have own5 : w5.ownsRow w4.heap.size 23 3 u9 out.length (opsC out) := by rw [hw5]; exact own_dn hown _
                        have cx5 := cell_later b5 CX.out
                        have s3 := cell_later b5 (RC.out p (by omega))
                        have s4 := cell_later b5 (RD.out p (q + 1) (by omega) (by omega))
                        clear hw5 hown hb cx cy r1 r2 r3 r4 CX CY
                        go_wp2_with (first | (at_builtin; refine wpList_append_own _ rfl _ _ 28 rfl w4.heap.size 23 i2 (.agg #[.int .u8 0, .int .u8 0, .int .u8 0]) 3 3 Ydom.underlying28 oi oz0 oz1 oz2 rfl (by decide) _ _ _ rfl (own5.alloc _) ⟨w5.heap.size, 0, none⟩ 1 1 (opsC [(⟨45, c, 0⟩ : OpT)]) rfl rfl (op_cells1 _ _ _ _ _) (op_one1 _ _ _) (by unfold maxLen; omega) (by omega) (by have := b5.size; simp; omega) ?_))
                        intro v' w9 own9 grow9 _
                        have hb9 : Below w4.heap.size w4 w9 := (b5.alloc b5.size _).grown grow9 (by have := b5.size; simp; omega) (fun q hq => (own5.lt q hq).1)
                        rw [← opsC_append] at own9
                        have NX : Hid (Trail x y p (q + 1) (out ++ [⟨45, c, 0⟩])) := trail_step TR.out (fun os hos => .del hos HCC.out (fun j' hj' => by obtain rfl : q = j' := (by omega); exact ⟨by rw [HDD.out]; intro e; exact hcd (Option.some.inj e).symm, HSUB.out⟩) HDEL.out)
                        clear own5 grow9 b5 TR
                        go_wp2
                        go_roundw
                        case rel => exact ⟨p, (q + 1), out ++ [⟨45, c, 0⟩], by omega, by omega, by go_num, by go_num, hb9, by simpa using own9, NX.out, by simp; omega⟩
                        case measure => first | (simp [intOf]; done) | (simp [intOf]; omega)
                      · have t3 : (dp x y (p + 1) (q + 1) == dp x y p (q + 1) + 1) = false := by simp [hdel]
                        have HDEL : Hid (dp x y (p + 1) (q + 1) ≠ dp x y p (q + 1) + 1) := hdel
                        have HSUB : Hid (dp x y (p + 1) (q + 1) ≠ dp x y p q + 1) := hsub
                        clear hdel hsub
                        go_wp2
                        go_quiet (fail)
                        obtain ⟨w5, hw5⟩ : ∃ w5, w5 = wr.drewN nq := ⟨_, rfl⟩
                        rw [← hw5]
                        have b5 : Below w4.heap.size w4 w5 := by rw [hw5]; exact below_dn hb _
                        have own5 : w5.ownsRow w4.heap.size 23 3 u9 out.length (opsC out) := by rw [hw5]; exact own_dn hown _
                        have cy5 := cell_later b5 CY.out
                        have s3 := cell_later b5 (RC.out p (by omega))
                        have s4 := cell_later b5 (RD.out p (q + 1) (by omega) (by omega))
                        clear hw5 hown hb cx cy r1 r2 r3 r4 CX CY
                        go_wp2_with (first | (at_builtin; refine wpList_append_own _ rfl _ _ 28 rfl w4.heap.size 23 i2 (.agg #[.int .u8 0, .int .u8 0, .int .u8 0]) 3 3 Ydom.underlying28 oi oz0 oz1 oz2 rfl (by decide) _ _ _ rfl (own5.alloc _) ⟨w5.heap.size, 0, none⟩ 1 1 (opsC [(⟨43, 0, d⟩ : OpT)]) rfl rfl (op_cells1 _ _ _ _ _) (op_one1 _ _ _) (by unfold maxLen; omega) (by omega) (by have := b5.size; simp; omega) ?_))
                        intro v' w9 own9 grow9 _
                        have hb9 : Below w4.heap.size w4 w9 := (b5.alloc b5.size _).grown grow9 (by have := b5.size; simp; omega) (fun q hq => (own5.lt q hq).1)
                        rw [← opsC_append] at own9
                        have NX : Hid (Trail x y (p + 1) q (out ++ [⟨43, 0, d⟩])) := trail_step TR.out (fun os hos => .ins hos HDD.out (fun i' hi' => by obtain rfl : p = i' := (by omega); exact ⟨by rw [HCC.out]; intro e; exact hcd (Option.some.inj e), HSUB.out, HDEL.out⟩) (last_ins HCC.out HDD.out hcd HSUB.out HDEL.out))
                        clear own5 grow9 b5 TR
                        go_wp2
                        go_roundw
                        case rel => exact ⟨(p + 1), q, out ++ [⟨43, 0, d⟩], by omega, by omega, by go_num, by go_num, hb9, by simpa using own9, NX.out, by simp; omega⟩
                        case measure => first | (simp [intOf]; done) | (simp [intOf]; omega)
end Go.Proofs.Ymbrdo
