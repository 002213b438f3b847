/-
  ARGUMENTS OPENED: a slice of structs whose fields are all of type uint8; a slice of integers. From the reading of an argument to 'Row'.
-/
import Derived.Test.YmbrdoKit
namespace Go.Proofs.Ymbrdo
open Go.ChangeShapes Go.WideShapes Go.ChangeAt Go.RowKit

theorem own : ownKnob Ydom.prog.godebug = none := by kernel_rfl
theorem laidOut : laidOutB Ydom.prog = true := by kernel_rfl

/-- Four bytes as plain data. -/
structure St4 where
  f0 : Int
  f1 : Int
  f2 : Int
  f3 : Int
def st4C : List St4 → List Value
  | [] => []
  | o :: os => .int .u8 o.f0 :: .int .u8 o.f1 :: .int .u8 o.f2 :: .int .u8 o.f3 :: st4C os

theorem st4C_length (os : List St4) : (st4C os).length = os.length * 4 := by
  induction os with
  | nil => rfl
  | cons o os ih => simp only [st4C, List.length_cons, ih]; omega

theorem st4C_get {os : List St4} {i : Nat} {o : St4} (h : os[i]? = some o) :
    (st4C os)[i * 4]? = some (.int .u8 o.f0) ∧ (st4C os)[i * 4 + 1]? = some (.int .u8 o.f1) ∧ (st4C os)[i * 4 + 2]? = some (.int .u8 o.f2) ∧ (st4C os)[i * 4 + 3]? = some (.int .u8 o.f3) := by
  induction os generalizing i with
  | nil => simp at h
  | cons p os ih =>
    cases i with
    | zero => simp at h; subst h; simp [st4C]
    | succ i =>
      have := ih (by simpa using h)
      rw [show (i + 1) * 4 = i * 4 + 4 by omega]
      simpa [st4C] using this

theorem Row.st4 {w : World} {a : Option Addr} {os : List St4} (h : Row w a (st4C os)) (hne : 0 < os.length) :
    ∃ b off, a = some ⟨b, off, none⟩ ∧ ∀ i o, os[i]? = some o → w.cell? ⟨b, off + i * 4, none⟩ = some (.int .u8 o.f0) ∧
      w.cell? ⟨b, off + i * 4 + 1, none⟩ = some (.int .u8 o.f1) ∧ w.cell? ⟨b, off + i * 4 + 2, none⟩ = some (.int .u8 o.f2) ∧ w.cell? ⟨b, off + i * 4 + 3, none⟩ = some (.int .u8 o.f3) := by
  obtain ⟨b, off, ha, hc⟩ := h.one (by intro e; have := congrArg List.length e; rw [st4C_length, List.length_nil] at this; omega)
  refine ⟨b, off, ha, fun i o ho => ?_⟩
  obtain ⟨h1, h2, h3, h4⟩ := st4C_get ho
  exact ⟨hc _ _ h1, by simpa [Nat.add_assoc] using hc _ _ h2, by simpa [Nat.add_assoc] using hc _ _ h3, by simpa [Nat.add_assoc] using hc _ _ h4⟩

def OpOk (o : OpT) : Prop := (0 ≤ o.kind ∧ o.kind ≤ 255) ∧ (0 ≤ o.old ∧ o.old ≤ 255) ∧ (0 ≤ o.new ∧ o.new ≤ 255)
def St4Ok (o : St4) : Prop := (0 ≤ o.f0 ∧ o.f0 ≤ 255) ∧ (0 ≤ o.f1 ∧ o.f1 ≤ 255) ∧ (0 ≤ o.f2 ∧ o.f2 ≤ 255) ∧ (0 ≤ o.f3 ∧ o.f3 ≤ 255)

theorem ops_of_flat : ∀ (n : Nat) (cs : List Int), cs.length = n * 3 → (∀ z ∈ cs, 0 ≤ z ∧ z ≤ 255) → ∃ os : List OpT, os.length = n ∧ bytesC cs = opsC os ∧ ∀ o ∈ os, OpOk o
  | 0, cs, h, _ => ⟨[], rfl, by have := List.eq_nil_of_length_eq_zero (by simpa using h : cs.length = 0); subst this; rfl, by simp⟩
  | n + 1, cs, h, hz => by
    match cs, h with
    | [], h => simp at h
    | [_], h => simp at h; omega
    | [_, _], h => simp at h; omega
    | x :: y :: z :: r, h =>
      obtain ⟨os, h1, h2, h3⟩ := ops_of_flat n r (by simp at h; omega) (fun q hq => hz q (by simp [hq]))
      refine ⟨⟨x, y, z⟩ :: os, by simp [h1], ?_, ?_⟩
      · simp only [bytesC, List.map_cons, opsC] at h2 ⊢
        rw [h2]
      · intro o ho
        rcases List.mem_cons.1 ho with rfl | ho
        · exact ⟨hz _ (by simp), hz _ (by simp), hz _ (by simp)⟩
        · exact h3 o ho

theorem st4_of_flat : ∀ (n : Nat) (cs : List Int), cs.length = n * 4 → (∀ z ∈ cs, 0 ≤ z ∧ z ≤ 255) → ∃ os : List St4, os.length = n ∧ bytesC cs = st4C os ∧ ∀ o ∈ os, St4Ok o
  | 0, cs, h, _ => ⟨[], rfl, by have := List.eq_nil_of_length_eq_zero (by simpa using h : cs.length = 0); subst this; rfl, by simp⟩
  | n + 1, cs, h, hz => by
    match cs, h with
    | [], h => simp at h
    | [_], h => simp at h; omega
    | [_, _], h => simp at h; omega
    | [_, _, _], h => simp at h; omega
    | x :: y :: z :: u :: r, h =>
      obtain ⟨os, h1, h2, h3⟩ := st4_of_flat n r (by simp at h; omega) (fun q hq => hz q (by simp [hq]))
      refine ⟨⟨x, y, z, u⟩ :: os, by simp [h1], ?_, ?_⟩
      · simp only [bytesC, List.map_cons, st4C] at h2 ⊢
        rw [h2]
      · intro o ho
        rcases List.mem_cons.1 ho with rfl | ho
        · exact ⟨hz _ (by simp), hz _ (by simp), hz _ (by simp), hz _ (by simp)⟩
        · exact h3 o ho

section
variable {H : Type} {enc : TypeId × Value → H} {P : Program} {w : World} {spare : Nat → Bool} {held : Bool}

theorem open_flat {t e u s : Nat} {fs : Array Field} {fuel : Nat} {a : Option Addr} {len cap : Nat} {x : DataW H × List MemPlace}
    (ht : P.underlying t = some (.slice e)) (he : P.underlying e = some (.struct fs)) (hs : P.cellsOf e = s) (hfs : fs.size = s)
    (hf : ∀ (i : Nat) (f : Field), fs[i]? = some f → f.offset = i ∧ f.type = u) (hu : P.underlying u = some (.int .u8)) (hcu : P.cellsOf u = 1)
    (h : DataW.trod enc P w 0 spare held fuel t [.slice a len cap] = some x) :
    ∃ cs : List Int, cs.length = len * s ∧ (∀ z ∈ cs, 0 ≤ z ∧ z ≤ 255) ∧ Row w a (bytesC cs) ∧ (a = none → len = 0 ∧ cap = 0) := by
  rcases Deep.open_slice ht h with ⟨h0, _⟩ | ⟨ad, len', cap', m, n, D, Pl, h0, hb, hl, hm, hmm, _, hx⟩
  · simp only [List.cons.injEq, Value.slice.injEq, and_true] at h0
    obtain ⟨rfl, rfl, rfl⟩ := h0
    exact ⟨[], by simp, by simp, .inl rfl, fun _ => ⟨rfl, rfl⟩⟩
  simp only [List.cons.injEq, Value.slice.injEq, and_true] at h0
  obtain ⟨rfl, rfl, rfl⟩ := h0
  have hlm : len ≤ m := by rw [hmm]; split <;> omega
  have each : ∀ q, q < len * s → ∃ z : Int, w.cell? (ad.add q) = some (.int .u8 z) ∧ 0 ≤ z ∧ z ≤ 255 := by
    intro q hq
    have hs0 : 0 < s := by
      rcases Nat.eq_zero_or_pos s with h | h
      · subst h; simp at hq
      · exact h
    have hi : q / s < len := (Nat.div_lt_iff_lt_mul hs0).2 hq
    have hj : q % s < s := Nat.mod_lt _ hs0
    have hqe : q = q / s * s + q % s := by rw [Nat.mul_comm]; exact (Nat.div_add_mod q s).symm
    obtain ⟨cs', h1, h2⟩ := hx (q / s) (by omega)
    rw [hs] at h1
    obtain ⟨_, hlen, hcell⟩ := World.cells?_some h1
    obtain ⟨xs, k, hk, hxy, _, hxl, hff⟩ := DataW.trod_struct he h2
    obtain ⟨f, hfj⟩ : ∃ f, fs[q % s]? = some f := ⟨fs[q % s]'(by omega), by simp [hfs, hj]⟩
    obtain ⟨o1, o2⟩ := hf _ f hfj
    have g := hff _ f hfj
    rw [o1, o2, hcu] at g
    have hxs : xs[q % s]? = some (xs[q % s]'(by omega)) := by simp [hxl, hfs, hj]
    rw [hxs] at g
    obtain ⟨z, hz1, _, hz3⟩ := DataW.trod_int hu g
    have hb := bounds_u8 hz3
    refine ⟨z, ?_, hb.1, hb.2⟩
    have e0 := hcell (q % s) hj
    rw [Deep.add_add, ← hqe] at e0
    rw [e0]
    have hcl : q % s < cs'.length := by omega
    rw [List.drop_eq_getElem_cons hcl] at hz1
    simp only [List.take_succ_cons, List.take_zero, List.cons.injEq, and_true] at hz1
    simp [hcl, hz1]
  obtain ⟨f, hfq⟩ := Deep.choose_lt each
  refine ⟨(List.range (len * s)).map f, by simp, ?_, ?_, by simp⟩
  · intro z hz
    obtain ⟨q, hq, rfl⟩ := List.mem_map.1 hz
    exact (hfq q (List.mem_range.1 hq)).2
  · rcases Nat.eq_zero_or_pos (len * s) with h0 | h0
    · rw [h0]; exact .inl rfl
    · obtain ⟨b, off, spot⟩ := ad
      have hsp : spot = none := by simpa [Addr.add] using World.cell?_spot (hfq 0 h0).1
      subst hsp
      refine .inr ⟨b, off, rfl, fun j v hj => ?_⟩
      have hjl : j < len * s := by
        have := (List.getElem?_eq_some_iff.1 hj).1
        simpa [bytesC] using this
      have hv : v = .int .u8 (f j) := by
        simp [bytesC, hjl] at hj
        exact hj.symm
      rw [hv, ← Addr.add_lit]
      exact (hfq j hjl).1

theorem open_row {t e : Nat} {k : IntKind} {fuel : Nat} {a : Option Addr} {len cap : Nat} {x : DataW H × List MemPlace}
    (ht : P.underlying t = some (.slice e)) (he : P.underlying e = some (.int k)) (hs : P.cellsOf e = 1)
    (h : DataW.trod enc P w 0 spare held fuel t [.slice a len cap] = some x) :
    ∃ zs : List Int, zs.length = len ∧ (∀ z ∈ zs, (Lit.int k z).wf = true) ∧ Row w a (zs.map (Value.int k)) ∧ (a = none → len = 0 ∧ cap = 0) := by
  rcases open_ints ht he hs h with ⟨hcs, _⟩ | ⟨ad, l, c, zs, hcs, _, hl, hm, hz, _, hcell, hwz⟩
  · simp only [List.cons.injEq, Value.slice.injEq, and_true] at hcs
    obtain ⟨rfl, rfl, rfl⟩ := hcs
    exact ⟨[], rfl, by simp, .inl rfl, fun _ => ⟨rfl, rfl⟩⟩
  · simp only [List.cons.injEq, Value.slice.injEq, and_true] at hcs
    obtain ⟨rfl, rfl, rfl⟩ := hcs
    have hlz : len ≤ zs.length := by rw [hz]; split <;> omega
    refine ⟨zs.take len, by simp; omega, fun z hz => hwz z (List.mem_of_mem_take hz), ?_, by simp⟩
    rcases Nat.eq_zero_or_pos len with h0 | h0
    · subst h0; exact .inl rfl
    · obtain ⟨b, off, spot⟩ := ad
      have hsp : spot = none := by simpa [Addr.add] using World.cell?_spot (hcell 0 (by omega))
      subst hsp
      refine .inr ⟨b, off, rfl, fun j v hj => ?_⟩
      have hjl : j < len := by
        have := (List.getElem?_eq_some_iff.1 hj).1
        simp at this
        omega
      have h1 := hcell j (by omega)
      rw [Addr.add_lit] at h1
      rw [h1, ← hj]
      simp [hjl, show j < zs.length by omega]
end
end Go.Proofs.Ymbrdo
