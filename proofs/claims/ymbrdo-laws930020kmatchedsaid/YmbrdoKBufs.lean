/-
  FOUR BUFFERS OF OPS THAT DO NOT SHARE A BLOCK; zzs930020keqops; WHAT LawS930020KMatched BUILDS, IN PLAIN DATA.
-/
import Derived.Test.YmbrdoKPlain
import Derived.Test.YmbrdoCompose
import Derived.Maps.AppendAt
namespace Go.Proofs.Ymbrdo
open Go.ChangeShapes Go.WideShapes Go.ChangeAt Go.RowKit

theorem keepO {wi W w9 : World} {base : Nat} {u v : Value} {l : List OpT} (hu : OwnOps wi base u l) (hb : Below wi.heap.size wi W) (hg : W.grownBy w9 v.ownBlock) (hne : v.ownBlock ≠ u.ownBlock) : OwnOps w9 base u l :=
  ⟨(own_keep hu.1 hb).kept hg (.inr (Ne.symm hne)), hu.2⟩
theorem apartO {wi W : World} {base : Nat} {u v v' : Value} {l : List OpT} (hu : OwnOps wi base u l) (hb : Below wi.heap.size wi W) (hne : v.ownBlock ≠ u.ownBlock) (hk : v'.ownBlock = v.ownBlock ∨ v'.ownBlock = some W.heap.size) : v'.ownBlock ≠ u.ownBlock := by
  rcases hk with h | h
  · rw [h]; exact hne
  · rw [h]
    intro e
    have := (hu.1.lt _ e.symm).2
    have := hb.size
    omega

structure Own4 (w : World) (base : Nat) (v1 v2 v3 v4 : Value) (l1 l2 l3 l4 : List OpT) : Prop where
  o1 : OwnOps w base v1 l1
  o2 : OwnOps w base v2 l2
  o3 : OwnOps w base v3 l3
  o4 : OwnOps w base v4 l4
  a12 : v1.ownBlock ≠ v2.ownBlock
  a13 : v1.ownBlock ≠ v3.ownBlock
  a14 : v1.ownBlock ≠ v4.ownBlock
  a23 : v2.ownBlock ≠ v3.ownBlock
  a24 : v2.ownBlock ≠ v4.ownBlock
  a34 : v3.ownBlock ≠ v4.ownBlock

theorem Own4.below {w w' : World} {base : Nat} {v1 v2 v3 v4 : Value} {l1 l2 l3 l4 : List OpT} (h : Own4 w base v1 v2 v3 v4 l1 l2 l3 l4) (hb : Below w.heap.size w w') : Own4 w' base v1 v2 v3 v4 l1 l2 l3 l4 :=
  ⟨h.o1.below hb, h.o2.below hb, h.o3.below hb, h.o4.below hb, h.a12, h.a13, h.a14, h.a23, h.a24, h.a34⟩

/-- A new fourth buffer. -/
theorem Own4.fresh {w w' : World} {base n : Nat} {v1 v2 v3 v4 : Value} {l1 l2 l3 l4 : List OpT} (h : Own4 w base v1 v2 v3 v4 l1 l2 l3 l4) (hg : w.grownBy w' none)
    (ho : w'.ownsRow base 23 3 (.slice (some ⟨w.heap.size, 0, none⟩) 0 n) 0 []) : Own4 w' base v1 v2 v3 (.slice (some ⟨w.heap.size, 0, none⟩) 0 n) l1 l2 l3 [] := by
  have hb : Below w.heap.size w w' := ⟨hg.os, hg.tape, hg.output, hg.size, fun k hk => hg.block k hk (by simp)⟩
  have far : ∀ {v : Value} {l : List OpT}, OwnOps w base v l → v.ownBlock ≠ (Value.slice (some ⟨w.heap.size, 0, none⟩) 0 n).ownBlock := by
    intro v l hv e
    have e' : v.ownBlock = some w.heap.size := by rw [e]; rfl
    have := (hv.1.lt _ e').2
    omega
  exact ⟨h.o1.below hb, h.o2.below hb, h.o3.below hb, ⟨ho, _, _, rfl⟩, h.a12, h.a13, far h.o1, h.a23, far h.o2, far h.o3⟩

theorem own_next {w9 : World} {base n : Nat} {v : Value} {l : List OpT} {o : OpT} (hn : n = l.length) (h : w9.ownsRow base 23 3 v (n + 1) (opsC l ++ opsC [o])) : OwnOps w9 base v (l ++ [o]) := by
  subst hn
  have h' : w9.ownsRow base 23 3 v (l ++ [o]).length (opsC (l ++ [o])) := by
    rw [opsC_append]
    simpa using h
  exact ⟨h', own_some h' (by simp)⟩

theorem op_cells_of {W : World} {g : Nat} {k x y : Int} (h0 : W.cell? ⟨g, 0, none⟩ = some (.int .u8 k)) (h1 : W.cell? ⟨g, 1, none⟩ = some (.int .u8 x)) (h2 : W.cell? ⟨g, 2, none⟩ = some (.int .u8 y)) :
    ∀ j u, (opsC [⟨k, x, y⟩])[j]? = some u → W.cell? ((⟨g, 0, none⟩ : Addr).add j) = some u := by
  intro j u hj
  rw [Addr.add_lit]
  match j, hj with
  | 0, hj => simp [opsC] at hj; subst hj; simpa using h0
  | 1, hj => simp [opsC] at hj; subst hj; simpa using h1
  | 2, hj => simp [opsC] at hj; subst hj; simpa using h2
  | j + 3, hj => simp [opsC] at hj


theorem Own4.app1 {w W w9 : World} {base : Nat} {v1 v2 v3 v4 v' : Value} {l1 l2 l3 l4 : List OpT} {o : OpT} (h : Own4 w base v1 v2 v3 v4 l1 l2 l3 l4) (hb : Below w.heap.size w W)
    (h9 : w9.ownsRow base 23 3 v' (l1.length + 1) (opsC l1 ++ opsC [o])) (hg : W.grownBy w9 v1.ownBlock) (hk : v'.ownBlock = v1.ownBlock ∨ v'.ownBlock = some W.heap.size) : Own4 w9 base v' v2 v3 v4 (l1 ++ [o]) l2 l3 l4 :=
  ⟨own_next rfl h9, keepO h.o2 hb hg (h.a12), keepO h.o3 hb hg (h.a13), keepO h.o4 hb hg (h.a14), apartO h.o2 hb (h.a12) hk, apartO h.o3 hb (h.a13) hk, apartO h.o4 hb (h.a14) hk, h.a23, h.a24, h.a34⟩

theorem Own4.app2 {w W w9 : World} {base : Nat} {v1 v2 v3 v4 v' : Value} {l1 l2 l3 l4 : List OpT} {o : OpT} (h : Own4 w base v1 v2 v3 v4 l1 l2 l3 l4) (hb : Below w.heap.size w W)
    (h9 : w9.ownsRow base 23 3 v' (l2.length + 1) (opsC l2 ++ opsC [o])) (hg : W.grownBy w9 v2.ownBlock) (hk : v'.ownBlock = v2.ownBlock ∨ v'.ownBlock = some W.heap.size) : Own4 w9 base v1 v' v3 v4 l1 (l2 ++ [o]) l3 l4 :=
  ⟨keepO h.o1 hb hg (h.a12.symm), own_next rfl h9, keepO h.o3 hb hg (h.a23), keepO h.o4 hb hg (h.a24), (apartO h.o1 hb (h.a12.symm) hk).symm, h.a13, h.a14, apartO h.o3 hb (h.a23) hk, apartO h.o4 hb (h.a24) hk, h.a34⟩

theorem Own4.app3 {w W w9 : World} {base : Nat} {v1 v2 v3 v4 v' : Value} {l1 l2 l3 l4 : List OpT} {o : OpT} (h : Own4 w base v1 v2 v3 v4 l1 l2 l3 l4) (hb : Below w.heap.size w W)
    (h9 : w9.ownsRow base 23 3 v' (l3.length + 1) (opsC l3 ++ opsC [o])) (hg : W.grownBy w9 v3.ownBlock) (hk : v'.ownBlock = v3.ownBlock ∨ v'.ownBlock = some W.heap.size) : Own4 w9 base v1 v2 v' v4 l1 l2 (l3 ++ [o]) l4 :=
  ⟨keepO h.o1 hb hg (h.a13.symm), keepO h.o2 hb hg (h.a23.symm), own_next rfl h9, keepO h.o4 hb hg (h.a34), h.a12, (apartO h.o1 hb (h.a13.symm) hk).symm, h.a14, (apartO h.o2 hb (h.a23.symm) hk).symm, h.a24, apartO h.o4 hb (h.a34) hk⟩

theorem Own4.app4 {w W w9 : World} {base : Nat} {v1 v2 v3 v4 v' : Value} {l1 l2 l3 l4 : List OpT} {o : OpT} (h : Own4 w base v1 v2 v3 v4 l1 l2 l3 l4) (hb : Below w.heap.size w W)
    (h9 : w9.ownsRow base 23 3 v' (l4.length + 1) (opsC l4 ++ opsC [o])) (hg : W.grownBy w9 v4.ownBlock) (hk : v'.ownBlock = v4.ownBlock ∨ v'.ownBlock = some W.heap.size) : Own4 w9 base v1 v2 v3 v' l1 l2 l3 (l4 ++ [o]) :=
  ⟨keepO h.o1 hb hg (h.a14.symm), keepO h.o2 hb hg (h.a24.symm), keepO h.o3 hb hg (h.a34.symm), own_next rfl h9, h.a12, h.a13, (apartO h.o1 hb (h.a14.symm) hk).symm, h.a23, (apartO h.o2 hb (h.a24.symm) hk).symm, (apartO h.o3 hb (h.a34.symm) hk).symm⟩


/-- What an append to a buffer leaves of all else: what lay below 'base', and a cell that is no buffer's. -/
theorem app_below {w0 w W w9 : World} {base : Nat} {v : Value} {l : List OpT} (hB : Below base w0 w) (hs : base ≤ w.heap.size) (h : OwnOps w base v l) (hb : Below w.heap.size w W) (hg : W.grownBy w9 v.ownBlock) : Below base w0 w9 :=
  (hB.trans (hb.mono hs)).grown hg (Nat.le_trans hs hb.size) (fun q hq => (h.1.lt q hq).1)
theorem app_cell {W w9 : World} {v x : Value} {q j : Nat} (hg : W.grownBy w9 v.ownBlock) (hc : W.cell? ⟨q, j, none⟩ = some x) (hq : v.ownBlock ≠ some q) : w9.cell? ⟨q, j, none⟩ = some x :=
  hg.cell hc (Ne.symm hq)

/-- The same ops, read at two places. -/
theorem keqops_same (a b : Option Addr) (ca cb : Nat) (os : List OpT) (w : World) (hx : Row w a (opsC os)) (hy : Row w b (opsC os)) (hl : os.length ≤ 1048576) :
    Calls Ydom.prog 24 #[.slice a os.length ca, .slice b os.length cb] w fun e w' => e = .returned (.bool true) ∧ Below w.heap.size w w' := by
  go_enter Ydom.func24, Ydom.ntmps24
  go_wp2
  go_loopw [13] (fun i wr => ∃ k : Nat, k ≤ os.length ∧ i = .int .i64 k ∧ Below w.heap.size w wr) (fun i _ => os.length - (intOf i).toNat)
  case atStart => exact ⟨0, Nat.zero_le _, rfl, Below.refl _ _⟩
  case round =>
    obtain ⟨k, hk, rfl, hb⟩ := hrel
    by_cases hlt : k < os.length
    · obtain ⟨b1, o1, rfl, hc1⟩ := (hx.below hb (Nat.le_refl _)).ops (by omega)
      obtain ⟨b2, o2, rfl, hc2⟩ := (hy.below hb (Nat.le_refl _)).ops (by omega)
      obtain ⟨⟨ok, ox, oy⟩, ho⟩ := op_at hlt
      obtain ⟨p0, p1, p2⟩ := hc1 k _ ho
      obtain ⟨q0, q1, q2⟩ := hc2 k _ ho
      simp only at p0 p1 p2 q0 q1 q2
      clear hc1 hc2 hx hy ho
      go_wp2
      go_quiet (fail)
      go_wp2
      go_roundw
      case rel => exact ⟨k + 1, by omega, by go_num, below_dn hb _⟩
      case measure => simp [intOf]; omega
    · have hge : ¬ (k : Int) < (os.length : Int) := by omega
      go_wp2
      go_ret
      exact ⟨rfl, hb⟩

/-- What has been built so far: whatever follows, the ops composed so far are 'want', and the inserts in 'pend' wait. -/
def KInv (s t want pend : List OpT) : Prop :=
  (∀ p ∈ pend, validT p = true ∧ p.kind = 43) ∧ ∀ s' t', (∀ x ∈ t', validT x = true) → compT (s ++ s') (t ++ t') = (compT s' (pend ++ t')).map (want ++ ·)

theorem kinv_zero : KInv [] [] [] [] := by
  refine ⟨by simp, fun s' t' _ => ?_⟩
  simp only [List.nil_append]
  cases compT s' t' <;> rfl

theorem comp_del {d : OpT} (s t : List OpT) (hd : validT d = true) (hk : d.kind = 45) (ht : ∀ x ∈ t, validT x = true) : compT (d :: s) t = (compT s t).map (d :: ·) := by
  cases t with
  | nil => simp only [compT]; rw [if_neg (by rw [hd]; decide), if_pos hk]
  | cons q t => simp only [compT]; rw [if_neg (by rw [hd]; decide), if_neg (by rw [ht q (by simp)]; decide), if_pos hk]

theorem comp_run {p : OpT} (s t : List OpT) (hp : validT p = true) (hk : p.kind ≠ 45) : ∀ pend : List OpT, (∀ q ∈ pend, validT q = true ∧ q.kind = 43) → compT (p :: s) (pend ++ t) = (compT (p :: s) t).map (pend ++ ·)
  | [], _ => by
    simp only [List.nil_append]
    cases compT (p :: s) t <;> rfl
  | q :: pend, h => by
    obtain ⟨h1, h2⟩ := h q (by simp)
    have ih := comp_run s t hp hk pend (fun x hx => h x (by simp [hx]))
    rw [List.cons_append]
    conv => lhs; unfold compT
    rw [if_neg (by rw [hp]; decide), if_neg (by rw [h1]; decide), if_neg hk, if_pos h2, ih]
    cases compT (p :: s) t <;> rfl

theorem comp_mid {p q : OpT} (s t : List OpT) (hp : validT p = true) (hq : validT q = true) (h1 : p.kind ≠ 45) (h2 : q.kind ≠ 43) (hn : p.new = q.old) : compT (p :: s) (q :: t) = (compT s t).map (midT p q ++ ·) := by
  simp only [compT]
  rw [if_neg (by rw [hp]; decide), if_neg (by rw [hq]; decide), if_neg h1, if_neg h2, if_pos hn]

theorem kinv_del {s t want pend : List OpT} (x : Int) (h : KInv s t want pend) : KInv (s ++ [⟨45, x, 0⟩]) t (want ++ [⟨45, x, 0⟩]) pend := by
  refine ⟨h.1, fun s' t' ht => ?_⟩
  rw [List.append_assoc, h.2 _ _ ht, List.singleton_append, comp_del _ _ (by simp [validT]) rfl (by
    intro y hy
    rw [List.mem_append] at hy
    rcases hy with hy | hy
    · exact (h.1 y hy).1
    · exact ht y hy)]
  cases compT s' (pend ++ t') <;> simp

theorem kinv_ins {s t want pend : List OpT} (y : Int) (h : KInv s t want pend) : KInv s (t ++ [⟨43, 0, y⟩]) want (pend ++ [⟨43, 0, y⟩]) := by
  have hv : validT ⟨43, 0, y⟩ = true := by simp [validT]
  refine ⟨?_, fun s' t' ht => ?_⟩
  · intro p hp
    rw [List.mem_append] at hp
    rcases hp with hp | hp
    · exact h.1 p hp
    · simp at hp; subst hp; exact ⟨hv, rfl⟩
  · rw [List.append_assoc, h.2 _ _ (by
      intro x hx
      rw [List.mem_append] at hx
      rcases hx with hx | hx
      · simp at hx; rw [hx]; exact hv
      · exact ht x hx), List.append_assoc]

theorem kinv_mid {s t want pend : List OpT} {p q : OpT} (h : KInv s t want pend) (hp : validT p = true) (hq : validT q = true) (h1 : p.kind ≠ 45) (h2 : q.kind ≠ 43) (hn : p.new = q.old) :
    KInv (s ++ [p]) (t ++ [q]) (want ++ pend ++ midT p q) [] := by
  refine ⟨by simp, fun s' t' ht => ?_⟩
  rw [List.append_assoc, List.append_assoc, h.2 _ _ (by
    intro x hx
    rw [List.mem_append] at hx
    rcases hx with hx | hx
    · simp at hx; rw [hx]; exact hq
    · exact ht x hx), List.singleton_append, List.singleton_append, comp_run _ _ hp h1 pend h.1, comp_mid _ _ hp hq h1 h2 hn, List.nil_append]
  cases compT s' t' <;> simp

theorem comp_rest : ∀ pend : List OpT, (∀ q ∈ pend, validT q = true ∧ q.kind = 43) → compT [] pend = some pend
  | [], _ => by simp [compT]
  | q :: pend, h => by
    obtain ⟨h1, h2⟩ := h q (by simp)
    have ih := comp_rest pend (fun x hx => h x (by simp [hx]))
    simp only [compT]
    rw [if_neg (by rw [h1]; decide), if_pos h2, ih]
    rfl

theorem kinv_end {s t want pend : List OpT} (h : KInv s t want pend) : compT s t = some (want ++ pend) := by
  have := h.2 [] [] (by simp)
  rw [List.append_nil, List.append_nil, List.append_nil, comp_rest pend h.1] at this
  rw [this]
  rfl

theorem kinv2 {s t want pend : List OpT} (x m y : Int) (h : KInv s t want pend) : KInv (s ++ [pairT x m]) (t ++ [pairT m y]) (want ++ pend ++ [pairT x y]) [] := by
  have e : midT (pairT x m) (pairT m y) = [pairT x y] := by
    unfold midT
    rw [if_pos ⟨(pair_kind x m).1, (pair_kind m y).2⟩]
    rfl
  rw [← e]
  exact kinv_mid h (valid_pair _ _) (valid_pair _ _) (pair_kind _ _).2 (pair_kind _ _).1 rfl
theorem kinv3 {s t want pend : List OpT} (m y : Int) (h : KInv s t want pend) : KInv (s ++ [⟨43, 0, m⟩]) (t ++ [pairT m y]) (want ++ pend ++ [⟨43, 0, y⟩]) [] := by
  have e : midT ⟨43, 0, m⟩ (pairT m y) = [⟨43, 0, y⟩] := by
    unfold midT
    rw [if_neg (by simp), if_neg (by simp), if_pos (pair_kind m y).2]
    rfl
  rw [← e]
  exact kinv_mid h (by simp [validT]) (valid_pair _ _) (by simp) (pair_kind _ _).1 rfl
theorem kinv4 {s t want pend : List OpT} (x m : Int) (h : KInv s t want pend) : KInv (s ++ [pairT x m]) (t ++ [⟨45, m, 0⟩]) (want ++ pend ++ [⟨45, x, 0⟩]) [] := by
  have e : midT (pairT x m) ⟨45, m, 0⟩ = [⟨45, x, 0⟩] := by
    unfold midT
    rw [if_neg (by simp), if_pos (pair_kind x m).1]
    rfl
  rw [← e]
  exact kinv_mid h (valid_pair _ _) (by simp [validT]) (pair_kind _ _).2 (by simp) rfl
theorem kinv5 {s t want pend : List OpT} (m : Int) (h : KInv s t want pend) : KInv (s ++ [⟨43, 0, m⟩]) (t ++ [⟨45, m, 0⟩]) (want ++ pend) [] := by
  have := kinv_mid (p := ⟨43, 0, m⟩) (q := ⟨45, m, 0⟩) h (by simp [validT]) (by simp [validT]) (by simp) (by simp) rfl
  have e : midT ⟨43, 0, m⟩ ⟨45, m, 0⟩ = [] := by simp [midT]
  rw [e, List.append_nil] at this
  exact this
end Go.Proofs.Ymbrdo
