/- A region that draws its order, by an invariant: what holds of the operations that are done, in whatever order. And the region in which the program's search begins. -/
import Derived.Test.YtnnmidfkgjmfmaaCkClosure
import Derived.Orders
namespace Go.Proofs.Ytnnmidfkgjmfmaa.Ck
open Go.RowKit Go.Proofs.YtnnmidfkgjmfmaaW.PrintWords Go.Proofs.YtnnmidfkgjmfmaaW.PrintLast Go.Proofs.YtnnmidfkgjmfmaaW.PrintMore
open Go.Proofs.Ytnnmidfkgjmfmaa.PFnExactSearchCost
open Go.Maps
set_option linter.unusedVariables false
set_option linter.unusedSimpArgs false

/-- What is not listed yet. -/
def left (ops : Array Oper) (listed : Array Bool) : Nat := (List.range ops.size).countP fun i => !listed.getD i true

theorem left_set {ops : Array Oper} {listed : Array Bool} {i : Nat} (hi : i < ops.size) (h : listed.getD i true = false) : left ops (listed.setIfInBounds i true) < left ops listed := by
  unfold left
  have hlt : i < listed.size := by
    refine Nat.lt_of_not_le fun hle => ?_
    simp [Array.getD, Nat.not_lt.2 hle] at h
  refine countP_lt_countP _ _ _ (fun j _ hj => ?_) ⟨i, List.mem_range.2 hi, ?_, ?_⟩
  · by_cases e : i = j
    · subst e
      simp only [Bool.not_eq_true', Array.getD, Array.size_setIfInBounds, hlt, dite_true, Array.getInternal_eq_getElem, Array.getElem_setIfInBounds_self] at hj
      cases hj
    · rw [getD_set_ne true e] at hj
      exact hj
  · simp [Array.getD, hlt]
  · simp [h]

theorem wpAny_inv {P : Program} {ops : Array Oper} {Q : Exit → Act → World → Prop} {md : Region.Mode} (I : Array Bool → Act → World → Prop) (hdone : ∀ listed a w, I listed a w → Region.ready md ops listed = [] → Q .normal a w)
    (hstep : ∀ listed a w i, I listed a w → i ∈ Region.ready md ops listed → wpOp P ops Q i (fun a' w' => I (listed.setIfInBounds i true) a' w') a w) :
    ∀ (fuel : Nat) (listed : Array Bool) (a : Act) (w : World), left ops listed ≤ fuel → I listed a w → wpAny P md ops Q fuel listed a w
  | 0, listed, a, w, hl, h => by
    have hr : Region.ready md ops listed = [] := by
      unfold Region.ready
      rw [List.filter_eq_nil_iff]
      intro i hi
      have h0 : left ops listed = 0 := by omega
      unfold left at h0
      rw [List.countP_eq_zero] at h0
      have := h0 i hi
      simp at this
      simp [this]
    exact ⟨hr, hdone listed a w h hr⟩
  | fuel + 1, listed, a, w, hl, h => by
    refine ⟨fun hr => hdone listed a w h hr, fun i hi => ?_⟩
    refine wpOp_mono (fun a' w' h' => ?_) (hstep listed a w i h hi)
    have hm := mem_ready.1 hi
    have hlt : i < ops.size := by
      have := List.mem_filter.1 hi
      exact List.mem_range.1 this.1
    exact wpAny_inv I hdone hstep fuel _ a' w' (by have := left_set (ops := ops) hlt hm.1; omega) h'

theorem wp_region_inv {P : Program} {ops : Array Oper} {Q : Exit → Act → World → Prop} {id : Nat} {a : Act} {w : World} (hm : P.follows .mixedOrders = true) (I : Array Bool → Act → World → Prop) (h0 : I (Array.replicate ops.size false) a { w with drawn := w.drawn + 1 })
    (hdone : ∀ listed a w, I listed a w → Region.ready .any ops listed = [] → Q .normal a w)
    (hstep : ∀ listed a w i, I listed a w → i ∈ Region.ready .any ops listed → wpOp P ops Q i (fun a' w' => I (listed.setIfInBounds i true) a' w') a w) : (Code.region id ops true).wp P Q a w :=
  wp_region_any hm (wpAny_inv I hdone hstep ops.size _ a _ (by
    unfold left
    exact Nat.le_trans List.countP_le_length (by simp)) h0)

/-! ### what the beginning makes -/
def ag (n : Nat) : Value := .agg #[.int .i64 0, .int .i64 0, .int .i64 (n : Int)]
def mkP (f : Nat) : Value := .pointer (some ⟨f, 0, none⟩)
def mkS (f : Nat) : Value := .slice (some ⟨f, 0, none⟩) 1 1
def best1 (n : Nat) : Best := upd (fun _ => Option.none) (0, 0, n) 0

def PM (w2 w : World) (n : Nat) (v : Value) (filled : Bool) : Prop := ∃ bm, v = .map (some bm) ∧ w2.heap.size ≤ bm ∧ MB w bm (if filled = true then 1 else 0) (if filled = true then best1 n else fun _ => Option.none)
def PC (w2 w : World) (mk : Nat → Value) (v : Value) (t : TypeId) (cs : Array Value) : Prop := ∃ f, v = mk f ∧ w2.heap.size ≤ f ∧ w.heap[f]? = some (.cells cs t (0, 0))

theorem PM.alloc {w2 w : World} {n : Nat} {v : Value} {b : Bool} (h : PM w2 w n v b) (o : Obj) : PM w2 (w.alloc o) n v b := by
  obtain ⟨bm, h1, h2, h3⟩ := h
  exact ⟨bm, h1, h2, h3.block (Below.heap_alloc w o bm h3.lt)⟩
theorem PC.alloc {w2 w : World} {mk : Nat → Value} {v : Value} {t : TypeId} {cs : Array Value} (h : PC w2 w mk v t cs) (o : Obj) : PC w2 (w.alloc o) mk v t cs := by
  obtain ⟨f, h1, h2, h3⟩ := h
  exact ⟨f, h1, h2, blk_alloc h3 o⟩
theorem PC.new {w2 w : World} (mk : Nat → Value) (t : TypeId) (cs : Array Value) (h : w2.heap.size ≤ w.heap.size) : PC w2 (w.alloc (.cells cs t)) mk (mk w.heap.size) t cs := ⟨w.heap.size, rfl, h, heap_alloc_new w _⟩
theorem PM.far {w2 w : World} {n : Nat} {v : Value} {b : Bool} (h : PM w2 w n v b) {g : Nat} {cs : Array Value} {t : TypeId} (hg : w.heap[g]? = some (.cells cs t (0, 0))) (u : Value) : PM w2 (w.setCell ⟨g, 0, none⟩ u) n v b := by
  obtain ⟨bm, h1, h2, h3⟩ := h
  exact ⟨bm, h1, h2, h3.block (Below.heap_setCell w ⟨g, 0, none⟩ u bm (h3.ne hg))⟩
theorem PC.far {w2 w : World} {mk : Nat → Value} {v : Value} {t : TypeId} {cs : Array Value} (h : PC w2 w mk v t cs) {g : Nat} {cs' : Array Value} {t' : TypeId} (hg : w.heap[g]? = some (.cells cs' t' (0, 0))) (ht : t ≠ t') (u : Value) : PC w2 (w.setCell ⟨g, 0, none⟩ u) mk v t cs := by
  obtain ⟨f, h1, h2, h3⟩ := h
  exact ⟨f, h1, h2, blk_far h3 (blk_ne h3 hg ht) u⟩
theorem PC.grown {w2 w w' : World} {mk : Nat → Value} {v : Value} {t : TypeId} {cs : Array Value} (h : PC w2 w mk v t cs) {bm nb : Nat} {best : Best} (hm : MB w bm nb best) (hg : w.grownBy w' (some bm)) : PC w2 w' mk v t cs := by
  obtain ⟨f, h1, h2, h3⟩ := h
  exact ⟨f, h1, h2, blk_grown h3 hg (fun e => hm.ne h3 (Option.some.inj e).symm)⟩

/-- What holds when the operations L are done. -/
structure RI (w2 : World) (n : Nat) (L : Nat → Bool) (v8 v9 v38 v39 v40 v41 v42 v43 v44 : Value) (w : World) : Prop where
  below : Below w2.heap.size w2 w
  m : L 0 = true → PM w2 w n v38 (L 2)
  k1 : L 1 = true → v39 = ag n
  k3 : L 3 = true → v40 = v38
  k4 : L 4 = true → v41 = ag n
  k5 : L 5 = true → v42 = ev ((0, 0, n), 0)
  s : L 6 = true → PC w2 w mkS v43 45 (ecells ((0, 0, n), 0)).toArray
  x : L 7 = true → PC w2 w mkP v44 47 #[v43]
  p : L 8 = true → PC w2 w mkP v8 42 #[if L 10 = true then v40 else .map none]
  q : L 9 = true → PC w2 w mkP v9 43 #[if L 11 = true then v44 else .pointer none]
  c2 : L 2 = true → L 0 = true
  c3 : L 3 = true → L 0 = true
  c5 : L 5 = true → L 4 = true
  c6 : L 6 = true → L 5 = true
  c7 : L 7 = true → L 6 = true
  c10 : L 10 = true → L 8 = true ∧ L 3 = true
  c11 : L 11 = true → L 9 = true ∧ L 7 = true

def on (L : Nat → Bool) (i : Nat) : Nat → Bool := fun j => if i = j then true else L j

theorem RI.start (w : World) (n : Nat) (v8 v9 v38 v39 v40 v41 v42 v43 v44 : Value) : RI w n (fun _ => false) v8 v9 v38 v39 v40 v41 v42 v43 v44 { w with drawn := w.drawn + 1 } := by
  refine ⟨(Below.refl _ _).drew, ?_, ?_, ?_, ?_, ?_, ?_, ?_, ?_, ?_, ?_, ?_, ?_, ?_, ?_, ?_, ?_⟩ <;> (intro h; cases h)

theorem contra_of {L : Nat → Bool} {i j : Nat} (hc : L i = true → L j = true) (hj : L j = false) : L i = false := by
  cases hi : L i with
  | false => rfl
  | true => rw [hc hi] at hj; cases hj

section
variable {w2 w : World} {n : Nat} {L : Nat → Bool} {v8 v9 v38 v39 v40 v41 v42 v43 v44 : Value} (h : RI w2 n L v8 v9 v38 v39 v40 v41 v42 v43 v44 w)
include h

theorem RI.op0 (h0 : L 0 = false) : RI w2 n (on L 0) v8 v9 (.map (some w.heap.size)) v39 v40 v41 v42 v43 v44 (w.alloc (.map #[] 0)) := by
  have n2 := contra_of h.c2 h0
  have n3 := contra_of h.c3 h0
  have hb := h.below
  refine ⟨hb.alloc hb.size _, fun _ => ⟨w.heap.size, rfl, hb.size, ?_⟩, h.k1, fun e => ?_, h.k4, h.k5, fun e => (h.s e).alloc _, fun e => (h.x e).alloc _, fun e => (h.p e).alloc _, fun e => (h.q e).alloc _, fun _ => rfl, fun _ => rfl, h.c5, h.c6, h.c7, h.c10, h.c11⟩
  · have : on L 0 2 = false := n2
    rw [this]
    exact MB.none w
  · have : on L 0 3 = false := n3
    rw [this] at e; cases e

theorem RI.op1 : RI w2 n (on L 1) v8 v9 v38 (ag n) v40 v41 v42 v43 v44 w :=
  ⟨h.below, h.m, fun _ => rfl, h.k3, h.k4, h.k5, h.s, h.x, h.p, h.q, h.c2, h.c3, h.c5, h.c6, h.c7, h.c10, h.c11⟩

theorem RI.op3 (h3 : L 3 = false) (l0 : L 0 = true) : RI w2 n (on L 3) v8 v9 v38 v39 v38 v41 v42 v43 v44 w := by
  have n10 : L 10 = false := contra_of (fun e => (h.c10 e).2) h3
  refine ⟨h.below, h.m, h.k1, fun _ => rfl, h.k4, h.k5, h.s, h.x, fun e => ?_, h.q, h.c2, fun _ => l0, h.c5, h.c6, h.c7, fun e => ⟨(h.c10 e).1, rfl⟩, h.c11⟩
  have h1 := h.p e
  have e1 : on L 3 10 = false := n10
  rw [n10] at h1
  rw [e1]
  exact h1

theorem RI.op4 (h4 : L 4 = false) : RI w2 n (on L 4) v8 v9 v38 v39 v40 (ag n) v42 v43 v44 w :=
  ⟨h.below, h.m, h.k1, h.k3, fun _ => rfl, h.k5, h.s, h.x, h.p, h.q, h.c2, h.c3, fun _ => rfl, h.c6, h.c7, h.c10, h.c11⟩

theorem RI.op5 (h5 : L 5 = false) (l4 : L 4 = true) : RI w2 n (on L 5) v8 v9 v38 v39 v40 v41 (ev ((0, 0, n), 0)) v43 v44 w :=
  ⟨h.below, h.m, h.k1, h.k3, h.k4, fun _ => rfl, h.s, h.x, h.p, h.q, h.c2, h.c3, fun _ => l4, fun _ => rfl, h.c7, h.c10, h.c11⟩

theorem RI.op6 (h6 : L 6 = false) (l5 : L 5 = true) : RI w2 n (on L 6) v8 v9 v38 v39 v40 v41 v42 (mkS w.heap.size) v44 (w.alloc (.cells (ecells ((0, 0, n), 0)).toArray 45)) := by
  have n7 := contra_of h.c7 h6
  have hb := h.below
  refine ⟨hb.alloc hb.size _, fun e => (h.m e).alloc _, h.k1, h.k3, h.k4, h.k5, fun _ => PC.new _ _ _ hb.size, fun e => ?_, fun e => (h.p e).alloc _, fun e => (h.q e).alloc _, h.c2, h.c3, h.c5, fun _ => l5, fun _ => rfl, h.c10, h.c11⟩
  have : on L 6 7 = false := n7
  rw [this] at e; cases e

theorem RI.op7 (h7 : L 7 = false) (l6 : L 6 = true) : RI w2 n (on L 7) v8 v9 v38 v39 v40 v41 v42 v43 (mkP w.heap.size) (w.alloc (.cells #[v43] 47)) := by
  have n11 : L 11 = false := contra_of (fun e => (h.c11 e).2) h7
  have hb := h.below
  refine ⟨hb.alloc hb.size _, fun e => (h.m e).alloc _, h.k1, h.k3, h.k4, h.k5, fun e => (h.s e).alloc _, fun _ => PC.new _ _ _ hb.size, fun e => (h.p e).alloc _, fun e => ?_, h.c2, h.c3, h.c5, h.c6, fun _ => l6, h.c10, fun e => ⟨(h.c11 e).1, rfl⟩⟩
  have h1 := (h.q e).alloc (.cells #[v43] 47)
  have e1 : on L 7 11 = false := n11
  rw [n11] at h1
  rw [e1]
  exact h1

theorem RI.op8 (h8 : L 8 = false) : RI w2 n (on L 8) (mkP w.heap.size) v9 v38 v39 v40 v41 v42 v43 v44 (w.alloc (.cells #[.map none] 42)) := by
  have n10 : L 10 = false := contra_of (fun e => (h.c10 e).1) h8
  have hb := h.below
  refine ⟨hb.alloc hb.size _, fun e => (h.m e).alloc _, h.k1, h.k3, h.k4, h.k5, fun e => (h.s e).alloc _, fun e => (h.x e).alloc _, fun _ => ?_, fun e => (h.q e).alloc _, h.c2, h.c3, h.c5, h.c6, h.c7, fun e => ⟨rfl, (h.c10 e).2⟩, h.c11⟩
  have e1 : on L 8 10 = false := n10
  rw [e1]
  exact PC.new _ _ _ hb.size

theorem RI.op9 (h9 : L 9 = false) : RI w2 n (on L 9) v8 (mkP w.heap.size) v38 v39 v40 v41 v42 v43 v44 (w.alloc (.cells #[.pointer none] 43)) := by
  have n11 : L 11 = false := contra_of (fun e => (h.c11 e).1) h9
  have hb := h.below
  refine ⟨hb.alloc hb.size _, fun e => (h.m e).alloc _, h.k1, h.k3, h.k4, h.k5, fun e => (h.s e).alloc _, fun e => (h.x e).alloc _, fun e => (h.p e).alloc _, fun _ => ?_, h.c2, h.c3, h.c5, h.c6, h.c7, h.c10, fun e => ⟨rfl, (h.c11 e).2⟩⟩
  have e1 : on L 9 11 = false := n11
  rw [e1]
  exact PC.new _ _ _ hb.size

theorem RI.op10 (l8 : L 8 = true) (l3 : L 3 = true) : ∃ pb, v8 = mkP pb ∧ (∃ u, w.cell? ⟨pb, 0, none⟩ = some u) ∧ w.frozen? ⟨pb, 0, none⟩ = false ∧ RI w2 n (on L 10) v8 v9 v38 v39 v40 v41 v42 v43 v44 (w.setCell ⟨pb, 0, none⟩ v40) := by
  obtain ⟨pb, h1, h2, h3⟩ := h.p l8
  refine ⟨pb, h1, ⟨_, cell_of_one h3⟩, free_of_one h3, h.below.setCell (by exact h2) _, fun e => (h.m e).far h3 _, h.k1, h.k3, h.k4, h.k5, fun e => (h.s e).far h3 (by decide) _, fun e => (h.x e).far h3 (by decide) _, fun _ => ⟨pb, h1, h2, ?_⟩, fun e => (h.q e).far h3 (by decide) _, h.c2, h.c3, h.c5, h.c6, h.c7, fun _ => ⟨l8, l3⟩, h.c11⟩
  exact one_setCell h3

theorem RI.op11 (l9 : L 9 = true) (l7 : L 7 = true) : ∃ po, v9 = mkP po ∧ (∃ u, w.cell? ⟨po, 0, none⟩ = some u) ∧ w.frozen? ⟨po, 0, none⟩ = false ∧ RI w2 n (on L 11) v8 v9 v38 v39 v40 v41 v42 v43 v44 (w.setCell ⟨po, 0, none⟩ v44) := by
  obtain ⟨po, h1, h2, h3⟩ := h.q l9
  refine ⟨po, h1, ⟨_, cell_of_one h3⟩, free_of_one h3, h.below.setCell (by exact h2) _, fun e => (h.m e).far h3 _, h.k1, h.k3, h.k4, h.k5, fun e => (h.s e).far h3 (by decide) _, fun e => (h.x e).far h3 (by decide) _, fun e => (h.p e).far h3 (by decide) _, fun _ => ⟨po, h1, h2, ?_⟩, h.c2, h.c3, h.c5, h.c6, h.c7, h.c10, fun _ => ⟨l9, l7⟩⟩
  exact one_setCell h3

theorem RI.op2 (hn : n < 8) (h2 : L 2 = false) (l0 : L 0 = true) (l1 : L 1 = true) : ∃ w', (Instr.mapUpdate 42 v38 v39 (.int .i64 0)).run Try.prog w = .ok () w' ∧ RI w2 n (on L 2) v8 v9 v38 v39 v40 v41 v42 v43 v44 w' := by
  obtain ⟨bm, h1, hle, hm⟩ := h.m l0
  rw [h2] at hm
  simp only [if_false, Bool.false_eq_true] at hm
  have hmm := hm
  obtain ⟨D, hD⟩ := hm
  have hv : ((0, 0, n) : V) ∈ dom := mem_dom.2 ⟨by omega, by omega, hn⟩
  obtain ⟨w', hrun, ho, hg⟩ := hD.own.update keyed41 Try.underlying42 (by unfold maxLen; omega) (litOf_spec w hv) (plainElem_int Try.underlying2 (wf_small 0 (by omega)))
  have hput := hD.put (n := 0) hv ho
  refine ⟨w', by rw [h1, h.k1 l1]; exact hrun, h.below.grown hg h.below.size (fun k e => by cases e; exact hle), fun _ => ⟨bm, h1, hle, hput⟩, h.k1, h.k3, h.k4, h.k5, fun e => (h.s e).grown hmm hg, fun e => (h.x e).grown hmm hg, fun e => (h.p e).grown hmm hg, fun e => (h.q e).grown hmm hg, fun _ => l0, h.c3, h.c5, h.c6, h.c7, h.c10, h.c11⟩

/-- All is done. -/
theorem RI.over (hall : ∀ i, i < 12 → L i = true) : ∃ pb po bm f g, v8 = mkP pb ∧ v9 = mkP po ∧ w2.heap.size ≤ pb ∧ w2.heap.size ≤ po ∧ CW w2.heap.size w pb po bm f 1 (best1 n) [((0, 0, n), 0)] g 1 := by
  obtain ⟨bm, m1, m2, m3⟩ := h.m (hall 0 (by omega))
  obtain ⟨g, s1, s2, s3⟩ := h.s (hall 6 (by omega))
  obtain ⟨f, x1, x2, x3⟩ := h.x (hall 7 (by omega))
  obtain ⟨pb, p1, p2, p3⟩ := h.p (hall 8 (by omega))
  obtain ⟨po, q1, q2, q3⟩ := h.q (hall 9 (by omega))
  rw [hall 2 (by omega)] at m3
  rw [hall 10 (by omega), if_pos rfl, h.k3 (hall 3 (by omega)), m1] at p3
  rw [hall 11 (by omega), if_pos rfl, x1] at q3
  rw [s1] at x3
  refine ⟨pb, po, bm, f, g, p1, q1, p2, q2, p3, q3, m3, ⟨x3, x2, ?_⟩, m2⟩
  refine ⟨rfl, .inr ⟨g, 1, _, rfl, s2, s3, Nat.le_refl _, by unfold maxLen; omega, rfl, rfl⟩⟩

end

/-! ### the frame -/
def fr (a : Act) (v8 v9 v38 v39 v40 v41 v42 v43 v44 : Value) : Act := ((((((((a.put (some 8) v8).put (some 9) v9).put (some 38) v38).put (some 39) v39).put (some 40) v40).put (some 41) v41).put (some 42) v42).put (some 43) v43).put (some 44) v44

theorem put_fr8 (a : Act) (v8 v9 v38 v39 v40 v41 v42 v43 v44 x : Value) : (fr a v8 v9 v38 v39 v40 v41 v42 v43 v44).put (some 8) x = fr a x v9 v38 v39 v40 v41 v42 v43 v44 := by
  simp only [fr, Act.put, Act.mk.injEq, and_true]
  apply Array.ext_getElem?
  intro j
  simp only [Array.getElem?_setIfInBounds, Array.size_setIfInBounds]
  by_cases h : 8 = j
  · subst h; simp
  · simp only [if_neg h]

theorem put_fr9 (a : Act) (v8 v9 v38 v39 v40 v41 v42 v43 v44 x : Value) : (fr a v8 v9 v38 v39 v40 v41 v42 v43 v44).put (some 9) x = fr a v8 x v38 v39 v40 v41 v42 v43 v44 := by
  simp only [fr, Act.put, Act.mk.injEq, and_true]
  apply Array.ext_getElem?
  intro j
  simp only [Array.getElem?_setIfInBounds, Array.size_setIfInBounds]
  by_cases h : 9 = j
  · subst h; simp
  · simp only [if_neg h]

theorem put_fr38 (a : Act) (v8 v9 v38 v39 v40 v41 v42 v43 v44 x : Value) : (fr a v8 v9 v38 v39 v40 v41 v42 v43 v44).put (some 38) x = fr a v8 v9 x v39 v40 v41 v42 v43 v44 := by
  simp only [fr, Act.put, Act.mk.injEq, and_true]
  apply Array.ext_getElem?
  intro j
  simp only [Array.getElem?_setIfInBounds, Array.size_setIfInBounds]
  by_cases h : 38 = j
  · subst h; simp
  · simp only [if_neg h]

theorem put_fr39 (a : Act) (v8 v9 v38 v39 v40 v41 v42 v43 v44 x : Value) : (fr a v8 v9 v38 v39 v40 v41 v42 v43 v44).put (some 39) x = fr a v8 v9 v38 x v40 v41 v42 v43 v44 := by
  simp only [fr, Act.put, Act.mk.injEq, and_true]
  apply Array.ext_getElem?
  intro j
  simp only [Array.getElem?_setIfInBounds, Array.size_setIfInBounds]
  by_cases h : 39 = j
  · subst h; simp
  · simp only [if_neg h]

theorem put_fr40 (a : Act) (v8 v9 v38 v39 v40 v41 v42 v43 v44 x : Value) : (fr a v8 v9 v38 v39 v40 v41 v42 v43 v44).put (some 40) x = fr a v8 v9 v38 v39 x v41 v42 v43 v44 := by
  simp only [fr, Act.put, Act.mk.injEq, and_true]
  apply Array.ext_getElem?
  intro j
  simp only [Array.getElem?_setIfInBounds, Array.size_setIfInBounds]
  by_cases h : 40 = j
  · subst h; simp
  · simp only [if_neg h]

theorem put_fr41 (a : Act) (v8 v9 v38 v39 v40 v41 v42 v43 v44 x : Value) : (fr a v8 v9 v38 v39 v40 v41 v42 v43 v44).put (some 41) x = fr a v8 v9 v38 v39 v40 x v42 v43 v44 := by
  simp only [fr, Act.put, Act.mk.injEq, and_true]
  apply Array.ext_getElem?
  intro j
  simp only [Array.getElem?_setIfInBounds, Array.size_setIfInBounds]
  by_cases h : 41 = j
  · subst h; simp
  · simp only [if_neg h]

theorem put_fr42 (a : Act) (v8 v9 v38 v39 v40 v41 v42 v43 v44 x : Value) : (fr a v8 v9 v38 v39 v40 v41 v42 v43 v44).put (some 42) x = fr a v8 v9 v38 v39 v40 v41 x v43 v44 := by
  simp only [fr, Act.put, Act.mk.injEq, and_true]
  apply Array.ext_getElem?
  intro j
  simp only [Array.getElem?_setIfInBounds, Array.size_setIfInBounds]
  by_cases h : 42 = j
  · subst h; simp
  · simp only [if_neg h]

theorem put_fr43 (a : Act) (v8 v9 v38 v39 v40 v41 v42 v43 v44 x : Value) : (fr a v8 v9 v38 v39 v40 v41 v42 v43 v44).put (some 43) x = fr a v8 v9 v38 v39 v40 v41 v42 x v44 := by
  simp only [fr, Act.put, Act.mk.injEq, and_true]
  apply Array.ext_getElem?
  intro j
  simp only [Array.getElem?_setIfInBounds, Array.size_setIfInBounds]
  by_cases h : 43 = j
  · subst h; simp
  · simp only [if_neg h]

theorem put_fr44 (a : Act) (v8 v9 v38 v39 v40 v41 v42 v43 v44 x : Value) : (fr a v8 v9 v38 v39 v40 v41 v42 v43 v44).put (some 44) x = fr a v8 v9 v38 v39 v40 v41 v42 v43 x := by
  simp only [fr, Act.put, Act.mk.injEq, and_true]
  apply Array.ext_getElem?
  intro j
  simp only [Array.getElem?_setIfInBounds, Array.size_setIfInBounds]
  by_cases h : 44 = j
  · subst h; simp
  · simp only [if_neg h]

theorem eval_fr8 (a : Act) (v8 v9 v38 v39 v40 v41 v42 v43 v44 : Value) (hs : 44 < a.tmps.size) : (fr a v8 v9 v38 v39 v40 v41 v42 v43 v44).eval (.tmp 8) = v8 := by
  have h : (fr a v8 v9 v38 v39 v40 v41 v42 v43 v44).tmps[8]? = some v8 := by
    simp only [fr, Act.put, Array.getElem?_setIfInBounds, Array.size_setIfInBounds]
    simp
    omega
  simp [Act.eval, Array.getD_eq_getD_getElem?, h]

theorem eval_fr9 (a : Act) (v8 v9 v38 v39 v40 v41 v42 v43 v44 : Value) (hs : 44 < a.tmps.size) : (fr a v8 v9 v38 v39 v40 v41 v42 v43 v44).eval (.tmp 9) = v9 := by
  have h : (fr a v8 v9 v38 v39 v40 v41 v42 v43 v44).tmps[9]? = some v9 := by
    simp only [fr, Act.put, Array.getElem?_setIfInBounds, Array.size_setIfInBounds]
    simp
    omega
  simp [Act.eval, Array.getD_eq_getD_getElem?, h]

theorem eval_fr38 (a : Act) (v8 v9 v38 v39 v40 v41 v42 v43 v44 : Value) (hs : 44 < a.tmps.size) : (fr a v8 v9 v38 v39 v40 v41 v42 v43 v44).eval (.tmp 38) = v38 := by
  have h : (fr a v8 v9 v38 v39 v40 v41 v42 v43 v44).tmps[38]? = some v38 := by
    simp only [fr, Act.put, Array.getElem?_setIfInBounds, Array.size_setIfInBounds]
    simp
    omega
  simp [Act.eval, Array.getD_eq_getD_getElem?, h]

theorem eval_fr39 (a : Act) (v8 v9 v38 v39 v40 v41 v42 v43 v44 : Value) (hs : 44 < a.tmps.size) : (fr a v8 v9 v38 v39 v40 v41 v42 v43 v44).eval (.tmp 39) = v39 := by
  have h : (fr a v8 v9 v38 v39 v40 v41 v42 v43 v44).tmps[39]? = some v39 := by
    simp only [fr, Act.put, Array.getElem?_setIfInBounds, Array.size_setIfInBounds]
    simp
    omega
  simp [Act.eval, Array.getD_eq_getD_getElem?, h]

theorem eval_fr40 (a : Act) (v8 v9 v38 v39 v40 v41 v42 v43 v44 : Value) (hs : 44 < a.tmps.size) : (fr a v8 v9 v38 v39 v40 v41 v42 v43 v44).eval (.tmp 40) = v40 := by
  have h : (fr a v8 v9 v38 v39 v40 v41 v42 v43 v44).tmps[40]? = some v40 := by
    simp only [fr, Act.put, Array.getElem?_setIfInBounds, Array.size_setIfInBounds]
    simp
    omega
  simp [Act.eval, Array.getD_eq_getD_getElem?, h]

theorem eval_fr41 (a : Act) (v8 v9 v38 v39 v40 v41 v42 v43 v44 : Value) (hs : 44 < a.tmps.size) : (fr a v8 v9 v38 v39 v40 v41 v42 v43 v44).eval (.tmp 41) = v41 := by
  have h : (fr a v8 v9 v38 v39 v40 v41 v42 v43 v44).tmps[41]? = some v41 := by
    simp only [fr, Act.put, Array.getElem?_setIfInBounds, Array.size_setIfInBounds]
    simp
    omega
  simp [Act.eval, Array.getD_eq_getD_getElem?, h]

theorem eval_fr42 (a : Act) (v8 v9 v38 v39 v40 v41 v42 v43 v44 : Value) (hs : 44 < a.tmps.size) : (fr a v8 v9 v38 v39 v40 v41 v42 v43 v44).eval (.tmp 42) = v42 := by
  have h : (fr a v8 v9 v38 v39 v40 v41 v42 v43 v44).tmps[42]? = some v42 := by
    simp only [fr, Act.put, Array.getElem?_setIfInBounds, Array.size_setIfInBounds]
    simp
    omega
  simp [Act.eval, Array.getD_eq_getD_getElem?, h]

theorem eval_fr43 (a : Act) (v8 v9 v38 v39 v40 v41 v42 v43 v44 : Value) (hs : 44 < a.tmps.size) : (fr a v8 v9 v38 v39 v40 v41 v42 v43 v44).eval (.tmp 43) = v43 := by
  have h : (fr a v8 v9 v38 v39 v40 v41 v42 v43 v44).tmps[43]? = some v43 := by
    simp only [fr, Act.put, Array.getElem?_setIfInBounds, Array.size_setIfInBounds]
    simp
    omega
  simp [Act.eval, Array.getD_eq_getD_getElem?, h]

theorem eval_fr44 (a : Act) (v8 v9 v38 v39 v40 v41 v42 v43 v44 : Value) (hs : 44 < a.tmps.size) : (fr a v8 v9 v38 v39 v40 v41 v42 v43 v44).eval (.tmp 44) = v44 := by
  have h : (fr a v8 v9 v38 v39 v40 v41 v42 v43 v44).tmps[44]? = some v44 := by
    simp only [fr, Act.put, Array.getElem?_setIfInBounds, Array.size_setIfInBounds]
    simp
    omega
  simp [Act.eval, Array.getD_eq_getD_getElem?, h]

theorem eval_fr7 (a : Act) (v8 v9 v38 v39 v40 v41 v42 v43 v44 : Value) : (fr a v8 v9 v38 v39 v40 v41 v42 v43 v44).eval (.tmp 7) = a.eval (.tmp 7) := by
  have h : (fr a v8 v9 v38 v39 v40 v41 v42 v43 v44).tmps[7]? = a.tmps[7]? := by
    simp [fr, Act.put, Array.getElem?_setIfInBounds]
  simp [Act.eval, Array.getD_eq_getD_getElem?, h]

theorem put_same_ {a : Act} {k : Nat} {v : Value} (h : a.tmps[k]? = some v) : a.put (some k) v = a := by
  obtain ⟨tm, df⟩ := a
  simp only [Act.put, Act.mk.injEq, and_true]
  apply Array.ext_getElem?
  intro j
  simp only [Array.getElem?_setIfInBounds]
  by_cases e : k = j
  · subst e
    simp only [if_true]
    have hlt : k < tm.size := (Array.getElem?_eq_some_iff.1 h).1
    simp only [hlt, if_true]
    exact h.symm
  · simp only [if_neg e]

theorem fr_same {a : Act} {v8 v9 v38 v39 v40 v41 v42 v43 v44 : Value} (h8 : a.tmps[8]? = some v8) (h9 : a.tmps[9]? = some v9) (h38 : a.tmps[38]? = some v38) (h39 : a.tmps[39]? = some v39) (h40 : a.tmps[40]? = some v40) (h41 : a.tmps[41]? = some v41) (h42 : a.tmps[42]? = some v42) (h43 : a.tmps[43]? = some v43) (h44 : a.tmps[44]? = some v44) : a = fr a v8 v9 v38 v39 v40 v41 v42 v43 v44 := by
  unfold fr
  rw [put_same_ h8, put_same_ h9, put_same_ h38, put_same_ h39, put_same_ h40, put_same_ h41, put_same_ h42, put_same_ h43, put_same_ h44]

theorem wpOp_value {P : Program} {ops : Array Oper} {Q : Exit → Act → World → Prop} {i : Nat} {o : Oper} {a : Act} {w w' : World} {K : Act → World → Prop} (hi : ops[i]? = some o) (hg : o.guard = none) (v : Value) (hrun : (execOp a.eval o).run P w = .ok (.value v) w') (hK : K (a.put o.dst v) w') : wpOp P ops Q i K a w := by
  unfold wpOp
  rw [hi]
  simp only [Region.wanted, hg, if_true]
  refine .inl ?_
  unfold Oper.wp
  rw [hrun]
  exact hK

theorem wpOp_skip {P : Program} {ops : Array Oper} {Q : Exit → Act → World → Prop} {i : Nat} {o : Oper} {a : Act} {w w' : World} {K : Act → World → Prop} (hi : ops[i]? = some o) (hg : o.guard = none) (hd : o.dst = none) (hrun : (execOp a.eval o).run P w = .ok .skip w') (hK : K a w') : wpOp P ops Q i K a w := by
  unfold wpOp
  rw [hi]
  simp only [Region.wanted, hg, if_true]
  refine .inl ?_
  unfold Oper.wp
  rw [hrun]
  simp only [Oper.upon, hd]
  exact hK

def backward (ops : Array Oper) : Bool := (List.range ops.size).all fun i => ((ops[i]?).map fun o => o.after.all fun e => !Region.binds .any e || decide (e.on < i)).getD true

theorem all_listed {ops : Array Oper} {listed : Array Bool} (hs : listed.size = ops.size) (hb : backward ops = true) (hr : Region.ready .any ops listed = []) : ∀ i, i < ops.size → listed.getD i false = true := by
  intro i
  induction i using Nat.strongRecOn with
  | _ i ih =>
    intro hi
    have hil : i < listed.size := by omega
    cases hl : listed.getD i false with
    | true => rfl
    | false =>
      have hlt : listed.getD i true = false := by
        simp only [Array.getD, hil, dite_true] at hl ⊢
        exact hl
      have hmem : i ∈ Region.ready .any ops listed := by
        refine mem_ready.2 ⟨hlt, ops[i], by simp [hi], fun e he hbe => ?_⟩
        unfold backward at hb
        have h1 := List.all_eq_true.1 hb i (List.mem_range.2 hi)
        simp only [hi, Array.getElem?_eq_getElem, Option.map_some, Option.getD_some] at h1
        have h2 := Array.all_eq_true_iff_forall_mem.1 h1 e he
        have h3 : e.on < i := by
          rw [hbe] at h2
          simpa using h2
        exact ih e.on h3 (by omega)
      rw [hr] at hmem
      cases hmem

theorem wp_region_fr {P : Program} {ops : Array Oper} {Q : Exit → Act → World → Prop} {id : Nat} {a : Act} {w : World} (hm : P.follows .mixedOrders = true) (hb : backward ops = true) (R : (Nat → Bool) → Value → Value → Value → Value → Value → Value → Value → Value → Value → World → Prop)
    (u8 u9 u38 u39 u40 u41 u42 u43 u44 : Value) (ha8 : a.tmps[8]? = some u8) (ha9 : a.tmps[9]? = some u9) (ha38 : a.tmps[38]? = some u38) (ha39 : a.tmps[39]? = some u39) (ha40 : a.tmps[40]? = some u40) (ha41 : a.tmps[41]? = some u41) (ha42 : a.tmps[42]? = some u42) (ha43 : a.tmps[43]? = some u43) (ha44 : a.tmps[44]? = some u44) (h0 : R (fun _ => false) u8 u9 u38 u39 u40 u41 u42 u43 u44 { w with drawn := w.drawn + 1 })
    (hdone : ∀ L v8 v9 v38 v39 v40 v41 v42 v43 v44 w', R L v8 v9 v38 v39 v40 v41 v42 v43 v44 w' → (∀ i, i < ops.size → L i = true) → Q .normal (fr a v8 v9 v38 v39 v40 v41 v42 v43 v44) w')
    (hstep : ∀ L v8 v9 v38 v39 v40 v41 v42 v43 v44 w' i, R L v8 v9 v38 v39 v40 v41 v42 v43 v44 w' → i < ops.size → L i = false → (∀ oi, ops[i]? = some oi → ∀ e ∈ oi.after, Region.binds .any e = true → L e.on = true) →
      wpOp P ops Q i (fun a' w'' => ∃ x8 x9 x38 x39 x40 x41 x42 x43 x44, a' = fr a x8 x9 x38 x39 x40 x41 x42 x43 x44 ∧ R (on L i) x8 x9 x38 x39 x40 x41 x42 x43 x44 w'') (fr a v8 v9 v38 v39 v40 v41 v42 v43 v44) w') : (Code.region id ops true).wp P Q a w := by
  refine wp_region_inv hm (fun listed a' w' => listed.size = ops.size ∧ ∃ v8 v9 v38 v39 v40 v41 v42 v43 v44, a' = fr a v8 v9 v38 v39 v40 v41 v42 v43 v44 ∧ R (fun j => listed.getD j false) v8 v9 v38 v39 v40 v41 v42 v43 v44 w') ?_ ?_ ?_
  · refine ⟨by simp, u8, u9, u38, u39, u40, u41, u42, u43, u44, fr_same (h8 := ha8) (h9 := ha9) (h38 := ha38) (h39 := ha39) (h40 := ha40) (h41 := ha41) (h42 := ha42) (h43 := ha43) (h44 := ha44), ?_⟩
    have e : (fun j => (Array.replicate ops.size false).getD j false) = fun _ => false := by
      funext j
      simp only [Array.getD]
      split <;> simp
    rw [e]
    exact h0
  · rintro listed a' w' ⟨hs, v8, v9, v38, v39, v40, v41, v42, v43, v44, rfl, hR⟩ hr
    exact hdone _ v8 v9 v38 v39 v40 v41 v42 v43 v44 w' hR (all_listed hs hb hr)
  · rintro listed a' w' i ⟨hs, v8, v9, v38, v39, v40, v41, v42, v43, v44, rfl, hR⟩ hi
    obtain ⟨h1, oi, hoi, hall⟩ := mem_ready.1 hi
    have hlt : i < ops.size := (Array.getElem?_eq_some_iff.1 hoi).1
    have hil : i < listed.size := by omega
    have h1' : listed.getD i false = false := by
      simp only [Array.getD, hil, dite_true] at h1 ⊢
      exact h1
    refine wpOp_mono (fun a'' w'' h => ?_) (hstep (fun j => listed.getD j false) v8 v9 v38 v39 v40 v41 v42 v43 v44 w' i hR hlt h1' (fun o ho => by rw [hoi] at ho; cases ho; exact hall))
    obtain ⟨x8, x9, x38, x39, x40, x41, x42, x43, x44, hx, hR'⟩ := h
    refine ⟨by simp [hs], x8, x9, x38, x39, x40, x41, x42, x43, x44, hx, ?_⟩
    have e : (fun j => (listed.setIfInBounds i true).getD j false) = on (fun j => listed.getD j false) i := by
      funext j
      unfold on
      by_cases ej : i = j
      · subst ej
        simp [Array.getD, hil]
      · rw [getD_set_ne false ej, if_neg ej]
    rw [e]
    exact hR'

/-- The region in which the search begins: its operations in whatever order. -/
theorem region_begin {ops : Array Oper} {Q : Exit → Act → World → Prop} {id : Nat} {a : Act} {w2 : World} {F n : Nat} {t0 t1 t2 t3 t4 t5 t6 t7 t8 t9 t10 t11 : TypeId} {p0 p1 p2 p3 p4 p5 p6 p7 p8 p9 p10 p11 : String} {f0 f1 f2 f3 f4 f5 f6 f7 f8 f9 f10 f11 : Array Edge} (hsz : ops.size = 12) (hb : backward ops = true) (hn : n < 8) (hs : 44 < a.tmps.size) (h7 : a.eval (.tmp 7) = .pointer (some ⟨F, 0, none⟩)) (hF : w2.heap[F]? = some (.cells #[.int .i64 0, .int .i64 0, .int .i64 (n : Int)] 41 (0, 0)))
    (u8 : a.tmps[8]? = some undef) (u9 : a.tmps[9]? = some undef) (u38 : a.tmps[38]? = some undef) (u39 : a.tmps[39]? = some undef) (u40 : a.tmps[40]? = some undef) (u41 : a.tmps[41]? = some undef) (u42 : a.tmps[42]? = some undef) (u43 : a.tmps[43]? = some undef) (u44 : a.tmps[44]? = some undef) (o0 : ops[0]? = some ⟨some 38, .makeMap 42 none, t0, p0, f0, none⟩) (o1 : ops[1]? = some ⟨some 39, .load 41 (.tmp 7), t1, p1, f1, none⟩) (o2 : ops[2]? = some ⟨none, .insert 42 (.tmp 38) (.tmp 39) (.const (.int .i64 0)), t2, p2, f2, none⟩) (o3 : ops[3]? = some ⟨some 40, .move (.tmp 38), t3, p3, f3, none⟩) (o4 : ops[4]? = some ⟨some 41, .load 41 (.tmp 7), t4, p4, f4, none⟩) (o5 : ops[5]? = some ⟨some 42, .build 45 #[(0, .tmp 41), (1, .const (.int .i64 0))], t5, p5, f5, none⟩) (o6 : ops[6]? = some ⟨some 43, .buildSlice 47 1 #[(0, .tmp 42)], t6, p6, f6, none⟩) (o7 : ops[7]? = some ⟨some 44, .box 47 (.tmp 43), t7, p7, f7, none⟩) (o8 : ops[8]? = some ⟨some 8, .alloc 42, t8, p8, f8, none⟩) (o9 : ops[9]? = some ⟨some 9, .alloc 43, t9, p9, f9, none⟩) (o10 : ops[10]? = some ⟨none, .store 42 (.tmp 8) (.tmp 40), t10, p10, f10, none⟩) (o11 : ops[11]? = some ⟨none, .store 43 (.tmp 9) (.tmp 44), t11, p11, f11, none⟩) (e2_0 : (⟨0, .data⟩ : Edge) ∈ f2) (e2_1 : (⟨1, .data⟩ : Edge) ∈ f2) (e3_0 : (⟨0, .data⟩ : Edge) ∈ f3) (e5_4 : (⟨4, .data⟩ : Edge) ∈ f5) (e6_5 : (⟨5, .data⟩ : Edge) ∈ f6) (e7_6 : (⟨6, .data⟩ : Edge) ∈ f7) (e10_8 : (⟨8, .data⟩ : Edge) ∈ f10) (e10_3 : (⟨3, .data⟩ : Edge) ∈ f10) (e11_9 : (⟨9, .data⟩ : Edge) ∈ f11) (e11_7 : (⟨7, .data⟩ : Edge) ∈ f11)
    (hdone : ∀ v8 v9 v38 v39 v40 v41 v42 v43 v44 w', RI w2 n (fun _ => true) v8 v9 v38 v39 v40 v41 v42 v43 v44 w' → Q .normal (fr a v8 v9 v38 v39 v40 v41 v42 v43 v44) w') : (Code.region id ops true).wp Try.prog Q a w2 := by
  have qs := blk_lt hF
  have q0 : w2.cell? ⟨F, 0, none⟩ = some (.int .i64 0) := by rw [blk_cell hF]; rfl
  have q1 : w2.cell? ⟨F, 1, none⟩ = some (.int .i64 0) := by rw [blk_cell hF]; rfl
  have q2 : w2.cell? ⟨F, 2, none⟩ = some (.int .i64 (n : Int)) := by rw [blk_cell hF]; rfl
  refine wp_region_fr (by kernel_rfl) hb (fun L v8 v9 v38 v39 v40 v41 v42 v43 v44 w => RI w2 n L v8 v9 v38 v39 v40 v41 v42 v43 v44 w) undef undef undef undef undef undef undef undef undef u8 u9 u38 u39 u40 u41 u42 u43 u44 (RI.start w2 n _ _ _ _ _ _ _ _ _) ?_ ?_
  · intro L v8 v9 v38 v39 v40 v41 v42 v43 v44 w' hR hall
    refine hdone v8 v9 v38 v39 v40 v41 v42 v43 v44 w' ?_
    have hl : ∀ i, i < 12 → L i = true := fun i hi => hall i (by omega)
    obtain ⟨z0, z1, z2, z3, z4, z5, z6, z7, z8, z9, z10, z11, z12, z13, z14, z15, z16⟩ := hR
    refine ⟨z0, fun _ => ?_, fun _ => z2 (hl 1 (by omega)), fun _ => z3 (hl 3 (by omega)), fun _ => z4 (hl 4 (by omega)), fun _ => z5 (hl 5 (by omega)), fun _ => z6 (hl 6 (by omega)), fun _ => z7 (hl 7 (by omega)), fun _ => ?_, fun _ => ?_, fun _ => rfl, fun _ => rfl, fun _ => rfl, fun _ => rfl, fun _ => rfl, fun _ => ⟨rfl, rfl⟩, fun _ => ⟨rfl, rfl⟩⟩
    · have := z1 (hl 0 (by omega)); rw [hl 2 (by omega)] at this; exact this
    · have := z8 (hl 8 (by omega)); rw [hl 10 (by omega)] at this; exact this
    · have := z9 (hl 9 (by omega)); rw [hl 11 (by omega)] at this; exact this
  · intro L v8 v9 v38 v39 v40 v41 v42 v43 v44 w' i hR hlt hLi hall
    have p0 : w'.cell? ⟨F, 0, none⟩ = some (.int .i64 0) := (hR.below.cell (by exact qs)).trans q0
    have p1 : w'.cell? ⟨F, 1, none⟩ = some (.int .i64 0) := (hR.below.cell (by exact qs)).trans q1
    have p2 : w'.cell? ⟨F, 2, none⟩ = some (.int .i64 (n : Int)) := (hR.below.cell (by exact qs)).trans q2
    have hmm := @run_makeMap Try.prog
    have r8 := eval_fr8 a v8 v9 v38 v39 v40 v41 v42 v43 v44 hs
    have r9 := eval_fr9 a v8 v9 v38 v39 v40 v41 v42 v43 v44 hs
    have r38 := eval_fr38 a v8 v9 v38 v39 v40 v41 v42 v43 v44 hs
    have r39 := eval_fr39 a v8 v9 v38 v39 v40 v41 v42 v43 v44 hs
    have r40 := eval_fr40 a v8 v9 v38 v39 v40 v41 v42 v43 v44 hs
    have r41 := eval_fr41 a v8 v9 v38 v39 v40 v41 v42 v43 v44 hs
    have r42 := eval_fr42 a v8 v9 v38 v39 v40 v41 v42 v43 v44 hs
    have r43 := eval_fr43 a v8 v9 v38 v39 v40 v41 v42 v43 v44 hs
    have r44 := eval_fr44 a v8 v9 v38 v39 v40 v41 v42 v43 v44 hs
    have r7 : (fr a v8 v9 v38 v39 v40 v41 v42 v43 v44).eval (.tmp 7) = .pointer (some ⟨F, 0, none⟩) := (eval_fr7 a v8 v9 v38 v39 v40 v41 v42 v43 v44).trans h7
    have rc : ∀ v, (fr a v8 v9 v38 v39 v40 v41 v42 v43 v44).eval (.const v) = v := fun v => rfl
    rw [hsz] at hlt
    clear q0 q1 q2
    match i, hlt with
    | 0, _ =>
      refine wpOp_value o0 rfl (.map (some w'.heap.size)) (w' := w'.alloc (.map #[] 0)) ?_ ?_
      · generalize (fr a v8 v9 v38 v39 v40 v41 v42 v43 v44).eval = ρ at *
        go_simp
      · exact ⟨_, _, _, _, _, _, _, _, _, put_fr38 _ v8 v9 v38 v39 v40 v41 v42 v43 v44 _, hR.op0 hLi⟩
    | 1, _ =>
      refine wpOp_value o1 rfl (ag n) (w' := w') ?_ ?_
      · unfold ag
        generalize (fr a v8 v9 v38 v39 v40 v41 v42 v43 v44).eval = ρ at *
        go_simp
      · exact ⟨_, _, _, _, _, _, _, _, _, put_fr39 _ v8 v9 v38 v39 v40 v41 v42 v43 v44 _, hR.op1⟩
    | 2, _ =>
      have l0 := hall _ o2 _ e2_0 rfl
      have l1 := hall _ o2 _ e2_1 rfl
      obtain ⟨w2', hrun, hR'⟩ := hR.op2 hn hLi l0 l1
      refine wpOp_skip o2 rfl rfl (w' := w2') ?_ ?_
      · generalize (fr a v8 v9 v38 v39 v40 v41 v42 v43 v44).eval = ρ at *
        simp only [execOp]
        go_simp
      · exact ⟨_, _, _, _, _, _, _, _, _, rfl, hR'⟩
    | 3, _ =>
      have l0 := hall _ o3 _ e3_0 rfl
      refine wpOp_value o3 rfl v38 (w' := w') ?_ ?_
      · generalize (fr a v8 v9 v38 v39 v40 v41 v42 v43 v44).eval = ρ at *
        go_simp
      · exact ⟨_, _, _, _, _, _, _, _, _, put_fr40 _ v8 v9 v38 v39 v40 v41 v42 v43 v44 _, hR.op3 hLi l0⟩
    | 4, _ =>
      refine wpOp_value o4 rfl (ag n) (w' := w') ?_ ?_
      · unfold ag
        generalize (fr a v8 v9 v38 v39 v40 v41 v42 v43 v44).eval = ρ at *
        go_simp
      · exact ⟨_, _, _, _, _, _, _, _, _, put_fr41 _ v8 v9 v38 v39 v40 v41 v42 v43 v44 _, hR.op4 hLi⟩
    | 5, _ =>
      have l4 := hall _ o5 _ e5_4 rfl
      have k4 := hR.k4 l4
      refine wpOp_value o5 rfl (ev ((0, 0, n), 0)) (w' := w') ?_ ?_
      · unfold ag at k4
        subst k4
        unfold ev ecells
        generalize (fr a v8 v9 v38 v39 v40 (.agg #[.int .i64 0, .int .i64 0, .int .i64 (n : Int)]) v42 v43 v44).eval = ρ at *
        go_simp
      · exact ⟨_, _, _, _, _, _, _, _, _, put_fr42 _ v8 v9 v38 v39 v40 v41 v42 v43 v44 _, hR.op5 hLi l4⟩
    | 6, _ =>
      have l5 := hall _ o6 _ e6_5 rfl
      have k5 := hR.k5 l5
      refine wpOp_value o6 rfl (mkS w'.heap.size) (w' := w'.alloc (.cells (ecells ((0, 0, n), 0)).toArray 45)) ?_ ?_
      · unfold ev ecells at k5
        subst k5
        unfold mkS ecells
        generalize (fr a v8 v9 v38 v39 v40 v41 _ v43 v44).eval = ρ at *
        go_simp
      · exact ⟨_, _, _, _, _, _, _, _, _, put_fr43 _ v8 v9 v38 v39 v40 v41 v42 v43 v44 _, hR.op6 hLi l5⟩
    | 7, _ =>
      have l6 := hall _ o7 _ e7_6 rfl
      obtain ⟨g, k6, _⟩ := hR.s l6
      refine wpOp_value o7 rfl (mkP w'.heap.size) (w' := w'.alloc (.cells #[v43] 47)) ?_ ?_
      · unfold mkS at k6
        subst k6
        unfold mkP
        generalize (fr a v8 v9 v38 v39 v40 v41 v42 _ v44).eval = ρ at *
        go_simp
      · exact ⟨_, _, _, _, _, _, _, _, _, put_fr44 _ v8 v9 v38 v39 v40 v41 v42 v43 v44 _, hR.op7 hLi l6⟩
    | 8, _ =>
      refine wpOp_value o8 rfl (mkP w'.heap.size) (w' := w'.alloc (.cells #[.map none] 42)) ?_ ?_
      · unfold mkP
        generalize (fr a v8 v9 v38 v39 v40 v41 v42 v43 v44).eval = ρ at *
        go_simp
      · exact ⟨_, _, _, _, _, _, _, _, _, put_fr8 _ v8 v9 v38 v39 v40 v41 v42 v43 v44 _, hR.op8 hLi⟩
    | 9, _ =>
      refine wpOp_value o9 rfl (mkP w'.heap.size) (w' := w'.alloc (.cells #[.pointer none] 43)) ?_ ?_
      · unfold mkP
        generalize (fr a v8 v9 v38 v39 v40 v41 v42 v43 v44).eval = ρ at *
        go_simp
      · exact ⟨_, _, _, _, _, _, _, _, _, put_fr9 _ v8 v9 v38 v39 v40 v41 v42 v43 v44 _, hR.op9 hLi⟩
    | 10, _ =>
      have l8 := hall _ o10 _ e10_8 rfl
      have l3 := hall _ o10 _ e10_3 rfl
      obtain ⟨pb, k8, ⟨u, hu⟩, hfz, hR'⟩ := hR.op10 l8 l3
      obtain ⟨bm, k38, _⟩ := hR.m (hR.c3 l3)
      have k40 := (hR.k3 l3).trans k38
      refine wpOp_skip o10 rfl rfl (w' := w'.setCell ⟨pb, 0, none⟩ v40) ?_ ?_
      · clear hR hR'
        unfold mkP at k8
        subst k8 k40
        generalize (fr a _ v9 v38 v39 _ v41 v42 v43 v44).eval = ρ at *
        go_simp
      · exact ⟨_, _, _, _, _, _, _, _, _, rfl, hR'⟩
    | 11, _ =>
      have l9 := hall _ o11 _ e11_9 rfl
      have l7 := hall _ o11 _ e11_7 rfl
      obtain ⟨po, k9, ⟨u, hu⟩, hfz, hR'⟩ := hR.op11 l9 l7
      obtain ⟨f, k44, _⟩ := hR.x l7
      refine wpOp_skip o11 rfl rfl (w' := w'.setCell ⟨po, 0, none⟩ v44) ?_ ?_
      · clear hR hR'
        unfold mkP at k9 k44
        subst k9 k44
        generalize (fr a v8 _ v38 v39 v40 v41 v42 v43 _).eval = ρ at *
        go_simp
      · exact ⟨_, _, _, _, _, _, _, _, _, rfl, hR'⟩

end Go.Proofs.Ytnnmidfkgjmfmaa.Ck
