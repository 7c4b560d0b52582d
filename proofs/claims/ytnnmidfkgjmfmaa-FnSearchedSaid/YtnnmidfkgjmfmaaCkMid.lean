/- The program's search: a round with the row of the held states. -/
import Derived.Test.YtnnmidfkgjmfmaaCkLoop
import Derived.Test.YtnnmidfkgjmfmaaCkClosure
import Derived.Test.YtnnmidfkgjmfmaaCkStep
namespace Go.Proofs.Ytnnmidfkgjmfmaa.Ck
open Go.RowKit Go.Proofs.YtnnmidfkgjmfmaaW.PrintWords Go.Proofs.YtnnmidfkgjmfmaaW.PrintLast Go.Proofs.YtnnmidfkgjmfmaaW.PrintMore
open Go.Proofs.Ytnnmidfkgjmfmaa.PFnExactSearchCost
open Go.Maps
set_option linter.unusedVariables false
set_option linter.unusedSimpArgs false

theorem own_same {w w' : World} {base : Nat} {e : TypeId} {v : Value} {n sz : Nat} {xs : List Value} (h : w.ownsRow base e sz v n xs) (hk : ∀ g, v.ownBlock = some g → w'.heap[g]? = w.heap[g]?) : w'.ownsRow base e sz v n xs := by
  refine ⟨h.1, ?_⟩
  rcases h.2 with h0 | ⟨g, cap, cur, hv, hb, hg, hr⟩
  · exact .inl h0
  · refine .inr ⟨g, cap, cur, hv, hb, ?_, hr⟩
    rw [hk g (by rw [hv]; rfl)]
    exact hg

/-- A round, with the row of what is held. -/
def MidO (w2 : World) (wt : Nat → Nat) (n c : Nat) (pb po bm f : Nat) (h x S b : Nat) (m M : Nat) (sat : List Ent) (v : Value) (q : List Nat) (w : World) : Prop :=
  MidP w2 wt n c pb po bm f h x S b m M sat w ∧ w.ownsRow w2.heap.size 2 1 v q.length (nats q)

theorem MidO.drewN {w2 : World} {wt : Nat → Nat} {n c pb po bm f h x S b m M : Nat} {sat : List Ent} {v : Value} {q : List Nat} {w : World} (k : MidO w2 wt n c pb po bm f h x S b m M sat v q w) (d : Nat) : MidO w2 wt n c pb po bm f h x S b m M sat v q (w.drewN d) :=
  ⟨k.1.drewN d, k.2⟩

theorem MidO.call {w2 : World} {wt : Nat → Nat} {n c pb po bm f h x S b m M : Nat} {sat : List Ent} {v : Value} {q : List Nat} {w : World} (hn : n ≤ 7) (hk : MidO w2 wt n c pb po bm f h x S b m M sat v q w) (ux uS ub k : Nat) (xi Si bi ki : Int)
    (ex : xi = (ux : Int)) (eS : Si = (uS : Int)) (eb : bi = (ub : Int)) (ek : ki = (k : Int)) (hp : Path wt c (0, 0, n) (ux, uS, ub) k) (h1 : m ≤ k) (h2 : k ≤ m + 1000) (hkk : k ≤ 1000000000) :
    Calls Try.prog 20 #[.agg #[.int .i64 xi, .int .i64 Si, .int .i64 bi], .int .i64 ki, .pointer (some ⟨pb, 0, none⟩), .pointer (some ⟨po, 0, none⟩)] w fun e w' =>
      e = .returned (.tuple #[]) ∧ MidO w2 wt n c pb po bm f h x S b m M (((ux, uS, ub), k) :: sat) v q w' := by
  subst ex eS eb ek
  obtain ⟨⟨nb, best, ys, g, cap, hcw, hat, hd, hb⟩, hown⟩ := hk
  have hf := hd.few
  have hpu := hd.puts
  refine (closure_calls w2.heap.size w pb po bm f nb best ys g cap (ux, uS, ub) k hcw (Path.dom hn hp) hd.heap (by omega) (by omega) hkk).mono ?_
  rintro e w' ⟨he, best', ys', nb', g', cap', hcw', hrel, hnb, hb', hkeep⟩
  obtain ⟨_, _, cur, hcur⟩ := own_block_type hcw.fr.own (g := g) rfl
  refine ⟨he, ⟨nb', best', ys', g', cap', hcw', ?_, hd.relax_any hn hp h1 h2 hrel hnb, hb.trans hb'⟩, own_same hown fun r hr => ?_⟩
  · exact (hkeep.2 h (blk_lt hat) (blk_ne hat hcw.fr.blk (by decide)) (blk_ne hat hcur (by decide)) (Ne.symm (hcw.map.ne hat))).trans hat
  · obtain ⟨_, hlt, cur', hr'⟩ := own_block_type hown hr
    exact hkeep.2 r hlt (blk_ne hr' hcw.fr.blk (by decide)) (blk_ne hr' hcur (by decide)) (Ne.symm (hcw.map.ne hr'))

theorem MidP.grown {w2 : World} {wt : Nat → Nat} {n c pb po bm f h x S b m M : Nat} {sat : List Ent} {v : Value} {xs : List Value} {l : Nat} {w w1 : World} (hk : MidP w2 wt n c pb po bm f h x S b m M sat w) (hown : w.ownsRow w2.heap.size 2 1 v l xs)
    (hg : w.grownBy w1 v.ownBlock) (hb1 : Below w2.heap.size w2 w1) : MidP w2 wt n c pb po bm f h x S b m M sat w1 := by
  obtain ⟨nb, best, ys, g, cap, hcw, hat, hd, hb⟩ := hk
  obtain ⟨_, _, cur, hcur⟩ := own_block_type hcw.fr.own (g := g) rfl
  refine ⟨nb, best, ys, g, cap, ⟨blk_grown hcw.pbk hg (Ne.symm (own_ne_blk hown hcw.pbk (by decide))), blk_grown hcw.pok hg (Ne.symm (own_ne_blk hown hcw.pok (by decide))), hcw.map.block (hg.block bm hcw.map.lt ?_), ⟨blk_grown hcw.fr.blk hg (Ne.symm (own_ne_blk hown hcw.fr.blk (by decide))), hcw.fr.ge, hcw.fr.own.kept hg ?_⟩, hcw.bge⟩, blk_grown hat hg (Ne.symm (own_ne_blk hown hat (by decide))), hd, hb1⟩
  · intro e
    obtain ⟨_, _, cur', hr'⟩ := own_block_type hown e.symm
    exact hcw.map.ne hr' rfl
  · exact .inr (fun e => own_ne_blk hown hcur (by decide) e.symm)

theorem MidO.append {w2 : World} {wt : Nat → Nat} {n c pb po bm f h x S b m M : Nat} {sat : List Ent} {v v' : Value} {q : List Nat} {i : Nat} {w w1 : World} (hk : MidO w2 wt n c pb po bm f h x S b m M sat v q w)
    (ho : w1.ownsRow w2.heap.size 2 1 v' (nats q ++ [Value.int .i64 (i : Int)]).length (nats q ++ [Value.int .i64 (i : Int)])) (hb : Below w2.heap.size w2 w1) (hg : w.grownBy w1 v.ownBlock) : MidO w2 wt n c pb po bm f h x S b m M sat v' (q ++ [i]) w1 := by
  refine ⟨hk.1.grown hk.2 hg hb, ?_⟩
  have e1 : (q ++ [i]).length = (nats q ++ [Value.int .i64 (i : Int)]).length := by simp [nats]
  rw [e1, nats_append]
  exact ho

theorem MidO.bel {w2 : World} {wt : Nat → Nat} {n c pb po bm f h x S b m M : Nat} {sat : List Ent} {v : Value} {q : List Nat} {w : World} (hk : MidO w2 wt n c pb po bm f h x S b m M sat v q w) : Below w2.heap.size w2 w := by
  obtain ⟨⟨nb, best, ys, g, cap, hcw, hat, hd, hb⟩, hown⟩ := hk
  exact hb

theorem MidP.alloc {w2 : World} {wt : Nat → Nat} {n c pb po bm f h x S b m M : Nat} {sat : List Ent} {w : World} (k : MidP w2 wt n c pb po bm f h x S b m M sat w) (o : Obj) : MidP w2 wt n c pb po bm f h x S b m M sat (w.alloc o) := by
  obtain ⟨nb, best, ys, g, cap, h1, h2, h3, h4⟩ := k
  exact ⟨nb, best, ys, g, cap, h1.alloc o, blk_alloc h2 o, h3, h4.alloc h4.size o⟩

theorem MidP.bel {w2 : World} {wt : Nat → Nat} {n c pb po bm f h x S b m M : Nat} {sat : List Ent} {w : World} (k : MidP w2 wt n c pb po bm f h x S b m M sat w) : Below w2.heap.size w2 w := by
  obtain ⟨nb, best, ys, g, cap, h1, h2, h3, h4⟩ := k
  exact h4

theorem MidO.start {w2 : World} {wt : Nat → Nat} {n c pb po bm f h x S b m M : Nat} {sat : List Ent} {w : World} (k : MidP w2 wt n c pb po bm f h x S b m M sat w) : MidO w2 wt n c pb po bm f h x S b m M sat (.slice (some ⟨w.heap.size, 0, none⟩) 0 0) [] (w.alloc (.cells #[] 2)) :=
  ⟨k.alloc _, rfl, .inr ⟨w.heap.size, 0, #[], rfl, k.bel.size, heap_alloc_new w _, Nat.le_refl _, Nat.zero_le _, rfl, rfl⟩⟩

/-- All that is near has been noted. -/
theorem all_sat {wt : Nat → Nat} {c x S b m : Nat} {sat : List Ent} (ha : x + 1 < b → ((x + 1, S, b), m + wt x) ∈ sat) (hr : x + 1 = b → ((x, S, b - 1), m) ∈ sat) (hl : ∀ i, S.testBit i = true → ((i, S, b), m) ∈ sat)
    (hp : pc S < c → ((x, S ||| 2 ^ x, b), m) ∈ sat) (hx : ∀ i, S.testBit i = true → ((x, (S ^^^ 2 ^ i) ||| 2 ^ x, b), m) ∈ sat) : ∀ u d, E wt c (x, S, b) u d → (u, m + d) ∈ sat := by
  intro u d he
  cases he with
  | adv h => exact ha h
  | rev h => exact hr h
  | load h => exact hl _ h
  | put h h' => exact hp h'
  | repl h => exact hx _ h

theorem path_put {wt : Nat → Nat} {c n x S b m : Nat} (h : Path wt c (0, 0, n) (x, S, b) m) (hc : pc S < c) : Path wt c (0, 0, n) (x, S ||| 2 ^ x, b) m := by
  by_cases hb : S.testBit x = true
  · rw [put_same hb]; exact h
  · exact h.step (.put (by simpa using hb) hc)

theorem pc_filter {S n : Nat} (hn : n ≤ 7) (h : ∀ i, S.testBit i = true → i < n ∨ i = 0) : ((List.range (n + 1)).filter fun i => S.testBit i).length = pc S := by
  unfold pc
  rw [← List.countP_eq_length_filter]
  obtain ⟨d, hd⟩ : ∃ d, 8 = n + 1 + d := ⟨8 - (n + 1), by omega⟩
  rw [hd, show List.range (n + 1 + d) = List.range (n + 1) ++ (List.range d).map (fun x => n + 1 + x) from List.range_add .., List.countP_append, List.countP_map]
  have h0 : List.countP ((fun i => S.testBit i) ∘ fun x => n + 1 + x) (List.range d) = 0 := by
    rw [List.countP_eq_zero]
    intro i _ hi
    simp only [Function.comp] at hi
    have := h _ hi
    omega
  omega

theorem filter_succ (S i : Nat) : ((List.range (i + 1)).filter fun i => S.testBit i) = if S.testBit i = true then ((List.range i).filter fun i => S.testBit i) ++ [i] else (List.range i).filter fun i => S.testBit i := by
  rw [List.range_succ, List.filter_append]
  by_cases h : S.testBit i = true
  · simp [h]
  · simp [h]

theorem filter_le (S i : Nat) : ((List.range i).filter fun i => S.testBit i).length ≤ i := by
  have := List.length_filter_le (fun i => S.testBit i) (List.range i)
  simpa using this

/-- The first loop: after i rounds. -/
structure LA (w2 : World) (wt : Nat → Nat) (n c : Nat) (pb po bm f : Nat) (h x S b : Nat) (m M : Nat) (i : Nat) (v : Value) (sat : List Ent) (q : List Nat) (w : World) : Prop where
  mid : MidO w2 wt n c pb po bm f h x S b m M sat v q w
  adv : x + 1 < b → ((x + 1, S, b), m + wt x) ∈ sat
  rev : x + 1 = b → ((x, S, b - 1), m) ∈ sat
  load : ∀ j, j < i → S.testBit j = true → ((j, S, b), m) ∈ sat
  row : q = (List.range i).filter fun i => S.testBit i

/-- The second loop: after j rounds. -/
structure LB (w2 : World) (wt : Nat → Nat) (n c : Nat) (pb po bm f : Nat) (h x S b : Nat) (m M : Nat) (j : Nat) (v : Value) (sat : List Ent) (q : List Nat) (w : World) : Prop where
  mid : MidO w2 wt n c pb po bm f h x S b m M sat v q w
  adv : x + 1 < b → ((x + 1, S, b), m + wt x) ∈ sat
  rev : x + 1 = b → ((x, S, b - 1), m) ∈ sat
  load : ∀ i, S.testBit i = true → ((i, S, b), m) ∈ sat
  put : pc S < c → ((x, S ||| 2 ^ x, b), m) ∈ sat
  repl : ∀ i, i < j → ((x, (S ^^^ 2 ^ (q.getD i 0)) ||| 2 ^ x, b), m) ∈ sat
  row : q = (List.range (n + 1)).filter fun i => S.testBit i

theorem LB.all {w2 : World} {wt : Nat → Nat} {n c pb po bm f h x S b m M j : Nat} {v : Value} {sat : List Ent} {q : List Nat} {w : World} (k : LB w2 wt n c pb po bm f h x S b m M j v sat q w) (hj : q.length ≤ j) (hbits : ∀ i, S.testBit i = true → i < n ∨ i = 0) :
    ∀ u d, E wt c (x, S, b) u d → (u, m + d) ∈ sat := by
  refine all_sat k.adv k.rev k.load k.put fun i hi => ?_
  have hm : i ∈ q := by
    rw [k.row, List.mem_filter, List.mem_range]
    exact ⟨by have := hbits i hi; omega, hi⟩
  obtain ⟨p, hp, hpi⟩ := List.getElem_of_mem hm
  have := k.repl p (by omega)
  rw [show q.getD p 0 = i by simp [List.getD_eq_getElem?_getD, hp, hpi]] at this
  exact this

theorem shr_bit {S i : Nat} (hS : S < 256) : (S.testBit i = true → Go.bits .and .i64 ((S : Int) / 2 ^ i) 1 = 1) ∧ (S.testBit i = false → Go.bits .and .i64 ((S : Int) / 2 ^ i) 1 = 0) := by
  have e : ((S : Int) / 2 ^ i) = ((S / 2 ^ i : Nat) : Int) := by simp
  have hle : S / 2 ^ i ≤ S := Nat.div_le_self _ _
  have h := i64_and (S / 2 ^ i) 1 (by omega) (by omega)
  rw [Nat.and_one_is_mod] at h
  rw [e, Nat.testBit_eq_decide_div_mod_eq]
  refine ⟨fun hb => ?_, fun hb => ?_⟩
  · have hb' := of_decide_eq_true hb
    rw [hb'] at h
    exact h
  · have hb' := of_decide_eq_false hb
    rw [show S / 2 ^ i % 2 = 0 by omega] at h
    exact h

theorem LA.yes {w2 : World} {wt : Nat → Nat} {n c pb po bm f h x S b m M i : Nat} {v v' : Value} {sat : List Ent} {q : List Nat} {w w' : World} (k : LA w2 wt n c pb po bm f h x S b m M i v sat q w) (hb : S.testBit i = true)
    (hm : MidO w2 wt n c pb po bm f h x S b m M (((i, S, b), m) :: sat) v' (q ++ [i]) w') : LA w2 wt n c pb po bm f h x S b m M (i + 1) v' (((i, S, b), m) :: sat) (q ++ [i]) w' := by
  refine ⟨hm, fun h => List.mem_cons_of_mem _ (k.adv h), fun h => List.mem_cons_of_mem _ (k.rev h), fun j hj hjb => ?_, ?_⟩
  · by_cases e : j = i
    · subst e; simp
    · exact List.mem_cons_of_mem _ (k.load j (by omega) hjb)
  · rw [filter_succ, if_pos hb, ← k.row]

theorem LA.no {w2 : World} {wt : Nat → Nat} {n c pb po bm f h x S b m M i : Nat} {v : Value} {sat : List Ent} {q : List Nat} {w : World} (k : LA w2 wt n c pb po bm f h x S b m M i v sat q w) (hb : S.testBit i = false) :
    LA w2 wt n c pb po bm f h x S b m M (i + 1) v sat q w := by
  refine ⟨k.mid, k.adv, k.rev, fun j hj hjb => ?_, ?_⟩
  · by_cases e : j = i
    · subst e; rw [hb] at hjb; cases hjb
    · exact k.load j (by omega) hjb
  · rw [filter_succ, if_neg (by simp [hb]), ← k.row]

theorem own_slice {w : World} {base : Nat} {e : TypeId} {v : Value} {n sz : Nat} {xs : List Value} (h : w.ownsRow base e sz v n xs) : ∃ A cap, v = .slice A n cap := by
  rcases h.2 with ⟨hv, h0⟩ | ⟨g, cap, cur, hv, _⟩
  · exact ⟨none, 0, by rw [hv, h0]⟩
  · exact ⟨_, _, hv⟩

/-- Behind the first loop and the free slot. -/
theorem LA.put {w2 : World} {wt : Nat → Nat} {n c pb po bm f h x S b m M i : Nat} {v : Value} {sat : List Ent} {q : List Nat} {w w' : World} (k : LA w2 wt n c pb po bm f h x S b m M i v sat q w) (hi : i = n + 1) (hbits : ∀ i, S.testBit i = true → i < n ∨ i = 0)
    {sat' : List Ent} (hm : MidO w2 wt n c pb po bm f h x S b m M sat' v q w') (hs : ∀ e ∈ sat, e ∈ sat') (hp : pc S < c → ((x, S ||| 2 ^ x, b), m) ∈ sat') : LB w2 wt n c pb po bm f h x S b m M 0 v sat' q w' := by
  subst hi
  exact ⟨hm, fun h => hs _ (k.adv h), fun h => hs _ (k.rev h), fun i hi => hs _ (k.load i (by have := hbits i hi; omega) hi), hp, fun i hi => absurd hi (by omega), k.row⟩

theorem LB.next {w2 : World} {wt : Nat → Nat} {n c pb po bm f h x S b m M j : Nat} {v : Value} {sat : List Ent} {q : List Nat} {w w' : World} (k : LB w2 wt n c pb po bm f h x S b m M j v sat q w)
    (hm : MidO w2 wt n c pb po bm f h x S b m M (((x, (S ^^^ 2 ^ (q.getD j 0)) ||| 2 ^ x, b), m) :: sat) v q w') : LB w2 wt n c pb po bm f h x S b m M (j + 1) v (((x, (S ^^^ 2 ^ (q.getD j 0)) ||| 2 ^ x, b), m) :: sat) q w' := by
  refine ⟨hm, fun h => List.mem_cons_of_mem _ (k.adv h), fun h => List.mem_cons_of_mem _ (k.rev h), fun i hi => List.mem_cons_of_mem _ (k.load i hi), fun h => List.mem_cons_of_mem _ (k.put h), fun i hi => ?_, k.row⟩
  by_cases e : i = j
  · subst e; simp
  · exact List.mem_cons_of_mem _ (k.repl i (by omega))

theorem LB.bit {w2 : World} {wt : Nat → Nat} {n c pb po bm f h x S b m M j : Nat} {v : Value} {sat : List Ent} {q : List Nat} {w : World} (k : LB w2 wt n c pb po bm f h x S b m M j v sat q w) (hj : j < q.length) : S.testBit (q.getD j 0) = true := by
  have hm : q.getD j 0 ∈ q := by
    rw [show q.getD j 0 = q[j] by simp [List.getD_eq_getElem?_getD, hj]]
    exact List.getElem_mem hj
  have h2 := k.row
  rw [h2] at hm
  have h3 := (List.mem_filter.1 hm).2
  rw [← h2] at h3
  exact h3

theorem LB.cell {w2 : World} {wt : Nat → Nat} {n c pb po bm f h x S b m M j : Nat} {v : Value} {sat : List Ent} {q : List Nat} {w : World} (k : LB w2 wt n c pb po bm f h x S b m M j v sat q w) (hj : j < q.length) :
    ∃ r cap, v = .slice (some ⟨r, 0, none⟩) q.length cap ∧ w.cell? ⟨r, j, none⟩ = some (.int .i64 ((q.getD j 0 : Nat) : Int)) := by
  obtain ⟨r, cap, rfl, -⟩ := ownsRow_shape k.mid.2 (by omega)
  refine ⟨r, cap, rfl, ?_⟩
  rw [k.mid.2.cellAt j (by simpa using hj)]
  simp [nats, List.getD_eq_getElem?_getD, hj]

theorem MidO.drew {w2 : World} {wt : Nat → Nat} {n c pb po bm f h x S b m M : Nat} {sat : List Ent} {v : Value} {q : List Nat} {w : World} (k : MidO w2 wt n c pb po bm f h x S b m M sat v q w) : MidO w2 wt n c pb po bm f h x S b m M sat v q w.drew := k.drewN 1

theorem repl_facts {S i x mv : Nat} (hS : S < 256) (hi : i < 8) (hx : x < 8) (hmv : mv = 2 ^ x) (hb : S.testBit i = true) : ∃ bv T U : Nat, bv < 256 ∧ T < 256 ∧ U < 256 ∧ wrap64 ((2 : Int) ^ i) = (bv : Int) ∧ Go.bits .andNot .i64 (S : Int) (bv : Int) = (T : Int) ∧
    Go.bits .or .i64 (T : Int) (mv : Int) = (U : Int) ∧ U = (S ^^^ 2 ^ i) ||| 2 ^ x := by
  subst hmv
  have h1 := two_pow_lt hi
  have h2 := two_pow_lt hx
  have hT := clr8 hS hi
  exact ⟨2 ^ i, S ^^^ 2 ^ i, (S ^^^ 2 ^ i) ||| 2 ^ x, h1, hT, put8 hT hx, pow_wrap hi, i64_andNot S i (by omega) (by omega) hb, i64_or (S ^^^ 2 ^ i) (2 ^ x) (by omega) (by omega), rfl⟩

end Go.Proofs.Ytnnmidfkgjmfmaa.Ck
