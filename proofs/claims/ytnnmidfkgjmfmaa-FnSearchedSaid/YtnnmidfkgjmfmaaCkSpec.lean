/- Plain: the reference's search (a list of costs, a queue of places) finds the least cost of all ways (CkGraph). No program here. -/
import Derived.Test.YtnnmidfkgjmfmaaCkOpt
namespace Go.Proofs.Ytnnmidfkgjmfmaa.Ck
set_option linter.unusedVariables false
set_option linter.unusedSimpArgs false

def key (v : V) : Nat := (v.2.2 * 8 + v.1) * 256 + v.2.1

theorem key_inj {v u : V} (hv : v ∈ dom) (hu : u ∈ dom) (h : key v = key u) : v = u := by
  obtain ⟨x, S, b⟩ := v
  obtain ⟨x', S', b'⟩ := u
  rw [mem_dom] at hv hu
  simp only [key] at h
  have h1 : S = S' := by omega
  have h2 : x = x' := by omega
  have h3 : b = b' := by omega
  rw [h1, h2, h3]

theorem key_lt {v : V} (hv : v ∈ dom) : key v < 16384 := by
  obtain ⟨x, S, b⟩ := v
  rw [mem_dom] at hv
  simp only [key]
  omega

/-- What the list of costs says. -/
def bestOf (B : List Int) : Best := fun v => if v.1 < 8 ∧ v.2.1 < 256 ∧ v.2.2 < 8 then (if B.getD (key v) (-1) < 0 then none else some (B.getD (key v) (-1)).toNat) else none

theorem bestOf_some {B : List Int} {v : V} {n : Nat} (h : bestOf B v = some n) : v ∈ dom ∧ B.getD (key v) (-1) = (n : Int) := by
  obtain ⟨x, S, b⟩ := v
  unfold bestOf at h
  split at h
  · rename_i hd
    split at h
    · cases h
    · rename_i hlt
      refine ⟨mem_dom.2 hd, ?_⟩
      have := Option.some.inj h
      omega
  · cases h

theorem bestOf_mk {B : List Int} {v : V} {n : Nat} (hv : v ∈ dom) (h : B.getD (key v) (-1) = (n : Int)) : bestOf B v = some n := by
  obtain ⟨x, S, b⟩ := v
  unfold bestOf
  rw [if_pos (mem_dom.1 hv), if_neg (by rw [h]; omega), h]
  simp

/-- One entry is noted. -/
def relax (s : List Int × List Nat) (e : V × Nat) : List Int × List Nat :=
  if s.1.getD (key e.1) (-1) < 0 ∨ (e.2 : Int) < s.1.getD (key e.1) (-1) then (s.1.set (key e.1) (e.2 : Int), s.2 ++ [key e.1]) else s

theorem getD_set {B : List Int} {k j : Nat} {z : Int} (hk : k < B.length) : (B.set k z).getD j (-1) = if j = k then z else B.getD j (-1) := by
  simp only [List.getD_eq_getElem?_getD, List.getElem?_set]
  by_cases e : k = j
  · subst e; simp [hk]
  · simp [e, Ne.symm e]

theorem bestOf_set {B : List Int} {v : V} {n : Nat} (hB : B.length = 16384) (hv : v ∈ dom) : bestOf (B.set (key v) (n : Int)) = upd (bestOf B) v n := by
  funext u
  by_cases e : u = v
  · subst e
    rw [upd_same]
    exact bestOf_mk hv (by rw [getD_set (by rw [hB]; exact key_lt hv)]; simp)
  · rw [upd_other e]
    by_cases hu : u ∈ dom
    · have : key u ≠ key v := fun h => e (key_inj hu hv h)
      unfold bestOf
      rw [getD_set (by rw [hB]; exact key_lt hv), if_neg this]
    · have : ¬ (u.1 < 8 ∧ u.2.1 < 256 ∧ u.2.2 < 8) := fun h => hu (by obtain ⟨x, S, b⟩ := u; exact mem_dom.2 h)
      unfold bestOf
      rw [if_neg this, if_neg this]

theorem gain_iff {B : List Int} {v : V} {n : Nat} (hv : v ∈ dom) : (B.getD (key v) (-1) < 0 ∨ (n : Int) < B.getD (key v) (-1)) ↔ Gain (bestOf B) v n := by
  constructor
  · intro h m hm
    have := (bestOf_some hm).2
    omega
  · intro h
    by_cases h0 : B.getD (key v) (-1) < 0
    · exact .inl h0
    · refine .inr ?_
      have := h (B.getD (key v) (-1)).toNat (bestOf_mk hv (by omega))
      omega

theorem relax_gain {s : List Int × List Nat} {v : V} {n : Nat} (hv : v ∈ dom) (h : Gain (bestOf s.1) v n) : relax s (v, n) = (s.1.set (key v) (n : Int), s.2 ++ [key v]) := by
  unfold relax
  rw [if_pos ((gain_iff hv).2 h)]

theorem relax_idle {s : List Int × List Nat} {v : V} {n : Nat} (hv : v ∈ dom) (h : ¬ Gain (bestOf s.1) v n) : relax s (v, n) = s := by
  unfold relax
  rw [if_neg (fun h' => h ((gain_iff hv).1 h'))]

theorem not_gain {best : Best} {v : V} {n : Nat} (h : ¬ Gain best v n) : ∃ m, best v = some m ∧ m ≤ n := by
  cases hb : best v with
  | none => exact absurd (fun m hm => by rw [hb] at hm; cases hm) h
  | some m => exact ⟨m, rfl, Nat.le_of_not_lt fun hlt => h fun m' hm' => by rw [hb] at hm'; cases hm'; exact hlt⟩

section
variable {wt : Nat → Nat} {n c : Nat}

/-- How the search stands: B, q; the first i of q are done. -/
structure SInv (wt : Nat → Nat) (n c : Nat) (B : List Int) (q : List Nat) : Prop where
  len : B.length = 16384
  from_ : ∀ k, (-1 : Int) ≤ B.getD k (-1)
  queue : ∀ k ∈ q, ∃ v m, bestOf B v = some m ∧ key v = k
  snd : Snd wt c (0, 0, n) (bestOf B)
  bnd : Bnd 7000 (bestOf B)
  zero : ∃ m, bestOf B (0, 0, n) = some m ∧ m ≤ 0
  few : q.length + pot (7000 * 16384) (bestOf B) ≤ 2000000000000

def Open (wt : Nat → Nat) (c : Nat) (B : List Int) (q : List Nat) (i : Nat) (v : V) (m : Nat) : Prop := key v ∈ q.drop i ∨ Cl wt c (bestOf B) v m

/-- While the states near v are gone over. -/
structure During (wt : Nat → Nat) (n c : Nat) (i : Nat) (v : V) (m M : Nat) (B : List Int) (q : List Nat) : Prop extends SInv wt n c B q where
  here : bestOf B v = some m
  hi : i < q.length
  others : ∀ u k, bestOf B u = some k → u = v ∨ Open wt c B q (i + 1) u k
  most : pot (7000 * 16384) (bestOf B) + q.length ≤ M

theorem Bnd.upd' {best : Best} (h : Bnd 7000 best) {v u : V} {k m : Nat} (hu : best u = some m) (hk : k ≤ m + 7000) (hv : v ∈ Ck.dom) (hg : Gain best v k) : Bnd 7000 (Ck.upd best v k) :=
  h.upd hu (Nat.le_refl _) hk hv hg

theorem During.relax {i : Nat} {v : V} {m M : Nat} {B : List Int} {q : List Nat} (hn : n ≤ 7) (h : During wt n c i v m M B q) {u : V} {k : Nat} (hp : Path wt c (0, 0, n) u k) (hk : m ≤ k) (hk' : k ≤ m + 7000) :
    During wt n c i v m M (Ck.relax (B, q) (u, k)).1 (Ck.relax (B, q) (u, k)).2 ∧ Le (bestOf B) (bestOf (Ck.relax (B, q) (u, k)).1) ∧ ∃ k', bestOf (Ck.relax (B, q) (u, k)).1 u = some k' ∧ k' ≤ k := by
  have hd : u ∈ dom := by
    obtain ⟨x, S, b⟩ := u
    exact mem_dom.2 (((ok_start n c).path hn hp).lt hn)
  by_cases hg : Gain (bestOf B) u k
  · rw [relax_gain (s := (B, q)) hd hg]
    simp only
    have hset := bestOf_set (n := k) h.len hd
    have hle : Le (bestOf B) (upd (bestOf B) u k) := Le.upd hg
    have huv : u ≠ v := fun e => by subst e; have := hg m h.here; omega
    have hbnd := h.bnd.upd' h.here hk' hd hg
    have hpot := pot_upd hd hg (by have := hbnd.le (upd_same (bestOf B) u k); exact this)
    refine ⟨⟨⟨by simp [h.len], fun j => ?_, fun j hj => ?_, ?_, ?_, ?_, ?_⟩, ?_, ?_, ?_, ?_⟩, ?_, ?_⟩
    · rw [getD_set (by rw [h.len]; exact key_lt hd)]
      have := h.from_ j
      split <;> omega
    · rw [hset]
      rcases List.mem_append.1 hj with hj | hj
      · obtain ⟨v', m', hv', hk'⟩ := h.queue j hj
        obtain ⟨m'', hm'', _⟩ := hle v' m' hv'
        exact ⟨v', m'', hm'', hk'⟩
      · simp only [List.mem_singleton] at hj
        exact ⟨u, k, upd_same _ _ _, hj.symm⟩
    · rw [hset]; exact h.snd.upd hp
    · rw [hset]; exact hbnd
    · rw [hset]
      obtain ⟨z, hz, hz0⟩ := h.zero
      obtain ⟨z', hz', hle'⟩ := hle _ z hz
      exact ⟨z', hz', by omega⟩
    · rw [hset]
      have := h.few
      simp only [List.length_append, List.length_singleton]
      omega
    · rw [hset, upd_other (Ne.symm huv)]; exact h.here
    · have := h.hi
      simp only [List.length_append, List.length_singleton]; omega
    · intro u' k' hu'
      rw [hset] at hu'
      by_cases e : u' = u
      · subst e
        refine .inr (.inl ?_)
        rw [List.drop_append_of_le_length (by have := h.hi; omega)]
        simp
      · rw [upd_other e] at hu'
        rcases h.others u' k' hu' with e' | ho | ho
        · exact .inl e'
        · refine .inr (.inl ?_)
          rw [List.drop_append_of_le_length (by have := h.hi; omega)]
          exact List.mem_append.2 (.inl ho)
        · refine .inr (.inr ?_)
          rw [hset]; exact ho.mono hle
    · rw [hset]
      have := h.most
      simp only [List.length_append, List.length_singleton]
      omega
    · rw [hset]; exact hle
    · rw [hset]; exact ⟨k, upd_same _ _ _, Nat.le_refl _⟩
  · rw [relax_idle (s := (B, q)) hd hg]
    exact ⟨h, Le.refl _, not_gain hg⟩

/-- All candidates, one behind the other. -/
theorem During.all {i : Nat} {v : V} {m M : Nat} (hn : n ≤ 7) : ∀ (es : List (V × Nat)) {B : List Int} {q : List Nat}, During wt n c i v m M B q → (∀ e ∈ es, Path wt c (0, 0, n) e.1 e.2 ∧ m ≤ e.2 ∧ e.2 ≤ m + 7000) →
    During wt n c i v m M (es.foldl Ck.relax (B, q)).1 (es.foldl Ck.relax (B, q)).2 ∧ Le (bestOf B) (bestOf (es.foldl Ck.relax (B, q)).1) ∧ ∀ e ∈ es, ∃ k', bestOf (es.foldl Ck.relax (B, q)).1 e.1 = some k' ∧ k' ≤ e.2
  | [], B, q, h, _ => ⟨h, Le.refl _, fun e he => by cases he⟩
  | e :: es, B, q, h, hes => by
    obtain ⟨h1, h2, h3⟩ := hes e (by simp)
    obtain ⟨d1, l1, k', hk', hle'⟩ := h.relax hn h1 h2 h3
    obtain ⟨d2, l2, ha⟩ := During.all hn es d1 (fun e' he' => hes e' (by simp [he']))
    rw [List.foldl_cons]
    refine ⟨d2, l1.trans l2, fun e' he' => ?_⟩
    rcases List.mem_cons.1 he' with rfl | he'
    · obtain ⟨k'', hk'', hle''⟩ := l2 _ _ hk'
      exact ⟨k'', hk'', by omega⟩
    · exact ha e' he'

/-! ### the candidates of the reference -/
def advs (wt : Nat → Nat) (S b : Nat) : Nat → Nat → Nat → List (V × Nat)
  | 0, _, _ => []
  | f + 1, x, k => ((x + 1, S, b), k + wt x) :: advs wt S b f (x + 1) (k + wt x)

def loadsAt (v : V) (k i : Nat) : List (V × Nat) := if v.2.1.testBit i = true then [((i, v.2.1, v.2.2), k), ((v.1, (v.2.1 ^^^ 2 ^ i) ||| 2 ^ v.1, v.2.2), k)] else []

def cands (wt : Nat → Nat) (c : Nat) (v : V) (k : Nat) : List (V × Nat) :=
  advs wt v.2.1 v.2.2 (v.2.2 - 1 - v.1) v.1 k ++ ((if v.1 + 1 = v.2.2 then [((v.1, v.2.1, v.1), k)] else []) ++
    ((List.range 8).flatMap (loadsAt v k) ++ (if pc (v.2.1 ||| 2 ^ v.1) ≤ c then [((v.1, v.2.1 ||| 2 ^ v.1, v.2.2), k)] else [])))

theorem advs_ok {s : V} {S b m : Nat} (hw : ∀ x, wt x ≤ 1000) : ∀ (f x k d : Nat), Path wt c s (x, S, b) k → x + f < b ∨ f = 0 → m ≤ k → k ≤ m + d * 1000 → ∀ e ∈ advs wt S b f x k, Path wt c s e.1 e.2 ∧ m ≤ e.2 ∧ e.2 ≤ m + (d + f) * 1000
  | 0, _, _, _, _, _, _, _, e, he => by cases he
  | f + 1, x, k, d, hp, hx, h1, h2, e, he => by
    have hp' : Path wt c s (x + 1, S, b) (k + wt x) := hp.step (.adv (by omega))
    have hwx := hw x
    rcases List.mem_cons.1 he with rfl | he
    · refine ⟨hp', by simp only; omega, by simp only; omega⟩
    · obtain ⟨h3, h4, h5⟩ := advs_ok (m := m) hw f (x + 1) (k + wt x) (d + 1) hp' (by omega) (by omega) (by omega) e he
      rw [show d + 1 + f = d + (f + 1) by omega] at h5
      exact ⟨h3, h4, h5⟩

theorem put_same {S x : Nat} (h : S.testBit x = true) : S ||| 2 ^ x = S := by
  refine Nat.eq_of_testBit_eq fun j => ?_
  rw [bit_put]
  by_cases e : x = j
  · subst e; simp [h]
  · simp [e]

theorem cands_ok {v : V} {k : Nat} (hn : n ≤ 7) (hw : ∀ x, wt x ≤ 1000) (hp : Path wt c (0, 0, n) v k) : ∀ e ∈ cands wt c v k, Path wt c (0, 0, n) e.1 e.2 ∧ k ≤ e.2 ∧ e.2 ≤ k + 7000 := by
  obtain ⟨x, S, b⟩ := v
  have hok := (ok_start n c).path hn hp
  have hl := hok.lt hn
  have hb := hok.left
  simp only at hl hb
  intro e he
  simp only [cands, List.mem_append] at he
  rcases he with he | he | he | he
  · obtain ⟨h1, h2, h3⟩ := advs_ok (m := k) hw (b - 1 - x) x k 0 hp (by omega) (Nat.le_refl _) (by omega) e he
    exact ⟨h1, h2, by omega⟩
  · split at he
    · rename_i hx
      simp only [List.mem_singleton] at he
      subst he
      refine ⟨?_, Nat.le_refl _, by simp only; omega⟩
      have := hp.step (.rev hx)
      rw [show b - 1 = x by omega] at this
      simpa using this
    · cases he
  · simp only [List.mem_flatMap, List.mem_range] at he
    obtain ⟨i, _, he⟩ := he
    unfold loadsAt at he
    split at he
    · rename_i hi
      simp only [List.mem_cons, List.not_mem_nil, or_false] at he
      rcases he with rfl | rfl
      · exact ⟨by simpa using hp.step (.load hi), Nat.le_refl _, by simp only; omega⟩
      · exact ⟨by simpa using hp.step (.repl hi), Nat.le_refl _, by simp only; omega⟩
    · cases he
  · split at he
    · rename_i hpc
      simp only [List.mem_singleton] at he
      subst he
      refine ⟨?_, Nat.le_refl _, by simp only; omega⟩
      simp only
      by_cases hx : S.testBit x = true
      · rw [put_same hx]; exact hp
      · have hx' : S.testBit x = false := by simpa using hx
        rw [pc_put hl.1 hx'] at hpc
        simpa using hp.step (.put hx' (by omega))
    · cases he

theorem cands_cl {v : V} {k : Nat} {best : Best} (hS : v.2.1 < 256) (hx : v.1 < 8) (h : ∀ e ∈ cands wt c v k, ∃ k', best e.1 = some k' ∧ k' ≤ e.2) : Cl wt c best v k := by
  intro u d he
  cases he with
  | @adv x S b hlt =>
    refine h ((x + 1, S, b), k + wt x) ?_
    simp only [cands, List.mem_append]
    refine .inl ?_
    obtain ⟨f, hf⟩ : ∃ f, b - 1 - x = f + 1 := ⟨b - 1 - x - 1, by omega⟩
    rw [hf, advs]
    simp
  | @rev x S b hlt =>
    have := h ((x, S, x), k) (by simp only [cands, List.mem_append]; exact .inr (.inl (by simp [hlt])))
    rw [show b - 1 = x by omega]
    simpa using this
  | @load x S b i hi =>
    have := h ((i, S, b), k) (by
      simp only [cands, List.mem_append, List.mem_flatMap, List.mem_range]
      exact .inr (.inr (.inl ⟨i, bit_lt (n := 8) hS hi, by simp [loadsAt, hi]⟩)))
    simpa using this
  | @put x S b hi hlt =>
    have := h ((x, S ||| 2 ^ x, b), k) (by
      simp only [cands, List.mem_append]
      refine .inr (.inr (.inr ?_))
      rw [pc_put hx hi, if_pos (by omega)]
      simp)
    simpa using this
  | @repl x S b i hi =>
    have := h ((x, (S ^^^ 2 ^ i) ||| 2 ^ x, b), k) (by
      simp only [cands, List.mem_append, List.mem_flatMap, List.mem_range]
      exact .inr (.inr (.inl ⟨i, bit_lt (n := 8) hS hi, by simp [loadsAt, hi]⟩)))
    simpa using this

/-- One round of the search. -/
def round (wt : Nat → Nat) (c : Nat) (v : V) (s : List Int × List Nat) : List Int × List Nat := (cands wt c v (s.1.getD (key v) (-1)).toNat).foldl Ck.relax s

def AllOpen (wt : Nat → Nat) (c : Nat) (B : List Int) (q : List Nat) (i : Nat) : Prop := ∀ u k, bestOf B u = some k → Open wt c B q i u k

theorem SInv.round {B : List Int} {q : List Nat} {i : Nat} (h : SInv wt n c B q) (hn : n ≤ 7) (hw : ∀ x, wt x ≤ 1000) (ho : AllOpen wt c B q i) (hi : i < q.length) :
    ∃ v, key v = q[i] ∧ v ∈ dom ∧ Ok n c v ∧ 0 ≤ B.getD (key v) (-1) ∧ SInv wt n c (Ck.round wt c v (B, q)).1 (Ck.round wt c v (B, q)).2 ∧ AllOpen wt c (Ck.round wt c v (B, q)).1 (Ck.round wt c v (B, q)).2 (i + 1) ∧
      pot (7000 * 16384) (bestOf (Ck.round wt c v (B, q)).1) + (Ck.round wt c v (B, q)).2.length ≤ pot (7000 * 16384) (bestOf B) + q.length ∧ i < (Ck.round wt c v (B, q)).2.length := by
  obtain ⟨v, m, hv, hk⟩ := h.queue q[i] (List.getElem_mem hi)
  obtain ⟨hd, hm⟩ := bestOf_some hv
  have hp := h.snd v m hv
  have hok := (ok_start n c).path hn hp
  have hl := hok.lt hn
  have hD : During wt n c i v m (pot (7000 * 16384) (bestOf B) + q.length) B q := ⟨h, hv, hi, fun u k hu => by
    by_cases e : u = v
    · exact .inl e
    · refine .inr ?_
      rcases ho u k hu with hq | hq
      · refine .inl ?_
        rw [List.drop_eq_getElem_cons hi] at hq
        rcases List.mem_cons.1 hq with hq | hq
        · exact absurd (key_inj (bestOf_some hu).1 hd (by rw [hq, hk])) e
        · exact hq
      · exact .inr hq, Nat.le_refl _⟩
  obtain ⟨d, le, hall⟩ := During.all hn (cands wt c v m) hD (cands_ok hn hw hp)
  have hr : Ck.round wt c v (B, q) = (cands wt c v m).foldl Ck.relax (B, q) := by
    unfold Ck.round
    simp only [hm, Int.toNat_natCast]
  refine ⟨v, hk, hd, hok, by rw [hm]; omega, ?_⟩
  rw [hr]
  refine ⟨d.toSInv, fun u k hu => ?_, d.most, d.hi⟩
  rcases d.others u k hu with e | ho'
  · subst e
    refine .inr ?_
    rw [d.here] at hu
    obtain rfl := Option.some.inj hu
    exact cands_cl hl.2.1 hl.1 hall
  · exact ho'

/-! ### the start -/
def B0 : List Int := List.replicate 16384 (-1)

theorem bestOf_B0 (v : V) : bestOf B0 v = none := by
  unfold bestOf B0
  split
  · rename_i h
    have hk : key v < 16384 := key_lt (by obtain ⟨x, S, b⟩ := v; exact mem_dom.2 h)
    rw [if_pos]
    simp only [List.getD_eq_getElem?_getD, List.getElem?_replicate, hk, if_true]
    decide
  · rfl

theorem start (hn : n ≤ 7) : SInv wt n c (Ck.relax (B0, []) ((0, 0, n), 0)).1 (Ck.relax (B0, []) ((0, 0, n), 0)).2 ∧ AllOpen wt c (Ck.relax (B0, []) ((0, 0, n), 0)).1 (Ck.relax (B0, []) ((0, 0, n), 0)).2 0 := by
  have hd : ((0, 0, n) : V) ∈ dom := mem_dom.2 ⟨by omega, by omega, by omega⟩
  have hg : Gain (bestOf B0) (0, 0, n) 0 := fun m hm => by rw [bestOf_B0] at hm; cases hm
  have hlen : B0.length = 16384 := List.length_replicate
  rw [relax_gain (s := (B0, [])) hd hg]
  simp only [List.nil_append]
  have hset := bestOf_set (B := B0) (n := 0) hlen hd
  have hone : ∀ u k, upd (bestOf B0) (0, 0, n) 0 u = some k → u = (0, 0, n) ∧ k = 0 := fun u k hu => by
    by_cases e : u = (0, 0, n)
    · subst e
      rw [upd_same] at hu
      exact ⟨rfl, (Option.some.inj hu).symm⟩
    · rw [upd_other e, bestOf_B0] at hu; cases hu
  have hbnd : Bnd 7000 (upd (bestOf B0) (0, 0, n) 0) := ⟨fun u k hu => by obtain ⟨rfl, rfl⟩ := hone u k hu; exact hd, fun u k hu => by obtain ⟨rfl, rfl⟩ := hone u k hu; exact Nat.zero_le _⟩
  refine ⟨⟨by simp [hlen], fun j => ?_, fun k hk => ?_, ?_, ?_, ?_, ?_⟩, fun u k hu => ?_⟩
  · rw [getD_set (by rw [hlen]; exact key_lt hd)]
    split
    · decide
    · unfold B0
      simp only [List.getD_eq_getElem?_getD, List.getElem?_replicate]
      split <;> decide
  · rw [hset]
    simp only [List.mem_singleton] at hk
    exact ⟨_, 0, upd_same _ _ _, hk.symm⟩
  · rw [hset]
    intro u k hu
    obtain ⟨rfl, rfl⟩ := hone u k hu
    exact .refl
  · rw [hset]; exact hbnd
  · rw [hset]; exact ⟨0, upd_same _ _ _, Nat.le_refl _⟩
  · rw [hset]
    have := pot_le hbnd
    simp only [List.length_singleton]
    omega
  · rw [hset] at hu
    obtain ⟨rfl, rfl⟩ := hone u k hu
    exact .inl (by simp)

/-! ### the end -/
def minAt (B : List Int) (m : Int) (k : Nat) : Int := if 0 ≤ B.getD k (-1) ∧ (m < 0 ∨ B.getD k (-1) < m) then B.getD k (-1) else m

def minTo (B : List Int) (k : Nat) : Int := (List.range k).foldl (minAt B) (-1)

theorem minTo_succ (B : List Int) (k : Nat) : minTo B (k + 1) = minAt B (minTo B k) k := by
  unfold minTo
  rw [List.range_succ, List.foldl_append]
  rfl

theorem minTo_spec (B : List Int) (hB : ∀ k, (-1 : Int) ≤ B.getD k (-1)) : ∀ k, (minTo B k = -1 ∧ ∀ j, j < k → B.getD j (-1) < 0) ∨ (0 ≤ minTo B k ∧ (∃ j, j < k ∧ B.getD j (-1) = minTo B k) ∧ ∀ j, j < k → 0 ≤ B.getD j (-1) → minTo B k ≤ B.getD j (-1))
  | 0 => .inl ⟨rfl, fun j hj => by omega⟩
  | k + 1 => by
    rw [minTo_succ]
    unfold minAt
    have hk := hB k
    rcases minTo_spec B hB k with ⟨h1, h2⟩ | ⟨h1, ⟨j, hj, hj'⟩, h2⟩
    · rw [h1]
      by_cases h0 : 0 ≤ B.getD k (-1)
      · rw [if_pos ⟨h0, .inl (by decide)⟩]
        refine .inr ⟨h0, ⟨k, by omega, rfl⟩, fun j hj hj' => ?_⟩
        by_cases e : j = k
        · subst e; exact Int.le_refl _
        · have := h2 j (by omega); omega
      · rw [if_neg (fun h => h0 h.1)]
        refine .inl ⟨rfl, fun j hj => ?_⟩
        by_cases e : j = k
        · subst e; omega
        · exact h2 j (by omega)
    · by_cases h0 : 0 ≤ B.getD k (-1) ∧ (minTo B k < 0 ∨ B.getD k (-1) < minTo B k)
      · rw [if_pos h0]
        refine .inr ⟨h0.1, ⟨k, by omega, rfl⟩, fun i hi hi' => ?_⟩
        by_cases e : i = k
        · subst e; exact Int.le_refl _
        · have := h2 i (by omega) hi'; omega
      · rw [if_neg h0]
        refine .inr ⟨h1, ⟨j, by omega, hj'⟩, fun i hi hi' => ?_⟩
        by_cases e : i = k
        · subst e; omega
        · exact h2 i (by omega) hi'

def resOf (z : Int) : Option Nat := if z < 0 then none else some z.toNat

theorem final {B : List Int} {q : List Nat} {i K : Nat} (hK : K = 2048) (h : SInv wt n c B q) (hn : n ≤ 7) (ho : AllOpen wt c B q i) (hi : q.length ≤ i) : IsLeast wt c (0, 0, n) (resOf (minTo B K)) := by
  have hcl : ∀ v m, bestOf B v = some m → Cl wt c (bestOf B) v m := fun v m hv => by
    rcases ho v m hv with hq | hq
    · rw [List.drop_eq_nil_of_le hi] at hq; cases hq
    · exact hq
  have hfound : ∀ (v : V) (m : Nat), v.2.2 = 0 → Path wt c (0, 0, n) v m → ∃ j m', j < K ∧ B.getD j (-1) = ((m' : Nat) : Int) ∧ m' ≤ m := by
    intro v m hv hp
    obtain ⟨m', hm', hle⟩ := path_best (L := m + 1) h.zero (fun u k hu _ => hcl u k hu) hp (by omega)
    obtain ⟨hd, hB⟩ := bestOf_some hm'
    refine ⟨key v, m', ?_, hB, hle⟩
    obtain ⟨x, S, b⟩ := v
    rw [mem_dom] at hd
    simp only at hv
    simp only [key]
    omega
  rcases minTo_spec B h.from_ K with ⟨h1, h2⟩ | ⟨h1, ⟨j, hj, hj'⟩, h2⟩
  · unfold resOf
    rw [h1, if_pos (by decide)]
    intro v m hv hp
    obtain ⟨j, m', hj, hB, _⟩ := hfound v m hv hp
    have := h2 j hj
    omega
  · unfold resOf
    rw [if_neg (by omega)]
    refine ⟨⟨(j / 256, j % 256, 0), rfl, ?_⟩, fun v m hv hp => ?_⟩
    · refine h.snd _ _ (bestOf_mk (mem_dom.2 ⟨by omega, by omega, by omega⟩) ?_)
      rw [show key (j / 256, j % 256, 0) = j by simp only [key]; omega, hj']
      omega
    · obtain ⟨j', m', hj', hB, hle⟩ := hfound v m hv hp
      have := h2 j' hj' (by omega)
      omega

end
end Go.Proofs.Ytnnmidfkgjmfmaa.Ck
