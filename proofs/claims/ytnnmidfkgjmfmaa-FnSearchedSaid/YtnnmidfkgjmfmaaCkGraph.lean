/- Plain: the states of a chain that is reversed, the steps between them with their costs, what it means to be the least cost, and the bookkeeping of a search that relaxes. No program here. -/
namespace Go.Proofs.Ytnnmidfkgjmfmaa.Ck
set_option linter.unusedVariables false
set_option linter.unusedSimpArgs false

/-- A state: the current state, the set of the held states (bits), the steps that are left. -/
abbrev V := Nat × Nat × Nat

/-- How many bits of the first eight are set. -/
def pc (S : Nat) : Nat := (List.range 8).countP (fun i => S.testBit i)

inductive E (wt : Nat → Nat) (c : Nat) : V → V → Nat → Prop where
  | adv {x S b : Nat} : x + 1 < b → E wt c (x, S, b) (x + 1, S, b) (wt x)
  | rev {x S b : Nat} : x + 1 = b → E wt c (x, S, b) (x, S, b - 1) 0
  | load {x S b i : Nat} : S.testBit i = true → E wt c (x, S, b) (i, S, b) 0
  | put {x S b : Nat} : S.testBit x = false → pc S < c → E wt c (x, S, b) (x, S ||| 2 ^ x, b) 0
  | repl {x S b i : Nat} : S.testBit i = true → E wt c (x, S, b) (x, (S ^^^ 2 ^ i) ||| 2 ^ x, b) 0

inductive Path (wt : Nat → Nat) (c : Nat) (s : V) : V → Nat → Prop where
  | refl : Path wt c s s 0
  | step {u v : V} {n d : Nat} : Path wt c s u n → E wt c u v d → Path wt c s v (n + d)

section
variable {wt : Nat → Nat} {c : Nat} {s : V}

/-- What the least cost of reaching a state without steps left is: none where there is no way. -/
def IsLeast (wt : Nat → Nat) (c : Nat) (s : V) : Option Nat → Prop
  | some n => (∃ v : V, v.2.2 = 0 ∧ Path wt c s v n) ∧ ∀ (v : V) (m : Nat), v.2.2 = 0 → Path wt c s v m → n ≤ m
  | none => ∀ (v : V) (m : Nat), v.2.2 = 0 → ¬ Path wt c s v m

theorem IsLeast.unique {r r' : Option Nat} (h : IsLeast wt c s r) (h' : IsLeast wt c s r') : r = r' := by
  cases r with
  | none =>
    cases r' with
    | none => rfl
    | some m => obtain ⟨⟨v, hv, hp⟩, _⟩ := h'; exact absurd hp (h v m hv)
  | some n =>
    obtain ⟨⟨v, hv, hp⟩, hm⟩ := h
    cases r' with
    | none => exact absurd hp (h' v n hv)
    | some m =>
      obtain ⟨⟨v', hv', hp'⟩, hm'⟩ := h'
      have h1 := hm v' m hv' hp'
      have h2 := hm' v n hv hp
      rw [show n = m by omega]

/-! ### relaxing -/
abbrev Best := V → Option Nat

/-- All states near v are known, and none costs more than it would by way of v. -/
def Cl (wt : Nat → Nat) (c : Nat) (best : Best) (v : V) (n : Nat) : Prop :=
  ∀ (u : V) (d : Nat), E wt c v u d → ∃ m, best u = some m ∧ m ≤ n + d

def Snd (wt : Nat → Nat) (c : Nat) (s : V) (best : Best) : Prop := ∀ v n, best v = some n → Path wt c s v n

theorem path_best {best : Best} {L : Nat} (h0 : ∃ n, best s = some n ∧ n ≤ 0) (hcl : ∀ v n, best v = some n → n < L → Cl wt c best v n) {v : V} {n : Nat} (hp : Path wt c s v n) (hn : n < L) :
    ∃ m, best v = some m ∧ m ≤ n := by
  induction hp with
  | refl => exact h0
  | step h e ih =>
    obtain ⟨m, hm, hle⟩ := ih (by omega)
    obtain ⟨m', hm', hle'⟩ := hcl _ m hm (by omega) _ _ e
    exact ⟨m', hm', by omega⟩

/-- An entry is set to a smaller cost. -/
def upd (best : Best) (v : V) (n : Nat) : Best := fun u => if u = v then some n else best u

theorem upd_same (best : Best) (v : V) (n : Nat) : upd best v n v = some n := by simp [upd]
theorem upd_other {best : Best} {v u : V} {n : Nat} (h : u ≠ v) : upd best v n u = best u := by simp [upd, h]

/-- best' knows all that best knows, at no greater cost. -/
def Le (best best' : Best) : Prop := ∀ v n, best v = some n → ∃ m, best' v = some m ∧ m ≤ n

theorem Le.refl (best : Best) : Le best best := fun _ n h => ⟨n, h, Nat.le_refl _⟩
theorem Le.trans {b1 b2 b3 : Best} (h : Le b1 b2) (h' : Le b2 b3) : Le b1 b3 := fun v n hv => by
  obtain ⟨m, hm, hle⟩ := h v n hv
  obtain ⟨k, hk, hle'⟩ := h' v m hm
  exact ⟨k, hk, by omega⟩

/-- It is a gain to set v to n. -/
def Gain (best : Best) (v : V) (n : Nat) : Prop := ∀ m, best v = some m → n < m

theorem Le.upd {best : Best} {v : V} {n : Nat} (h : Gain best v n) : Le best (upd best v n) := fun u m hu => by
  by_cases e : u = v
  · subst e
    exact ⟨n, upd_same _ _ _, Nat.le_of_lt (h m hu)⟩
  · exact ⟨m, by rw [upd_other e]; exact hu, Nat.le_refl _⟩

theorem Cl.mono {best best' : Best} {v : V} {n : Nat} (h : Cl wt c best v n) (hl : Le best best') : Cl wt c best' v n := fun u d e => by
  obtain ⟨m, hm, hle⟩ := h u d e
  obtain ⟨k, hk, hle'⟩ := hl u m hm
  exact ⟨k, hk, by omega⟩

theorem Snd.upd {best : Best} {v : V} {n : Nat} (h : Snd wt c s best) (hp : Path wt c s v n) : Snd wt c s (upd best v n) := fun u m hu => by
  by_cases e : u = v
  · subst e
    rw [upd_same] at hu
    obtain rfl := Option.some.inj hu
    exact hp
  · rw [upd_other e] at hu
    exact h u m hu

/-! ### the bound on how often it can be a gain -/
def dom : List V := (List.range 8).flatMap fun x => (List.range 256).flatMap fun S => (List.range 8).map fun b => (x, S, b)

theorem mem_dom {x S b : Nat} : (x, S, b) ∈ dom ↔ x < 8 ∧ S < 256 ∧ b < 8 := by
  simp only [dom, List.mem_flatMap, List.mem_range, List.mem_map, Prod.mk.injEq]
  constructor
  · rintro ⟨x', hx, S', hS, b', hb, rfl, rfl, rfl⟩
    exact ⟨hx, hS, hb⟩
  · rintro ⟨hx, hS, hb⟩
    exact ⟨x, hx, S, hS, b, hb, rfl, rfl, rfl⟩

theorem length_flatMap_const {α β : Type} (f : α → List β) (n : Nat) : ∀ l : List α, (∀ a ∈ l, (f a).length = n) → (l.flatMap f).length = l.length * n
  | [], _ => by simp
  | a :: l, h => by
    rw [List.flatMap_cons, List.length_append, h a (by simp), length_flatMap_const f n l (fun b hb => h b (by simp [hb])), List.length_cons, Nat.succ_mul]
    omega

theorem length_dom : dom.length = 16384 := by
  unfold dom
  rw [length_flatMap_const _ 2048]
  · simp
  · intro x _
    rw [length_flatMap_const _ 8]
    · simp
    · intro S _
      simp

def known (best : Best) : Nat := dom.countP (fun v => (best v).isSome)

def gv (M : Nat) : Option Nat → Nat
  | none => M + 1
  | some n => n

def pot (M : Nat) (best : Best) : Nat := (dom.map fun v => gv M (best v)).sum

theorem sum_le_sum {α : Type} (f g : α → Nat) : ∀ l : List α, (∀ a ∈ l, f a ≤ g a) → (l.map f).sum ≤ (l.map g).sum
  | [], _ => by simp
  | a :: l, h => by
    have h1 := h a (by simp)
    have h2 := sum_le_sum f g l (fun b hb => h b (by simp [hb]))
    simp only [List.map_cons, List.sum_cons]
    omega

theorem sum_lt_sum {α : Type} (f g : α → Nat) : ∀ l : List α, (∀ a ∈ l, f a ≤ g a) → (∃ a ∈ l, f a < g a) → (l.map f).sum < (l.map g).sum
  | [], _, h => by obtain ⟨a, ha, _⟩ := h; cases ha
  | a :: l, h, hx => by
    have h1 := h a (by simp)
    have h2 := sum_le_sum f g l (fun b hb => h b (by simp [hb]))
    simp only [List.map_cons, List.sum_cons]
    obtain ⟨b, hb, hlt⟩ := hx
    rcases List.mem_cons.1 hb with rfl | hb
    · omega
    · have := sum_lt_sum f g l (fun b hb => h b (by simp [hb])) ⟨b, hb, hlt⟩
      omega

theorem countP_le_countP {α : Type} (p q : α → Bool) : ∀ l : List α, (∀ a ∈ l, p a = true → q a = true) → l.countP p ≤ l.countP q
  | [], _ => by simp
  | a :: l, h => by
    have h1 := h a (by simp)
    have h2 := countP_le_countP p q l (fun b hb => h b (by simp [hb]))
    rw [List.countP_cons, List.countP_cons]
    cases hp : p a <;> cases hq : q a <;> simp_all <;> omega

theorem countP_lt_countP {α : Type} (p q : α → Bool) : ∀ l : List α, (∀ a ∈ l, p a = true → q a = true) → (∃ a ∈ l, p a = false ∧ q a = true) → l.countP p < l.countP q
  | [], _, h => by obtain ⟨a, ha, _⟩ := h; cases ha
  | a :: l, h, hx => by
    have h1 := h a (by simp)
    have h2 := countP_le_countP p q l (fun b hb => h b (by simp [hb]))
    rw [List.countP_cons, List.countP_cons]
    obtain ⟨b, hb, hpb, hqb⟩ := hx
    rcases List.mem_cons.1 hb with rfl | hb
    · simp [hpb, hqb]; omega
    · have h3 := countP_lt_countP p q l (fun b hb => h b (by simp [hb])) ⟨b, hb, hpb, hqb⟩
      cases hp : p a <;> cases hq : q a <;> simp_all <;> omega

/-- What is known costs at most W for each known state but one. -/
structure Bnd (W : Nat) (best : Best) : Prop where
  dom : ∀ v n, best v = some n → v ∈ Ck.dom
  cost : ∀ v n, best v = some n → n ≤ W * (known best - 1)

theorem known_le (best : Best) : known best ≤ 16384 := by
  unfold known
  have h := List.countP_le_length (p := fun v => (best v).isSome) (l := dom)
  rw [length_dom] at h
  exact h

theorem known_pos {best : Best} {v : V} {n : Nat} (hv : v ∈ dom) (h : best v = some n) : 1 ≤ known best := by
  unfold known
  exact List.countP_pos_iff.2 ⟨v, hv, by simp [h]⟩

theorem Bnd.le {W : Nat} {best : Best} (h : Bnd W best) {v : V} {n : Nat} (hv : best v = some n) : n ≤ W * 16384 := by
  have h1 := h.cost v n hv
  have h2 := known_le best
  exact Nat.le_trans h1 (Nat.mul_le_mul_left _ (by omega))

/-- A gain at v, by way of a known state. -/
theorem Bnd.upd {W : Nat} {best : Best} (h : Bnd W best) {v u : V} {n m d : Nat} (hu : best u = some m) (hd : d ≤ W) (hn : n ≤ m + d) (hv : v ∈ Ck.dom) (hg : Gain best v n) : Bnd W (upd best v n) := by
  have hsub : ∀ x ∈ Ck.dom, (best x).isSome = true → (Ck.upd best v n x).isSome = true := by
    intro x _ hx
    by_cases e : x = v
    · subst e; simp [upd_same]
    · rw [upd_other e]; exact hx
  have hk : known best ≤ known (Ck.upd best v n) := countP_le_countP _ _ _ hsub
  have hmono : W * (known best - 1) ≤ W * (known (Ck.upd best v n) - 1) := Nat.mul_le_mul_left _ (by omega)
  refine ⟨fun x k hx => ?_, fun x k hx => ?_⟩
  · by_cases e : x = v
    · subst e; exact hv
    · rw [upd_other e] at hx; exact h.dom x k hx
  · by_cases e : x = v
    · subst e
      rw [upd_same] at hx
      obtain rfl := Option.some.inj hx
      cases hb : best x with
      | some k =>
        have h1 := h.cost x k hb
        have h2 := hg k hb
        omega
      | none =>
        have hlt : known best < known (Ck.upd best x n) := countP_lt_countP _ _ _ hsub ⟨x, hv, by simp [hb], by simp [upd_same]⟩
        have h1 := h.cost u m hu
        have hp : 1 ≤ known best := known_pos (h.dom u m hu) hu
        have h3 : W * (known best - 1) + W = W * known best := by
          have : known best = (known best - 1) + 1 := by omega
          rw [show W * known best = W * ((known best - 1) + 1) by rw [← this], Nat.mul_succ]
        have h4 : W * known best ≤ W * (known (Ck.upd best x n) - 1) := Nat.mul_le_mul_left _ (by omega)
        omega
    · rw [upd_other e] at hx
      have := h.cost x k hx
      omega

theorem pot_upd {W : Nat} {best : Best} {v : V} {n : Nat} (hv : v ∈ dom) (hg : Gain best v n) (hn : n ≤ W * 16384) : pot (W * 16384) (upd best v n) < pot (W * 16384) best := by
  unfold pot
  have hle : ∀ x, x ≠ v → gv (W * 16384) (upd best v n x) ≤ gv (W * 16384) (best x) := fun x e => by rw [upd_other e]; exact Nat.le_refl _
  have hlt : gv (W * 16384) (upd best v n v) < gv (W * 16384) (best v) := by
    rw [upd_same]
    cases hb : best v with
    | none => simp only [gv]; omega
    | some k => simp only [gv]; exact hg k hb
  refine sum_lt_sum _ _ _ (fun x _ => ?_) ⟨v, hv, hlt⟩
  by_cases e : x = v
  · subst e; exact Nat.le_of_lt hlt
  · exact hle x e

theorem sum_le_mul {α : Type} (f : α → Nat) (k : Nat) : ∀ l : List α, (∀ a ∈ l, f a ≤ k) → (l.map f).sum ≤ l.length * k
  | [], _ => by simp
  | a :: l, h => by
    have h1 := h a (by simp)
    have h2 := sum_le_mul f k l (fun b hb => h b (by simp [hb]))
    simp only [List.map_cons, List.sum_cons, List.length_cons, Nat.succ_mul]
    omega

theorem gv_le {W : Nat} {best : Best} (h : Bnd W best) (v : V) : gv (W * 16384) (best v) ≤ W * 16384 + 1 := by
  cases hb : best v with
  | none => exact Nat.le_refl _
  | some n => exact Nat.le_trans (h.le hb) (Nat.le_succ _)

theorem pot_le {W : Nat} {best : Best} (h : Bnd W best) : pot (W * 16384) best ≤ 16384 * (W * 16384 + 1) := by
  have h1 : (dom.map fun v => gv (W * 16384) (best v)).sum ≤ dom.length * (W * 16384 + 1) := sum_le_mul _ _ dom (fun v _ => gv_le h v)
  rw [length_dom] at h1
  exact h1

end
end Go.Proofs.Ytnnmidfkgjmfmaa.Ck
