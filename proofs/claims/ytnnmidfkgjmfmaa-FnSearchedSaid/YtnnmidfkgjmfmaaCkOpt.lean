/- Plain: the least cost by the recursion over splits is the least cost over all ways through the states of a chain (CkGraph). Both bounds: a way is built from a split (upper); a potential that no step lowers by more than it costs (lower). No program here. -/
import Derived.Test.YtnnmidfkgjmfmaaCkGraph
namespace Go.Proofs.Ytnnmidfkgjmfmaa.Ck
set_option linter.unusedVariables false
set_option linter.unusedSimpArgs false
open Classical

/-! ### counting -/
def cnt (k : Nat) (p : Nat → Bool) : Nat := (List.range k).countP p

theorem cnt_succ (k : Nat) (p : Nat → Bool) : cnt (k + 1) p = cnt k p + (if p k = true then 1 else 0) := by
  unfold cnt
  rw [List.range_succ, List.countP_append]
  simp [List.countP_cons]

theorem cnt_mono {a b : Nat} (p : Nat → Bool) (h : a ≤ b) : cnt a p ≤ cnt b p := by
  induction b with
  | zero => have : a = 0 := by omega
            subst this; exact Nat.le_refl _
  | succ b ih =>
    by_cases e : a = b + 1
    · subst e; exact Nat.le_refl _
    · have := ih (by omega)
      rw [cnt_succ]; omega

theorem cnt_lt {a b s : Nat} (p : Nat → Bool) (h : a ≤ s) (h' : s < b) (hs : p s = true) : cnt a p < cnt b p := by
  have h1 := cnt_mono p h
  have h2 := cnt_mono p (show s + 1 ≤ b by omega)
  rw [cnt_succ, if_pos hs] at h2
  omega

theorem cnt_congr {k : Nat} {p q : Nat → Bool} (h : ∀ j, j < k → p j = q j) : cnt k p = cnt k q := by
  induction k with
  | zero => rfl
  | succ k ih => rw [cnt_succ, cnt_succ, ih (fun j hj => h j (by omega)), h k (by omega)]

theorem cnt_le {k : Nat} {p q : Nat → Bool} (h : ∀ j, j < k → p j = true → q j = true) : cnt k p ≤ cnt k q := by
  induction k with
  | zero => exact Nat.le_refl _
  | succ k ih =>
    rw [cnt_succ, cnt_succ]
    have h1 := ih (fun j hj => h j (by omega))
    have h2 := h k (by omega)
    cases hp : p k <;> cases hq : q k <;> simp_all <;> omega

/-- One more. -/
theorem cnt_insert {k x : Nat} {p q : Nat → Bool} (hx : x < k) (hp : p x = false) (hq : q x = true) (h : ∀ j, j ≠ x → q j = p j) : cnt k q = cnt k p + 1 := by
  induction k with
  | zero => omega
  | succ k ih =>
    rw [cnt_succ, cnt_succ]
    by_cases e : x = k
    · subst e
      rw [cnt_congr (p := q) (q := p) (fun j hj => h j (by omega)), hp, hq]
      simp
    · rw [ih (by omega), h k (fun e' => e e'.symm)]
      omega

theorem pc_eq (S : Nat) : pc S = cnt 8 S.testBit := rfl

theorem exists_of_cnt_lt {a : Nat} (p : Nat → Bool) : ∀ b, cnt a p < cnt b p → ∃ i, a ≤ i ∧ i < b ∧ p i = true
  | 0, h => by simp [cnt] at h
  | b + 1, h => by
    by_cases hp : a ≤ b ∧ p b = true
    · exact ⟨b, hp.1, by omega, hp.2⟩
    · rw [cnt_succ] at h
      by_cases hb : p b = true
      · have hab : ¬ a ≤ b := fun h' => hp ⟨h', hb⟩
        have := cnt_mono p (show b + 1 ≤ a by omega)
        rw [cnt_succ] at this
        omega
      · rw [if_neg hb] at h
        obtain ⟨i, h1, h2, h3⟩ := exists_of_cnt_lt p b (by omega)
        exact ⟨i, h1, by omega, h3⟩

/-! ### the bits -/
theorem bit_put {S x j : Nat} : (S ||| 2 ^ x).testBit j = (S.testBit j || decide (x = j)) := by
  rw [Nat.testBit_or, Nat.testBit_two_pow]
theorem bit_repl {S i x j : Nat} : ((S ^^^ 2 ^ i) ||| 2 ^ x).testBit j = ((S.testBit j ^^ decide (i = j)) || decide (x = j)) := by
  rw [Nat.testBit_or, Nat.testBit_two_pow, Nat.testBit_xor, Nat.testBit_two_pow]

theorem pc_put {S x : Nat} (hx : x < 8) (h : S.testBit x = false) : pc (S ||| 2 ^ x) = pc S + 1 := by
  rw [pc_eq, pc_eq]
  exact cnt_insert hx h (by simp [bit_put]) (fun j hj => by simp [bit_put, Ne.symm hj])

theorem pc_clr {S i : Nat} (hi : i < 8) (h : S.testBit i = true) : pc (S ^^^ 2 ^ i) + 1 = pc S := by
  rw [pc_eq, pc_eq]
  refine (cnt_insert (k := 8) (x := i) (p := (S ^^^ 2 ^ i).testBit) (q := S.testBit) hi ?_ h ?_).symm
  · simp [Nat.testBit_xor, Nat.testBit_two_pow, h]
  · intro j hj
    simp [Nat.testBit_xor, Nat.testBit_two_pow, Ne.symm hj]

theorem pc_put_le {S x : Nat} (hx : x < 8) : pc (S ||| 2 ^ x) ≤ pc S + 1 := by
  by_cases h : S.testBit x = true
  · have : pc (S ||| 2 ^ x) = pc S := by
      rw [pc_eq, pc_eq]
      refine cnt_congr (fun j _ => ?_)
      rw [bit_put]
      by_cases e : x = j
      · subst e; simp [h]
      · simp [e]
    omega
  · rw [pc_put hx (by simpa using h)]; exact Nat.le_refl _

theorem pc_repl {S i x : Nat} (hi : i < 8) (hx : x < 8) (h : S.testBit i = true) : pc ((S ^^^ 2 ^ i) ||| 2 ^ x) ≤ pc S := by
  have h1 := pc_clr hi h
  have h2 := pc_put_le (S := S ^^^ 2 ^ i) hx
  omega

/-! ### sums of weights -/
section
variable (wt : Nat → Nat) (n : Nat)

noncomputable def cst (p : Nat → Prop) : Nat := ((List.range n).map fun i => if p i then wt i else 0).sum

noncomputable def way (a m : Nat) : Nat := cst wt n (fun i => a ≤ i ∧ i < m)

variable {wt n}

theorem cst_le {p q : Nat → Prop} (h : ∀ i, p i → q i) : cst wt n p ≤ cst wt n q := by
  unfold cst
  refine sum_le_sum _ _ _ (fun i _ => ?_)
  by_cases hp : p i
  · rw [if_pos hp, if_pos (h i hp)]; exact Nat.le_refl _
  · rw [if_neg hp]; omega

theorem cst_none {p : Nat → Prop} (h : ∀ i, ¬ p i) : cst wt n p = 0 := by
  unfold cst
  have : ∀ l : List Nat, (l.map fun i => if p i then wt i else 0).sum = 0 := by
    intro l
    induction l with
    | nil => rfl
    | cons a l ih => simp only [List.map_cons, List.sum_cons, ih, if_neg (h a)]
  exact this _

theorem sum_add {f g k : Nat → Nat} : ∀ l : List Nat, (∀ i, f i ≤ g i + k i) → (l.map f).sum ≤ (l.map g).sum + (l.map k).sum
  | [], _ => by simp
  | a :: l, h => by
    have h1 := h a
    have h2 := sum_add l h
    simp only [List.map_cons, List.sum_cons]
    omega

theorem sum_add_ge {f g k : Nat → Nat} : ∀ l : List Nat, (∀ i, g i + k i ≤ f i) → (l.map g).sum + (l.map k).sum ≤ (l.map f).sum
  | [], _ => by simp
  | a :: l, h => by
    have h1 := h a
    have h2 := sum_add_ge l h
    simp only [List.map_cons, List.sum_cons]
    omega

theorem cst_union {p q r : Nat → Prop} (h : ∀ i, p i → q i ∨ r i) : cst wt n p ≤ cst wt n q + cst wt n r := by
  unfold cst
  refine sum_add _ (fun i => ?_)
  by_cases hp : p i
  · rcases h i hp with hq | hr
    · rw [if_pos hp, if_pos hq]; omega
    · rw [if_pos hp, if_pos hr]; omega
  · rw [if_neg hp]; omega

theorem cst_disjoint {p q r : Nat → Prop} (hq : ∀ i, q i → p i) (hr : ∀ i, r i → p i) (hd : ∀ i, q i → ¬ r i) : cst wt n q + cst wt n r ≤ cst wt n p := by
  unfold cst
  refine sum_add_ge _ (fun i => ?_)
  by_cases h1 : q i
  · rw [if_pos h1, if_neg (hd i h1), if_pos (hq i h1)]; omega
  · rw [if_neg h1]
    by_cases h2 : r i
    · rw [if_pos h2, if_pos (hr i h2)]; omega
    · rw [if_neg h2]; omega

theorem way_same (a : Nat) : way wt n a a = 0 := cst_none (fun i h => by omega)

theorem way_split {a m b : Nat} (h1 : a ≤ m) (h2 : m ≤ b) : way wt n a b = way wt n a m + way wt n m b := by
  refine Nat.le_antisymm ?_ ?_
  · exact cst_union (fun i h => by omega)
  · exact cst_disjoint (fun i h => by omega) (fun i h => by omega) (fun i h h' => by omega)

theorem sum_one (f : Nat → Nat) (x : Nat) : ∀ n, x < n → ((List.range n).map fun i => if i = x then f i else 0).sum = f x
  | 0, h => by omega
  | n + 1, h => by
    rw [List.range_succ, List.map_append, List.sum_append]
    by_cases e : x = n
    · subst e
      have : ∀ l : List Nat, (∀ i ∈ l, i ≠ x) → (l.map fun i => if i = x then f i else 0).sum = 0 := by
        intro l hl
        induction l with
        | nil => rfl
        | cons a l ih => simp only [List.map_cons, List.sum_cons, ih (fun i hi => hl i (by simp [hi])), if_neg (hl a (by simp))]
      rw [this _ (fun i hi => by have := List.mem_range.1 hi; omega)]
      simp
    · rw [sum_one f x n (by omega)]
      simp [Ne.symm e]

theorem cst_one {x : Nat} (hx : x < n) : cst wt n (fun i => i = x) = wt x := by
  have e := sum_one wt x n hx
  unfold cst
  exact (congrArg List.sum (List.map_congr_left fun i _ => by by_cases h : i = x <;> simp [h])).trans e

theorem way_one {x : Nat} (hx : x < n) : way wt n x (x + 1) = wt x := by
  refine Eq.trans ?_ (cst_one (wt := wt) hx)
  exact Nat.le_antisymm (cst_le fun i h => by omega) (cst_le fun i h => by omega)

/-! ### the recursion over splits -/
inductive D (wt : Nat → Nat) (n : Nat) : Nat → Nat → Nat → Nat → Prop where
  | base {a b c v : Nat} : b ≤ a + 1 → D wt n a b c v
  | split {a b c v m v1 v2 : Nat} : a < m → m < b → 1 ≤ c → D wt n m b (c - 1) v1 → D wt n a m c v2 → way wt n a m + v1 + v2 ≤ v → D wt n a b c v

theorem D.mono {a b c v : Nat} (h : D wt n a b c v) : ∀ {c' v' : Nat}, c ≤ c' → v ≤ v' → D wt n a b c' v' := by
  induction h with
  | base h => intro c' v' _ _; exact .base h
  | split h1 h2 h3 _ _ h6 ih1 ih2 =>
    intro c' v' hc hv
    exact .split h1 h2 (by omega) (ih1 (by omega) (Nat.le_refl _)) (ih2 hc (Nat.le_refl _)) (by omega)

/-- The cost of a list of places that are held: each part by the recursion, with one slot less behind each place. -/
inductive Ch (wt : Nat → Nat) (n : Nat) : List Nat → Nat → Nat → Nat → Prop where
  | one {t b c v : Nat} : t < b → D wt n t b c v → Ch wt n [t] b c v
  | cons {t t' b c v1 v2 : Nat} {r : List Nat} : t < t' → 1 ≤ c → D wt n t t' c v1 → Ch wt n (t' :: r) b (c - 1) v2 → Ch wt n (t :: t' :: r) b c (v1 + v2)

theorem Ch.sorted {T : List Nat} {b c v : Nat} (h : Ch wt n T b c v) : T.Pairwise (· < ·) ∧ (∀ t ∈ T, t < b) ∧ T.length ≤ c + 1 := by
  induction h with
  | one h _ => exact ⟨by simp, by simpa using h, by simp⟩
  | cons h1 h2 _ h4 ih =>
    obtain ⟨i1, i2, i3⟩ := ih
    refine ⟨List.pairwise_cons.2 ⟨fun x hx => ?_, i1⟩, fun x hx => ?_, ?_⟩
    · rcases List.mem_cons.1 hx with rfl | hx
      · exact h1
      · exact Nat.lt_trans h1 ((List.pairwise_cons.1 i1).1 x hx)
    · rcases List.mem_cons.1 hx with rfl | hx
      · exact Nat.lt_trans h1 (i2 _ (by simp))
      · exact i2 x hx
    · simp only [List.length_cons] at i3 ⊢; omega

theorem Ch.mono {T : List Nat} {b c v : Nat} (h : Ch wt n T b c v) : ∀ {c' : Nat}, c ≤ c' → Ch wt n T b c' v := by
  induction h with
  | one h1 h2 => intro c' hc; exact .one h1 (h2.mono hc (Nat.le_refl _))
  | cons h1 h2 h3 _ ih => intro c' hc; exact .cons h1 (by omega) (h3.mono hc (Nat.le_refl _)) (ih (by omega))

/-- The last step is laid behind. -/
theorem Ch.snoc {T : List Nat} {b c v : Nat} (h : Ch wt n T b c v) (hl : T.length ≤ c) : Ch wt n (T ++ [b]) (b + 1) c v := by
  induction h with
  | one h1 h2 =>
    have := Ch.cons (r := []) h1 (by simpa using hl) h2 (.one (Nat.lt_succ_self _) (.base (Nat.le_refl _) : D wt n _ _ _ 0))
    simpa using this
  | cons h1 h2 h3 _ ih =>
    exact .cons h1 h2 h3 (ih (by simp only [List.length_cons] at hl ⊢; omega))

/-- A place is left out. -/
theorem Ch.merge {p z : Nat} {R : List Nat} {b c v : Nat} (h : Ch wt n (p :: z :: R) b c v) : ∃ v', Ch wt n (p :: R) b c v' ∧ v' ≤ v + way wt n p z := by
  cases h with
  | cons h1 h2 h3 h4 =>
    cases h4 with
    | one h5 h6 => exact ⟨_, .one (by omega) (.split h1 h5 h2 h6 h3 (Nat.le_refl _)), by omega⟩
    | cons h5 h6 h7 h8 => exact ⟨_, .cons (by omega) h2 (.split h1 h5 h2 h7 h3 (Nat.le_refl _)) (h8.mono (by omega)), by omega⟩

theorem Ch.drop {p z : Nat} {R : List Nat} : ∀ (L : List Nat) {b c v : Nat}, Ch wt n (L ++ p :: z :: R) b c v → ∃ v', Ch wt n (L ++ p :: R) b c v' ∧ v' ≤ v + way wt n p z
  | [], b, c, v, h => h.merge
  | [t], b, c, v, h => by
    cases h with
    | cons h1 h2 h3 h4 =>
      obtain ⟨v', hv, hle⟩ := h4.merge
      exact ⟨_, .cons h1 h2 h3 hv, by omega⟩
  | t :: t' :: L, b, c, v, h => by
    cases h with
    | cons h1 h2 h3 h4 =>
      obtain ⟨v', hv, hle⟩ := Ch.drop (t' :: L) h4
      exact ⟨_, .cons h1 h2 h3 hv, by omega⟩

/-- All of one way: the recursion's own cost is no greater. -/
theorem Ch.whole {T : List Nat} {b c v : Nat} (h : Ch wt n T b c v) : ∀ t r, T = t :: r → D wt n t b c (way wt n t (T.getLastD 0) + v) := by
  induction h with
  | one h1 h2 =>
    intro t r e
    obtain ⟨rfl, rfl⟩ := List.cons.inj e
    exact h2.mono (Nat.le_refl _) (by omega)
  | @cons t1 t2 b c v1 v2 r1 h1 h2 h3 h4 ih =>
    intro t r e
    obtain ⟨rfl, rfl⟩ := List.cons.inj e
    have h5 := ih _ _ rfl
    have hs := h4.sorted
    have hlast : t2 ≤ (t2 :: r1).getLastD 0 := by
      rw [List.getLastD_eq_getLast?, List.getLast?_eq_some_getLast (by simp)]
      simp only [Option.getD_some]
      have hm := List.getLast_mem (l := t2 :: r1) (by simp)
      rcases List.mem_cons.1 hm with e | hm
      · exact Nat.le_of_eq e.symm
      · exact Nat.le_of_lt ((List.pairwise_cons.1 hs.1).1 _ hm)
    have e1 : (t1 :: t2 :: r1).getLastD 0 = (t2 :: r1).getLastD 0 := by simp [List.getLastD]
    rw [e1, way_split (Nat.le_of_lt h1) hlast]
    exact .split h1 (hs.2.1 _ (by simp)) h2 h5 h3 (by omega)

/-! ### what is to be gone over to have the places held -/
def cov (A : Nat → Bool) (T : List Nat) (i : Nat) : Prop := ∃ z ∈ T, i < z ∧ ∀ j, i < j → j ≤ z → A j = false

/-- What one can come to at the cost v, with the places A at hand. -/
def Opt (wt : Nat → Nat) (n c : Nat) (A : Nat → Bool) (b v : Nat) : Prop :=
  b = 0 ∨ (A 0 = true ∧ ∃ (T : List Nat) (v1 : Nat), Ch wt n (0 :: T) b c v1 ∧ cst wt n (cov A (0 :: T)) + v1 ≤ v)

theorem Opt.le {c : Nat} {A A' : Nat → Bool} {b v v' : Nat} (h : Opt wt n c A b v) (hA : ∀ j, A j = true → A' j = true) (hv : v ≤ v') : Opt wt n c A' b v' := by
  rcases h with h | ⟨h0, T, v1, hc, hle⟩
  · exact .inl h
  · refine .inr ⟨hA 0 h0, T, v1, hc, ?_⟩
    have : cst wt n (cov A' (0 :: T)) ≤ cst wt n (cov A (0 :: T)) := cst_le fun i ⟨z, hz, h1, h2⟩ => ⟨z, hz, h1, fun j hj hj' => by
      cases hAj : A j with
      | false => rfl
      | true => exact absurd (h2 j hj hj') (by rw [hA j hAj]; simp)⟩
    omega

/-- Between any two places one behind the other there is one of A. -/
def Parted (A : Nat → Bool) : List Nat → Prop
  | t :: t' :: r => (∃ s, t < s ∧ s ≤ t' ∧ A s = true) ∧ Parted A (t' :: r)
  | _ => True

theorem parted_or (A : Nat → Bool) : ∀ T : List Nat, Parted A T ∨ ∃ L p z R, T = L ++ p :: z :: R ∧ (∀ j, p < j → j ≤ z → A j = false) ∧ Parted A (z :: R)
  | [] => .inl trivial
  | [_] => .inl trivial
  | t :: t' :: r => by
    rcases parted_or A (t' :: r) with h | ⟨L, p, z, R, e, h1, h2⟩
    · by_cases hs : ∃ s, t < s ∧ s ≤ t' ∧ A s = true
      · exact .inl ⟨hs, h⟩
      · refine .inr ⟨[], t, t', r, rfl, fun j h1 h2 => ?_, h⟩
        cases hA : A j with
        | false => rfl
        | true => exact absurd ⟨j, h1, h2, hA⟩ hs
    · exact .inr ⟨t :: L, p, z, R, by rw [e]; rfl, h1, h2⟩

theorem parted_count {A : Nat → Bool} : ∀ (r : List Nat) (t : Nat), Parted A (t :: r) → (∀ x ∈ t :: r, x < 8) → r.length + cnt (t + 1) A ≤ cnt 8 A
  | [], t, _, h => by simpa using cnt_mono A (h t (by simp))
  | t' :: r, t, ⟨⟨s, h1, h2, h3⟩, hp⟩, h => by
    have h4 := parted_count r t' hp (fun x hx => h x (by simp [hx]))
    have h5 := cnt_lt (a := t + 1) (b := t' + 1) A h1 (by omega) h3
    simp only [List.length_cons]
    omega

/-- With few places at hand, few places are to be held. -/
theorem Opt.few {c : Nat} {A : Nat → Bool} {b v : Nat} (h : Opt wt n c A b v) (hb : b ≠ 0) (hb8 : b ≤ 8) (hc : cnt 8 A ≤ c) :
    A 0 = true ∧ ∃ (T : List Nat) (v1 : Nat), Ch wt n (0 :: T) b c v1 ∧ cst wt n (cov A (0 :: T)) + v1 ≤ v ∧ (0 :: T).length ≤ c := by
  rcases h with h | ⟨h0, T, v1, hch, hle⟩
  · exact absurd h hb
  · refine ⟨h0, ?_⟩
    by_cases hl : (0 :: T).length ≤ c
    · exact ⟨T, v1, hch, hle, hl⟩
    · have hs := hch.sorted
      have hpos : cnt 1 A = 1 := by rw [cnt_succ]; simp [h0, cnt]
      rcases parted_or A (0 :: T) with hp | ⟨L, p, z, R, e, h1, h2⟩
      · have := parted_count T 0 hp (fun x hx => by have := hs.2.1 x hx; omega)
        simp only [List.length_cons] at hl
        simp only [Nat.zero_add, hpos] at this
        omega
      · rw [e] at hch hs
        obtain ⟨v', hch', hle'⟩ := Ch.drop L hch
        have hsort : ∀ x ∈ R, z < x := by
          have h5 := (List.pairwise_append.1 hs.1).2.1
          have h6 := (List.pairwise_cons.1 h5).2
          exact (List.pairwise_cons.1 h6).1
        have hpz : p < z := by
          have h5 := (List.pairwise_append.1 hs.1).2.1
          exact (List.pairwise_cons.1 h5).1 z (by simp)
        have hsL : ∀ x ∈ L, x < p := fun x hx => (List.pairwise_append.1 hs.1).2.2 x hx p (by simp)
        have hcov : cst wt n (cov A (L ++ p :: R)) + way wt n p z ≤ cst wt n (cov A (0 :: T)) := by
          rw [e]
          refine cst_disjoint ?_ ?_ ?_
          · rintro i ⟨x, hx, hi, hj⟩
            refine ⟨x, ?_, hi, hj⟩
            simp only [List.mem_append, List.mem_cons] at hx ⊢
            rcases hx with hx | hx | hx
            · exact .inl hx
            · exact .inr (.inl hx)
            · exact .inr (.inr (.inr hx))
          · intro i ⟨hi, hi'⟩
            exact ⟨z, by simp, hi', fun j hj hj' => h1 j (by omega) hj'⟩
          · rintro i ⟨x, hx, hi, hj⟩ ⟨hi1, hi2⟩
            have hxR : x ∈ R := by
              simp only [List.mem_append, List.mem_cons] at hx
              rcases hx with hx | hx | hx
              · have := hsL x hx; omega
              · omega
              · exact hx
            cases R with
            | nil => cases hxR
            | cons z' R' =>
              obtain ⟨⟨s, hs1, hs2, hs3⟩, _⟩ := h2
              have hz'x : z' ≤ x := by
                rcases List.mem_cons.1 hxR with rfl | hx'
                · exact Nat.le_refl _
                · have h5 := (List.pairwise_append.1 hs.1).2.1
                  have h6 := (List.pairwise_cons.1 (List.pairwise_cons.1 h5).2).2
                  exact Nat.le_of_lt ((List.pairwise_cons.1 h6).1 x hx')
              have := hj s (by omega) (by omega)
              rw [hs3] at this
              cases this
        have hlen := hs.2.2
        have hlenT : (0 :: T).length = (L ++ p :: z :: R).length := by rw [e]
        obtain ⟨T', e'⟩ : ∃ T', L ++ p :: R = 0 :: T' := by
          cases L with
          | nil => exact ⟨R, by have := (List.cons.inj e).1; rw [← this]; rfl⟩
          | cons t L => exact ⟨L ++ p :: R, by have := (List.cons.inj e).1; rw [← this]; rfl⟩
        rw [e'] at hch' hcov
        refine ⟨T', v', hch', by omega, ?_⟩
        rw [← e']
        simp only [List.length_append, List.length_cons] at hlen ⊢
        omega

/-- From a held place to the last step: it is no cheaper to hold nothing there. -/
theorem Opt.back {c : Nat} {A : Nat → Bool} {b i v : Nat} (h : Opt wt n c A b v) (hb8 : b ≤ 8) (hc : cnt 8 A ≤ c) (hi : A i = true) (hib : i ≤ b) : Opt wt n c A (b + 1) (way wt n i b + v) := by
  by_cases hb : b = 0
  · subst hb
    have : i = 0 := by omega
    subst this
    refine .inr ⟨hi, [], 0, .one (by omega) (.base (by omega)), ?_⟩
    rw [cst_none]
    · omega
    · rintro j ⟨z, hz, hj, _⟩
      simp at hz
      omega
  · obtain ⟨h0, T, v1, hch, hle, hl⟩ := h.few hb hb8 hc
    refine .inr ⟨h0, T ++ [b], v1, by simpa using hch.snoc hl, ?_⟩
    have : cst wt n (cov A (0 :: (T ++ [b]))) ≤ cst wt n (cov A (0 :: T)) + way wt n i b := by
      refine cst_union ?_
      rintro j ⟨z, hz, hj, hk⟩
      simp only [List.mem_cons, List.mem_append, List.not_mem_nil, or_false] at hz
      rcases hz with rfl | hz | rfl
      · omega
      · exact .inl ⟨z, by simp [hz], hj, hk⟩
      · refine .inr ⟨?_, hj⟩
        refine Nat.le_of_not_lt fun hlt => ?_
        have := hk i hlt hib
        rw [hi] at this
        cases this
    omega

/-! ### the potential -/
def mem (S x : Nat) (j : Nat) : Bool := S.testBit j || decide (x = j)

def Phi (wt : Nat → Nat) (n c : Nat) (s : V) (v : Nat) : Prop :=
  Opt wt n c (mem s.2.1 s.1) s.2.2 v ∨ (s.1 < s.2.2 ∧ ∃ v', Opt wt n c s.2.1.testBit (s.2.2 - 1) v' ∧ way wt n s.1 (s.2.2 - 1) + v' ≤ v)

theorem phi_step {c : Nat} {u v : V} {d m : Nat} (he : E wt c u v d) (hpc : pc u.2.1 ≤ c) (hn : n ≤ 7) (hb : u.2.2 ≤ n) (hx : u.1 < 8) (hS : u.2.1 < 256) (h : Phi wt n c v m) : Phi wt n c u (d + m) := by
  have bit8 : ∀ {S i : Nat}, S < 256 → S.testBit i = true → i < 8 := fun {S i} hS hi => by
    refine Nat.lt_of_not_le fun h8 => ?_
    have : S < 2 ^ i := Nat.lt_of_lt_of_le (show S < 2 ^ 8 from hS) (Nat.pow_le_pow_right (Nat.succ_pos 1) h8)
    rw [Nat.testBit_lt_two_pow this] at hi
    cases hi
  cases he with
  | @adv x S b hlt =>
    simp only at hpc hb hx hS
    rcases h with h | ⟨h1, v', h2, h3⟩
    · refine .inl ?_
      rcases h with h | ⟨h0, T, v1, hc, hle⟩
      · exact .inl h
      · have h0' : S.testBit 0 = true := by simpa [mem] using h0
        refine .inr ⟨by simp [mem, h0'], T, v1, hc, ?_⟩
        have : cst wt n (cov (mem S x) (0 :: T)) ≤ cst wt n (cov (mem S (x + 1)) (0 :: T)) + cst wt n (fun i => i = x) := by
          refine cst_union ?_
          rintro i ⟨z, hz, hi, hj⟩
          by_cases e : i = x
          · exact .inr e
          · refine .inl ⟨z, hz, hi, fun j h1 h2 => ?_⟩
            have h3 := hj j h1 h2
            simp only [mem, Bool.or_eq_false_iff, decide_eq_false_iff_not] at h3 ⊢
            refine ⟨h3.1, fun e' => ?_⟩
            subst e'
            have h4 := hj x (by omega) (by omega)
            simp [mem] at h4
        rw [cst_one (by omega)] at this
        simp only at hle ⊢
        omega
    · refine .inr ⟨by simp only; omega, v', h2, ?_⟩
      simp only at h1 h3 ⊢
      rw [way_split (show x ≤ x + 1 by omega) (show x + 1 ≤ b - 1 by omega), way_one (by omega)]
      omega
  | @rev x S b hlt =>
    simp only at hpc hb hx hS
    rcases h with h | ⟨h1, _⟩
    · refine .inr ⟨by simp only; omega, m, ?_, ?_⟩
      · simp only at h ⊢
        rcases h with h | ⟨h0, T, v1, hc, hle⟩
        · exact .inl h
        · by_cases hb0 : b - 1 = 0
          · exact .inl hb0
          · have h0' : S.testBit 0 = true := by
              simp only [mem, Bool.or_eq_true, decide_eq_true_eq] at h0
              rcases h0 with h0 | h0
              · exact h0
              · omega
            refine .inr ⟨h0', T, v1, hc, ?_⟩
            have hs := hc.sorted
            have : cst wt n (cov S.testBit (0 :: T)) ≤ cst wt n (cov (mem S x) (0 :: T)) := by
              refine cst_le ?_
              rintro i ⟨z, hz, hi, hj⟩
              refine ⟨z, hz, hi, fun j h1 h2 => ?_⟩
              have h3 := hs.2.1 z hz
              simp only [mem, hj j h1 h2, Bool.false_or, decide_eq_false_iff_not]
              omega
            omega
      · simp only
        rw [show b - 1 = x by omega, way_same]
        omega
    · simp only at h1
      omega
  | @load x S b i hi =>
    simp only at hpc hb hx hS
    have hsub : ∀ j, mem S i j = true → S.testBit j = true := fun j hj => by
      simp only [mem, Bool.or_eq_true, decide_eq_true_eq] at hj
      rcases hj with hj | rfl
      · exact hj
      · exact hi
    rcases h with h | ⟨h1, v', h2, h3⟩
    · exact .inl (h.le (fun j hj => by simp [mem, hsub j hj]) (by omega))
    · refine .inl ?_
      simp only at h1 h2 h3 ⊢
      have h4 := h2.back (i := i) (by omega) (by rw [← pc_eq]; exact hpc) hi (by omega)
      rw [show b - 1 + 1 = b by omega] at h4
      exact h4.le (fun j hj => by simp [mem, hj]) (by omega)
  | @put x S b hi hlt =>
    simp only at hpc hb hx hS
    rcases h with h | ⟨h1, v', h2, h3⟩
    · refine .inl (h.le (fun j hj => ?_) (by omega))
      simp only [mem, bit_put, Bool.or_eq_true, decide_eq_true_eq] at hj ⊢
      rcases hj with (hj | hj) | hj
      · exact .inl hj
      · exact .inr hj
      · exact .inr hj
    · refine .inl ?_
      simp only at h1 h2 h3 ⊢
      have h4 := h2.back (i := x) (by omega) (by rw [← pc_eq, pc_put hx hi]; omega) (by simp [bit_put]) (by omega)
      rw [show b - 1 + 1 = b by omega] at h4
      exact h4.le (fun j hj => by rw [bit_put] at hj; exact hj) (by omega)
  | @repl x S b i hi =>
    simp only at hpc hb hx hS
    have hi8 := bit8 hS hi
    have hsub : ∀ j, ((S ^^^ 2 ^ i) ||| 2 ^ x).testBit j = true → mem S x j = true := fun j hj => by
      simp only [bit_repl, mem, Bool.or_eq_true, decide_eq_true_eq] at hj ⊢
      rcases hj with hj | hj
      · by_cases e : i = j
        · subst e; exact .inl hi
        · simp [e] at hj; exact .inl hj
      · exact .inr hj
    rcases h with h | ⟨h1, v', h2, h3⟩
    · refine .inl (h.le (fun j hj => ?_) (by omega))
      unfold mem at hj
      rw [Bool.or_eq_true] at hj
      rcases hj with hj | hj
      · exact hsub j hj
      · simp only at hj
        simp only [mem, Bool.or_eq_true]
        exact .inr hj
    · refine .inl ?_
      simp only at h1 h2 h3 ⊢
      have h4 := h2.back (i := x) (by omega) (by rw [← pc_eq]; exact Nat.le_trans (pc_repl hi8 hx hi) hpc) (by simp [bit_repl]) (by omega)
      rw [show b - 1 + 1 = b by omega] at h4
      exact h4.le hsub (by omega)

/-! ### what holds of every state that is reached -/
structure Ok (n c : Nat) (s : V) : Prop where
  left : s.2.2 ≤ n
  at_ : s.1 < n ∨ s.1 = 0
  set : s.2.1 < 2 ^ n ∨ s.2.1 < 2
  few : pc s.2.1 ≤ c

theorem bit_lt {S i n : Nat} (hS : S < 2 ^ n) (hi : S.testBit i = true) : i < n := by
  refine Nat.lt_of_not_le fun h8 => ?_
  have : S < 2 ^ i := Nat.lt_of_lt_of_le hS (Nat.pow_le_pow_right (by omega) h8)
  rw [Nat.testBit_lt_two_pow this] at hi
  cases hi

theorem lt_two_pow_of {S n : Nat} (h : ∀ i, n ≤ i → S.testBit i = false) : S < 2 ^ n := Nat.lt_pow_two_of_testBit S h

theorem Ok.bits {n c : Nat} {s : V} (h : Ok n c s) {i : Nat} (hi : s.2.1.testBit i = true) : i < n ∨ i = 0 := by
  rcases h.set with hs | hs
  · exact .inl (bit_lt hs hi)
  · have := bit_lt (n := 1) (by simpa using hs) hi
    omega

theorem ok_set_of {S n : Nat} (h : ∀ i, S.testBit i = true → i < n ∨ i = 0) : S < 2 ^ n ∨ S < 2 := by
  by_cases hn : n = 0
  · right
    have : S < 2 ^ 1 := lt_two_pow_of fun i hi => by
      cases hb : S.testBit i with
      | false => rfl
      | true => have := h i hb; omega
    simpa using this
  · left
    refine lt_two_pow_of fun i hi => ?_
    cases hb : S.testBit i with
    | false => rfl
    | true => have := h i hb; omega

theorem Ok.lt {n c : Nat} {s : V} (h : Ok n c s) (hn : n ≤ 7) : s.1 < 8 ∧ s.2.1 < 256 ∧ s.2.2 < 8 := by
  have h1 := h.left
  have h2 := h.at_
  refine ⟨by omega, ?_, by omega⟩
  rcases h.set with h3 | h3
  · exact Nat.lt_of_lt_of_le h3 (Nat.le_trans (Nat.pow_le_pow_right (by omega) hn) (by omega))
  · omega

theorem Ok.step {c : Nat} {u v : V} {d : Nat} (h : Ok n c u) (hn : n ≤ 7) (he : E wt c u v d) : Ok n c v := by
  have hl := h.lt hn
  cases he with
  | @adv x S b hlt => exact ⟨h.left, by have := h.left; simp only at this ⊢; omega, h.set, h.few⟩
  | @rev x S b hlt => exact ⟨by have := h.left; simp only at this ⊢; omega, h.at_, h.set, h.few⟩
  | @load x S b i hi => exact ⟨h.left, h.bits hi, h.set, h.few⟩
  | @put x S b hi hlt =>
    refine ⟨h.left, h.at_, ok_set_of fun j hj => ?_, ?_⟩
    · simp only [bit_put, Bool.or_eq_true, decide_eq_true_eq] at hj
      rcases hj with hj | rfl
      · exact h.bits hj
      · exact h.at_
    · simp only at hl ⊢
      rw [pc_put hl.1 hi]; omega
  | @repl x S b i hi =>
    refine ⟨h.left, h.at_, ok_set_of fun j hj => ?_, ?_⟩
    · simp only [bit_repl, Bool.or_eq_true, decide_eq_true_eq] at hj
      rcases hj with hj | rfl
      · by_cases e : i = j
        · subst e; exact h.bits hi
        · simp [e] at hj; exact h.bits hj
      · exact h.at_
    · have hi8 : i < 8 := bit_lt (n := 8) hl.2.1 hi
      exact Nat.le_trans (pc_repl hi8 hl.1 hi) h.few

theorem Ok.path {c : Nat} {s v : V} {m : Nat} (h : Ok n c s) (hn : n ≤ 7) (hp : Path wt c s v m) : Ok n c v := by
  induction hp with
  | refl => exact h
  | step _ e ih => exact ih.step hn e

theorem ok_start (n c : Nat) : Ok n c (0, 0, n) := ⟨Nat.le_refl _, .inr rfl, .inr (by simp), by simp [pc, List.countP_eq_zero]⟩

/-! ### the lower bound -/
theorem phi_path {c : Nat} {s v : V} {k : Nat} (hs : Ok n c s) (hn : n ≤ 7) (hp : Path wt c s v k) : ∀ m, Phi wt n c v m → Phi wt n c s (k + m) := by
  induction hp with
  | refl => intro m h; rw [Nat.zero_add]; exact h
  | @step u v k d hp e ih =>
    intro m h
    have hu := hs.path hn hp
    have hl := hu.lt hn
    rw [Nat.add_assoc]
    exact ih _ (phi_step e hu.few hn hu.left hl.1 hl.2.1 h)

theorem lower {c : Nat} {v : V} {k : Nat} (hn : n ≤ 7) (hp : Path wt c (0, 0, n) v k) (hv : v.2.2 = 0) : D wt n 0 n c k := by
  have h := phi_path (ok_start n c) hn hp 0 (.inl (.inl hv))
  rw [Nat.add_zero] at h
  rcases h with h | ⟨h1, v', h2, h3⟩
  · rcases h with h | ⟨_, T, v1, hc, hle⟩
    · simp only at h; exact .base (by omega)
    · have hw := hc.whole _ _ rfl
      refine hw.mono (Nat.le_refl _) ?_
      have hs := hc.sorted
      have : way wt n 0 ((0 :: T).getLastD 0) ≤ cst wt n (cov (mem (0, 0, n).2.1 (0, 0, n).1) (0 :: T)) := by
        refine cst_le fun i hi => ?_
        refine ⟨(0 :: T).getLastD 0, ?_, hi.2, fun j hj _ => ?_⟩
        · rw [List.getLastD_eq_getLast?, List.getLast?_eq_some_getLast (by simp)]
          exact List.getLast_mem _
        · simp [mem]; omega
      omega
  · simp only at h1 h2
    rcases h2 with h2 | ⟨h0, _⟩
    · exact .base (by omega)
    · simp at h0

/-! ### the upper bound -/
theorem Path.trans {c : Nat} {s u v : V} {k m : Nat} (h : Path wt c s u k) (h' : Path wt c u v m) : Path wt c s v (k + m) := by
  induction h' with
  | refl => exact h
  | step _ e ih => rw [← Nat.add_assoc]; exact .step ih e

theorem Path.one {c : Nat} {u v : V} {d : Nat} (e : E wt c u v d) : Path wt c u v d := by
  have := Path.step (Path.refl (wt := wt) (c := c) (s := u)) e
  simpa using this

theorem path_adv {c S b a : Nat} : ∀ m, a ≤ m → m < b → b ≤ n → Path wt c (a, S, b) (m, S, b) (way wt n a m)
  | 0, h, _, _ => by
    have : a = 0 := by omega
    subst this
    rw [way_same]; exact .refl
  | m + 1, h, h', hb => by
    by_cases e : a = m + 1
    · subst e; rw [way_same]; exact .refl
    · have h1 := path_adv (c := c) (S := S) m (show a ≤ m by omega) (by omega) hb
      rw [way_split (show a ≤ m by omega) (show m ≤ m + 1 by omega), way_one (by omega)]
      exact .step h1 (.adv h')

theorem cnt_eq_of {k : Nat} {S S' : Nat} (h : ∀ j, j < k → S'.testBit j = S.testBit j) : cnt k S'.testBit = cnt k S.testBit := cnt_congr h

theorem upper_part {c0 a b c v : Nat} (hn : n ≤ 7) (h : D wt n a b c v) : ∀ S, a < b → b ≤ n → S < 256 → (∀ j, S.testBit j = true → j < b → j ≤ a) → cnt a S.testBit + c ≤ c0 → pc S ≤ c0 →
    ∃ S' v', Path wt c0 (a, S, b) (a, S', a) v' ∧ v' ≤ v ∧ (∀ j, j < a → S'.testBit j = S.testBit j) ∧ S' < 256 ∧ pc S' ≤ c0 := by
  have put8 : ∀ {S x : Nat}, S < 256 → x < 8 → S ||| 2 ^ x < 256 := fun {S x} hS hx =>
    Nat.or_lt_two_pow (n := 8) hS (Nat.lt_of_lt_of_le (Nat.pow_lt_pow_right (by omega) hx) (Nat.le_refl _))
  have clr8 : ∀ {S i : Nat}, S < 256 → i < 8 → S ^^^ 2 ^ i < 256 := fun {S i} hS hi =>
    Nat.xor_lt_two_pow (n := 8) hS (Nat.lt_of_lt_of_le (Nat.pow_lt_pow_right (by omega) hi) (Nat.le_refl _))
  induction h with
  | @base a b c v hab =>
    intro S h1 h2 h3 h4 h5 h6
    have : b = a + 1 := by omega
    subst this
    exact ⟨S, 0, by simpa using Path.one (wt := wt) (E.rev (wt := wt) (c := c0) (x := a) (S := S) (b := a + 1) rfl), Nat.zero_le _, fun _ _ => rfl, h3, h6⟩
  | @split a b c v m v1 v2 ham hmb hc hd1 hd2 hle ih1 ih2 =>
    intro S h1 h2 h3 h4 h5 h6
    obtain ⟨S1, hp1, hs1, hs1a, hs1b, hs18, hs1c⟩ : ∃ S1, Path wt c0 (a, S, b) (a, S1, b) 0 ∧ (∀ j, j < a → S1.testBit j = S.testBit j) ∧ S1.testBit a = true ∧ (∀ j, S1.testBit j = true → j < b → j ≤ a) ∧ S1 < 256 ∧ pc S1 ≤ c0 := by
      by_cases hSa : S.testBit a = true
      · exact ⟨S, .refl, fun _ _ => rfl, hSa, h4, h3, h6⟩
      · have hSa' : S.testBit a = false := by simpa using hSa
        by_cases hlt : pc S < c0
        · refine ⟨S ||| 2 ^ a, Path.one (.put hSa' hlt), fun j hj => ?_, by simp [bit_put], fun j hj hjb => ?_, put8 h3 (by omega), ?_⟩
          · rw [bit_put]; simp; omega
          · simp only [bit_put, Bool.or_eq_true, decide_eq_true_eq] at hj
            rcases hj with hj | hj
            · exact h4 j hj hjb
            · omega
          · rw [pc_put (by omega) hSa']; omega
        · obtain ⟨i, hi1, hi2, hi3⟩ := exists_of_cnt_lt (a := a) S.testBit 8 (by rw [← pc_eq]; omega)
          have hia : i ≠ a := fun e => by subst e; exact hSa hi3
          refine ⟨(S ^^^ 2 ^ i) ||| 2 ^ a, Path.one (.repl hi3), fun j hj => ?_, by simp [bit_repl], fun j hj hjb => ?_, put8 (clr8 h3 hi2) (by omega), Nat.le_trans (pc_repl hi2 (by omega) hi3) h6⟩
          · have e1 : ¬ i = j := by omega
            have e2 : ¬ a = j := by omega
            simp [bit_repl, e1, e2]
          · simp only [bit_repl, Bool.or_eq_true, decide_eq_true_eq] at hj
            rcases hj with hj | hj
            · by_cases e : i = j
              · subst e; exact h4 i hi3 hjb
              · simp [e] at hj; exact h4 j hj hjb
            · omega
    have hp2 := path_adv (wt := wt) (n := n) (c := c0) (S := S1) (b := b) m (Nat.le_of_lt ham) hmb h2
    have hcnt : cnt m S1.testBit = cnt a S.testBit + 1 := by
      have e1 : cnt (a + 1) S1.testBit = cnt a S.testBit + 1 := by rw [cnt_succ, if_pos hs1a, cnt_eq_of hs1]
      have e2 : cnt m S1.testBit = cnt (a + 1) S1.testBit := by
        refine Nat.le_antisymm (Nat.le_of_not_lt fun hlt => ?_) (cnt_mono _ ham)
        obtain ⟨i, hi1, hi2, hi3⟩ := exists_of_cnt_lt (a := a + 1) S1.testBit m hlt
        have := hs1b i hi3 (by omega)
        omega
      rw [e2, e1]
    obtain ⟨S2, w1, hp3, hw1, hs2, hs28, hs2c⟩ := ih1 S1 hmb h2 hs18 (fun j hj hjb => by have := hs1b j hj hjb; omega) (by omega) hs1c
    have hs2a : S2.testBit a = true := by rw [hs2 a ham]; exact hs1a
    have hp4 : Path wt c0 (m, S2, m) (a, S2, m) 0 := Path.one (.load hs2a)
    obtain ⟨S3, w2, hp5, hw2, hs3, hs38, hs3c⟩ := ih2 S2 ham (by omega) hs28 (fun j hj hjm => by rw [hs2 j hjm] at hj; exact hs1b j hj (by omega)) (by
      have : cnt a S2.testBit = cnt a S.testBit := cnt_congr fun j hj => by rw [hs2 j (by omega), hs1 j hj]
      omega) hs2c
    refine ⟨S3, _, (((hp1.trans hp2).trans hp3).trans hp4).trans hp5, by omega, fun j hj => by rw [hs3 j hj, hs2 j (by omega), hs1 j hj], hs38, hs3c⟩

theorem upper {c v : Nat} (hn : n ≤ 7) (h : D wt n 0 n c v) : ∃ (u : V) (k : Nat), u.2.2 = 0 ∧ Path wt c (0, 0, n) u k ∧ k ≤ v := by
  by_cases h0 : n = 0
  · exact ⟨(0, 0, n), 0, h0, .refl, Nat.zero_le _⟩
  · obtain ⟨S', v', hp, hle, _⟩ := upper_part (c0 := c) hn h 0 (by omega) (Nat.le_refl _) (by omega) (fun j hj => by simp at hj) (by simp [cnt]) (ok_start n c).few
    exact ⟨_, v', rfl, hp, hle⟩

/-- What the recursion over splits finds. -/
def IsSplit (wt : Nat → Nat) (n c : Nat) : Option Nat → Prop
  | some v => D wt n 0 n c v ∧ ∀ v', D wt n 0 n c v' → v ≤ v'
  | none => ∀ v, ¬ D wt n 0 n c v

/-- THE LEAST COST BY THE RECURSION OVER SPLITS IS THE LEAST COST OF ALL WAYS. -/
theorem least_of_split {c : Nat} {r : Option Nat} (hn : n ≤ 7) (h : IsSplit wt n c r) : IsLeast wt c (0, 0, n) r := by
  cases r with
  | none => exact fun v m hv hp => h m (lower hn hp hv)
  | some v =>
    obtain ⟨h1, h2⟩ := h
    obtain ⟨u, k, hu, hp, hk⟩ := upper hn h1
    have h3 := h2 k (lower hn hp hu)
    have : k = v := by omega
    subst this
    exact ⟨⟨u, hu, hp⟩, fun u' m hu' hp' => h2 m (lower hn hp' hu')⟩

end
end Go.Proofs.Ytnnmidfkgjmfmaa.Ck
