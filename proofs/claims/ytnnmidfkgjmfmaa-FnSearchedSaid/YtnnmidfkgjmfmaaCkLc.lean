/- Plain: the recursion over splits as the planner goes through it. -/
import Derived.Test.YtnnmidfkgjmfmaaCkOpt
import Derived.Test.YtnnmidfkgjmfmaaCkStep
namespace Go.Proofs.Ytnnmidfkgjmfmaa.Ck
set_option linter.unusedVariables false
set_option linter.unusedSimpArgs false

section
variable (wt : Nat → Nat) (n : Nat)

/-- What the planner has to find for a part. -/
def Lc (a b c : Nat) : Option Nat → Prop
  | some v => D wt n a b c v ∧ ∀ v', D wt n a b c v' → v ≤ v'
  | none => ∀ v, ¬ D wt n a b c v

def encO : Option Nat → Int
  | some v => (v : Int)
  | none => -1

theorem encO_some (v : Nat) : encO (some v) = (v : Int) := rfl
theorem encO_none : encO none = -1 := rfl

/-- The best of the places ahead of m. -/
def Pt (a b c m : Nat) : Option Nat → Prop
  | some v => (∃ m' v1 v2, a < m' ∧ m' < m ∧ D wt n m' b (c - 1) v1 ∧ D wt n a m' c v2 ∧ way wt n a m' + v1 + v2 = v) ∧ ∀ m' v1 v2, a < m' → m' < m → D wt n m' b (c - 1) v1 → D wt n a m' c v2 → v ≤ way wt n a m' + v1 + v2
  | none => ∀ m' v1 v2, a < m' → m' < m → D wt n m' b (c - 1) v1 → D wt n a m' c v2 → False

def stepO (r : Option Nat) (y : Nat) : Option Nat → Option Nat → Option Nat
  | some x, some z => match r with
    | none => some (y + x + z)
    | some v => if y + x + z < v then some (y + x + z) else some v
  | _, _ => r

end
section
variable {wt : Nat → Nat} {n : Nat}

theorem Lc.split {c : Nat} {r : Option Nat} (h : Lc wt n 0 n c r) : IsSplit wt n c r := by
  cases r with
  | none => exact h
  | some v => exact h

theorem Lc.unique {a b c : Nat} {r r' : Option Nat} (h : Lc wt n a b c r) (h' : Lc wt n a b c r') : r = r' := by
  cases r with
  | none =>
    cases r' with
    | none => rfl
    | some v => exact absurd h'.1 (h v)
  | some v =>
    cases r' with
    | none => exact absurd h.1 (h' v)
    | some v' => exact congrArg some (Nat.le_antisymm (h.2 _ h'.1) (h'.2 _ h.1))

theorem Lc.base {a b c : Nat} (h : b ≤ a + 1) : Lc wt n a b c (some 0) := ⟨.base h, fun _ _ => Nat.zero_le _⟩

theorem Lc.none_ {a b : Nat} (h : a + 1 < b) : Lc wt n a b 0 none := by
  intro v hd
  cases hd with
  | base h1 => omega
  | split _ _ h3 => omega

theorem Pt.start (a b c : Nat) : Pt wt n a b c (a + 1) none := fun m' v1 v2 h1 h2 => by omega

theorem Pt.fin {a b c : Nat} {r : Option Nat} (h : Pt wt n a b c b r) (hab : a + 1 < b) (hc : 1 ≤ c) : Lc wt n a b c r := by
  cases r with
  | none =>
    intro v hd
    cases hd with
    | base h1 => omega
    | split h1 h2 _ h4 h5 _ => exact h _ _ _ h1 h2 h4 h5
  | some v =>
    obtain ⟨⟨m', v1, v2, h1, h2, h3, h4, h5⟩, h6⟩ := h
    refine ⟨.split h1 h2 hc h3 h4 (Nat.le_of_eq h5), fun v' hd => ?_⟩
    cases hd with
    | base h1 => omega
    | split k1 k2 _ k4 k5 k6 => exact Nat.le_trans (h6 _ _ _ k1 k2 k4 k5) k6

theorem Pt.step {a b c m : Nat} {r r1 r2 : Option Nat} (h : Pt wt n a b c m r) (ham : a < m) (h1 : Lc wt n m b (c - 1) r1) (h2 : Lc wt n a m c r2) : Pt wt n a b c (m + 1) (stepO r (way wt n a m) r1 r2) := by
  have same : (∀ v1 v2, D wt n m b (c - 1) v1 → D wt n a m c v2 → False) → Pt wt n a b c (m + 1) r := by
    intro hno
    cases r with
    | none =>
      intro m' v1 v2 k1 k2 k3 k4
      rcases Nat.lt_or_eq_of_le (Nat.le_of_lt_succ k2) with k | rfl
      · exact h _ _ _ k1 k k3 k4
      · exact hno _ _ k3 k4
    | some v =>
      obtain ⟨⟨m', v1, v2, g1, g2, g3⟩, g⟩ := h
      refine ⟨⟨m', v1, v2, g1, by omega, g3⟩, fun m' v1 v2 k1 k2 k3 k4 => ?_⟩
      rcases Nat.lt_or_eq_of_le (Nat.le_of_lt_succ k2) with k | rfl
      · exact g _ _ _ k1 k k3 k4
      · exact absurd k4 (fun k4 => hno _ _ k3 k4)
  cases r1 with
  | none => exact same fun v1 v2 k _ => h1 _ k
  | some x =>
    cases r2 with
    | none => exact same fun v1 v2 _ k => h2 _ k
    | some z =>
      obtain ⟨d1, l1⟩ := h1
      obtain ⟨d2, l2⟩ := h2
      cases r with
      | none =>
        refine ⟨⟨m, x, z, ham, Nat.lt_succ_self _, d1, d2, rfl⟩, fun m' v1 v2 k1 k2 k3 k4 => ?_⟩
        rcases Nat.lt_or_eq_of_le (Nat.le_of_lt_succ k2) with k | rfl
        · exact absurd k4 (fun k4 => h _ _ _ k1 k k3 k4)
        · have := l1 _ k3; have := l2 _ k4; omega
      | some v =>
        obtain ⟨⟨m', v1, v2, g1, g2, g3⟩, g⟩ := h
        unfold stepO
        simp only
        split
        · rename_i hlt
          refine ⟨⟨m, x, z, ham, Nat.lt_succ_self _, d1, d2, rfl⟩, fun m' v1 v2 k1 k2 k3 k4 => ?_⟩
          rcases Nat.lt_or_eq_of_le (Nat.le_of_lt_succ k2) with k | rfl
          · have := g _ _ _ k1 k k3 k4; omega
          · have := l1 _ k3; have := l2 _ k4; omega
        · rename_i hge
          refine ⟨⟨m', v1, v2, g1, by omega, g3⟩, fun m' v1 v2 k1 k2 k3 k4 => ?_⟩
          rcases Nat.lt_or_eq_of_le (Nat.le_of_lt_succ k2) with k | rfl
          · exact g _ _ _ k1 k k3 k4
          · have := l1 _ k3; have := l2 _ k4; omega

theorem way_le (hw : ∀ i, wt i ≤ 1000) (a : Nat) : ∀ m, a ≤ m → m ≤ n → way wt n a m ≤ 1000 * (m - a) := by
  intro m
  induction m with
  | zero =>
    intro h _
    obtain rfl : a = 0 := by omega
    rw [way_same]
    omega
  | succ m ih =>
    intro h hm
    rcases Nat.lt_or_eq_of_le h with h | rfl
    · have h1 := ih (by omega) (by omega)
      have h2 := way_split (wt := wt) (n := n) (show a ≤ m by omega) (show m ≤ m + 1 by omega)
      have h3 := way_one (wt := wt) (n := n) (x := m) (by omega)
      have h4 := hw m
      omega
    · rw [way_same]
      omega

theorem sq_le {x y : Nat} (hx : 1 ≤ x) (hy : 1 ≤ y) : x + y * y + x * x ≤ (x + y) * (x + y) := by
  have h1 : (x + y) * (x + y) = x * x + x * y + (x * y + y * y) := by
    rw [Nat.add_mul, Nat.mul_add, Nat.mul_add, Nat.mul_comm y x]
  have h2 : x * 1 ≤ x * y := Nat.mul_le_mul_left x hy
  omega

theorem D.bounded {a b c v : Nat} (hw : ∀ i, wt i ≤ 1000) (h : D wt n a b c v) (hb : b ≤ n) : ∃ v', D wt n a b c v' ∧ v' ≤ 1000 * ((b - a) * (b - a)) := by
  induction h with
  | base h => exact ⟨0, .base h, Nat.zero_le _⟩
  | @split a b c v m v1 v2 h1 h2 h3 _ _ _ ih1 ih2 =>
    obtain ⟨x1, d1, l1⟩ := ih1 hb
    obtain ⟨x2, d2, l2⟩ := ih2 (by omega)
    refine ⟨_, .split h1 h2 h3 d1 d2 (Nat.le_refl _), ?_⟩
    have h4 := way_le (wt := wt) (n := n) hw a m (by omega) (by omega)
    have h5 := sq_le (x := m - a) (y := b - m) (by omega) (by omega)
    rw [show m - a + (b - m) = b - a by omega] at h5
    generalize (b - m) * (b - m) = p at *
    generalize (m - a) * (m - a) = q at *
    generalize (b - a) * (b - a) = s at *
    omega

theorem Lc.le {a b c v : Nat} (hw : ∀ i, wt i ≤ 1000) (hn : n ≤ 7) (h : Lc wt n a b c (some v)) (hb : b ≤ n) : v ≤ 49000 := by
  obtain ⟨v', h1, h2⟩ := h.1.bounded hw hb
  have h3 := h.2 _ h1
  have h4 : (b - a) * (b - a) ≤ 7 * 7 := Nat.mul_le_mul (by omega) (by omega)
  omega

theorem way_le7 (hw : ∀ i, wt i ≤ 1000) (hn : n ≤ 7) {a m : Nat} (h : a ≤ m) (hm : m ≤ n) : way wt n a m ≤ 7000 := by
  have := way_le (wt := wt) (n := n) hw a m h hm
  omega

theorem way_next {a m : Nat} (h : a ≤ m) (hm : m < n) : way wt n a (m + 1) = way wt n a m + wt m := by
  rw [way_split (wt := wt) (n := n) h (show m ≤ m + 1 by omega), way_one hm]

theorem Pt.le {a b c m v : Nat} (h : Pt wt n a b c m (some v)) : ∃ m' v1 v2, a < m' ∧ m' < m ∧ D wt n m' b (c - 1) v1 ∧ D wt n a m' c v2 ∧ way wt n a m' + v1 + v2 = v := h.1

end

theorem stepO_none (r : Option Nat) (y : Nat) (r2 : Option Nat) : stepO r y none r2 = r := by cases r2 <;> rfl
theorem stepO_none' (r : Option Nat) (y x : Nat) : stepO r y (some x) none = r := rfl
theorem stepO_first (y x z : Nat) : stepO none y (some x) (some z) = some (y + x + z) := rfl
theorem stepO_yes {y x z v : Nat} (h : y + x + z < v) : stepO (some v) y (some x) (some z) = some (y + x + z) := by simp [stepO, h]
theorem stepO_no {y x z v : Nat} (h : ¬ y + x + z < v) : stepO (some v) y (some x) (some z) = some v := by simp [stepO, h]

/-- The best so far is no dearer than the least of a place's. -/
theorem Pt.bound {wt : Nat → Nat} {n a b c m v : Nat} (hw : ∀ i, wt i ≤ 1000) (hn : n ≤ 7) (hb : b ≤ n) (hmb : m ≤ b + 1) (h : Pt wt n a b c m (some v)) : v ≤ 105000 := by
  obtain ⟨⟨m', v1, v2, g1, g2, g3, g4, _⟩, g5⟩ := h
  have hm : m' ≤ b := by omega
  · obtain ⟨x1, d1, l1⟩ := g3.bounded hw hb
    obtain ⟨x2, d2, l2⟩ := g4.bounded hw (by omega)
    have h1 := g5 m' x1 x2 g1 g2 d1 d2
    have h2 := way_le7 (wt := wt) (n := n) hw hn (show a ≤ m' by omega) (by omega)
    have h3 : (b - m') * (b - m') ≤ 7 * 7 := Nat.mul_le_mul (by omega) (by omega)
    have h4 : (m' - a) * (m' - a) ≤ 7 * 7 := Nat.mul_le_mul (by omega) (by omega)
    omega

end Go.Proofs.Ytnnmidfkgjmfmaa.Ck
