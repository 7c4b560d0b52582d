/- Plain: a binary heap in a list, as package container/heap moves it: up and down, each round. No program here. -/
import Derived.Test.YtnnmidfkgjmfmaaCkGraph
namespace Go.Proofs.Ytnnmidfkgjmfmaa.Ck
set_option linter.unusedVariables false
set_option linter.unusedSimpArgs false

abbrev Ent := V × Nat
def e0 : Ent := ((0, 0, 0), 0)

def cs (ys : List Ent) (i : Nat) : Nat := (ys.getD i e0).2

def swp (ys : List Ent) (i j : Nat) : List Ent := (ys.set i (ys.getD j e0)).set j (ys.getD i e0)

theorem length_swp (ys : List Ent) (i j : Nat) : (swp ys i j).length = ys.length := by simp [swp]

theorem getD_swp {ys : List Ent} {i j : Nat} (hi : i < ys.length) (hj : j < ys.length) (k : Nat) : (swp ys i j).getD k e0 = if k = j then ys.getD i e0 else if k = i then ys.getD j e0 else ys.getD k e0 := by
  unfold swp
  simp only [List.getD_eq_getElem?_getD, List.getElem?_set, List.length_set]
  by_cases h1 : j = k
  · subst h1; simp [hj]
  · by_cases h2 : i = k
    · subst h2; simp [h1, hi, Ne.symm h1]
    · simp [h1, h2, Ne.symm h1, Ne.symm h2]

theorem cs_swp {ys : List Ent} {i j : Nat} (hi : i < ys.length) (hj : j < ys.length) (k : Nat) : cs (swp ys i j) k = if k = j then cs ys i else if k = i then cs ys j else cs ys k := by
  unfold cs
  rw [getD_swp hi hj]
  split
  · rfl
  · split <;> rfl

theorem swp_perm {ys : List Ent} {i j : Nat} (hi : i < ys.length) (hj : j < ys.length) : (swp ys i j).Perm ys := by
  have e1 : ys.getD j e0 = ys[j] := by simp [List.getD_eq_getElem?_getD, hj]
  have e2 : ys.getD i e0 = ys[i] := by simp [List.getD_eq_getElem?_getD, hi]
  unfold swp
  rw [e1, e2]
  exact List.set_set_perm hi hj

def HeapOrd (ys : List Ent) (n : Nat) : Prop := ∀ k, 0 < k → k < n → cs ys ((k - 1) / 2) ≤ cs ys k

theorem HeapOrd.root {ys : List Ent} {n : Nat} (h : HeapOrd ys n) : ∀ k, k < n → cs ys 0 ≤ cs ys k := by
  intro k
  induction k using Nat.strongRecOn with
  | _ k ih =>
    intro hk
    by_cases h0 : k = 0
    · subst h0; exact Nat.le_refl _
    · exact Nat.le_trans (ih ((k - 1) / 2) (by omega) (by omega)) (h k (by omega) hk)

structure UpAt (ys : List Ent) (n j : Nat) : Prop where
  ord : ∀ k, 0 < k → k < n → k ≠ j → cs ys ((k - 1) / 2) ≤ cs ys k
  kids : ∀ k, 0 < k → k < n → (k - 1) / 2 = j → 0 < j → cs ys ((j - 1) / 2) ≤ cs ys k

theorem UpAt.done {ys : List Ent} {n j : Nat} (h : UpAt ys n j) (hd : 0 < j → cs ys ((j - 1) / 2) ≤ cs ys j) : HeapOrd ys n := fun k h0 hk => by
  by_cases e : k = j
  · subst e; exact hd h0
  · exact h.ord k h0 hk e

theorem UpAt.step {ys : List Ent} {n j : Nat} (h : UpAt ys n j) (hn : n ≤ ys.length) (h0 : 0 < j) (hj : j < n) (hlt : cs ys j < cs ys ((j - 1) / 2)) : UpAt (swp ys ((j - 1) / 2) j) n ((j - 1) / 2) := by
  have hp : (j - 1) / 2 < j := by omega
  have hs := fun k => cs_swp (ys := ys) (i := (j - 1) / 2) (j := j) (by omega) (by omega) k
  refine ⟨fun k hk0 hk hne => ?_, fun k hk0 hk hpk hp0 => ?_⟩
  · have hord := h.ord k hk0 hk
    have hkids := h.kids k hk0 hk
    rw [hs, hs]
    by_cases e1 : k = j
    · subst e1
      have : (k - 1) / 2 ≠ k := by omega
      simp only [this, if_true, if_false]
      omega
    · by_cases e2 : (k - 1) / 2 = j
      · have := hkids e2 h0
        simp only [e2, e1, hne, if_true, if_false]
        exact this
      · by_cases e3 : (k - 1) / 2 = (j - 1) / 2
        · have := hord e1
          rw [e3] at this
          simp only [e3, e1, hne, if_true, if_false, show ¬ (j - 1) / 2 = j by omega]
          omega
        · simp only [e1, e2, e3, hne, if_false]
          exact hord e1
  · have hpar := h.ord ((j - 1) / 2) hp0 (by omega) (by omega)
    rw [hs, hs]
    have e1 : ¬ ((j - 1) / 2 - 1) / 2 = j := by omega
    have e2 : ¬ ((j - 1) / 2 - 1) / 2 = (j - 1) / 2 := by omega
    simp only [e1, e2, if_false]
    by_cases e3 : k = j
    · simp only [e3, if_true]; exact hpar
    · have e4 : ¬ k = (j - 1) / 2 := by omega
      simp only [e3, e4, if_false]
      have := h.ord k hk0 hk e3
      rw [hpk] at this
      omega

structure DownAt (ys : List Ent) (n i : Nat) : Prop where
  ord : ∀ k, 0 < k → k < n → (k - 1) / 2 ≠ i → cs ys ((k - 1) / 2) ≤ cs ys k
  kids : ∀ k, 0 < k → k < n → (k - 1) / 2 = i → 0 < i → cs ys ((i - 1) / 2) ≤ cs ys k

theorem DownAt.done {ys : List Ent} {n i : Nat} (h : DownAt ys n i) (hd : ∀ k, 0 < k → k < n → (k - 1) / 2 = i → cs ys i ≤ cs ys k) : HeapOrd ys n := fun k h0 hk => by
  by_cases e : (k - 1) / 2 = i
  · rw [e]; exact hd k h0 hk e
  · exact h.ord k h0 hk e

theorem DownAt.step {ys : List Ent} {n i j : Nat} (h : DownAt ys n i) (hn : n ≤ ys.length) (h0 : 0 < j) (hj : j < n) (hp : (j - 1) / 2 = i) (hmin : ∀ k, 0 < k → k < n → (k - 1) / 2 = i → cs ys j ≤ cs ys k) (hlt : cs ys j < cs ys i) :
    DownAt (swp ys i j) n j := by
  have hij : i < j := by omega
  have hs := fun k => cs_swp (ys := ys) (i := i) (j := j) (by omega) (by omega) k
  refine ⟨fun k hk0 hk hne => ?_, fun k hk0 hk hpk _ => ?_⟩
  · rw [hs, hs]
    by_cases e1 : (k - 1) / 2 = i
    · have := hmin k hk0 hk e1
      simp only [e1, if_true, show ¬ i = j by omega, if_false]
      by_cases e2 : k = j
      · simp only [e2, if_true]; omega
      · simp only [e2, if_false, show ¬ k = i by omega]; exact this
    · simp only [e1, hne, if_false]
      by_cases e2 : k = i
      · have := h.kids j h0 hj hp (by omega)
        simp only [e2, if_true, show ¬ i = j by omega, if_false]
        exact this
      · have e3 : ¬ k = j := fun e => e1 (by rw [e]; exact hp)
        simp only [e2, e3, if_false]
        exact h.ord k hk0 hk e1
  · have := h.ord k hk0 hk (by omega)
    rw [hs, hs, hp]
    simp only [show ¬ i = j by omega, if_true, if_false, show ¬ k = j by omega, show ¬ k = i by omega]
    rw [← hpk]; exact this

theorem down_start {ys : List Ent} {n : Nat} (h : HeapOrd ys (n + 1)) (hn : ys.length = n + 1) : DownAt (swp ys 0 n) n 0 := by
  refine ⟨fun k hk0 hk hne => ?_, fun k _ _ _ h0 => by omega⟩
  rw [cs_swp (by omega) (by omega), cs_swp (by omega) (by omega)]
  simp only [show ¬ (k - 1) / 2 = n by omega, hne, show ¬ k = n by omega, show ¬ k = 0 by omega, if_false]
  exact h k hk0 (by omega)

/-- A new entry is laid behind the others. -/
theorem up_start {ys : List Ent} (e : Ent) (h : HeapOrd ys ys.length) : UpAt (ys ++ [e]) (ys.length + 1) ys.length := by
  have hc : ∀ k, k < ys.length → cs (ys ++ [e]) k = cs ys k := fun k hk => by
    unfold cs
    simp only [List.getD_eq_getElem?_getD]
    rw [List.getElem?_append_left hk]
  refine ⟨fun k h0 hk hne => ?_, fun k h0 hk hp hj => by omega⟩
  rw [hc _ (by omega), hc _ (by omega)]
  exact h k h0 (by omega)

end Go.Proofs.Ytnnmidfkgjmfmaa.Ck
