/- Plain: the program's search (a map of costs, a heap of what is to be looked at) finds the least cost of all ways (CkGraph). No program here. -/
import Derived.Test.YtnnmidfkgjmfmaaCkSpec
import Derived.Test.YtnnmidfkgjmfmaaCkHeap
namespace Go.Proofs.Ytnnmidfkgjmfmaa.Ck
set_option linter.unusedVariables false
set_option linter.unusedSimpArgs false

section
variable {wt : Nat → Nat} {n c : Nat}

/-- What one note does: it is taken where it is a gain, and then it stands in the heap. -/
def Rel (best : Best) (ys : List Ent) (e : Ent) (best' : Best) (ys' : List Ent) : Prop :=
  (Gain best e.1 e.2 ∧ best' = upd best e.1 e.2 ∧ ys'.Perm (e :: ys) ∧ HeapOrd ys' ys'.length) ∨ (¬ Gain best e.1 e.2 ∧ best' = best ∧ ys' = ys)

structure Core (wt : Nat → Nat) (n c : Nat) (nb : Nat) (best : Best) (ys : List Ent) : Prop where
  snd : Snd wt c (0, 0, n) best
  bnd : Bnd 1000 best
  zero : ∃ m, best (0, 0, n) = some m ∧ m ≤ 0
  ents : ∀ e ∈ ys, Path wt c (0, 0, n) e.1 e.2 ∧ ∃ m, best e.1 = some m ∧ m ≤ e.2
  heap : HeapOrd ys ys.length
  few : ys.length + pot (1000 * 16384) best ≤ 300000000000
  puts : nb + pot (1000 * 16384) best ≤ 300000000000

def Done (wt : Nat → Nat) (c : Nat) (best : Best) (ys : List Ent) (u : V) (k : Nat) : Prop := (u, k) ∈ ys ∨ (u.2.2 ≠ 0 ∧ Cl wt c best u k)

/-- At the head of a round. -/
structure IInv (wt : Nat → Nat) (n c : Nat) (nb : Nat) (best : Best) (ys : List Ent) : Prop extends Core wt n c nb best ys where
  others : ∀ u k, best u = some k → Done wt c best ys u k

/-- While the states near v are noted; 'sat': what has been noted. -/
structure DInv (wt : Nat → Nat) (n c : Nat) (v : V) (m M : Nat) (sat : List Ent) (nb : Nat) (best : Best) (ys : List Ent) : Prop extends Core wt n c nb best ys where
  here : best v = some m
  others : ∀ u k, best u = some k → u = v ∨ Done wt c best ys u k
  most : 2 * pot (1000 * 16384) best + ys.length ≤ M
  sat : ∀ e ∈ sat, ∃ k', best e.1 = some k' ∧ k' ≤ e.2

theorem Path.dom {u : V} {k : Nat} (hn : n ≤ 7) (hp : Path wt c (0, 0, n) u k) : u ∈ dom := by
  obtain ⟨x, S, b⟩ := u
  exact mem_dom.2 (((ok_start n c).path hn hp).lt hn)

theorem Core.cost {nb : Nat} {best : Best} {ys : List Ent} (h : Core wt n c nb best ys) {e : Ent} (he : e ∈ ys) : ∃ m, best e.1 = some m ∧ m ≤ e.2 := (h.ents e he).2

theorem DInv.relax {v : V} {m M : Nat} {sat : List Ent} {nb : Nat} {best best' : Best} {ys ys' : List Ent} (hn : n ≤ 7) (h : DInv wt n c v m M sat nb best ys) {u : V} {k : Nat} (hp : Path wt c (0, 0, n) u k) (hk : m ≤ k) (hk' : k ≤ m + 1000)
    (hr : Rel best ys (u, k) best' ys') : (Gain best u k → DInv wt n c v m M ((u, k) :: sat) (nb + 1) best' ys') ∧ (¬ Gain best u k → DInv wt n c v m M ((u, k) :: sat) nb best' ys') := by
  have hd := Path.dom hn hp
  rcases hr with ⟨hg, rfl, hperm, hord⟩ | ⟨hg, rfl, rfl⟩
  · refine ⟨fun _ => ?_, fun h' => absurd hg h'⟩
    simp only at hg hperm ⊢
    have hle : Le best (upd best u k) := Le.upd hg
    have huv : u ≠ v := fun e => by subst e; have := hg m h.here; omega
    have hbnd := h.bnd.upd h.here (Nat.le_refl _) hk' hd hg
    have hpot := pot_upd hd hg (hbnd.le (upd_same best u k))
    have hlen : ys'.length = ys.length + 1 := by rw [hperm.length_eq]; rfl
    have hmem : ∀ e, e ∈ ys → e ∈ ys' := fun e he => hperm.mem_iff.2 (List.mem_cons_of_mem _ he)
    refine ⟨⟨h.snd.upd hp, hbnd, ?_, fun e he => ?_, hord, ?_, ?_⟩, ?_, fun u' k' hu' => ?_, ?_, fun e he => ?_⟩
    · obtain ⟨z, hz, hz0⟩ := h.zero
      obtain ⟨z', hz', hle'⟩ := hle _ z hz
      exact ⟨z', hz', by omega⟩
    · rcases List.mem_cons.1 (hperm.mem_iff.1 he) with rfl | he
      · exact ⟨hp, k, upd_same _ _ _, Nat.le_refl _⟩
      · obtain ⟨h1, m', hm', hle'⟩ := h.ents e he
        obtain ⟨m'', hm'', hle''⟩ := hle _ _ hm'
        exact ⟨h1, m'', hm'', by omega⟩
    · have := h.few; omega
    · have := h.puts; omega
    · rw [upd_other (Ne.symm huv)]; exact h.here
    · by_cases e : u' = u
      · subst e
        rw [upd_same] at hu'
        obtain rfl := Option.some.inj hu'
        exact .inr (.inl (hperm.mem_iff.2 (by simp)))
      · rw [upd_other e] at hu'
        rcases h.others u' k' hu' with e' | ho | ⟨ho, ho'⟩
        · exact .inl e'
        · exact .inr (.inl (hmem _ ho))
        · exact .inr (.inr ⟨ho, ho'.mono hle⟩)
    · have := h.most; omega
    · rcases List.mem_cons.1 he with rfl | he
      · exact ⟨k, upd_same _ _ _, Nat.le_refl _⟩
      · obtain ⟨k', hk', hle'⟩ := h.sat e he
        obtain ⟨k'', hk'', hle''⟩ := hle _ _ hk'
        exact ⟨k'', hk'', by omega⟩
  · refine ⟨fun h' => absurd h' hg, fun _ => ⟨h.toCore, h.here, h.others, h.most, fun e he => ?_⟩⟩
    rcases List.mem_cons.1 he with rfl | he
    · exact not_gain hg
    · exact h.sat e he

theorem DInv.relax_any {v : V} {m M : Nat} {sat : List Ent} {nb : Nat} {best best' : Best} {ys ys' : List Ent} (hn : n ≤ 7) (h : DInv wt n c v m M sat nb best ys) {u : V} {k : Nat} (hp : Path wt c (0, 0, n) u k) (hk : m ≤ k) (hk' : k ≤ m + 1000)
    {nb' : Nat} (hr : Rel best ys (u, k) best' ys') (hnb : (Gain best u k → nb' = nb + 1) ∧ (¬ Gain best u k → nb' = nb)) : DInv wt n c v m M ((u, k) :: sat) nb' best' ys' := by
  obtain ⟨h1, h2⟩ := h.relax hn hp hk hk' hr
  by_cases hg : Gain best u k
  · rw [hnb.1 hg]; exact h1 hg
  · rw [hnb.2 hg]; exact h2 hg

/-- The round is over: what is near v has been noted. -/
theorem DInv.over {v : V} {m M : Nat} {sat : List Ent} {nb : Nat} {best : Best} {ys : List Ent} (h : DInv wt n c v m M sat nb best ys) (hv : v.2.2 ≠ 0) (hall : ∀ u d, E wt c v u d → (u, m + d) ∈ sat) : IInv wt n c nb best ys :=
  ⟨h.toCore, fun u k hu => by
    rcases h.others u k hu with e | ho
    · subst e
      rw [h.here] at hu
      obtain rfl := Option.some.inj hu
      refine .inr ⟨hv, fun u' d he => ?_⟩
      exact h.sat _ (hall u' d he)
    · exact ho⟩

/-- What is popped is the least; the others stay. -/
theorem pop_least {ys zs : List Ent} {e : Ent} (h : HeapOrd ys ys.length) (hp : ys.Perm (e :: zs)) (he : ys.getD 0 e0 = e) : ∀ x ∈ zs, e.2 ≤ x.2 := by
  intro x hx
  obtain ⟨k, hk, hx'⟩ := List.getElem_of_mem (hp.mem_iff.2 (List.mem_cons_of_mem _ hx))
  have := h.root k hk
  unfold cs at this
  rw [he] at this
  rw [show ys.getD k e0 = x by simp [List.getD_eq_getElem?_getD, hk, hx']] at this
  exact this

/-- A stale entry is dropped. -/
theorem IInv.stale {nb : Nat} {best : Best} {ys zs : List Ent} {v : V} {m m' : Nat} (h : IInv wt n c nb best ys) (hp : ys.Perm ((v, m) :: zs)) (hz : HeapOrd zs zs.length) (hb : best v = some m') (hlt : m' < m) : IInv wt n c nb best zs := by
  have hlen : ys.length = zs.length + 1 := by rw [hp.length_eq]; rfl
  refine ⟨⟨h.snd, h.bnd, h.zero, fun e he => h.ents e (hp.mem_iff.2 (List.mem_cons_of_mem _ he)), hz, ?_, h.puts⟩, fun u k hu => ?_⟩
  · have := h.few; omega
  · rcases h.others u k hu with ho | ho
    · rcases List.mem_cons.1 (hp.mem_iff.1 ho) with e | ho
      · cases e
        rw [hb] at hu
        have := Option.some.inj hu
        omega
      · exact .inl ho
    · exact .inr ho

/-- One that is not stale is gone over. -/
theorem IInv.take {nb : Nat} {best : Best} {ys zs : List Ent} {v : V} {m : Nat} (h : IInv wt n c nb best ys) (hp : ys.Perm ((v, m) :: zs)) (hz : HeapOrd zs zs.length) (hb : best v = some m) :
    DInv wt n c v m (2 * pot (1000 * 16384) best + zs.length) [] nb best zs := by
  have hlen : ys.length = zs.length + 1 := by rw [hp.length_eq]; rfl
  refine ⟨⟨h.snd, h.bnd, h.zero, fun e he => h.ents e (hp.mem_iff.2 (List.mem_cons_of_mem _ he)), hz, ?_, h.puts⟩, hb, fun u k hu => ?_, Nat.le_refl _, fun e he => by cases he⟩
  · have := h.few; omega
  · rcases h.others u k hu with ho | ho
    · rcases List.mem_cons.1 (hp.mem_iff.1 ho) with e | ho
      · cases e; exact .inl rfl
      · exact .inr (.inl ho)
    · exact .inr (.inr ho)

theorem IInv.found {nb : Nat} {best : Best} {ys zs : List Ent} {v : V} {m : Nat} (h : IInv wt n c nb best ys) (hp : ys.Perm ((v, m) :: zs)) (hz : ∀ x ∈ zs, m ≤ x.2) (hb : best v = some m) (hv : v.2.2 = 0) : IsLeast wt c (0, 0, n) (some m) := by
  refine ⟨⟨v, hv, h.snd v m hb⟩, fun u k hu hpu => Nat.le_of_not_lt fun hlt => ?_⟩
  have hno : ∀ u k, best u = some k → k < m → u.2.2 ≠ 0 ∧ Cl wt c best u k := fun u k hu' hk => by
    rcases h.others u k hu' with ho | ho
    · rcases List.mem_cons.1 (hp.mem_iff.1 ho) with e | ho
      · cases e; omega
      · have := hz _ ho
        simp only at this
        omega
    · exact ho
  obtain ⟨k', hk', hle⟩ := path_best (L := m) h.zero (fun u k hu' hk => (hno u k hu' hk).2) hpu hlt
  exact (hno u k' hk' (by omega)).1 hu

theorem IInv.empty {nb : Nat} {best : Best} (h : IInv wt n c nb best []) : IsLeast wt c (0, 0, n) none := by
  intro u k hu hp
  have hno : ∀ u k, best u = some k → u.2.2 ≠ 0 ∧ Cl wt c best u k := fun u k hu' => by
    rcases h.others u k hu' with ho | ho
    · cases ho
    · exact ho
  obtain ⟨k', hk', hle⟩ := path_best (L := k + 1) h.zero (fun u k hu' _ => (hno u k hu').2) hp (by omega)
  exact (hno u k' hk').1 hu

theorem iinv_start (hn : n ≤ 7) : IInv wt n c 1 (upd (fun _ => none) (0, 0, n) 0) [((0, 0, n), 0)] := by
  have hd : ((0, 0, n) : V) ∈ dom := mem_dom.2 ⟨by omega, by omega, by omega⟩
  have hone : ∀ u k, upd (fun _ => none) (0, 0, n) 0 u = some k → u = (0, 0, n) ∧ k = 0 := fun u k hu => by
    by_cases e : u = (0, 0, n)
    · subst e
      rw [upd_same] at hu
      exact ⟨rfl, (Option.some.inj hu).symm⟩
    · rw [upd_other e] at hu; cases hu
  have hbnd : Bnd 1000 (upd (fun _ => none) (0, 0, n) 0) := ⟨fun u k hu => by obtain ⟨rfl, rfl⟩ := hone u k hu; exact hd, fun u k hu => by obtain ⟨rfl, rfl⟩ := hone u k hu; exact Nat.zero_le _⟩
  have hpot := pot_le hbnd
  refine ⟨⟨fun u k hu => by obtain ⟨rfl, rfl⟩ := hone u k hu; exact .refl, hbnd, ⟨0, upd_same _ _ _, Nat.le_refl _⟩, fun e he => ?_, fun k h0 hk => ?_, ?_, ?_⟩, fun u k hu => ?_⟩
  · simp only [List.mem_singleton] at he
    subst he
    exact ⟨.refl, 0, upd_same _ _ _, Nat.le_refl _⟩
  · simp only [List.length_singleton] at hk; omega
  · simp only [List.length_singleton]; omega
  · omega
  · obtain ⟨rfl, rfl⟩ := hone u k hu
    exact .inl (by simp)

end
end Go.Proofs.Ytnnmidfkgjmfmaa.Ck
