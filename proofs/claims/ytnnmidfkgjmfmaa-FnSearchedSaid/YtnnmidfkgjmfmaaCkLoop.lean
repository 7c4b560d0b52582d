/- The program's search: its state between the closure's calls, and at the head of a round. -/
import Derived.Test.YtnnmidfkgjmfmaaCkRegion
namespace Go.Proofs.Ytnnmidfkgjmfmaa.Ck
open Go.RowKit Go.Proofs.YtnnmidfkgjmfmaaW.PrintWords Go.Proofs.YtnnmidfkgjmfmaaW.PrintLast Go.Proofs.YtnnmidfkgjmfmaaW.PrintMore
open Go.Proofs.Ytnnmidfkgjmfmaa.PFnExactSearchCost
open Go.Maps
set_option linter.unusedVariables false
set_option linter.unusedSimpArgs false

/-- At the head of a round. -/
structure HeadI (w2 : World) (wt : Nat → Nat) (n c : Nat) (pb po bm f : Nat) (gk nb : Nat) (best : Best) (ys : List Ent) (g cap : Nat) (w : World) : Prop where
  cw : CW w2.heap.size w pb po bm f nb best ys g cap
  inv : IInv wt n c nb best ys
  bel : Below w2.heap.size w2 w
  most : 2 * pot (1000 * 16384) best + ys.length < gk

/-- While the states near (x, S, b) are noted; block h holds it. -/
structure MidI (w2 : World) (wt : Nat → Nat) (n c : Nat) (pb po bm f : Nat) (h x S b : Nat) (m M : Nat) (sat : List Ent) (nb : Nat) (best : Best) (ys : List Ent) (g cap : Nat) (w : World) : Prop where
  cw : CW w2.heap.size w pb po bm f nb best ys g cap
  at_ : w.heap[h]? = some (.cells #[.int .i64 (x : Int), .int .i64 (S : Int), .int .i64 (b : Int)] 41 (0, 0))
  dinv : DInv wt n c (x, S, b) m M sat nb best ys
  bel : Below w2.heap.size w2 w

def MidP (w2 : World) (wt : Nat → Nat) (n c : Nat) (pb po bm f : Nat) (h x S b : Nat) (m M : Nat) (sat : List Ent) (w : World) : Prop :=
  ∃ nb best ys g cap, MidI w2 wt n c pb po bm f h x S b m M sat nb best ys g cap w

theorem MidP.drewN {w2 : World} {wt : Nat → Nat} {n c pb po bm f h x S b m M : Nat} {sat : List Ent} {w : World} (k : MidP w2 wt n c pb po bm f h x S b m M sat w) (d : Nat) : MidP w2 wt n c pb po bm f h x S b m M sat (w.drewN d) := by
  obtain ⟨nb, best, ys, g, cap, h1, h2, h3, h4⟩ := k
  exact ⟨nb, best, ys, g, cap, h1.drewN d, h2, h3, pw_below_drewN h4 d⟩

theorem MidP.drew {w2 : World} {wt : Nat → Nat} {n c pb po bm f h x S b m M : Nat} {sat : List Ent} {w : World} (k : MidP w2 wt n c pb po bm f h x S b m M sat w) : MidP w2 wt n c pb po bm f h x S b m M sat w.drew := k.drewN 1

theorem MidP.cells {w2 : World} {wt : Nat → Nat} {n c pb po bm f h x S b m M : Nat} {sat : List Ent} {w : World} (k : MidP w2 wt n c pb po bm f h x S b m M sat w) :
    w.cell? ⟨h, 0, none⟩ = some (.int .i64 (x : Int)) ∧ w.cell? ⟨h, 1, none⟩ = some (.int .i64 (S : Int)) ∧ w.cell? ⟨h, 2, none⟩ = some (.int .i64 (b : Int)) := by
  obtain ⟨nb, best, ys, g, cap, h1, h2, h3, h4⟩ := k
  exact ⟨by rw [blk_cell h2]; rfl, by rw [blk_cell h2]; rfl, by rw [blk_cell h2]; rfl⟩

/-- The closure between. -/
theorem MidP.call {w2 : World} {wt : Nat → Nat} {n c pb po bm f h x S b m M : Nat} {sat : List Ent} {w : World} (hn : n ≤ 7) (hk : MidP w2 wt n c pb po bm f h x S b m M sat w) (hle : w2.heap.size ≤ h ∨ True) (ux uS ub k : Nat) (xi Si bi ki : Int)
    (ex : xi = (ux : Int)) (eS : Si = (uS : Int)) (eb : bi = (ub : Int)) (ek : ki = (k : Int)) (hp : Path wt c (0, 0, n) (ux, uS, ub) k) (h1 : m ≤ k) (h2 : k ≤ m + 1000) (hkk : k ≤ 1000000000) :
    Calls Try.prog 20 #[.agg #[.int .i64 xi, .int .i64 Si, .int .i64 bi], .int .i64 ki, .pointer (some ⟨pb, 0, none⟩), .pointer (some ⟨po, 0, none⟩)] w fun e w' =>
      e = .returned (.tuple #[]) ∧ MidP w2 wt n c pb po bm f h x S b m M (((ux, uS, ub), k) :: sat) w' := by
  subst ex eS eb ek
  obtain ⟨nb, best, ys, g, cap, hcw, hat, hd, hb⟩ := hk
  have hf := hd.few
  have hpu := hd.puts
  refine (closure_calls w2.heap.size w pb po bm f nb best ys g cap (ux, uS, ub) k hcw (Path.dom hn hp) hd.heap (by omega) (by omega) hkk).mono ?_
  rintro e w' ⟨he, best', ys', nb', g', cap', hcw', hrel, hnb, hb', hkeep⟩
  refine ⟨he, nb', best', ys', g', cap', hcw', ?_, hd.relax_any hn hp h1 h2 hrel hnb, hb.trans hb'⟩
  obtain ⟨_, _, cur, hcur⟩ := own_block_type hcw.fr.own (g := g) rfl
  exact (hkeep.2 h (blk_lt hat) (blk_ne hat hcw.fr.blk (by decide)) (blk_ne hat hcur (by decide)) (Ne.symm (hcw.map.ne hat))).trans hat

/-- The round is over. -/
theorem MidP.over {w2 : World} {wt : Nat → Nat} {n c pb po bm f h x S b m M : Nat} {sat : List Ent} {w : World} (hk : MidP w2 wt n c pb po bm f h x S b m M sat w) (hb : b ≠ 0) (hall : ∀ u d, E wt c (x, S, b) u d → (u, m + d) ∈ sat) (gk : Nat) (hM : M < gk) :
    ∃ nb best ys g cap, HeadI w2 wt n c pb po bm f gk nb best ys g cap w := by
  obtain ⟨nb, best, ys, g, cap, hcw, hat, hd, hbel⟩ := hk
  exact ⟨nb, best, ys, g, cap, hcw, hd.over hb hall, hbel, by have := hd.most; omega⟩

/-- Behind container/heap's Pop. -/
theorem HeadI.popped {w2 : World} {wt : Nat → Nat} {n c pb po bm f gk nb g cap : Nat} {best : Best} {ys : List Ent} {w w' : World} {e : Ending} (h : HeadI w2 wt n c pb po bm f gk nb best ys g cap w) (hp : HPop w2.heap.size w f ys g e w') :
    ∃ v m zs cap', e = .returned (.iface 45 (ev (v, m))) ∧ ys.Perm ((v, m) :: zs) ∧ ys.getD 0 e0 = (v, m) ∧ HeapOrd zs zs.length ∧ CW w2.heap.size w' pb po bm f nb best zs g cap' ∧ Below w2.heap.size w2 w' := by
  obtain ⟨⟨v, m⟩, zs, cap', he, hperm, htop, hord, hfr, hb, hk⟩ := hp
  obtain ⟨n1, n2, _, _, n5, n6, n7, n8, _⟩ := h.cw.ne
  have hne : ∀ i, i ≠ g → some i ≠ some g := fun i hi e => hi (Option.some.inj e)
  exact ⟨v, m, zs, cap', he, hperm, htop, hord, ⟨hk.blk h.cw.pbk n5 (hne _ n6), hk.blk h.cw.pok n7 (hne _ n8), h.cw.map.block (hk.2 bm h.cw.map.lt n1 (hne _ n2)), hfr, h.cw.bge⟩, h.bel.trans hb⟩

end Go.Proofs.Ytnnmidfkgjmfmaa.Ck
