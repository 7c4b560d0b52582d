/- The reference's search in memory. -/
import Derived.Test.YtnnmidfkgjmfmaaPFnExactSearchCostx1
import Derived.Test.YtnnmidfkgjmfmaaCkSpec
namespace Go.Proofs.Ytnnmidfkgjmfmaa.Ck
open Go.RowKit Go.Proofs.YtnnmidfkgjmfmaaW.PrintWords Go.Proofs.YtnnmidfkgjmfmaaW.PrintLast Go.Proofs.YtnnmidfkgjmfmaaW.PrintMore
open Go.Proofs.Ytnnmidfkgjmfmaa.PFnExactSearchCost
set_option linter.unusedVariables false
set_option linter.unusedSimpArgs false

theorem ret_int {k : IntKind} {a b : Int} (h : a = b) : Ending.returned (.int k a) = .returned (.int k b) := by rw [h]

def ints (B : List Int) : List Value := B.map (Value.int .i64)
def nats (q : List Nat) : List Value := q.map fun (k : Nat) => Value.int .i64 (k : Int)

theorem nats_append (q r : List Nat) : nats (q ++ r) = nats q ++ nats r := by simp [nats]
theorem ints_set (B : List Int) (k : Nat) (z : Int) : ints (B.set k z) = (ints B).set k (.int .i64 z) := by simp [ints, List.map_set]

/-- The reference's search in memory: block g; vb: the list of costs; vq: the queue. -/
structure SSv (base : Nat) (w : World) (g : Nat) (wv : Value) (sl : Int) (B : List Int) (q : List Nat) (vb vq : Value) : Prop where
  blk : w.heap[g]? = some (.cells #[wv, .int .i64 sl, vb, vq] 36 (0, 0))
  ge : base ≤ g
  best : w.ownsRow base 2 1 vb B.length (ints B)
  queue : w.ownsRow base 2 1 vq q.length (nats q)
  apart : vb.ownBlock = none ∨ vb.ownBlock ≠ vq.ownBlock

def SS (base : Nat) (w : World) (g : Nat) (wv : Value) (sl : Int) (B : List Int) (q : List Nat) : Prop := ∃ vb vq, SSv base w g wv sl B q vb vq

theorem ownsRow_shape {w : World} {base : Nat} {e : TypeId} {v : Value} {n : Nat} {xs : List Value} (h : w.ownsRow base e 1 v n xs) (hn : 0 < n) : ∃ g cap, v = .slice (some ⟨g, 0, none⟩) n cap ∧ n ≤ cap ∧ cap ≤ maxLen ∧ base ≤ g ∧ ∃ cur, w.heap[g]? = some (.cells cur e (0, 0)) := by
  rcases h.2 with ⟨_, h0⟩ | ⟨g, cap, cur, hv, hb, hg, hle, hm, _, _⟩
  · omega
  · exact ⟨g, cap, hv, hle, hm, hb, cur, hg⟩

theorem own_block_type {w : World} {base : Nat} {e : TypeId} {v : Value} {n sz : Nat} {xs : List Value} (h : w.ownsRow base e sz v n xs) {g : Nat} (hg : v.ownBlock = some g) : base ≤ g ∧ g < w.heap.size ∧ ∃ cur, w.heap[g]? = some (.cells cur e (0, 0)) := by
  rcases h.2 with ⟨hv, _⟩ | ⟨g', cap, cur, hv, hb, hg', _⟩
  · subst hv; simp [Value.ownBlock] at hg
  · subst hv
    simp [Value.ownBlock] at hg
    subst hg
    exact ⟨hb, blk_lt hg', cur, hg'⟩

theorem own_ne_blk {w : World} {base : Nat} {e : TypeId} {v : Value} {n sz : Nat} {xs : List Value} (h : w.ownsRow base e sz v n xs) {g : Nat} {cs : Array Value} {t : TypeId} (hb : w.heap[g]? = some (.cells cs t (0, 0))) (ht : t ≠ e) : v.ownBlock ≠ some g := by
  intro hg
  obtain ⟨_, _, cur, hc⟩ := own_block_type h hg
  rw [hb] at hc
  injection hc with hc
  injection hc with _ hc
  exact ht hc

end Go.Proofs.Ytnnmidfkgjmfmaa.Ck
