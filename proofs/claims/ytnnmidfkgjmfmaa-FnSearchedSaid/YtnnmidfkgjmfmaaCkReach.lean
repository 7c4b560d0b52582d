/- The reference's 'reach': one entry is noted. -/
import Derived.Test.YtnnmidfkgjmfmaaCkMem
import Derived.Lib.Hide
namespace Go.Proofs.Ytnnmidfkgjmfmaa.Ck
open Go.RowKit Go.Proofs.YtnnmidfkgjmfmaaW.PrintWords Go.Proofs.YtnnmidfkgjmfmaaW.PrintLast Go.Proofs.YtnnmidfkgjmfmaaW.PrintMore
open Go.Proofs.Ytnnmidfkgjmfmaa.PFnExactSearchCost
set_option linter.unusedVariables false
set_option linter.unusedSimpArgs false

theorem key_calls (b x S : Nat) (w : World) (hb : b < 8) (hx : x < 8) (hS : S < 256) :
    Calls Try.prog 29 #[.int .i64 b, .int .i64 x, .int .i64 S] w fun e w' => e = .returned (.int .i64 ((key (x, S, b) : Nat) : Int)) ∧ w' = w := by
  go_enter Try.func29, Try.ntmps29
  go_wp2
  go_ret
  refine ⟨ret_int (by simp only [key]; omega), rfl⟩

set_option maxHeartbeats 2000000 in
/-- It is a gain. -/
theorem reach_gain (base : Nat) (w : World) (g : Nat) (wv : Value) (sl : Int) (B : List Int) (q : List Nat) (b x S k : Nat) (h : SS base w g wv sl B q) (hb : b < 8) (hx : x < 8) (hS : S < 256) (hB : B.length = 16384) (hq : q.length ≤ 3000000000000)
    (hg : B.getD (key (x, S, b)) (-1) < 0 ∨ (k : Int) < B.getD (key (x, S, b)) (-1)) :
    Calls Try.prog 15 #[.pointer (some ⟨g, 0, none⟩), .int .i64 b, .int .i64 x, .int .i64 S, .int .i64 k] w fun e w' => e = .returned (.tuple #[]) ∧ SS base w' g wv sl (B.set (key (x, S, b)) k) (q ++ [key (x, S, b)]) ∧ Below base w w' := by
  obtain ⟨vb, vq, H⟩ := h
  obtain ⟨gb, cb, rfl, hlc, hcm, hgb, cur, hcur⟩ := ownsRow_shape H.best (by omega)
  have hk : key (x, S, b) < 16384 := by simp only [key]; omega
  have hkey := fun w => key_calls b x S w hb hx hS
  generalize key (x, S, b) = K at *
  have c2 : w.cell? ⟨g, 2, none⟩ = some (.slice (some ⟨gb, 0, none⟩) B.length cb) := by rw [blk_cell H.blk]; rfl
  have ck : w.cell? ⟨gb, K, none⟩ = some (.int .i64 (B.getD K (-1))) := by
    rw [H.best.cellAt K (by omega)]
    simp [ints, List.getD_eq_getElem?_getD, hB, hk]
  have fk : w.frozen? ⟨gb, K, none⟩ = false := H.best.frozenAt K
  have hne : g ≠ gb := blk_ne H.blk hcur (by decide)
  -- behind the first store
  have H1 : SSv base (w.setCell ⟨gb, K, none⟩ (.int .i64 (k : Int))) g wv sl (B.set K (k : Int)) q (.slice (some ⟨gb, 0, none⟩) B.length cb) vq := by
    refine ⟨blk_far H.blk hne _, H.ge, ?_, ?_, H.apart⟩
    · have := (H.best.stored K (.int .i64 (k : Int))).1
      rw [ints_set]
      simpa using this
    · exact own_setCell H.queue (fun e => by
        rcases H.apart with ha | ha
        · simp [Value.ownBlock] at ha
        · exact ha (by simpa [Value.ownBlock] using e)) _
  have b1 : Below base w (w.setCell ⟨gb, K, none⟩ (.int .i64 (k : Int))) := (Below.refl _ _).setCell hgb _
  have c3 : (w.setCell ⟨gb, K, none⟩ (.int .i64 (k : Int))).cell? ⟨g, 3, none⟩ = some vq := by rw [blk_cell H1.blk]; rfl
  generalize hz : B.getD K (-1) = z at *
  have Hz := Lib.hid hz; clear hz
  have HH := Lib.hid H; clear H
  have HH1 := Lib.hid H1; clear H1
  have HB := Lib.hid hB; clear hB
  have Hc := Lib.hid hcur; clear hcur
  have hKB : K < B.length := by rw [HB.out]; exact hk
  have hgs : g < w.heap.size := blk_lt HH.out.blk
  have hgb' : gb < w.heap.size := blk_lt Hc.out
  have fin : ∀ (v' : Value) (w1 : World), w1.ownsRow base 2 1 v' (nats q ++ [Value.int .i64 (K : Int)]).length (nats q ++ [Value.int .i64 (K : Int)]) → Below base w w1 → (w.setCell ⟨gb, K, none⟩ (.int .i64 (k : Int))).grownBy w1 vq.ownBlock →
      (v'.ownBlock = vq.ownBlock ∨ ∃ b, v'.ownBlock = some b ∧ (w.setCell ⟨gb, K, none⟩ (.int .i64 (k : Int))).heap.size ≤ b) →
      (w1.cell? ⟨g, 3, none⟩ = some vq ∧ w1.frozen? ⟨g, 3, none⟩ = false) ∧ SS base (w1.setCell ⟨g, 3, none⟩ v') g wv sl (B.set K (k : Int)) (q ++ [K]) ∧ Below base w (w1.setCell ⟨g, 3, none⟩ v') := by
    intro v' w1 ho b2 hgr hat
    have H1 := HH1.out
    have hqg : some g ≠ vq.ownBlock := fun e => own_ne_blk H1.queue H1.blk (by decide) e.symm
    have hb1 := blk_grown H1.blk hgr hqg
    have hbb : w1.ownsRow base 2 1 (.slice (some ⟨gb, 0, none⟩) B.length cb) (B.set K (k : Int)).length (ints (B.set K (k : Int))) := H1.best.kept hgr (H1.apart.imp id id)
    have hne' : NeRow v' (.slice (some ⟨gb, 0, none⟩) B.length cb) := ne_append (fun x hx hx' => by
      rcases H1.apart with ha | ha
      · simp [Value.ownBlock] at ha
      · exact ha (hx'.trans hx.symm)) hat H1.best
    refine ⟨⟨by rw [blk_cell hb1]; rfl, blk_frozen hb1 3⟩, ⟨.slice (some ⟨gb, 0, none⟩) B.length cb, v', ?_, H1.ge, ?_, ?_, ?_⟩, b2.setCell (by exact HH.out.ge) _⟩
    · have := blk_set hb1 3 v'
      simpa using this
    · exact own_setCell hbb (by simp [Value.ownBlock]; exact hne) _
    · have e1 : (q ++ [K]).length = (nats q ++ [Value.int .i64 (K : Int)]).length := by simp [nats]
      rw [e1, nats_append]
      refine own_setCell ho (fun e => ?_) _
      exact own_ne_blk ho hb1 (by decide) e.symm
    · refine .inr (fun e => ?_)
      exact hne' gb (e.symm.trans rfl) rfl
  have FIN := Lib.hid fin; clear fin
  have hqb : base ≤ w.heap.size := by have := HH.out.ge; omega
  have hql : ((nats q).length + 1) * 8 ≤ 140737488355328 := by simp only [nats, List.length_map]; omega
  have hown0 : (w.setCell ⟨gb, K, none⟩ (.int .i64 (k : Int))).ownsRow base 2 1 vq (nats q).length (nats q) := by
    have := HH1.out.queue
    simpa [nats] using this
  have hsz : base ≤ (w.setCell ⟨gb, K, none⟩ (.int .i64 (k : Int))).heap.size := by have := b1.size; omega
  have hx0 : Value.slice (some ⟨w.heap.size, 0, none⟩) 1 1 = Value.slice (some ⟨(w.setCell ⟨gb, K, none⟩ (.int .i64 (k : Int))).heap.size, 0, none⟩) 1 1 := by simp [World.setCell]
  have HX := Lib.hid hx0; clear hx0
  by_cases h0 : z < 0
  · clear hg
    go_enter Try.func15, Try.ntmps15
    go_wp2_with (first
      | (go_at_call 29; refine (hkey _).mono ?_; rintro e w' ⟨rfl, rfl⟩)
      | (at_builtin; (refine print_append base rfl (.tmp 45) (.tmp 47) 22 2 (.int .i64 0) 8 rfl Try.underlying22 info2 rfl (by omega) vq (nats q) (.int .i64 (K : Int)) rfl HX.out rfl hown0 b1 hsz hql ?_); intro v' w1 hown hb2 hgrow hat; obtain ⟨gq, cq, rfl, -⟩ := ownsRow_shape hown (by simp); obtain ⟨⟨c5, f5⟩, hss, hbel⟩ := FIN.out _ w1 hown hb2 hgrow hat; have HS := Lib.hid hss; clear hss hown hgrow hat hb2))
    go_end0
    exact ⟨rfl, by simpa using HS.out, by simpa using hbel⟩
  · have hlt : (k : Int) < z := by omega
    go_enter Try.func15, Try.ntmps15
    go_wp2_with (first
      | (go_at_call 29; refine (hkey _).mono ?_; rintro e w' ⟨rfl, rfl⟩)
      | (at_builtin; (refine print_append base rfl (.tmp 45) (.tmp 47) 22 2 (.int .i64 0) 8 rfl Try.underlying22 info2 rfl (by omega) vq (nats q) (.int .i64 (K : Int)) rfl HX.out rfl hown0 b1 hsz hql ?_); intro v' w1 hown hb2 hgrow hat; obtain ⟨gq, cq, rfl, -⟩ := ownsRow_shape hown (by simp); obtain ⟨⟨c5, f5⟩, hss, hbel⟩ := FIN.out _ w1 hown hb2 hgrow hat; have HS := Lib.hid hss; clear hss hown hgrow hat hb2))
    go_end0
    exact ⟨rfl, by simpa using HS.out, by simpa using hbel⟩

/-- It is none. -/
theorem reach_idle (base : Nat) (w : World) (g : Nat) (wv : Value) (sl : Int) (B : List Int) (q : List Nat) (b x S k : Nat) (h : SS base w g wv sl B q) (hb : b < 8) (hx : x < 8) (hS : S < 256) (hB : B.length = 16384)
    (hg : ¬ (B.getD (key (x, S, b)) (-1) < 0 ∨ (k : Int) < B.getD (key (x, S, b)) (-1))) :
    Calls Try.prog 15 #[.pointer (some ⟨g, 0, none⟩), .int .i64 b, .int .i64 x, .int .i64 S, .int .i64 k] w fun e w' => e = .returned (.tuple #[]) ∧ w' = w := by
  obtain ⟨vb, vq, H⟩ := h
  obtain ⟨gb, cb, rfl, hlc, hcm, hgb, cur, hcur⟩ := ownsRow_shape H.best (by omega)
  have hk : key (x, S, b) < 16384 := by simp only [key]; omega
  have hkey := fun w => key_calls b x S w hb hx hS
  generalize key (x, S, b) = K at *
  have c2 : w.cell? ⟨g, 2, none⟩ = some (.slice (some ⟨gb, 0, none⟩) B.length cb) := by rw [blk_cell H.blk]; rfl
  have ck : w.cell? ⟨gb, K, none⟩ = some (.int .i64 (B.getD K (-1))) := by
    rw [H.best.cellAt K (by omega)]
    simp [ints, List.getD_eq_getElem?_getD, hB, hk]
  generalize B.getD K (-1) = z at *
  have hKB : K < B.length := by rw [hB]; exact hk
  clear hcur H hB
  have h0 : ¬ z < 0 := by omega
  have h1 : ¬ (k : Int) < z := by omega
  clear hg
  go_enter Try.func15, Try.ntmps15
  go_wp2_with (go_at_call 29; refine (hkey _).mono ?_; rintro e w' ⟨rfl, rfl⟩)
  go_end0
  exact ⟨rfl, rfl⟩

/-- One entry is noted. -/
theorem reach_calls (base : Nat) (w : World) (g : Nat) (wv : Value) (sl : Int) (s : List Int × List Nat) (b x S k : Nat) (h : SS base w g wv sl s.1 s.2) (hb : b < 8) (hx : x < 8) (hS : S < 256) (hB : s.1.length = 16384) (hq : s.2.length ≤ 3000000000000) :
    Calls Try.prog 15 #[.pointer (some ⟨g, 0, none⟩), .int .i64 b, .int .i64 x, .int .i64 S, .int .i64 k] w fun e w' => e = .returned (.tuple #[]) ∧ SS base w' g wv sl (relax s ((x, S, b), k)).1 (relax s ((x, S, b), k)).2 ∧ Below base w w' := by
  unfold relax
  by_cases hg : s.1.getD (key (x, S, b)) (-1) < 0 ∨ (k : Int) < s.1.getD (key (x, S, b)) (-1)
  · simp only [hg, if_true]
    exact reach_gain base w g wv sl s.1 s.2 b x S k h hb hx hS hB hq hg
  · simp only [hg, if_false]
    exact (reach_idle base w g wv sl s.1 s.2 b x S k h hb hx hS hB hg).mono fun e w' ⟨he, hw⟩ => ⟨he, by rw [hw]; exact h, by rw [hw]; exact Below.refl _ _⟩

end Go.Proofs.Ytnnmidfkgjmfmaa.Ck
