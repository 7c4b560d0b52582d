/- container/heap over the program's heap: up, down, Push, Pop. -/
import Derived.Test.YtnnmidfkgjmfmaaCkFront
import Derived.Deep.RegionWith
namespace Go.Proofs.Ytnnmidfkgjmfmaa.Ck
open Go.RowKit Go.Proofs.YtnnmidfkgjmfmaaW.PrintWords Go.Proofs.YtnnmidfkgjmfmaaW.PrintLast Go.Proofs.YtnnmidfkgjmfmaaW.PrintMore
open Go.Proofs.Ytnnmidfkgjmfmaa.PFnExactSearchCost
set_option linter.unusedVariables false
set_option linter.unusedSimpArgs false

/-- The heap in memory: block f holds the slice, block g its row. -/
structure FR (base : Nat) (w : World) (f : Nat) (ys : List Ent) (g cap : Nat) : Prop where
  blk : w.heap[f]? = some (.cells #[.slice (some ⟨g, 0, none⟩) ys.length cap] 47 (0, 0))
  ge : base ≤ f
  own : w.ownsRow base 45 4 (.slice (some ⟨g, 0, none⟩) ys.length cap) ys.length (rows ys)

theorem swap_calls {base g cap i j : Nat} {ys : List Ent} {w : World} (h : w.ownsRow base 45 4 (.slice (some ⟨g, 0, none⟩) ys.length cap) ys.length (rows ys)) (hi : i < ys.length) (hj : j < ys.length) (hn : ys.length ≤ 1000000000000) :
    Calls Try.prog 59 #[.slice (some ⟨g, 0, none⟩) ys.length cap, .int .i64 (i : Int), .int .i64 (j : Int)] w fun e w' => e = .returned (.tuple #[]) ∧ w'.ownsRow base 45 4 (.slice (some ⟨g, 0, none⟩) ys.length cap) ys.length (rows (swp ys i j)) ∧ w.grownBy w' (some g) := by
  have hc : ∀ k a, k < ys.length → a < 4 → w.cell? ⟨g, k * 4 + a, none⟩ = (ecells (ys.getD k e0))[a]? := fun k a hk ha => by rw [h.cellAt (k * 4 + a) (by omega), rows_at hk a ha]
  have hf := h.frozenAt
  have fin : ∀ w', w' = (setEnt (setEnt w g i (ys.getD j e0)) g j (ys.getD i e0)).drew → w'.ownsRow base 45 4 (.slice (some ⟨g, 0, none⟩) ys.length cap) ys.length (rows (swp ys i j)) ∧ w.grownBy w' (some g) := by
    intro w' hw
    obtain ⟨h1, g1⟩ := setEnt_own h hi (ys.getD j e0)
    obtain ⟨h2, g2⟩ := setEnt_own h1 (i := j) (by simpa using hj) (ys.getD i e0)
    have hg := grown_drew (grown_trans g1 g2)
    have ho := own_drew h2
    rw [← hw] at hg ho
    exact ⟨ho, hg⟩
  by_cases hij : i = j
  · subst hij
    exact (swap_eq g ys.length cap i (ys.getD i e0) w hi hn (hc i 0 hi (by omega)) (hc i 1 hi (by omega)) (hc i 2 hi (by omega)) (hc i 3 hi (by omega)) hf).mono fun e w' ⟨he, hw⟩ => ⟨he, fin w' hw⟩
  · exact (swap_ne g ys.length cap i j (ys.getD i e0) (ys.getD j e0) w hi hj hij hn (hc i 0 hi (by omega)) (hc i 1 hi (by omega)) (hc i 2 hi (by omega)) (hc i 3 hi (by omega)) (hc j 0 hj (by omega)) (hc j 1 hj (by omega)) (hc j 2 hj (by omega)) (hc j 3 hj (by omega)) hf).mono fun e w' ⟨he, hw⟩ => ⟨he, fin w' hw⟩

theorem lessAt_calls {base g cap i j : Nat} {ys : List Ent} {w : World} (h : w.ownsRow base 45 4 (.slice (some ⟨g, 0, none⟩) ys.length cap) ys.length (rows ys)) (hi : i < ys.length) (hj : j < ys.length) (hn : ys.length ≤ 1000000000000) :
    Calls Try.prog 56 #[.slice (some ⟨g, 0, none⟩) ys.length cap, .int .i64 (i : Int), .int .i64 (j : Int)] w fun e w' => e = .returned (.bool (decide (cs ys i < cs ys j))) ∧ Drawn0 w w' := by
  have hc : ∀ k, k < ys.length → w.cell? ⟨g, k * 4 + 3, none⟩ = some (.int .i64 ((cs ys k : Nat) : Int)) := fun k hk => by rw [h.cellAt (k * 4 + 3) (by omega), rows_at hk 3 (by omega)]; rfl
  exact (less_calls g ys.length cap i j (cs ys i) (cs ys j) w hi hj hn (hc i hi) (hc j hj)).mono fun e w' ⟨he, hw⟩ => ⟨by rw [he]; simp, hw⟩

theorem method_len0 (f : Nat) (w : World) : Sem.run Try.prog (method 197 43 (.pointer (some ⟨f, 0, none⟩)) "Len") w = Sem.run Try.prog (do let v ← loadVar 47 ⟨f, 0, none⟩; pure ((18 : FuncId), v)) w := by kernel_rfl
theorem method_len (f : Nat) (w : World) (v : Value) (h : w.cell? ⟨f, 0, none⟩ = some v) : Sem.run Try.prog (method 197 43 (.pointer (some ⟨f, 0, none⟩)) "Len") w = .ok (18, v) w := by
  rw [method_len0]
  go_simp
theorem method_less0 (f : Nat) (w : World) : Sem.run Try.prog (method 197 43 (.pointer (some ⟨f, 0, none⟩)) "Less") w = Sem.run Try.prog (do let v ← loadVar 47 ⟨f, 0, none⟩; pure ((56 : FuncId), v)) w := by kernel_rfl
theorem method_less (f : Nat) (w : World) (v : Value) (h : w.cell? ⟨f, 0, none⟩ = some v) : Sem.run Try.prog (method 197 43 (.pointer (some ⟨f, 0, none⟩)) "Less") w = .ok (56, v) w := by
  rw [method_less0]
  go_simp
theorem method_swap0 (f : Nat) (w : World) : Sem.run Try.prog (method 197 43 (.pointer (some ⟨f, 0, none⟩)) "Swap") w = Sem.run Try.prog (do let v ← loadVar 47 ⟨f, 0, none⟩; pure ((59 : FuncId), v)) w := by kernel_rfl
theorem method_swap (f : Nat) (w : World) (v : Value) (h : w.cell? ⟨f, 0, none⟩ = some v) : Sem.run Try.prog (method 197 43 (.pointer (some ⟨f, 0, none⟩)) "Swap") w = .ok (59, v) w := by
  rw [method_swap0]
  go_simp
theorem method_pop (f : Nat) (w : World) : Sem.run Try.prog (method 197 43 (.pointer (some ⟨f, 0, none⟩)) "Pop") w = .ok (57, .pointer (some ⟨f, 0, none⟩)) w := by kernel_rfl
theorem method_push (f : Nat) (w : World) : Sem.run Try.prog (method 197 43 (.pointer (some ⟨f, 0, none⟩)) "Push") w = .ok (58, .pointer (some ⟨f, 0, none⟩)) w := by kernel_rfl

theorem FR.cell {base f g cap : Nat} {w : World} {ys : List Ent} (h : FR base w f ys g cap) : w.cell? ⟨f, 0, none⟩ = some (.slice (some ⟨g, 0, none⟩) ys.length cap) := by rw [blk_cell h.blk]; rfl
theorem FR.drewN {base f g cap : Nat} {w : World} {ys : List Ent} (h : FR base w f ys g cap) (m : Nat) : FR base (w.drewN m) f ys g cap := ⟨h.blk, h.ge, h.own⟩

theorem FR.swapped {base f g cap i j : Nat} {w w' : World} {ys : List Ent} (h : FR base w f ys g cap) (ho : w'.ownsRow base 45 4 (.slice (some ⟨g, 0, none⟩) ys.length cap) ys.length (rows (swp ys i j))) (hg : w.grownBy w' (some g)) : FR base w' f (swp ys i j) g cap := by
  have hfg : some f ≠ some g := fun e => own_ne_blk h.own h.blk (by decide) (by rw [e]; rfl)
  refine ⟨?_, h.ge, ?_⟩
  · rw [length_swp]; exact blk_grown h.blk hg hfg
  · rw [length_swp]; exact ho

theorem FR.gge {base f g cap : Nat} {w : World} {ys : List Ent} (h : FR base w f ys g cap) : base ≤ g ∧ g < w.heap.size ∧ f < w.heap.size := by
  have := own_block_type h.own (g := g) rfl
  exact ⟨this.1, this.2.1, blk_lt h.blk⟩

theorem keep_drewN' {w wr : World} {f : Nat} {row : Option Nat} (h : KeepBut w wr f row) (m : Nat) : KeepBut w (wr.drewN m) f row := ⟨h.1, h.2⟩

theorem keep_grown {w wr w' : World} {f g : Nat} (h : KeepBut w wr f (some g)) (hg : wr.grownBy w' (some g)) : KeepBut w w' f (some g) :=
  ⟨Nat.le_trans h.1 hg.size, fun i hi h1 h2 => (hg.block i (Nat.lt_of_lt_of_le hi h.1) h2).trans (h.2 i hi h1 h2)⟩

/-- What up leaves. -/
def HeapPost (base : Nat) (w : World) (f : Nat) (ys : List Ent) (g cap : Nat) (e : Ending) (w' : World) : Prop :=
  e = .returned (.tuple #[]) ∧ ∃ zs, FR base w' f zs g cap ∧ zs.Perm ys ∧ HeapOrd zs zs.length ∧ Below base w w' ∧ KeepBut w w' f (some g)

structure UpL (base : Nat) (w : World) (f : Nat) (ys : List Ent) (g cap : Nat) (j : Nat) (zs : List Ent) (wr : World) : Prop where
  fr : FR base wr f zs g cap
  perm : zs.Perm ys
  at_ : UpAt zs zs.length j
  lt : j < zs.length
  bel : Below base w wr
  keep : KeepBut w wr f (some g)

set_option maxHeartbeats 1000000 in
theorem up_calls (base : Nat) (w : World) (f g cap : Nat) (ys : List Ent) (j : Nat) (h : FR base w f ys g cap) (hj : j < ys.length) (hup : UpAt ys ys.length j) (hn : ys.length ≤ 1000000000000) :
    Calls Try.prog 34 #[.iface 43 (.pointer (some ⟨f, 0, none⟩)), .int .i64 (j : Int)] w (HeapPost base w f ys g cap) := by
  have H0 : UpL base w f ys g cap j ys w := ⟨h, .refl _, hup, hj, Below.refl _ _, KeepBut.refl _ _ _⟩
  have HH := Lib.hid H0
  clear H0 h hup
  go_enter Try.func34, Try.ntmps34
  go_wp2_with fail
  go_loopg [1] (j + 1) (fun gk jv wr => ∃ (j' : Nat) (zs : List Ent), jv = .int .i64 (j' : Int) ∧ j' < gk ∧ UpL base w f ys g cap j' zs wr)
  case atStart => exact ⟨j, ys, rfl, by omega, HH.out⟩
  case round =>
    obtain ⟨j', zs, rfl, hgk, hL⟩ := hrel
    have hlen : zs.length ≤ ys.length := Nat.le_of_eq hL.perm.length_eq
    have hjz := hL.lt
    by_cases h0 : j' = 0
    · subst h0
      have hfin : HeapPost base w f ys g cap (.returned (.tuple #[])) wr := ⟨rfl, zs, hL.fr, hL.perm, hL.at_.done (fun h => by omega), hL.bel, hL.keep⟩
      have HF := Lib.hid hfin
      clear hL hfin
      go_wp2_with fail
      go_end0
      exact HF.out
    · have hjp : 0 < j' := by omega
      obtain ⟨p, hp⟩ : ∃ p, p = (j' - 1) / 2 := ⟨_, rfl⟩
      have e1 : ((j' - 1 : Nat) : Int) / 2 = (p : Int) := by omega
      have e1' : ((j' : Int) - 1) / 2 = (p : Int) := by omega
      have e2 : ((p : Int) == (j' : Int)) = false := by simp; omega
      have hpj : p < j' := by omega
      have hless := lessAt_calls hL.fr.own hjz (show p < zs.length by omega) (by omega)
      have hm1 := method_less f wr _ hL.fr.cell
      by_cases hlt : cs zs j' < cs zs p
      · have hsw := fun m => swap_calls (hL.fr.drewN m).own (show p < zs.length by omega) hjz (by omega)
        have hm2 := fun m => method_swap f (wr.drewN m) _ (hL.fr.drewN m).cell
        have hd : decide (cs zs j' < cs zs p) = true := decide_eq_true hlt
        rw [hd] at hless
        have hnx : ∀ (m : Nat) (w2 : World), w2.ownsRow base 45 4 (.slice (some ⟨g, 0, none⟩) zs.length cap) zs.length (rows (swp zs p j')) → (wr.drewN m).grownBy w2 (some g) → UpL base w f ys g cap p (swp zs p j') w2 := by
          intro m w2 ho hg
          have hat := hL.at_.step (Nat.le_refl _) hjp hjz (by rw [← hp]; exact hlt)
          rw [← hp] at hat
          refine ⟨(hL.fr.drewN m).swapped ho hg, (swp_perm (by omega) hjz).trans hL.perm, by rw [length_swp]; exact hat, by rw [length_swp]; omega, ?_, keep_grown (keep_drewN' hL.keep m) hg⟩
          exact (pw_below_drewN hL.bel m).grown hg (by have := hL.bel.size; have h1 := hL.fr.ge; have h2 := (hL.fr.gge).2.2; exact Nat.le_trans h1 (Nat.le_of_lt h2)) (fun k e => by cases e; exact hL.fr.gge.1)
        have HNX := Lib.hid hnx
        have HP := Lib.hid hp
        clear hnx hL hlt hd hp
        go_wp2_with (first
          | (go_at_call 56; refine hless.mono ?_; rintro e w' ⟨rfl, ⟨m, rfl⟩⟩)
          | (go_at_call 59; refine (hsw _).mono ?_; rintro e w2 ⟨rfl, ho, hg⟩; have hL2 := Lib.hid (HNX.out _ w2 ho hg); clear ho hg))
        go_roundg (p + 1)
        case measure => omega
        case rel => exact ⟨p, _, rfl, by omega, hL2.out⟩
      · have hd : decide (cs zs j' < cs zs p) = false := decide_eq_false hlt
        rw [hd] at hless
        have hfin : ∀ m, HeapPost base w f ys g cap (.returned (.tuple #[])) (wr.drewN m) := fun m => ⟨rfl, zs, hL.fr.drewN m, hL.perm, hL.at_.done (fun h => by rw [← hp]; omega), pw_below_drewN hL.bel m, keep_drewN' hL.keep m⟩
        have HF := Lib.hid hfin
        clear hL hfin hlt hd hp
        go_wp2_with (go_at_call 56; refine hless.mono ?_; rintro e w' ⟨rfl, ⟨m, rfl⟩⟩)
        go_end0
        exact HF.out _

end Go.Proofs.Ytnnmidfkgjmfmaa.Ck
