/- The planner's 'least': the least cost of a part, by the recursion over splits. -/
import Derived.Test.YtnnmidfkgjmfmaaCkPlan
import Derived.Test.YtnnmidfkgjmfmaaCkStep
import Derived.Test.YtnnmidfkgjmfmaaCkImplA
import Derived.RegionTactic
import Derived.Deep.QuietTactic
import Derived.BigQuiet
import Derived.Deep.LoopGhost
import Derived.Deep.DeepCutAuto
namespace Go.Proofs.Ytnnmidfkgjmfmaa.Ck
open Go.RowKit Go.Proofs.YtnnmidfkgjmfmaaW.PrintWords Go.Proofs.YtnnmidfkgjmfmaaW.PrintLast Go.Proofs.YtnnmidfkgjmfmaaW.PrintMore
open Go.Proofs.Ytnnmidfkgjmfmaa.PFnExactSearchCost
open Go.Maps Go.ChangeMaps
set_option linter.unusedVariables false
set_option linter.unusedSimpArgs false

/-- All but the two maps' blocks are as they were. -/
def Keep2 (w w' : World) (mc ms : Nat) : Prop := w.heap.size ≤ w'.heap.size ∧ ∀ i, i < w.heap.size → i ≠ mc → i ≠ ms → w'.heap[i]? = w.heap[i]?

theorem Keep2.refl (w : World) (mc ms : Nat) : Keep2 w w mc ms := ⟨Nat.le_refl _, fun _ _ _ _ => rfl⟩

theorem Keep2.trans {w w1 w2 : World} {mc ms : Nat} (h : Keep2 w w1 mc ms) (h' : Keep2 w1 w2 mc ms) : Keep2 w w2 mc ms :=
  ⟨Nat.le_trans h.1 h'.1, fun i hi h1 h2 => (h'.2 i (Nat.lt_of_lt_of_le hi h.1) h1 h2).trans (h.2 i hi h1 h2)⟩

theorem Keep2.alloc (w : World) (o : Obj) (mc ms : Nat) : Keep2 w (w.alloc o) mc ms := ⟨by simp, fun i hi _ _ => Below.heap_alloc w o i hi⟩

theorem Keep2.drewN (w : World) (m mc ms : Nat) : Keep2 w (w.drewN m) mc ms := ⟨Nat.le_refl _, fun _ _ _ _ => rfl⟩

/-- The planner in memory: block pb; the maps mc and ms. -/
structure PI (w0 : World) (A : Option Addr) (cw : Nat) (W : List Int) (sl : Int) (pb mc ms nb : Nat) (w : World) : Prop where
  pbk : w.heap[pb]? = some (.cells #[.slice A W.length cw, .int .i64 sl, .map (some mc), .map (some ms)] 75 (0, 0))
  costs : MC w mc nb (wtOf W) W.length
  splits : MS w ms nb
  bel : Below w0.heap.size w0 w
  cge : w0.heap.size ≤ mc
  sge : w0.heap.size ≤ ms
  ne : mc ≠ ms

section
variable {w0 : World} {A : Option Addr} {cw : Nat} {W : List Int} {sl : Int} {pb mc ms nb : Nat} {w : World}

theorem MC.lt {n : Nat} {wt : Nat → Nat} (h : MC w mc nb wt n) : mc < w.heap.size := by
  obtain ⟨D, h1, _⟩ := h
  exact h1.lt

theorem MS.lt (h : MS w ms nb) : ms < w.heap.size := by
  obtain ⟨D, h1⟩ := h
  exact h1.lt

theorem PI.mono {nb' : Nat} (h : PI w0 A cw W sl pb mc ms nb w) (hn : nb ≤ nb') : PI w0 A cw W sl pb mc ms nb' w :=
  ⟨h.pbk, h.costs.mono hn, h.splits.mono hn, h.bel, h.cge, h.sge, h.ne⟩

theorem PI.alloc (h : PI w0 A cw W sl pb mc ms nb w) (o : Obj) : PI w0 A cw W sl pb mc ms nb (w.alloc o) :=
  ⟨blk_alloc h.pbk o, h.costs.block (Below.heap_alloc w o mc h.costs.lt), h.splits.block (Below.heap_alloc w o ms h.splits.lt), h.bel.alloc h.bel.size o, h.cge, h.sge, h.ne⟩

theorem PI.drewN (h : PI w0 A cw W sl pb mc ms nb w) (m : Nat) : PI w0 A cw W sl pb mc ms nb (w.drewN m) :=
  ⟨h.pbk, h.costs.block rfl, h.splits.block rfl, pw_below_drewN h.bel m, h.cge, h.sge, h.ne⟩

theorem PI.far (h : PI w0 A cw W sl pb mc ms nb w) {g : Nat} {cs : Array Value} {t : TypeId} {fr : Nat × Nat} (hg : w.heap[g]? = some (.cells cs t fr)) : g ≠ mc ∧ g ≠ ms := by
  obtain ⟨D, h1, _⟩ := h.costs
  obtain ⟨D', h1'⟩ := h.splits
  exact ⟨Ne.symm (ownsMap_ne h1 hg), Ne.symm (ownsMap_ne h1' hg)⟩

theorem Keep2.blk {w' : World} (h : Keep2 w w' mc ms) (hp : PI w0 A cw W sl pb mc ms nb w) {g : Nat} {cs : Array Value} {t : TypeId} {fr : Nat × Nat} (hg : w.heap[g]? = some (.cells cs t fr)) : w'.heap[g]? = some (.cells cs t fr) :=
  (h.2 g (blk_lt hg) (hp.far hg).1 (hp.far hg).2).trans hg

end

def LPost (w0 w : World) (A : Option Addr) (cw : Nat) (W : List Int) (sl : Int) (pb mc ms nb : Nat) (a b c : Nat) (e : Ending) (w' : World) : Prop :=
  ∃ r, e = .returned (.int .i64 (encO r)) ∧ Lc (wtOf W) W.length a b c r ∧ PI w0 A cw W sl pb mc ms nb w' ∧ Keep2 w w' mc ms

theorem heap4 (w : World) {mc ms : Nat} (hne : mc ≠ ms) (hc : mc < w.heap.size) (hs : ms < w.heap.size) (o1 o2 p1 p2 : Obj) :
    (setBlock (setBlock (setBlock (setBlock w.drew mc o1) mc o2) ms p1) ms p2).heap[mc]? = some o2 ∧ (setBlock (setBlock (setBlock (setBlock w.drew mc o1) mc o2) ms p1) ms p2).heap[ms]? = some p2 := by
  refine ⟨?_, set_block (by simpa [setBlock] using hs) _⟩
  rw [set_other _ _ hne, set_other _ _ hne]
  exact set_block (by simpa [setBlock] using hc) _

/-- Behind both stores. -/
theorem PI.stored {w0 : World} {A : Option Addr} {cw : Nat} {W : List Int} {sl : Int} {pb mc ms nb : Nat} {w : World} (h : PI w0 A cw W sl pb mc ms nb w) (o1 o2 p1 p2 : Obj)
    (hc : MC (setBlock (setBlock (setBlock (setBlock w.drew mc o1) mc o2) ms p1) ms p2) mc (nb + 1) (wtOf W) W.length) (hs : MS (setBlock (setBlock (setBlock (setBlock w.drew mc o1) mc o2) ms p1) ms p2) ms (nb + 1)) :
    PI w0 A cw W sl pb mc ms (nb + 1) (setBlock (setBlock (setBlock (setBlock w.drew mc o1) mc o2) ms p1) ms p2) ∧ Keep2 w (setBlock (setBlock (setBlock (setBlock w.drew mc o1) mc o2) ms p1) ms p2) mc ms := by
  have hk : Keep2 w (setBlock (setBlock (setBlock (setBlock w.drew mc o1) mc o2) ms p1) ms p2) mc ms := by
    refine ⟨by simp [setBlock], fun i hi h1 h2 => ?_⟩
    rw [set_other _ _ h2, set_other _ _ h2, set_other _ _ h1, set_other _ _ h1]
    rfl
  refine ⟨⟨hk.blk h h.pbk, hc, hs, ?_, h.cge, h.sge, h.ne⟩, hk⟩
  have hz := h.bel.size
  have b0 : Below w0.heap.size w0 w.drew := h.bel.drew
  have b1 := b0.grown (set_grown w.drew mc o1) (by exact hz) (fun k e => by cases e; exact h.cge)
  have b2 := b1.grown (set_grown _ mc o2) (by simpa [setBlock] using hz) (fun k e => by cases e; exact h.cge)
  have b3 := b2.grown (set_grown _ ms p1) (by simpa [setBlock] using hz) (fun k e => by cases e; exact h.sge)
  exact b3.grown (set_grown _ ms p2) (by simpa [setBlock] using hz) (fun k e => by cases e; exact h.sge)

/-- At the head of the loop's round: the places up to i are looked at. -/
structure LI (w0 w1 : World) (A : Option Addr) (cw : Nat) (W : List Int) (sl : Int) (pb mc ms nb E a b c i : Nat) (r : Option Nat) (w : World) : Prop where
  pt : Pt (wtOf W) W.length a b c (i + 1) r
  pi : PI w0 A cw W sl pb mc ms (nb + 2 * (E * (i - a))) w
  keep : Keep2 w1 w mc ms

theorem wf_enc {r : Option Nat} (h : ∀ v, r = some v → v ≤ 1000000000) : (Lit.int .i64 (encO r)).wf = true := by
  cases r with
  | none => decide
  | some v => exact wf_small v (by have := h v rfl; omega)

set_option maxHeartbeats 4000000 in
set_option maxRecDepth 100000 in
theorem least_calls (w0 : World) (A : Option Addr) (cw : Nat) (W : List Int) (sl : Int) (pb mc ms : Nat) (hr : Kd.C (Kd.int .i64) w0 A W.length W) (hcw : W.length ≤ cw) (hn : W.length ≤ 7) (hw : ∀ i, 0 ≤ W.getD i 0 ∧ W.getD i 0 ≤ 1000) :
    ∀ (k a b c nb : Nat) (w : World), b - a ≤ k → a ≤ b → b ≤ W.length → c ≤ 8 → nb + 20 ^ k ≤ 1000000000000 → PI w0 A cw W sl pb mc ms nb w →
      Calls Try.prog 28 #[.pointer (some ⟨pb, 0, none⟩), .int .i64 (a : Int), .int .i64 (b : Int), .int .i64 (c : Int)] w (LPost w0 w A cw W sl pb mc ms (nb + 20 ^ k) a b c) := by
  have HR := Lib.hid hr
  have HW := Lib.hid hw
  clear hr hw
  intro k
  induction k with
  | zero =>
    intro a b c nb w hk hab hb hc hnb hp
    obtain rfl : a = b := by omega
    have HP := Lib.hid (hp.mono (Nat.le_add_right nb (20 ^ 0)))
    clear hp hk hnb
    go_enter Try.func28, Try.ntmps28
    go_wp2_with fail
    go_ret
    exact ⟨some 0, rfl, .base (by omega), HP.out, .refl _ _ _⟩
  | succ k ih =>
    intro a b c nb w hk hab hb hc hnb hp
    have HIH := Lib.hid ih
    clear ih
    by_cases h1 : b - a ≤ 1
    · have HP := Lib.hid (hp.mono (Nat.le_add_right nb (20 ^ (k + 1))))
      have hd : decide ((b : Int) - (a : Int) ≤ 1) = true := by simp; omega
      clear hp hk hnb
      go_enter Try.func28, Try.ntmps28
      go_wp2_with fail
      go_ret
      exact ⟨some 0, rfl, .base (by omega), HP.out, .refl _ _ _⟩
    · by_cases hc0 : c = 0
      · subst hc0
        have HP := Lib.hid (hp.mono (Nat.le_add_right nb (20 ^ (k + 1))))
        have hd : decide ((b : Int) - (a : Int) ≤ 1) = false := by simp; omega
        clear hp hk hnb
        go_enter Try.func28, Try.ntmps28
        go_wp2_with fail
        go_ret
        exact ⟨none, rfl, .none_ (by omega), HP.out, .refl _ _ _⟩
      · have hd : decide ((b : Int) - (a : Int) ≤ 1) = false := by simp; omega
        have HP := Lib.hid hp
        clear hp
        go_enter Try.func28, Try.ntmps28
        go_upto_region 6 with (fail)
        obtain ⟨E, hE⟩ : ∃ E, E = 20 ^ k := ⟨_, rfl⟩
        have hE1 : 1 ≤ E := by rw [hE]; exact Nat.pow_pos (by omega)
        rw [Nat.pow_succ, ← hE] at hnb
        have hblk := heap_alloc_new w (Obj.cells #[Value.int IntKind.i64 (a : Int), Value.int IntKind.i64 (b : Int), Value.int IntKind.i64 (c : Int)] 76)
        have hP1 := HP.out.alloc (Obj.cells #[Value.int IntKind.i64 (a : Int), Value.int IntKind.i64 (b : Int), Value.int IntKind.i64 (c : Int)] 76)
        have hK1 := Keep2.alloc w (Obj.cells #[Value.int IntKind.i64 (a : Int), Value.int IntKind.i64 (b : Int), Value.int IntKind.i64 (c : Int)] 76) mc ms
        generalize hw1 : w.alloc (Obj.cells #[Value.int IntKind.i64 (a : Int), Value.int IntKind.i64 (b : Int), Value.int IntKind.i64 (c : Int)] 76) = w1 at *
        generalize hh : w.heap.size = h at *
        have HK1 := Lib.hid hK1
        have HP1 := Lib.hid hP1
        have HE := Lib.hid hE
        clear HP hw1 hh hK1 hE
        have ck0 : w1.cell? ⟨h, 0, none⟩ = some (.int .i64 (a : Int)) := by rw [blk_cell hblk]; rfl
        have ck1 : w1.cell? ⟨h, 1, none⟩ = some (.int .i64 (b : Int)) := by rw [blk_cell hblk]; rfl
        have ck2 : w1.cell? ⟨h, 2, none⟩ = some (.int .i64 (c : Int)) := by rw [blk_cell hblk]; rfl
        have cp0 : w1.cell? ⟨pb, 0, none⟩ = some (.slice A W.length cw) := by rw [blk_cell hP1.pbk]; rfl
        have cp2 : w1.cell? ⟨pb, 2, none⟩ = some (.map (some mc)) := by rw [blk_cell hP1.pbk]; rfl
        have cp3 : w1.cell? ⟨pb, 3, none⟩ = some (.map (some ms)) := by rw [blk_cell hP1.pbk]; rfl
        obtain ⟨D, hD⟩ := hP1.costs
        obtain ⟨z, hrun, hz'⟩ := look3 hD.own (a := a) (b := b) (c := c) (by omega) (by omega) (by omega)
        unfold k3 at hrun
        have hright := hD.right a b c (by omega) (by omega) (by omega)
        have HBLK := Lib.hid hblk
        clear hblk hP1 hD
        cases hhas : Maps.has D (lit3 a b c) with
        | true =>
          obtain ⟨r, hL, hat⟩ := hright hhas
          rw [hat] at hz'
          have hz2 := lit3_eq hz'
          simp only [hhas] at hrun
          have HF := Lib.hid (And.intro hz2 (And.intro hL (HP1.out.mono (show nb ≤ nb + 20 ^ (k + 1) from Nat.le_add_right _ _))))
          clear hright hhas hat hz' hz2 hL hnb
          go_quiet (fail)
          go_wp2_with fail
          go_ret
          exact ⟨r, ret_int HF.out.1.symm, HF.out.2.1, HF.out.2.2.drewN _, HK1.out.trans (.drewN _ _ _ _)⟩
        | false =>
          simp only [hhas] at hrun
          clear hright hhas hz'
          go_quiet (fail)
          have hst : LI w0 w1 A cw W sl pb mc ms nb E a b c a none (w1.drewN nq) := ⟨.start _ _ _, by simpa using HP1.out.drewN nq, .drewN _ _ _ _⟩
          have HST := Lib.hid hst
          have hc1 : 1 ≤ c := by omega
          have hab1 : a + 1 < b := by omega
          have HNB := Lib.hid hnb
          clear hst hrun hc0 ck0 ck1 ck2 cp0 cp2 cp3 hnb
          go_wp2_with fail
          go_loopg [12, 13, 14, 15] (b + 1 - a) (fun gk v12 v13 v14 v15 wr => ∃ (i s y : Nat) (r : Option Nat), gk + i = b + 1 ∧ a ≤ i ∧ i + 1 ≤ b ∧ v12 = .int .i64 (encO r) ∧ v13 = .int .i64 (s : Int) ∧ s ≤ 7 ∧ v14 = .int .i64 (y : Int) ∧ Hid (y = way (wtOf W) W.length a i) ∧ v15 = .int .i64 ((i : Int) + 1) ∧ LI w0 w1 A cw W sl pb mc ms nb E a b c i r wr)
          case atStart => exact ⟨a, 0, 0, none, by omega, by omega, by omega, rfl, rfl, by omega, rfl, Lib.hid (way_same a).symm, rfl, HST.out⟩
          case round =>
            obtain ⟨i, s, y, r, hleft, hai, hib, rfl, rfl, hs7, rfl, HY, rfl, hL⟩ := hrel
            have hG : E * (i - a) ≤ E * 6 := Nat.mul_le_mul_left E (by omega)
            have HG := Lib.hid hG
            by_cases hlt : i + 1 < b
            · have hcall : ∀ (a' b' c' nb' : Nat) (w' : World) (xa xb xc : Int), xa = (a' : Int) → xb = (b' : Int) → xc = (c' : Int) → b' - a' ≤ k → a' ≤ b' → b' ≤ W.length → c' ≤ 8 → nb' + E ≤ 1000000000000 → PI w0 A cw W sl pb mc ms nb' w' → Calls Try.prog 28 #[.pointer (some ⟨pb, 0, none⟩), .int .i64 xa, .int .i64 xb, .int .i64 xc] w' (LPost w0 w' A cw W sl pb mc ms (nb' + E) a' b' c') := by
                rintro a' b' c' nb' w' xa xb xc rfl rfl rfl k1 k2 k3 k4 k5 k6
                rw [HE.out] at k5 ⊢
                exact HIH.out a' b' c' nb' w' k1 k2 k3 k4 k5 k6
              have HCALL := Lib.hid hcall
              clear hcall
              obtain ⟨ad, rfl, hcell⟩ := weight_at (wr := wr) HR.out hL.pi.bel i (by omega)
              have hcell' : wr.cell? (ad.add i) = some (.int .i64 ((wtOf W i : Nat) : Int)) := by
                rw [hcell]
                have := (HW.out i).1
                simp only [wtOf]
                congr 2
                omega
              have cp0 : wr.cell? ⟨pb, 0, none⟩ = some (.slice (some ad) W.length cw) := by rw [blk_cell hL.pi.pbk]; rfl
              clear hcell
              have hw1000 : ∀ j, wtOf W j ≤ 1000 := fun j => by have := HW.out j; simp only [wtOf]; omega
              have hy1 : y ≤ 7000 := by rw [HY.out]; exact way_le7 hw1000 hn hai (by omega)
              have hy2 : y + wtOf W i = way (wtOf W) W.length a (i + 1) := by rw [HY.out, way_next hai (by omega)]
              have hwi := hw1000 i
              have hiW : i < W.length := by omega
              generalize hwt : wtOf W i = wv at *
              have HWT := Lib.hid hwt
              have HY2 := Lib.hid hy2
              have HW1 := Lib.hid hw1000
              have HL := Lib.hid hL
              have HLE := Lib.hid hleft
              clear hwt hy2 hw1000 hL hG hleft
              go_wp2_with fail
              refine (HCALL.out (i + 1) b (c - 1) (nb + 2 * (E * (i - a))) _ _ _ _ (by go_num) rfl (by omega) (by omega) (by omega) hb (by omega) (by have := HNB.out; have := HG.out; omega) HL.out.pi).mono ?_
              rintro e w2 ⟨r1, rfl, hL1, hP1, hK1⟩
              have hx : ∀ v, r1 = some v → v ≤ 49000 := fun v hv => by rw [hv] at hL1; exact hL1.le HW1.out hn (by omega)
              have HX := Lib.hid (And.intro hL1 (And.intro hP1 hK1))
              clear hL1 hP1 hK1
              go_wp2_with fail
              refine (HCALL.out a (i + 1) c (nb + 2 * (E * (i - a)) + E) _ _ _ _ rfl (by go_num) rfl (by omega) (by omega) (by omega) hc (by have := HNB.out; have := HG.out; omega) HX.out.2.1).mono ?_
              rintro e w3 ⟨r2, rfl, hL2, hP2, hK2⟩
              have hz2 : ∀ v, r2 = some v → v ≤ 49000 := fun v hv => by rw [hv] at hL2; exact hL2.le HW1.out hn (by omega)
              have hL' : LI w0 w1 (some ad) cw W sl pb mc ms nb E a b c (i + 1) (stepO r (y + wv) r1 r2) w3 := by
                refine ⟨?_, hP2.mono ?_, HL.out.keep.trans (HX.out.2.2.trans hK2)⟩
                · rw [HY2.out]
                  exact HL.out.pt.step (by omega) HX.out.1 hL2
                · rw [show i + 1 - a = i - a + 1 by omega, Nat.mul_succ]
                  omega
              have hrv : ∀ v, r = some v → v ≤ 105000 := fun v hv => (show Pt (wtOf W) W.length a b c (i + 1) (some v) from hv ▸ HL.out.pt).bound HW1.out hn hb (by omega)
              have HL2 := Lib.hid hL'
              clear hL' hL2 hP2 hK2 HX HL
              obtain ⟨gk', rfl⟩ : ∃ gk', gk = gk' + 1 := ⟨gk - 1, by have := HLE.out; omega⟩
              cases r1 with
              | none =>
                rw [stepO_none] at HL2
                rw [encO_none]
                go_wp2_with fail
                go_roundg gk'
                case measure => omega
                case rel => exact ⟨i + 1, s, y + wv, r, by have := HLE.out; omega, by omega, by omega, rfl, rfl, hs7, by go_num, HY2, by go_num, HL2.out⟩
              | some x =>
                have hx1 := hx x rfl
                cases r2 with
                | none =>
                  rw [stepO_none'] at HL2
                  rw [encO_none, encO_some]
                  go_wp2_with fail
                  go_roundg gk'
                  case measure => omega
                  case rel => exact ⟨i + 1, s, y + wv, r, by have := HLE.out; omega, by omega, by omega, rfl, rfl, hs7, by go_num, HY2, by go_num, HL2.out⟩
                | some z2 =>
                  have hz1 := hz2 z2 rfl
                  cases r with
                  | none =>
                    rw [stepO_first] at HL2
                    simp only [encO_none, encO_some]
                    go_wp2_with fail
                    go_roundg gk'
                    case measure => omega
                    case rel => exact ⟨i + 1, i + 1, y + wv, _, by have := HLE.out; omega, by omega, by omega, by rw [encO_some]; go_num, by go_num, by omega, by go_num, HY2, by go_num, HL2.out⟩
                  | some v =>
                    simp only [encO_some]
                    have hv1 := hrv v rfl
                    by_cases hb2 : y + wv + x + z2 < v
                    · rw [stepO_yes hb2] at HL2
                      go_wp2_with fail
                      go_roundg gk'
                      case measure => omega
                      case rel => exact ⟨i + 1, i + 1, y + wv, _, by have := HLE.out; omega, by omega, by omega, by rw [encO_some]; go_num, by go_num, by omega, by go_num, HY2, by go_num, HL2.out⟩
                    · rw [stepO_no hb2] at HL2
                      go_wp2_with fail
                      go_roundg gk'
                      case measure => omega
                      case rel => exact ⟨i + 1, s, y + wv, _, by have := HLE.out; omega, by omega, by omega, by rw [encO_some], rfl, hs7, by go_num, HY2, by go_num, HL2.out⟩
            · have hi1 : i + 1 = b := by omega
              have hfin : Lc (wtOf W) W.length a b c r := by
                have := hL.pt
                rw [hi1] at this
                exact this.fin hab1 hc1
              have hr9 : ∀ v, r = some v → v ≤ 1000000000 := fun v hv => by rw [hv] at hfin; have := hfin.le (fun j => by have := HW.out j; simp only [wtOf]; omega) hn hb; omega
              have hwf := wf_enc hr9
              have hN : nb + 2 * (E * (i - a)) + 1 ≤ nb + 20 ^ (k + 1) := by rw [Nat.pow_succ, ← HE.out]; have := HG.out; omega
              have hN2 : nb + 2 * (E * (i - a)) < maxLen := by unfold maxLen; have := HNB.out; have := HG.out; omega
              have hkb := hL.keep.blk HP1.out HBLK.out
              obtain ⟨Dc, hDc⟩ := hL.pi.costs
              obtain ⟨Ds, hDs⟩ := hL.pi.splits
              obtain ⟨v0, st, o1, o2, hr1, hr2, hr3⟩ := two_steps (w := wr.drew) (ownsMap_block hDc.own rfl) hN2 (a := a) (b := b) (c := c) (by omega) (by omega) (by omega) hwf
              have hls := hL.pi.splits.lt
              have hlc := hL.pi.costs.lt
              have hne := hL.pi.ne
              have hso : (setBlock (setBlock wr.drew mc o1) mc o2).heap[ms]? = wr.heap[ms]? := by rw [set_other _ _ (Ne.symm hne), set_other _ _ (Ne.symm hne)]; rfl
              obtain ⟨u0, su, p1, p2, ht1, ht2, ht3⟩ := two_steps (w := setBlock (setBlock wr.drew mc o1) mc o2) (ownsMap_block hDs hso) hN2 (a := a) (b := b) (c := c) (by omega) (by omega) (by omega) (wf_small s (by omega))
              have hr2' := hr2 (setBlock wr.drew mc o1) (set_block hlc _)
              have ht2' := ht2 (setBlock (setBlock (setBlock wr.drew mc o1) mc o2) ms p1) (set_block (by simpa [setBlock] using hls) _)
              have h4 := heap4 wr hne hlc hls o1 o2 p1 p2
              have hst := hL.pi.stored o1 o2 p1 p2 (hDc.put (by omega) (by omega) (by omega) hfin (hr3 _ h4.1)) ⟨_, ht3 _ h4.2⟩
              have hfar := hL.pi.far hkb
              have hb1 : (setBlock wr.drew mc o1).heap[h]? = some (Obj.cells #[Value.int IntKind.i64 (a : Int), Value.int IntKind.i64 (b : Int), Value.int IntKind.i64 (c : Int)] 76) := by rw [set_other _ _ hfar.1]; exact hkb
              have hb2 : (setBlock (setBlock wr.drew mc o1) mc o2).heap[h]? = some (Obj.cells #[Value.int IntKind.i64 (a : Int), Value.int IntKind.i64 (b : Int), Value.int IntKind.i64 (c : Int)] 76) := by rw [set_other _ _ hfar.1]; exact hb1
              have hpb := hL.pi.pbk
              have hpk := hL.keep
              have HF := Lib.hid (show LPost w0 w A cw W sl pb mc ms (nb + 20 ^ (k + 1)) a b c (.returned (.int .i64 (encO r))) (setBlock (setBlock (setBlock (setBlock wr.drew mc o1) mc o2) ms p1) ms p2) from ⟨r, rfl, hfin, hst.1.mono hN, HK1.out.trans (hpk.trans hst.2)⟩)
              clear hst h4 hDc hDs hls hlc hne hso hr2 ht2 hr3 ht3 hwf hr9 hN hN2 hfin hL hfar hpk
              unfold k3 goInt at hr1 ht1
              unfold goInt at hr2' ht2'
              generalize hX4 : setBlock (setBlock (setBlock (setBlock wr.drew mc o1) mc o2) ms p1) ms p2 = X4 at *
              generalize hX3 : setBlock (setBlock (setBlock wr.drew mc o1) mc o2) ms p1 = X3 at *
              generalize hX2 : setBlock (setBlock wr.drew mc o1) mc o2 = X2 at *
              generalize hX1 : setBlock wr.drew mc o1 = X1 at *
              clear hX4 hX3 hX2 hX1
              have ck0 : wr.cell? ⟨h, 0, none⟩ = some (.int .i64 (a : Int)) := by rw [blk_cell hkb]; rfl
              have ck1 : wr.cell? ⟨h, 1, none⟩ = some (.int .i64 (b : Int)) := by rw [blk_cell hkb]; rfl
              have ck2 : wr.cell? ⟨h, 2, none⟩ = some (.int .i64 (c : Int)) := by rw [blk_cell hkb]; rfl
              have cl0 : X1.cell? ⟨h, 0, none⟩ = some (.int .i64 (a : Int)) := by rw [blk_cell hb1]; rfl
              have cl1 : X1.cell? ⟨h, 1, none⟩ = some (.int .i64 (b : Int)) := by rw [blk_cell hb1]; rfl
              have cl2 : X1.cell? ⟨h, 2, none⟩ = some (.int .i64 (c : Int)) := by rw [blk_cell hb1]; rfl
              have cm0 : X2.cell? ⟨h, 0, none⟩ = some (.int .i64 (a : Int)) := by rw [blk_cell hb2]; rfl
              have cm1 : X2.cell? ⟨h, 1, none⟩ = some (.int .i64 (b : Int)) := by rw [blk_cell hb2]; rfl
              have cm2 : X2.cell? ⟨h, 2, none⟩ = some (.int .i64 (c : Int)) := by rw [blk_cell hb2]; rfl
              have cp2 : wr.cell? ⟨pb, 2, none⟩ = some (.map (some mc)) := by rw [blk_cell hpb]; rfl
              have cp3 : wr.cell? ⟨pb, 3, none⟩ = some (.map (some ms)) := by rw [blk_cell hpb]; rfl
              have HI1 := Lib.hid hi1
              clear hkb hb1 hb2 hpb hi1 hleft hG
              go_wp2_with fail
              go_region
              all_goals
                go_wp2_with fail
                go_ret
                exact HF.out

end Go.Proofs.Ytnnmidfkgjmfmaa.Ck
