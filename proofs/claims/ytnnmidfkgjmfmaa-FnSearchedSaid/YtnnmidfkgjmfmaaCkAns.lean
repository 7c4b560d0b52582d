/- Plain: what SearchCost answers; the checks of weights. -/
import Derived.Test.YtnnmidfkgjmfmaaCkStep
namespace Go.Proofs.Ytnnmidfkgjmfmaa.Ck
open Go.RowKit Go.Proofs.YtnnmidfkgjmfmaaW.PrintWords Go.Proofs.YtnnmidfkgjmfmaaW.PrintLast Go.Proofs.YtnnmidfkgjmfmaaW.PrintMore
open Go.Proofs.Ytnnmidfkgjmfmaa.PFnExactSearchCost
set_option linter.unusedVariables false
set_option linter.unusedSimpArgs false

def inRange (a lo hi : Int) : Bool := decide (lo ≤ a) && decide (a ≤ hi)

def weightsOk (W : List Int) : Bool := W.all (fun z => inRange z 0 1000) && decide (W.length ≤ 40)

def codeOf : Option Nat → Int × Int
  | some n => ((n : Int), 0)
  | none => (0, 4)

/-- What a search of the least cost answers: the cost and the code. -/
def Answer (W : List Int) (sl : Int) (z : Int × Int) : Prop :=
  if weightsOk W = false then z = (0, 1)
  else if inRange sl 0 3 = false ∨ 7 < W.length then z = (0, 2)
  else ∃ r, IsLeast (wtOf W) sl.toNat (0, 0, W.length) r ∧ z = codeOf r

theorem Answer.unique {W : List Int} {sl : Int} {z z' : Int × Int} (h : Answer W sl z) (h' : Answer W sl z') : z = z' := by
  unfold Answer at h h'
  split at h
  · rename_i hw
    rw [if_pos hw] at h'
    rw [h, h']
  · rename_i hw
    rw [if_neg hw] at h'
    split at h
    · rename_i hs
      rw [if_pos hs] at h'
      rw [h, h']
    · rename_i hs
      rw [if_neg hs] at h'
      obtain ⟨r, h1, h2⟩ := h
      obtain ⟨r', h1', h2'⟩ := h'
      rw [h2, h2', h1.unique h1']

theorem in_f (a lo hi : Int) : spec_l00In.f a lo hi = some (inRange a lo hi) := by
  unfold spec_l00In.f inRange
  by_cases h : a ≥ lo
  · rw [if_pos h]; simp [h]
  · rw [if_neg h]; simp; omega

theorem in_calls (a lo hi : Int) (w : World) : Calls Try.prog 14 #[.int .i64 a, .int .i64 lo, .int .i64 hi] w fun e w' => e = .returned (.bool (inRange a lo hi)) ∧ Drawn0 w w' :=
  spec_l00In.calls a lo hi _ w (in_f a lo hi)

theorem weights_l0 (W : List Int) (hW : W.length ≤ 9000000000000000000) : ∀ (d i : Nat), i + d = W.length → spec_l06Weights.l0 (d + 1) W (i : Int) = some ((W.drop i).all (fun z => inRange z 0 1000) && decide (W.length ≤ 40))
  | 0, i, h => by
    unfold spec_l06Weights.l0
    rw [if_neg (by omega), List.drop_eq_nil_of_le (by omega)]
    simp
    omega
  | d + 1, i, h => by
    have hi : i < W.length := by omega
    have hrd : rd W (i : Int) = W[i] := by simp [rd, List.getD_eq_getElem?_getD, hi]
    unfold spec_l06Weights.l0
    rw [if_pos (by omega), if_pos (by omega), in_f, hrd, List.drop_eq_getElem_cons hi, List.all_cons]
    simp only [Option.bind_some]
    cases hr : inRange W[i] 0 1000 with
    | true =>
      have e : wrap64 ((i : Int) + 1) = ((i + 1 : Nat) : Int) := by unfold wrap64; omega
      rw [if_pos rfl, e, weights_l0 W hW d (i + 1) (by omega)]
      simp
    | false => simp

theorem weights_calls (A : Option Addr) (cw : Nat) (W : List Int) (w : World) (hr : Kd.C (Kd.int .i64) w A W.length W) (hcw : W.length ≤ cw) (hW : W.length ≤ 9000000000000000000) :
    Calls Try.prog 13 #[.slice A W.length cw] w fun e w' => e = .returned (.bool (weightsOk W)) ∧ Drawn0 w w' := by
  refine spec_l06Weights.calls (W.length + 1) A cw W _ w hr hcw ?_
  have := weights_l0 W hW W.length 0 (by omega)
  simpa [spec_l06Weights.f, weightsOk] using this

theorem weightsOk_spec {W : List Int} (h : weightsOk W = true) : (∀ i, 0 ≤ W.getD i 0 ∧ W.getD i 0 ≤ 1000) ∧ W.length ≤ 40 := by
  unfold weightsOk at h
  rw [Bool.and_eq_true, List.all_eq_true] at h
  refine ⟨fun i => ?_, of_decide_eq_true h.2⟩
  by_cases hi : i < W.length
  · have := h.1 W[i] (List.getElem_mem hi)
    simp only [inRange, Bool.and_eq_true, decide_eq_true_eq] at this
    simpa [List.getD_eq_getElem?_getD, hi] using this
  · simp [List.getD_eq_getElem?_getD, show W.length ≤ i by omega]

end Go.Proofs.Ytnnmidfkgjmfmaa.Ck
