/- The program's LeastCost. -/
import Derived.Test.YtnnmidfkgjmfmaaCkLeast
import Derived.Test.YtnnmidfkgjmfmaaCkImplA
import Derived.Test.YtnnmidfkgjmfmaaCkSpecWalk
namespace Go.Proofs.Ytnnmidfkgjmfmaa.Ck
open Go.RowKit Go.Proofs.YtnnmidfkgjmfmaaW.PrintWords Go.Proofs.YtnnmidfkgjmfmaaW.PrintLast Go.Proofs.YtnnmidfkgjmfmaaW.PrintMore
open Go.Proofs.Ytnnmidfkgjmfmaa.PFnExactSearchCost
open Go.Maps Go.ChangeMaps
set_option linter.unusedVariables false
set_option linter.unusedSimpArgs false

theorem planner_calls (A : Option Addr) (cw : Nat) (W : List Int) (sl : Int) (w : World) :
    Calls Try.prog 27 #[.slice A W.length cw, .int .i64 sl] w fun e w' => e = .returned (.pointer (some ⟨w.heap.size + 2, 0, none⟩)) ∧ PI w A cw W sl (w.heap.size + 2) w.heap.size (w.heap.size + 1) 0 w' := by
  have h1 := MC.new w (wtOf W) W.length
  have h2 := MS.new (w.alloc (.map #[] 0))
  have h3 := heap_alloc_new ((w.alloc (.map #[] 0)).alloc (.map #[] 0)) (.cells #[.slice A W.length cw, .int .i64 sl, .map (some w.heap.size), .map (some (w.heap.size + 1))] 75)
  have hb : Below w.heap.size w (((w.alloc (.map #[] 0)).alloc (.map #[] 0)).alloc (.cells #[.slice A W.length cw, .int .i64 sl, .map (some w.heap.size), .map (some (w.heap.size + 1))] 75)) :=
    (((Below.refl _ _).alloc (Nat.le_refl _) _).alloc (by simp) _).alloc (by simp; omega) _
  have e1 : (w.alloc (.map #[] 0)).heap.size = w.heap.size + 1 := by simp
  have e2 : ((w.alloc (.map #[] 0)).alloc (.map #[] 0)).heap.size = w.heap.size + 2 := by simp
  rw [e1] at h2
  rw [e2] at h3
  have hp : PI w A cw W sl (w.heap.size + 2) w.heap.size (w.heap.size + 1) 0 (((w.alloc (.map #[] 0)).alloc (.map #[] 0)).alloc (.cells #[.slice A W.length cw, .int .i64 sl, .map (some w.heap.size), .map (some (w.heap.size + 1))] 75)) := by
    refine ⟨h3, ?_, ?_, hb, Nat.le_refl _, by omega, by omega⟩
    · refine (h1.block (Below.heap_alloc _ _ _ ?_)).block (Below.heap_alloc _ _ _ ?_) <;> (simp; try omega)
    · refine h2.block (Below.heap_alloc _ _ _ ?_); simp
  have HP := Lib.hid hp
  clear h1 h2 h3 hb e1 e2 hp
  have hmm := @run_makeMap Try.prog
  go_enter Try.func27, Try.ntmps27
  go_wp2_with fail
  go_ret
  exact ⟨rfl, HP.out⟩

set_option maxHeartbeats 2000000 in
theorem cost_calls (w0 : World) (A : Option Addr) (cw : Nat) (W : List Int) (c : Nat) (hr : Kd.C (Kd.int .i64) w0 A W.length W) (hcw : W.length ≤ cw) (hok : weightsOk W = true) (hl : W.length ≤ 7) (hc : c ≤ 3) :
    Calls Try.prog 12 #[.slice A W.length cw, .int .i64 (c : Int)] w0 (AnsPost W (c : Int) w0) := by
  have hco := costed_calls A cw W (c : Int) w0 hr hcw (by omega)
  have hz : costed W (c : Int) = 0 := by
    unfold costed
    rw [hok, show inRange (c : Int) 0 8 = true by simp [inRange]; omega]
    rfl
  rw [hz] at hco
  have hin : inRange (c : Int) 0 3 = true := by simp [inRange]; omega
  have HR := Lib.hid hr
  have HW := Lib.hid (weightsOk_spec hok).1
  have HA := Lib.hid (fun r (h : IsLeast (wtOf W) c (0, 0, W.length) r) => answer_good (W := W) (sl := (c : Int)) (r := r) hok hin (by omega) (by simpa using h))
  clear hr hok hz hin
  go_enter Try.func12, Try.ntmps12
  go_wp2_with (go_at_call 17; refine hco.mono ?_; rintro e w' ⟨rfl, ⟨m1, rfl⟩⟩)
  refine (planner_calls A cw W (c : Int) _).mono ?_
  rintro e w2 ⟨rfl, hp⟩
  have hr1 : Kd.C (Kd.int .i64) (w0.drewN m1) A W.length W := Kd.C_below HR.out (pw_below_drewN (Below.refl _ _) m1)
  have HP := Lib.hid hp
  have HR1 := Lib.hid hr1
  clear hp hr1
  go_wp2_with fail
  refine ((least_calls (w0.drewN m1) A cw W (c : Int) _ _ _ HR1.out hcw hl HW.out 7 0 W.length c 0 w2 (by omega) (by omega) (Nat.le_refl _) (by omega) (by decide) HP.out)).mono ?_
  rintro e w3 ⟨r, rfl, hL, hP3, -⟩
  have hans := HA.out r (least_of_split hl hL.split)
  have hbel := hP3.bel
  have HF := Lib.hid (And.intro hans ((pw_below_drewN (Below.refl w0.heap.size w0) m1).trans (hbel.mono (Nat.le_refl _))))
  clear hans hbel hL hP3
  cases r with
  | none =>
    rw [encO_none]
    go_wp2_with fail
    go_ret2
    exact ansPost_mk HF.out.1 HF.out.2
  | some v =>
    rw [encO_some]
    go_wp2_with fail
    go_ret2
    exact ansPost_mk HF.out.1 HF.out.2

end Go.Proofs.Ytnnmidfkgjmfmaa.Ck
