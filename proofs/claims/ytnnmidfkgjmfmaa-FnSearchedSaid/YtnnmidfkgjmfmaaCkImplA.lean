/- The program's checks: ValidWeights, isCosted. -/
import Derived.Test.YtnnmidfkgjmfmaaCkAns
namespace Go.Proofs.Ytnnmidfkgjmfmaa.Ck
open Go.RowKit Go.Proofs.YtnnmidfkgjmfmaaW.PrintWords Go.Proofs.YtnnmidfkgjmfmaaW.PrintLast Go.Proofs.YtnnmidfkgjmfmaaW.PrintMore
open Go.Proofs.Ytnnmidfkgjmfmaa.PFnExactSearchCost
set_option linter.unusedVariables false
set_option linter.unusedSimpArgs false

theorem within_f (a lo hi : Int) : impl_within.f a lo hi = some (inRange a lo hi) := by
  unfold impl_within.f inRange
  by_cases h : a ≥ lo
  · rw [if_pos h]; simp [h]
  · rw [if_neg h]; simp; omega

theorem within_calls (a lo hi : Int) (w : World) : Calls Try.prog 38 #[.int .i64 a, .int .i64 lo, .int .i64 hi] w fun e w' => e = .returned (.bool (inRange a lo hi)) ∧ Drawn0 w w' :=
  impl_within.calls a lo hi _ w (within_f a lo hi)

theorem areSlots_calls (a : Int) (w : World) : Calls Try.prog 32 #[.int .i64 a] w fun e w' => e = .returned (.bool (inRange a 0 8)) ∧ Drawn0 w w' :=
  impl_areSlots.calls a _ w (by unfold impl_areSlots.f; rw [within_f]; rfl)

/-- The closure: a number that is no weight. -/
theorem bad_calls (a : Int) (w : World) : Calls Try.prog 37 #[.int .i64 a] w fun e w' => e = .returned (.bool (!inRange a 0 1000)) ∧ Drawn0 w w' := by
  have hc := fun w => within_calls a 0 1000 w
  generalize inRange a 0 1000 = b at *
  go_enter Try.func37, Try.ntmps37
  go_wp2_with (go_at_call 38; refine (hc _).mono ?_; rintro e w' ⟨rfl, ⟨m, rfl⟩⟩)
  go_ret
  exact ⟨rfl, ⟨_, rfl⟩⟩

/-- The place of the first number that is no weight. -/
def fb : List Int → Nat → Int
  | [], _ => -1
  | z :: r, i => if inRange z 0 1000 = true then fb r (i + 1) else (i : Int)

theorem fb_cons (z : Int) (r : List Int) (i : Nat) : fb (z :: r) i = if inRange z 0 1000 = true then fb r (i + 1) else (i : Int) := rfl
theorem fb_nil (i : Nat) : fb [] i = -1 := rfl

theorem fb_all : ∀ (W : List Int) (i : Nat), decide (0 ≤ fb W i) = !(W.all fun z => inRange z 0 1000)
  | [], _ => by simp [fb]
  | z :: r, i => by
    unfold fb
    rw [List.all_cons]
    cases h : inRange z 0 1000 with
    | true => simpa using fb_all r (i + 1)
    | false => simp

set_option maxHeartbeats 1000000 in
theorem index_calls (A : Option Addr) (cw : Nat) (W : List Int) (w : World) (hr : Kd.C (Kd.int .i64) w A W.length W) (hcw : W.length ≤ cw) (hW : W.length ≤ 9000000000000000000) :
    Calls Try.prog 39 #[.slice A W.length cw, .func (.func 37) #[] #[]] w fun e w' => e = .returned (.int .i64 (fb W 0)) ∧ Drawn0 w w' := by
  have HR := Lib.hid hr; clear hr
  go_enter Try.func39, Try.ntmps39
  go_wp2_with fail
  go_loopg [8] W.length (fun gk iv wr => ∃ (i : Nat), iv = .int .i64 (i : Int) ∧ gk + i = W.length ∧ Aside0 (fb (W.drop i) i = fb W 0) ∧ Drawn0 w wr)
  case atStart => exact ⟨0, rfl, rfl, ⟨rfl⟩, Drawn0.refl _⟩
  case round =>
    obtain ⟨i, rfl, hleft, hfb, ⟨m, rfl⟩⟩ := hrel
    by_cases hi : i < W.length
    · obtain ⟨ad, rfl, hc⟩ := weight_at (wr := w.drewN m) HR.out (pw_below_drewN (Below.refl _ _) m) i hi
      have hbad := fun w => bad_calls (W.getD i 0) w
      have hfb' := hfb.out
      rw [List.drop_eq_getElem_cons hi] at hfb'
      have hg : W[i] = W.getD i 0 := by simp [List.getD_eq_getElem?_getD, hi]
      rw [hg, fb_cons] at hfb'
      generalize W.getD i 0 = z at *
      clear hfb hg
      obtain ⟨gk', rfl⟩ : ∃ gk', gk = gk' + 1 := ⟨gk - 1, by omega⟩
      cases hz : inRange z 0 1000 with
      | true =>
        rw [hz] at hbad
        rw [hz, if_pos rfl] at hfb'
        have HF := Aside0.mk hfb'
        clear hfb' hz
        go_wp2_with (go_at_call 37; refine (hbad _).mono ?_; rintro e w' ⟨rfl, ⟨m2, rfl⟩⟩)
        go_roundg gk'
        case measure => omega
        case rel => exact ⟨i + 1, by go_num, by omega, HF, ⟨_, rfl⟩⟩
      | false =>
        rw [hz] at hbad
        rw [hz, if_neg (by decide)] at hfb'
        have HF := Aside0.mk hfb'
        clear hfb' hz
        go_wp2_with (go_at_call 37; refine (hbad _).mono ?_; rintro e w' ⟨rfl, ⟨m2, rfl⟩⟩)
        go_ret
        exact ⟨ret_int HF.out, ⟨_, rfl⟩⟩
    · have hfb' := hfb.out
      rw [List.drop_eq_nil_of_le (by omega), fb_nil] at hfb'
      have HF := Aside0.mk hfb'
      clear hfb' hfb
      go_wp2_with fail
      go_ret
      exact ⟨ret_int HF.out, ⟨_, rfl⟩⟩

theorem contains_calls (A : Option Addr) (cw : Nat) (W : List Int) (w : World) (hr : Kd.C (Kd.int .i64) w A W.length W) (hcw : W.length ≤ cw) (hW : W.length ≤ 9000000000000000000) :
    Calls Try.prog 36 #[.slice A W.length cw, .func (.func 37) #[] #[]] w fun e w' => e = .returned (.bool (!(W.all fun z => inRange z 0 1000))) ∧ Drawn0 w w' := by
  have hi := index_calls A cw W w hr hcw hW
  have hf := fb_all W 0
  rw [← hf]
  generalize fb W 0 = z at *
  clear hf hr
  go_enter Try.func36, Try.ntmps36
  go_wp2_with (go_at_call 39; refine hi.mono ?_; rintro e w' ⟨rfl, ⟨m2, rfl⟩⟩)
  go_ret
  exact ⟨by simp, ⟨_, rfl⟩⟩

/-- ValidWeights. -/
theorem valid_calls (A : Option Addr) (cw : Nat) (W : List Int) (w : World) (hr : Kd.C (Kd.int .i64) w A W.length W) (hcw : W.length ≤ cw) (hW : W.length ≤ 9000000000000000000) :
    Calls Try.prog 31 #[.slice A W.length cw] w fun e w' => e = .returned (.bool (weightsOk W)) ∧ Drawn0 w w' := by
  have hc := contains_calls A cw W w hr hcw hW
  unfold weightsOk
  generalize (W.all fun z => inRange z 0 1000) = b at *
  clear hr
  by_cases hl : W.length ≤ 40
  · have hd : decide ((W.length : Int) ≤ 40) = true := by simp; omega
    go_enter Try.func31, Try.ntmps31
    go_wp2_with (go_at_call 36; refine hc.mono ?_; rintro e w' ⟨rfl, ⟨m2, rfl⟩⟩)
    go_ret
    exact ⟨by simp [hl], ⟨_, rfl⟩⟩
  · have hd : decide ((W.length : Int) ≤ 40) = false := by simp; omega
    go_enter Try.func31, Try.ntmps31
    go_wp2_with fail
    go_ret
    exact ⟨by simp [hl], ⟨0, rfl⟩⟩

def costed (W : List Int) (sl : Int) : Int := if weightsOk W = true then (if inRange sl 0 8 = true then 0 else 2) else 1

theorem costed_calls (A : Option Addr) (cw : Nat) (W : List Int) (sl : Int) (w : World) (hr : Kd.C (Kd.int .i64) w A W.length W) (hcw : W.length ≤ cw) (hW : W.length ≤ 9000000000000000000) :
    Calls Try.prog 17 #[.slice A W.length cw, .int .i64 sl] w fun e w' => e = .returned (.int .i64 (costed W sl)) ∧ Drawn0 w w' := by
  have hv := valid_calls A cw W w hr hcw hW
  have hs := fun w => areSlots_calls sl w
  unfold costed
  generalize weightsOk W = b at *
  generalize inRange sl 0 8 = d at *
  clear hr
  cases b <;> cases d
  all_goals
    go_enter Try.func17, Try.ntmps17
    go_wp2_with (first | (go_at_call 31; refine hv.mono ?_; rintro e w' ⟨rfl, ⟨m2, rfl⟩⟩) | (go_at_call 32; refine (hs _).mono ?_; rintro e w' ⟨rfl, ⟨m3, rfl⟩⟩))
    go_ret
    exact ⟨rfl, ⟨_, rfl⟩⟩

end Go.Proofs.Ytnnmidfkgjmfmaa.Ck
