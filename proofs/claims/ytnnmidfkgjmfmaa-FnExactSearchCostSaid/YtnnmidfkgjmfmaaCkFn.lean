/- The law FnExactSearchCost, walked: the copy, both searches, the comparison. -/
import Derived.Test.YtnnmidfkgjmfmaaCkJoin
import Derived.Test.YtnnmidfkgjmfmaaCkMain
namespace Go.Proofs.Ytnnmidfkgjmfmaa.Ck
open Go.RowKit Go.Proofs.YtnnmidfkgjmfmaaW.PrintWords Go.Proofs.YtnnmidfkgjmfmaaW.PrintLast Go.Proofs.YtnnmidfkgjmfmaaW.PrintMore
open Go.Proofs.Ytnnmidfkgjmfmaa.PFnExactSearchCost
set_option linter.unusedVariables false
set_option linter.unusedSimpArgs false

theorem copy_calls (W : List Int) (hW : W.length ≤ 1048576) (A : Option Addr) (c : Nat) (w : World) (hr : Kd.C (Kd.int .i64) w A W.length W) (hc : W.length ≤ c) :
    Calls Try.prog 6 #[.slice A W.length c] w fun e w' => ∃ B d, e = .returned (.slice B W.length d) ∧ Kd.C (Kd.int .i64) w' B W.length W ∧ W.length ≤ d ∧ Below w.heap.size w w' := by
  refine (laws_toInt64S.calls (W.length + 1) A c W W w hr hc (to_f W hW)).mono ?_
  rintro e w' ⟨v, rfl, hR, hb⟩
  obtain ⟨B, d, rfl⟩ := Kd.R_slice hR
  obtain ⟨_, h2, h3⟩ := Kd.R_reads' hR
  exact ⟨B, d, rfl, h3, h2, hb⟩

theorem same_calls (W : List Int) (hW : W.length ≤ 1048576) (A B : Option Addr) (c d : Nat) (w : World) (hr : Kd.C (Kd.int .i64) w A W.length W) (hc : W.length ≤ c) (hr' : Kd.C (Kd.int .i64) w B W.length W) (hd : W.length ≤ d) :
    Calls Try.prog 8 #[.slice A W.length c, .slice B W.length d] w fun e w' => e = .returned (.bool true) ∧ Drawn0 w w' :=
  laws_eqInt64S.calls (W.length + 1) A c W B d W true w hr hc hr' hd (eq_f W hW)

/-- What is known of the row that came in. -/
abbrev Row1 (w : World) (A : Option Addr) (W : List Int) : Prop := Kd.C (Kd.int .i64) w A W.length W

theorem row1_nil (w : World) : Row1 w none [] := Kd.C_of_reads (d := (0 : Int)) ⟨rfl, by decide, fun h => absurd h (by decide)⟩

theorem row1_mk {w : World} {x : Addr} {W : List Int} (hl : W.length ≤ 9223372036854775807) (h : ∀ j, j < W.length → w.cell? (x.add j) = some (.int .i64 (W.getD j 0))) : Row1 w (some x) W :=
  Kd.C_of_reads (d := (0 : Int)) ⟨rfl, hl, fun _ => ⟨x, rfl, h⟩⟩

set_option maxHeartbeats 4000000 in
set_option maxRecDepth 100000 in
theorem law_calls (W : List Int) (sl : Int) (A : Option Addr) (c : Nat) (w : World) (hr : Kd.C (Kd.int .i64) w A W.length W) (hc : W.length ≤ c) :
    Calls Try.prog 3 #[.slice A W.length c, .int .i64 sl] w fun e w' => e = .returned (.bool true) ∧ Below w.heap.size w w' := by
  by_cases hbig : 1048576 < W.length
  · go_enter Try.func3, Try.ntmps3
    go_wp2_with fail
    go_ret
    exact ⟨rfl, Below.refl _ _⟩
  · have hW : W.length ≤ 1048576 := by omega
    have HR := Lib.hid hr
    clear hr hbig
    have k1 := copy_calls W hW A c w HR.out hc
    go_enter Try.func3, Try.ntmps3
    go_wp2_with (first
      | (go_at_call 6; refine k1.mono ?_; rintro e w1 ⟨B1, d1, rfl, hC1, hd1, hb1⟩; have kS := specSearch_calls w1 B1 d1 W sl hC1 hd1 (by omega); clear k1 hC1)
      | (go_at_call 5; refine kS.mono ?_; rintro e w2 ⟨z, hz, rfl, hb2⟩; have hb12 := hb1.trans (hb2.mono hb1.size); have HZ := Lib.hid hz; clear hz; have k2 := copy_calls W hW A c w2 (Kd.C_below HR.out hb12) hc; clear kS)
      | (go_at_call 6; refine k2.mono ?_; rintro e w3 ⟨B3, d3, rfl, hC3, hd3, hb3⟩; have hb13 := hb12.trans (hb3.mono hb12.size); have kI := implSearch_calls w3 B3 d3 W sl hC3 hd3 (by omega); have HC3 := Lib.hid hC3; clear k2 hC3)
      | (go_at_call 7; refine kI.mono ?_; rintro e w4 ⟨z', hz', rfl, hb4⟩; obtain rfl := HZ.out.unique hz'; have hb14 := hb13.trans (hb4.mono hb13.size); have k3 := copy_calls W hW A c w4 (Kd.C_below HR.out hb14) hc; clear kI hz')
      | (go_at_call 6; refine k3.mono ?_; rintro e w5 ⟨B5, d5, rfl, hC5, hd5, hb5⟩; have hb15 := hb14.trans (hb5.mono hb14.size); have kE := same_calls W hW B3 B5 d3 d5 w5 (Kd.C_below HC3.out (hb4.trans (hb5.mono hb4.size))) hd3 hC5 hd5; clear k3 hC5)
      | (go_at_call 8; refine kE.mono ?_; rintro e w6 ⟨rfl, ⟨m6, rfl⟩⟩; clear kE))
    go_ret
    exact ⟨rfl, pw_below_drewN hb15 _⟩

end Go.Proofs.Ytnnmidfkgjmfmaa.Ck
