/- The law FnSearched, walked. -/
import Derived.Test.YtnnmidfkgjmfmaaCkDraw
import Derived.Test.YtnnmidfkgjmfmaaCkCost
import Derived.Test.YtnnmidfkgjmfmaaCkMain
namespace Go.Proofs.Ytnnmidfkgjmfmaa.Ck
open Go.RowKit Go.Proofs.YtnnmidfkgjmfmaaW.PrintWords Go.Proofs.YtnnmidfkgjmfmaaW.PrintLast Go.Proofs.YtnnmidfkgjmfmaaW.PrintMore
open Go.Proofs.Ytnnmidfkgjmfmaa.PFnExactSearchCost
set_option linter.unusedVariables false
set_option linter.unusedSimpArgs false

theorem own_cap {w : World} {base n c sz : Nat} {e : TypeId} {A : Option Addr} {xs : List Value} (h : w.ownsRow base e sz (.slice A n c) n xs) : n ≤ c := by
  rcases h.2 with ⟨_, h0⟩ | ⟨g, cap, cur, hv, _, _, hle, _⟩
  · omega
  · injection hv with _ _ e3
    omega

theorem valid_spec_calls (A : Option Addr) (cw : Nat) (W : List Int) (w : World) (hr : Kd.C (Kd.int .i64) w A W.length W) (hcw : W.length ≤ cw) (hW : W.length ≤ 9000000000000000000) :
    Calls Try.prog 11 #[.slice A W.length cw] w fun e w' => e = .returned (.bool (weightsOk W)) ∧ Drawn0 w w' := by
  have hc := weights_calls A cw W w hr hcw hW
  generalize weightsOk W = b at *
  clear hr
  go_enter Try.func11, Try.ntmps11
  go_wp2_with (go_at_call 13; refine hc.mono ?_; rintro e w' ⟨rfl, ⟨m, rfl⟩⟩)
  go_ret
  exact ⟨rfl, ⟨_, rfl⟩⟩

theorem big_calls (A : Option Addr) (n c : Nat) (w : World) (b : Bool) (hb : decide (4096 < n) = b) (hn : n ≤ 9223372036854775807) :
    Calls Try.prog 9 #[.slice A n c] w fun e w' => e = .returned (.bool b) ∧ w' = w := by
  subst hb
  go_enter Try.func9, Try.ntmps9
  go_wp2_with fail
  go_ret
  exact ⟨by simp; omega, rfl⟩

set_option maxHeartbeats 4000000 in
set_option maxRecDepth 100000 in
theorem searched_calls (w0 : World) (ca : Option Addr) (cc : Nat) (Z : List Int) (hr : Kd.C (Kd.int .u8) w0 ca Z.length Z) (hz : ∀ z ∈ Z, 0 ≤ z ∧ z ≤ 255) (hlen : Z.length ≤ 9223372036854775807) :
    Calls Try.prog 4 #[.slice ca Z.length cc] w0 fun e w' => e = .returned (.bool true) ∧ Below w0.heap.size w0 w' := by
  by_cases hbig : 4096 < Z.length
  · have hb := fun w => big_calls ca Z.length cc w true (by simpa using hbig) hlen
    clear hr hz
    go_enter Try.func4, Try.ntmps4
    go_wp2_with (go_at_call 9; refine (hb _).mono ?_; rintro e w' ⟨rfl, rfl⟩)
    go_ret
    exact ⟨rfl, .refl _ _⟩
  · have hb := fun w => big_calls ca Z.length cc w false (by simpa using hbig) hlen
    have h0 : Code0 w0 ca Z := ⟨hr, hz, by omega⟩
    have HD := Lib.hid (draw_calls w0 ca cc Z h0)
    clear hr hz h0
    go_enter Try.func4, Try.ntmps4
    go_wp2_with (go_at_call 9; refine (hb _).mono ?_; rintro e w' ⟨rfl, rfl⟩)
    refine HD.out.mono ?_
    rintro e w1 ⟨A, c, B, sl, rfl, hB, hown, hbel⟩
    have hC : Kd.C (Kd.int .i64) w1 A B.length B := Kd.C_of_reads (d := (0 : Int)) (own_reads' hown)
    have hcap : B.length ≤ c := own_cap hown
    have hv := valid_spec_calls A c B w1 hC hcap (by omega)
    have HC := Lib.hid hC
    have HB1 := Lib.hid hbel
    clear hown hbel hC HD hb hbig
    cases hok : weightsOk B with
    | false =>
      rw [hok] at hv
      clear hok
      go_wp2_with (go_at_call 11; refine hv.mono ?_; rintro e w' ⟨rfl, ⟨m, rfl⟩⟩)
      go_ret
      exact ⟨rfl, pw_below_drewN HB1.out _⟩
    | true =>
      rw [hok] at hv
      have HOK := Lib.hid hok
      clear hok
      by_cases h7 : 7 < B.length
      · go_wp2_with (go_at_call 11; refine hv.mono ?_; rintro e w' ⟨rfl, ⟨m, rfl⟩⟩)
        go_ret
        exact ⟨rfl, pw_below_drewN HB1.out _⟩
      · by_cases hs0 : sl < 0
        · go_wp2_with (go_at_call 11; refine hv.mono ?_; rintro e w' ⟨rfl, ⟨m, rfl⟩⟩)
          go_ret
          exact ⟨rfl, pw_below_drewN HB1.out _⟩
        · by_cases hs3 : 3 < sl
          · go_wp2_with (go_at_call 11; refine hv.mono ?_; rintro e w' ⟨rfl, ⟨m, rfl⟩⟩)
            go_ret
            exact ⟨rfl, pw_below_drewN HB1.out _⟩
          · obtain ⟨k, rfl⟩ := Int.eq_ofNat_of_zero_le (show 0 ≤ sl by omega)
            have hk3 : k ≤ 3 := by omega
            have hl7 : B.length ≤ 7 := by omega
            clear hs0 hs3 h7
            go_wp2_with (go_at_call 11; refine hv.mono ?_; rintro e w' ⟨rfl, ⟨m, rfl⟩⟩)
            have hb2 := pw_below_drewN HB1.out m
            have hC2 : Kd.C (Kd.int .i64) (w1.drewN m) A B.length B := Kd.C_below HC.out (pw_below_drewN (Below.refl _ _) m)
            generalize w1.drewN m = w2 at *
            have HB2 := Lib.hid hb2
            have HC2 := Lib.hid hC2
            clear hb2 hC2 HB1 HC hv
            refine (implSearch_calls w2 A c B (k : Int) HC2.out hcap (by omega)).mono ?_
            rintro e w3 ⟨z, hz, rfl, hb3⟩
            have HZ := Lib.hid hz
            have HB3 := Lib.hid hb3
            clear hz hb3
            go_wp2_with fail
            refine (specSearch_calls w3 A c B (k : Int) (Kd.C_below HC2.out HB3.out) hcap (by omega)).mono ?_
            rintro e w4 ⟨z', hz', rfl, hb4⟩
            obtain rfl := HZ.out.unique hz'
            have hb24 := HB3.out.trans (hb4.mono HB3.out.size)
            have HB4 := Lib.hid hb24
            clear hz' hb4 hb24 HB3
            go_wp2_with fail
            refine (cost_calls w4 A c B k (Kd.C_below HC2.out HB4.out) hcap HOK.out hl7 hk3).mono ?_
            rintro e w5 ⟨z', hz', rfl, hb5⟩
            obtain rfl := HZ.out.unique hz'
            have HB5 := Lib.hid (HB2.out.trans ((HB4.out.trans (hb5.mono HB4.out.size)).mono HB2.out.size))
            clear hz' hb5 HB4
            go_wp2_with fail
            go_ret
            exact ⟨rfl, HB5.out⟩

/-- What is known of the code that came in. -/
abbrev CodeRow (w : World) (A : Option Addr) (Z : List Int) : Prop := Kd.C (Kd.int .u8) w A Z.length Z

theorem code_nil (w : World) : CodeRow w none [] := Kd.C_of_reads (d := (0 : Int)) ⟨rfl, by decide, fun h => absurd h (by decide)⟩

theorem code_mk {w : World} {x : Addr} {Z : List Int} (hl : Z.length ≤ 9223372036854775807) (h : ∀ j, j < Z.length → w.cell? (x.add j) = some (.int .u8 (Z.getD j 0))) : CodeRow w (some x) Z :=
  Kd.C_of_reads (d := (0 : Int)) ⟨rfl, hl, fun _ => ⟨x, rfl, h⟩⟩

end Go.Proofs.Ytnnmidfkgjmfmaa.Ck
