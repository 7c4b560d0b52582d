/- The draws of weights and of slots: that they answer with a row of numbers and a number. -/
import Derived.Test.YtnnmidfkgjmfmaaCkSrc
import Derived.Test.YtnnmidfkgjmfmaaCkMid
import Derived.Deep.LoopGhost
namespace Go.Proofs.Ytnnmidfkgjmfmaa.Ck
open Go.RowKit Go.Proofs.YtnnmidfkgjmfmaaW.PrintWords Go.Proofs.YtnnmidfkgjmfmaaW.PrintLast Go.Proofs.YtnnmidfkgjmfmaaW.PrintMore
open Go.Proofs.Ytnnmidfkgjmfmaa.PFnExactSearchCost
set_option linter.unusedVariables false
set_option linter.unusedSimpArgs false

theorem infoI : (Try.prog.info? 2).map (fun i => (i.zero, i.size, i.bytes)) = some (some (.int .i64 0), 1, 8) := by kernel_rfl

/-- A row of its own stays while the source alone is written. -/
theorem Keep1.own {w0 w w' : World} {ca : Option Addr} {cc : Nat} {Z : List Int} {sb k base n sz : Nat} {e : TypeId} {v : Value} {xs : List Value} (h : Keep1 w w' sb) (hs : Src w0 ca cc Z sb k w) (ho : w.ownsRow base e sz v n xs) (he : 71 ≠ e) : w'.ownsRow base e sz v n xs := by
  obtain ⟨seed, hb⟩ := hs.blk
  refine own_same ho fun g hg => ?_
  obtain ⟨_, hlt, _⟩ := own_block_type ho hg
  exact h.2 g hlt (fun e' => own_ne_blk ho hb he (by rw [hg, e']))

/-- The draw's state: the source, and what is drawn so far. -/
structure Dr (w0 : World) (ca : Option Addr) (cc : Nat) (Z : List Int) (sb k : Nat) (B : List Int) (v : Value) (w : World) : Prop where
  src : Src w0 ca cc Z sb k w
  own : w.ownsRow w0.heap.size 2 1 v B.length (nums .i64 B)

theorem Dr.keep {w0 w w' : World} {ca : Option Addr} {cc : Nat} {Z : List Int} {sb k k' : Nat} {B : List Int} {v : Value} (h : Dr w0 ca cc Z sb k B v w) (hs : Src w0 ca cc Z sb k' w') (hk : Keep1 w w' sb) : Dr w0 ca cc Z sb k' B v w' :=
  ⟨hs, hk.own h.src h.own (by decide)⟩

theorem Src.grown {w0 w w' : World} {ca : Option Addr} {cc : Nat} {Z : List Int} {sb k : Nat} {row : Option Nat} (h : Src w0 ca cc Z sb k w) (hb : Below w0.heap.size w0 w') (hg : w.grownBy w' row) (hne : row ≠ some sb) : Src w0 ca cc Z sb k w' := by
  obtain ⟨seed, hblk⟩ := h.blk
  exact ⟨⟨seed, blk_grown hblk hg (fun e => hne e.symm)⟩, hb, h.ge⟩

theorem Src.alloc {w0 w : World} {ca : Option Addr} {cc : Nat} {Z : List Int} {sb k : Nat} (h : Src w0 ca cc Z sb k w) (o : Obj) : Src w0 ca cc Z sb k (w.alloc o) := by
  obtain ⟨seed, hblk⟩ := h.blk
  exact ⟨⟨seed, blk_alloc hblk o⟩, h.bel.alloc h.bel.size o, h.ge⟩

theorem Dr.append {w0 w w' : World} {ca : Option Addr} {cc : Nat} {Z : List Int} {sb k : Nat} {B : List Int} {v v' : Value} {z : Int} (h : Dr w0 ca cc Z sb k B v w) (ho : w'.ownsRow w0.heap.size 2 1 v' (B ++ [z]).length (nums .i64 (B ++ [z]))) (hb : Below w0.heap.size w0 w') (hg : w.grownBy w' v.ownBlock) : Dr w0 ca cc Z sb k (B ++ [z]) v' w' := by
  obtain ⟨seed, hblk⟩ := h.src.blk
  exact ⟨h.src.grown hb hg (own_ne_blk h.own hblk (by decide)), ho⟩

theorem heap_new0 (w : World) (o : Obj) : (w.alloc o).heap[w.heap.size]? = some o := heap_alloc_new w o

theorem ret_slice {A : Option Addr} {n m c : Nat} (h : n = m) : Ending.returned (.slice A n c) = .returned (.slice A m c) := by rw [h]

def WPost (w0 : World) (ca : Option Addr) (cc : Nat) (Z : List Int) (sb : Nat) (e : Ending) (w' : World) : Prop :=
  ∃ (A : Option Addr) (c : Nat) (B : List Int) (k' : Nat), e = .returned (.slice A B.length c) ∧ B.length ≤ 41 ∧ k' ≤ 1000 ∧ Dr w0 ca cc Z sb k' B (.slice A B.length c) w'

set_option maxHeartbeats 4000000 in
set_option maxRecDepth 100000 in
theorem weights_draw (w0 : World) (ca : Option Addr) (cc : Nat) (Z : List Int) (h0 : Code0 w0 ca Z) (sb k : Nat) (w : World) (hk : k ≤ 100) (hs : Src w0 ca cc Z sb k w) :
    Calls Try.prog 23 #[.pointer (some ⟨sb, 0, none⟩)] w (WPost w0 ca cc Z sb) := by
  have hp1 := pick_calls w0 ca cc Z h0 sb k 8 w (by omega) (by omega) hs
  have H0 := Lib.hid h0
  have HP := Lib.hid hp1
  clear hp1 hs h0
  go_enter Try.func23, Try.ntmps23
  go_wp2_with fail
  refine HP.out.mono ?_
  rintro e w1 ⟨n0, k1, hb1, rfl, hk1, hS1, -⟩
  have HP1 := Lib.hid (one_calls w0 ca cc Z H0.out sb k1 16 w1 (by omega) (by omega) hS1)
  have hn0 : n0 < 8 := by omega
  clear hS1 HP hb1
  go_wp2_with fail
  refine HP1.out.mono ?_
  rintro e w2 ⟨x, k2, rfl, hk2, hS2, -⟩
  have HS2 := Lib.hid hS2
  clear hS2 HP1
  go_upto_if 11 with fail
  go_cut [3] (fun v wr => ∃ n k' : Nat, v = .int .i64 (n : Int) ∧ n ≤ 41 ∧ k' ≤ 106 ∧ Src w0 ca cc Z sb k' wr)
  case first =>
    cases x with
    | false =>
      go_wp2_with fail
      go_meet
      case rel => exact ⟨n0, k2, rfl, by omega, by omega, HS2.out⟩
    | true =>
      have ha := among_calls w0 ca cc Z H0.out sb k2 [0, 1, 39, 40, 41] w2.heap.size 5 (w2.alloc (.cells #[.int .i64 0, .int .i64 1, .int .i64 39, .int .i64 40, .int .i64 41] 2)) (by omega) (by decide) (by decide) (by decide) (heap_alloc_new _ _) (HS2.out.alloc _)
      have HA := Lib.hid ha
      clear ha
      go_wp2_with fail
      refine HA.out.mono ?_
      rintro e w3 ⟨z, k3, hz, rfl, hk3, hS3, -⟩
      have HS3 := Lib.hid hS3
      have hz2 : 0 ≤ z ∧ z ≤ 41 := by simp at hz; omega
      clear hS3 HA hz
      go_wp2_with fail
      go_meet
      case rel => exact ⟨z.toNat, k3, by rw [Int.toNat_of_nonneg hz2.1], by omega, by omega, HS3.out⟩
  case rest =>
    obtain ⟨n, k3, rfl, hn, hk3, hS3⟩ := hcut
    have HK := Lib.hid (pick_calls w0 ca cc Z H0.out sb k3 3 wc (by omega) (by omega) hS3)
    clear hS3 HS2
    go_wp2_with fail
    refine HK.out.mono ?_
    rintro e w4 ⟨kd, k4, hkd, rfl, hk4, hS4, -⟩
    have hD : Dr w0 ca cc Z sb k4 [] (.slice (some ⟨w4.heap.size, 0, none⟩) 0 0) (w4.alloc (.cells #[] 2)) := ⟨hS4.alloc _, own_lit w4 w0.heap.size 2 .i64 [] (hS4.bel.size) (by decide)⟩
    have hkd3 : kd < 3 := by omega
    have HD := Lib.hid hD
    clear hS4 hD HK hkd
    go_wp2_with fail
    go_loopg [5, 6] n (fun gk v iv wr => ∃ (i k' : Nat) (B : List Int) (v' : Value), v' = v ∧ iv = .int .i64 (i : Int) ∧ gk + i = n ∧ Hid (B.length = i) ∧ k' ≤ 110 + 2 * i ∧ Dr w0 ca cc Z sb k' B v' wr)
    case atStart => exact ⟨0, k4, [], _, rfl, rfl, rfl, Lib.hid rfl, by omega, HD.out⟩
    case round =>
      obtain ⟨i, k5, B, v, rfl, rfl, hleft, HB, hk5, hD5⟩ := hrel
      have HLE := Lib.hid hleft
      have hin : i ≤ n := by omega
      by_cases hi : i < n
      · obtain ⟨gk', rfl⟩ : ∃ gk', gk = gk' + 1 := ⟨gk - 1, by omega⟩
        clear hleft
        have hBl : (B.length + 1) * 8 ≤ 140737488355328 := by rw [HB.out]; omega
        have hown := hD5.own
        have hbel := hD5.src.bel
        have hsz := hbel.size
        have HD5 := Lib.hid hD5
        rcases (show kd = 0 ∨ kd = 1 ∨ kd = 2 by omega) with rfl | rfl | rfl
        · clear hD5
          go_wp2_with (at_builtin; (refine print_append_num w0.heap.size rfl (.tmp 32) (.tmp 34) 22 2 .i64 8 rfl Try.underlying22 infoI (by omega) v B 1 rfl rfl hown hbel hsz hBl ?_); intro v' w8 hown1 hb2 hgrow hat; have HF := Lib.hid (HD5.out.append hown1 hb2 hgrow); clear hown1 hb2 hgrow hat)
          go_roundg gk'
          case measure => have := HLE.out; omega
          case rel => exact ⟨i + 1, k5, B ++ [1], _, rfl, by go_num, by have := HLE.out; omega, Lib.hid (by rw [List.length_append, HB.out]; rfl), by omega, HF.out⟩
        · have HK1 := Lib.hid (pick_calls w0 ca cc Z H0.out sb k5 10 wr (by omega) (by omega) hD5.src)
          clear hD5 hown hbel hsz
          go_wp2_with fail
          refine HK1.out.mono ?_
          rintro e w6 ⟨z, k6, hz, rfl, hk6, hS6, hK6⟩
          have hD6 := HD5.out.keep hS6 hK6
          have hown := hD6.own
          have hbel := hD6.src.bel
          have hsz := hbel.size
          have HD6 := Lib.hid hD6
          clear hD6 hS6 hK6 HK1 hz
          go_wp2_with (at_builtin; (refine print_append_num w0.heap.size rfl (.tmp 32) (.tmp 34) 22 2 .i64 8 rfl Try.underlying22 infoI (by omega) v B (z : Int) rfl rfl hown hbel hsz hBl ?_); intro v' w8 hown1 hb2 hgrow hat; have HF := Lib.hid (HD6.out.append hown1 hb2 hgrow); clear hown1 hb2 hgrow hat)
          go_roundg gk'
          case measure => have := HLE.out; omega
          case rel => exact ⟨i + 1, k6, B ++ [(z : Int)], _, rfl, by go_num, by have := HLE.out; omega, Lib.hid (by rw [List.length_append, HB.out]; rfl), by omega, HF.out⟩
        · have ha := among_calls w0 ca cc Z H0.out sb k5 [0, 1, 3, 1000, 100, 17] wr.heap.size 6 (wr.alloc (.cells #[.int .i64 0, .int .i64 1, .int .i64 3, .int .i64 1000, .int .i64 100, .int .i64 17] 2)) (by omega) (by decide) (by decide) (by decide) (heap_alloc_new _ _) (hD5.src.alloc _)
          have HK1 := Lib.hid ha
          clear hD5 hown hbel hsz ha
          go_wp2_with fail
          refine HK1.out.mono ?_
          rintro e w6 ⟨z, k6, hz, rfl, hk6, hS6, hK6⟩
          have hD6 := (show Dr w0 ca cc Z sb k5 B v (wr.alloc (.cells #[.int .i64 0, .int .i64 1, .int .i64 3, .int .i64 1000, .int .i64 100, .int .i64 17] 2)) from ⟨HD5.out.src.alloc _, HD5.out.own.alloc _⟩).keep hS6 hK6
          have hown := hD6.own
          have hbel := hD6.src.bel
          have hsz := hbel.size
          have HD6 := Lib.hid hD6
          clear hD6 hS6 hK6 HK1 hz
          go_wp2_with (at_builtin; (refine print_append_num w0.heap.size rfl (.tmp 32) (.tmp 34) 22 2 .i64 8 rfl Try.underlying22 infoI (by omega) v B z rfl rfl hown hbel hsz hBl ?_); intro v' w8 hown1 hb2 hgrow hat; have HF := Lib.hid (HD6.out.append hown1 hb2 hgrow); clear hown1 hb2 hgrow hat)
          go_roundg gk'
          case measure => have := HLE.out; omega
          case rel => exact ⟨i + 1, k6, B ++ [z], _, rfl, by go_num, by have := HLE.out; omega, Lib.hid (by rw [List.length_append, HB.out]; rfl), by omega, HF.out⟩
      · obtain ⟨A, c, rfl⟩ := own_slice hD5.own
        have hin2 : B.length ≤ 41 := by rw [HB.out]; omega
        have HD5 := Lib.hid hD5
        clear hD5 hleft
        by_cases hB0 : B.length = 0
        · have HB0 := Lib.hid hB0
          have hd : decide ((B.length : Int) > 0) = false := decide_eq_false (by omega)
          have hd2 : decide (0 < B.length) = false := decide_eq_false (by omega)
          clear hB0
          go_wp2_with fail
          go_ret
          exact ⟨A, c, B, k5, rfl, hin2, by omega, HD5.out⟩
        · have hB1 : 0 < B.length := by omega
          have HO := Lib.hid (one_calls w0 ca cc Z H0.out sb k5 24 wr (by omega) (by omega) HD5.out.src)
          clear hB0
          go_wp2_with fail
          refine HO.out.mono ?_
          rintro e w6 ⟨x, k6, rfl, hk6, hS6, hK6⟩
          have hD6 := HD5.out.keep hS6 hK6
          have HD6 := Lib.hid hD6
          clear hD6 hS6 hK6 HO
          cases x with
          | false =>
            go_wp2_with fail
            go_ret
            exact ⟨A, c, B, k6, rfl, hin2, by omega, HD6.out⟩
          | true =>
            have HK7 := Lib.hid (pick_calls w0 ca cc Z H0.out sb k6 (B.length : Int) w6 (by omega) (by omega) HD6.out.src)
            go_wp2_with fail
            refine HK7.out.mono ?_
            rintro e w7 ⟨j, k7, hj, rfl, hk7, hS7, hK7⟩
            have hj1 : j < B.length := by omega
            have hD7 := HD6.out.keep hS7 hK7
            have ha := among_calls w0 ca cc Z H0.out sb k7 [-1, 1001] w7.heap.size 2 (w7.alloc (.cells #[.int .i64 (-1), .int .i64 1001] 2)) (by omega) (by decide) (by decide) (by decide) (heap_alloc_new _ _) (hD7.src.alloc _)
            have HK8 := Lib.hid ha
            have HD7 := Lib.hid hD7
            clear hD7 hS7 hK7 HK7 hj ha
            go_wp2_with fail
            refine HK8.out.mono ?_
            rintro e w8 ⟨z, k8, hz, rfl, hk8, hS8, hK8⟩
            have hD8 := (show Dr w0 ca cc Z sb k7 B (.slice A B.length c) (w7.alloc (.cells #[.int .i64 (-1), .int .i64 1001] 2)) from ⟨HD7.out.src.alloc _, HD7.out.own.alloc _⟩).keep hS8 hK8
            have HD8 := Lib.hid hD8
            clear hS8 hK8 HK8 hz
            obtain ⟨g, cap, hv, hcap, _, hgb, cur, hcur⟩ := ownsRow_shape hD8.own hB1
            injection hv with e1 e2 e3
            subst e1 e3
            have hst := own_store hD8.own (j : Int) z
            have hat := own_at hD8.own (j : Int) (by omega) (by omega)
            simp only [Int.toNat_natCast] at hst hat
            obtain ⟨hown9, hgr⟩ := hst
            have hg0 : w8.frozen? ⟨g, j, none⟩ = false := frozen_of_row w8 g j _ _ hcur
            have hne : some g ≠ some sb := by
              obtain ⟨seed, hblk⟩ := hD8.src.blk
              exact fun e => own_ne_blk hD8.own hblk (by decide) e
            have hb9 : Below w0.heap.size w0 (w8.setCell ⟨g, j, none⟩ (.int .i64 z)) := hD8.src.bel.setCell (p := ⟨g, j, none⟩) hgb _
            have HF := Lib.hid (show Dr w0 ca cc Z sb k8 (B.set j z) (.slice (some ⟨g, 0, none⟩) (B.set j z).length c) (w8.setCell ⟨g, j, none⟩ (.int .i64 z)) from ⟨hD8.src.grown hb9 hgr hne, by rw [List.length_set]; exact hown9⟩)
            have hcj := hat.1
            clear hat
            clear hD8 hgr hb9 hown9 hne hcur HD8 HD7 HD6 HD5 hgb
            go_wp2_with fail
            go_ret
            exact ⟨_, c, B.set j z, k8, ret_slice (List.length_set ..).symm, by rw [List.length_set]; exact hin2, by omega, HF.out⟩

def DPost (w0 : World) (e : Ending) (w' : World) : Prop :=
  ∃ (A : Option Addr) (c : Nat) (B : List Int) (sl : Int), e = .returned (.tuple #[.slice A B.length c, .int .i64 sl]) ∧ B.length ≤ 41 ∧ w'.ownsRow w0.heap.size 2 1 (.slice A B.length c) B.length (nums .i64 B) ∧ Below w0.heap.size w0 w'

set_option maxHeartbeats 2000000 in
theorem draw_calls (w0 : World) (ca : Option Addr) (cc : Nat) (Z : List Int) (h0 : Code0 w0 ca Z) :
    Calls Try.prog 10 #[.slice ca Z.length cc] w0 (DPost w0) := by
  have H0 := Lib.hid h0
  clear h0
  go_enter Try.func10, Try.ntmps10
  go_wp2_with fail
  refine (from_calls ca cc Z _).mono ?_
  rintro e w1 ⟨rfl, hS1⟩
  have HS1 := Lib.hid hS1
  clear hS1
  go_wp2_with fail
  refine (weights_draw w0 ca cc Z H0.out _ 0 w1 (by omega) HS1.out).mono ?_
  rintro e w2 ⟨A, c, B, k2, rfl, hB, hk2, hD2⟩
  have HD2 := Lib.hid hD2
  clear hD2
  go_wp2_with fail
  refine (pick_calls w0 ca cc Z H0.out _ k2 4 w2 (by omega) (by omega) HD2.out.src).mono ?_
  rintro e w3 ⟨j, k3, hj, rfl, hk3, hS3, hK3⟩
  have HD3 := Lib.hid (HD2.out.keep hS3 hK3)
  clear hS3 hK3 hj
  go_wp2_with fail
  refine (one_calls w0 ca cc Z H0.out _ k3 20 w3 (by omega) (by omega) HD3.out.src).mono ?_
  rintro e w4 ⟨x, k4, rfl, hk4, hS4, hK4⟩
  have HD4 := Lib.hid (HD3.out.keep hS4 hK4)
  clear hS4 hK4
  cases x with
  | false =>
    go_wp2_with fail
    go_ret2
    exact ⟨A, c, B, _, rfl, hB, HD4.out.own, HD4.out.src.bel⟩
  | true =>
    have ha := among_calls w0 ca cc Z H0.out _ k4 [-1, 4, 9] w4.heap.size 3 (w4.alloc (.cells #[.int .i64 (-1), .int .i64 4, .int .i64 9] 2)) (by omega) (by decide) (by decide) (by decide) (heap_alloc_new _ _) (HD4.out.src.alloc _)
    have HA := Lib.hid ha
    clear ha
    go_wp2_with fail
    refine HA.out.mono ?_
    rintro e w5 ⟨z, k5, hz, rfl, hk5, hS5, hK5⟩
    have HD5 := Lib.hid ((show Dr w0 ca cc Z w0.heap.size k4 B (.slice A B.length c) (w4.alloc (.cells #[.int .i64 (-1), .int .i64 4, .int .i64 9] 2)) from ⟨HD4.out.src.alloc _, HD4.out.own.alloc _⟩).keep hS5 hK5)
    clear hS5 hK5 hz
    go_wp2_with fail
    go_ret2
    exact ⟨A, c, B, _, rfl, hB, HD5.out.own, HD5.out.src.bel⟩

end Go.Proofs.Ytnnmidfkgjmfmaa.Ck
