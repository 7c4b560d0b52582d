/- The reference's 'step': all that is near a state is noted. -/
import Derived.Test.YtnnmidfkgjmfmaaCkReach
import Derived.Test.YtnnmidfkgjmfmaaCkBits
import Derived.Deep.LoopGhost
import Derived.Deep.QuietTactic
import Derived.BigQuiet
namespace Go.Proofs.Ytnnmidfkgjmfmaa.Ck
open Go.RowKit Go.Proofs.YtnnmidfkgjmfmaaW.PrintWords Go.Proofs.YtnnmidfkgjmfmaaW.PrintLast Go.Proofs.YtnnmidfkgjmfmaaW.PrintMore
open Go.Proofs.Ytnnmidfkgjmfmaa.PFnExactSearchCost
set_option linter.unusedVariables false
set_option linter.unusedSimpArgs false

theorem count_all : ∀ S : Fin 256, spec_l06Count.f 9 (S.val : Int) = some ((pc S.val : Nat) : Int) := by decide +kernel

theorem count_calls (S : Nat) (w : World) (hS : S < 256) : Calls Try.prog 30 #[.int .i64 S] w fun e w' => e = .returned (.int .i64 ((pc S : Nat) : Int)) ∧ Drawn0 w w' :=
  spec_l06Count.calls 9 S _ w (count_all ⟨S, hS⟩)

theorem relax_length (s : List Int × List Nat) (e : V × Nat) : (relax s e).1.length = s.1.length ∧ (relax s e).2.length ≤ s.2.length + 1 := by
  unfold relax
  split <;> simp

def wtOf (W : List Int) (i : Nat) : Nat := (W.getD i 0).toNat

/-- Between the loops. -/
structure Mid (w0 : World) (A : Option Addr) (cw : Nat) (W : List Int) (g c : Nat) (m : Nat) (cur : List Int × List Nat) (wr : World) : Prop where
  ss : SS w0.heap.size wr g (.slice A W.length cw) c cur.1 cur.2
  bel : Below w0.heap.size w0 wr
  lenB : cur.1.length = 16384
  lenq : cur.2.length ≤ 2000000000000 + m

theorem Mid.drewN {w0 : World} {A : Option Addr} {cw : Nat} {W : List Int} {g c m : Nat} {cur : List Int × List Nat} {wr : World} (h : Mid w0 A cw W g c m cur wr) (k : Nat) : Mid w0 A cw W g c m cur (wr.drewN k) := by
  obtain ⟨⟨vb, vq, h1, h2, h3, h4, h5⟩, hb, hl, hq⟩ := h
  exact ⟨⟨vb, vq, h1, h2, h3, h4, h5⟩, pw_below_drewN hb k, hl, hq⟩

theorem Mid.mono {w0 : World} {A : Option Addr} {cw : Nat} {W : List Int} {g c m m' : Nat} {cur : List Int × List Nat} {wr : World} (h : Mid w0 A cw W g c m cur wr) (hm : m ≤ m') : Mid w0 A cw W g c m' cur wr :=
  ⟨h.ss, h.bel, h.lenB, by have := h.lenq; omega⟩

/-- 'reach' between the loops. -/
theorem Mid.reach {w0 : World} {A : Option Addr} {cw : Nat} {W : List Int} {g c m : Nat} {cur : List Int × List Nat} {wr : World} (h : Mid w0 A cw W g c m cur wr) (hm : m ≤ 100) (b x S k : Nat) (bi xi Si ki : Int) (eb : bi = (b : Int)) (ex : xi = (x : Int)) (eS : Si = (S : Int)) (ek : ki = (k : Int)) (hb : b < 8) (hx : x < 8) (hS : S < 256) :
    Calls Try.prog 15 #[.pointer (some ⟨g, 0, none⟩), .int .i64 bi, .int .i64 xi, .int .i64 Si, .int .i64 ki] wr fun e w' => e = .returned (.tuple #[]) ∧ Mid w0 A cw W g c (m + 1) (relax cur ((x, S, b), k)) w' := by
  subst eb ex eS ek
  exact (reach_calls w0.heap.size wr g (.slice A W.length cw) c cur b x S k h.ss hb hx hS h.lenB (by have := h.lenq; omega)).mono fun e w' ⟨he, hs, hb⟩ => ⟨he, hs, h.bel.trans hb, by rw [(relax_length _ _).1]; exact h.lenB, by have := (relax_length cur ((x, S, b), k)).2; have := h.lenq; omega⟩

/-- The struct's own fields. -/
theorem Mid.cells {w0 : World} {A : Option Addr} {cw : Nat} {W : List Int} {g c m : Nat} {cur : List Int × List Nat} {wr : World} (h : Mid w0 A cw W g c m cur wr) : wr.cell? ⟨g, 0, none⟩ = some (.slice A W.length cw) ∧ wr.cell? ⟨g, 1, none⟩ = some (.int .i64 c) := by
  obtain ⟨⟨vb, vq, h1, _⟩, _⟩ := h
  exact ⟨by rw [blk_cell h1]; rfl, by rw [blk_cell h1]; rfl⟩

/-- A weight, read in any world of the call. -/
theorem weight_at {w0 wr : World} {A : Option Addr} {W : List Int} (hr : Kd.C (Kd.int .i64) w0 A W.length W) (hb : Below w0.heap.size w0 wr) (i : Nat) (hi : i < W.length) : ∃ ad, A = some ad ∧ wr.cell? (ad.add i) = some (.int .i64 (W.getD i 0)) := by
  obtain ⟨ad, e, hc⟩ := Kd.at_int hr (i : Int) (by omega) (by omega)
  have hc' : w0.cell? (ad.add i) = some (.int .i64 (W.getD i 0)) := by simpa [rd] using hc
  refine ⟨ad, e, (hb.cell ?_).trans hc'⟩
  exact World.block_lt_of_cell? w0 _ hc'

/-- After i rounds of the second loop. -/
structure L2 (w0 : World) (A : Option Addr) (cw : Nat) (W : List Int) (g c : Nat) (curA : List Int × List Nat) (b x S k : Nat) (gk i : Nat) (cur : List Int × List Nat) (wr : World) : Prop where
  left : gk + i = 8
  mid : Mid w0 A cw W g c (20 + 2 * i) cur wr
  fold : ((List.range' i gk).flatMap (loadsAt (x, S, b) k)).foldl relax cur = ((List.range 8).flatMap (loadsAt (x, S, b) k)).foldl relax curA

theorem loads_fold {b x S k i gk : Nat} {cur : List Int × List Nat} : ((List.range' i (gk + 1)).flatMap (loadsAt (x, S, b) k)).foldl relax cur = ((List.range' (i + 1) gk).flatMap (loadsAt (x, S, b) k)).foldl relax ((loadsAt (x, S, b) k i).foldl relax cur) := by
  rw [List.range'_succ, List.flatMap_cons, List.foldl_append]

theorem loadsAt_yes {b x S k i : Nat} (h : S.testBit i = true) (cur : List Int × List Nat) : (loadsAt (x, S, b) k i).foldl relax cur = relax (relax cur ((i, S, b), k)) ((x, (S ^^^ 2 ^ i) ||| 2 ^ x, b), k) := by
  unfold loadsAt
  rw [if_pos h]
  rfl

theorem loadsAt_no {b x S k i : Nat} (h : S.testBit i = false) (cur : List Int × List Nat) : (loadsAt (x, S, b) k i).foldl relax cur = cur := by
  unfold loadsAt
  rw [if_neg (by simpa using h)]
  rfl

theorem cands_fold (wt : Nat → Nat) (c b x S k : Nat) (s : List Int × List Nat) : (cands wt c (x, S, b) k).foldl relax s =
    (if pc (S ||| 2 ^ x) ≤ c then [((x, S ||| 2 ^ x, b), k)] else []).foldl relax (((List.range 8).flatMap (loadsAt (x, S, b) k)).foldl relax ((if x + 1 = b then [((x, S, x), k)] else []).foldl relax ((advs wt S b (b - 1 - x) x k).foldl relax s))) := by
  unfold cands
  rw [List.foldl_append, List.foldl_append, List.foldl_append]

theorem clr8 {S i : Nat} (hS : S < 256) (hi : i < 8) : S ^^^ 2 ^ i < 256 := Nat.xor_lt_two_pow (n := 8) hS (two_pow_lt hi)
theorem put8 {S i : Nat} (hS : S < 256) (hi : i < 8) : S ||| 2 ^ i < 256 := Nat.or_lt_two_pow (n := 8) hS (two_pow_lt hi)

theorem pow_wrap {x : Nat} (hx : x < 8) : wrap64 ((2 : Int) ^ x) = ((2 ^ x : Nat) : Int) := by
  have := two_pow_lt hx
  have e : ((2 : Int) ^ x) = ((2 ^ x : Nat) : Int) := by simp
  rw [e]
  generalize 2 ^ x = m at *
  unfold wrap64
  omega

theorem bit_facts {S i x mv : Nat} (hS : S < 256) (hi : i < 8) (hx : x < 8) (hmv : mv = 2 ^ x) : ∃ bv : Nat, bv < 256 ∧ wrap64 ((2 : Int) ^ i) = (bv : Int) ∧
    (S.testBit i = true → Go.bits .and .i64 (S : Int) (bv : Int) = (bv : Int) ∧ ((bv : Int) == 0) = false ∧ ∃ T U : Nat, T < 256 ∧ U < 256 ∧ Go.bits .andNot .i64 (S : Int) (bv : Int) = (T : Int) ∧ Go.bits .or .i64 (T : Int) (mv : Int) = (U : Int) ∧
      ∀ b k cur, (loadsAt (x, S, b) k i).foldl relax cur = relax (relax cur ((i, S, b), k)) ((x, U, b), k)) ∧
    (S.testBit i = false → Go.bits .and .i64 (S : Int) (bv : Int) = 0 ∧ ∀ b k cur, (loadsAt (x, S, b) k i).foldl relax cur = cur) := by
  have h1 := two_pow_lt hi
  have h2 := two_pow_lt hx
  have hand := i64_and S (2 ^ i) (by omega) (by omega)
  rw [and_bit] at hand
  refine ⟨2 ^ i, h1, pow_wrap hi, fun hb => ?_, fun hb => ?_⟩
  · rw [if_pos hb] at hand
    have hnot := i64_andNot S i (by omega) (by omega) hb
    have hT := clr8 hS hi
    have hor := i64_or (S ^^^ 2 ^ i) mv (by omega) (by omega)
    rw [hmv] at hor
    refine ⟨hand, ?_, _, _, hT, put8 hT hx, hnot, by rw [hmv]; exact hor, fun b k cur => loadsAt_yes hb cur⟩
    have := Nat.two_pow_pos i
    rw [beq_eq_false_iff_ne]
    omega
  · rw [if_neg (by simpa using hb)] at hand
    exact ⟨hand, fun b k cur => loadsAt_no hb cur⟩

theorem put_facts {S x mv : Nat} (hS : S < 256) (hx : x < 8) (hmv : mv = 2 ^ x) : ∃ PU pn : Nat, PU < 256 ∧ Go.bits .or .i64 (S : Int) (mv : Int) = (PU : Int) ∧ PU = S ||| 2 ^ x ∧ pn = pc PU ∧
    ∀ w, Calls Try.prog 30 #[.int .i64 (PU : Int)] w fun e w' => e = .returned (.int .i64 (pn : Int)) ∧ ∃ m, w' = w.drewN m := by
  subst hmv
  have hP8 := put8 hS hx
  have h2 := two_pow_lt hx
  exact ⟨S ||| 2 ^ x, pc (S ||| 2 ^ x), hP8, i64_or S (2 ^ x) (by omega) (by omega), rfl, rfl, fun w => (count_calls _ w hP8).mono fun e w' ⟨he, ⟨hd⟩⟩ => ⟨he, hd⟩⟩

theorem advs_fold {wt : Nat → Nat} {S b f x k : Nat} {s : List Int × List Nat} : (advs wt S b (f + 1) x k).foldl relax s = (advs wt S b f (x + 1) (k + wt x)).foldl relax (relax s ((x + 1, S, b), k + wt x)) := rfl

/-- After j rounds of the first loop. -/
structure L1 (w0 : World) (A : Option Addr) (cw : Nat) (W : List Int) (g c : Nat) (s : List Int × List Nat) (b x S k : Nat) (gk j farN : Nat) (cur : List Int × List Nat) (wr : World) : Prop where
  left : gk + j = b - 1 - x
  mid : Mid w0 A cw W g c j cur wr
  far : farN ≤ 1000000000 + 1000 * j
  fold : (advs (wtOf W) S b gk (x + j) farN).foldl relax cur = (advs (wtOf W) S b (b - 1 - x) x k).foldl relax s

set_option maxHeartbeats 4000000 in
theorem step_calls (w0 : World) (A : Option Addr) (cw : Nat) (W : List Int) (hr : Kd.C (Kd.int .i64) w0 A W.length W) (hcw : W.length ≤ cw) (hW : ∀ i, 0 ≤ W.getD i 0 ∧ W.getD i 0 ≤ 1000) (w : World) (g c : Nat) (s : List Int × List Nat) (b x S k : Nat)
    (hbel : Below w0.heap.size w0 w) (h : SS w0.heap.size w g (.slice A W.length cw) c s.1 s.2) (hbn : b ≤ W.length) (hn : W.length ≤ 7) (hx : x < 8) (hS : S < 256) (hB : s.1.length = 16384) (hq : s.2.length ≤ 2000000000000) (hk : s.1.getD (key (x, S, b)) (-1) = (k : Int)) (hk7 : k ≤ 1000000000) :
    Calls Try.prog 16 #[.pointer (some ⟨g, 0, none⟩), .int .i64 b, .int .i64 x, .int .i64 S] w fun e w' => e = .returned (.tuple #[]) ∧ SS w0.heap.size w' g (.slice A W.length cw) c ((cands (wtOf W) c (x, S, b) k).foldl relax s).1 ((cands (wtOf W) c (x, S, b) k).foldl relax s).2 ∧ Below w0.heap.size w0 w' := by
  obtain ⟨vb, vq, H⟩ := h
  obtain ⟨gb, cb, rfl, hlc, hcm, hgb, cur, hcur⟩ := ownsRow_shape H.best (by omega)
  have hkey := fun w => key_calls b x S w (by omega) hx hS
  have hK : key (x, S, b) < 16384 := by simp only [key]; omega
  have hKB : key (x, S, b) < s.1.length := by rw [hB]; exact hK
  generalize hKe : key (x, S, b) = K at *
  have c2 : w.cell? ⟨g, 2, none⟩ = some (.slice (some ⟨gb, 0, none⟩) s.1.length cb) := by rw [blk_cell H.blk]; rfl
  have ck : w.cell? ⟨gb, K, none⟩ = some (.int .i64 k) := by
    rw [H.best.cellAt K (by omega), ← hk]
    simp [ints, List.getD_eq_getElem?_getD, hKB]
  have HH := Lib.hid H; clear H
  have HB := Lib.hid hB; clear hB
  have Hk := Lib.hid hk; clear hk
  have HW := Lib.hid hW; clear hW
  have HR := Lib.hid hr; clear hr
  have HKe := Lib.hid hKe; clear hKe
  have HBel := Lib.hid hbel; clear hbel
  clear hcur
  go_enter Try.func16, Try.ntmps16
  go_wp2_with fail
  go_quiet ((go_at_call 29; exact Calls.quiet_of_same (hkey _)))
  go_wp2_with fail
  have hM0 : Mid w0 A cw W g c 0 s (w.drewN nq) := Mid.drewN ⟨⟨_, vq, HH.out⟩, HBel.out, HB.out, hq⟩ nq
  have HM0 := Lib.hid hM0; clear hM0
  clear c2 ck hkey
  go_loopg [9, 10] (b - 1 - x) (fun gk far tv wr => ∃ (j farN : Nat) (cur : List Int × List Nat), far = .int .i64 (farN : Int) ∧ tv = .int .i64 ((x : Int) + 1 + (j : Int)) ∧ L1 w0 A cw W g c s b x S k gk j farN cur wr)
  case atStart => exact ⟨0, k, s, rfl, by simp, ⟨by omega, HM0.out, by omega, rfl⟩⟩
  case round =>
    obtain ⟨j, farN, cur, rfl, rfl, hL⟩ := hrel
    have hleft := hL.left
    have hfar := hL.far
    by_cases hj : x + 1 + j < b
    · obtain ⟨gk', rfl⟩ : ∃ gk', gk = gk' + 1 := ⟨gk - 1, by omega⟩
      obtain ⟨ad, rfl, hcell⟩ := weight_at (wr := wr) HR.out hL.mid.bel (x + j) (by omega)
      have hcell' : wr.cell? (ad.add (x + j)) = some (.int .i64 ((wtOf W (x + j) : Nat) : Int)) := by
        rw [hcell]
        have := (HW.out (x + j)).1
        simp only [wtOf]
        congr 2
        omega
      clear hcell
      have hw1 : wtOf W (x + j) ≤ 1000 := by have := HW.out (x + j); simp only [wtOf]; omega
      have c0 := hL.mid.cells.1
      have HL := Lib.hid hL; clear hL
      generalize hwt : wtOf W (x + j) = wv at *
      have Hwt := Lib.hid hwt; clear hwt
      go_wp2_with (go_at_call 15; refine (HL.out.mid.reach (by omega) b (x + 1 + j) S (farN + wv) _ _ _ _ rfl (by omega) rfl (by omega) (by omega) (by omega) hS).mono ?_; rintro e w1 ⟨rfl, hmid⟩; have HM1 := Lib.hid hmid; clear hmid)
      go_roundg gk'
      case measure => omega
      case rel =>
        refine ⟨j + 1, farN + wv, relax cur ((x + 1 + j, S, b), farN + wv), by go_num, by go_num, ⟨by omega, HM1.out, by omega, ?_⟩⟩
        have hf := HL.out.fold
        rw [advs_fold, Hwt.out] at hf
        rw [show x + (j + 1) = x + j + 1 by omega, show x + 1 + j = x + j + 1 by omega]
        exact hf
    · obtain rfl : gk = 0 := by omega
      have hR1 : cur = (advs (wtOf W) S b (b - 1 - x) x k).foldl relax s := hL.fold
      have hj7 : j ≤ 7 := by omega
      have HM := Lib.hid hL.mid
      have HR1 := Lib.hid hR1
      clear hL hR1 hleft hfar
      obtain ⟨mv, hmv⟩ : ∃ z : Nat, z = 2 ^ x := ⟨_, rfl⟩
      have hmv256 : mv < 256 := by rw [hmv]; exact two_pow_lt hx
      have hpw := pow_wrap hx
      rw [← hmv] at hpw
      have HMV := Lib.hid hmv; clear hmv
      by_cases hx1 : x + 1 = b
      case' pos =>
        have ht : ((x : Int) == (b : Int) - 1) = true := by simp; omega
        go_wp2_with (go_at_call 15; refine (HM.out.reach (by omega) x x S k _ _ _ _ rfl rfl rfl rfl (by omega) (by omega) hS).mono ?_; rintro e w1 ⟨rfl, hmid⟩; have HM1 := Lib.hid hmid; clear hmid)
        obtain ⟨curA, hcurA⟩ : ∃ z, z = relax cur ((x, S, x), k) := ⟨_, rfl⟩
        rw [← hcurA] at HM1
        have hcA : curA = (if x + 1 = b then [((x, S, x), k)] else []).foldl relax ((advs (wtOf W) S b (b - 1 - x) x k).foldl relax s) := by rw [if_pos hx1, ← HR1.out]; exact hcurA
        clear hcurA
      case' neg =>
        have ht : ((x : Int) == (b : Int) - 1) = false := by simp; omega
        go_wp2_with fail
        have HM1 := Lib.hid (HM.out.mono (show j ≤ j + 1 by omega))
        have hcA : cur = (if x + 1 = b then [((x, S, x), k)] else []).foldl relax ((advs (wtOf W) S b (b - 1 - x) x k).foldl relax s) := by rw [if_neg hx1, ← HR1.out]; rfl
        obtain ⟨curA, rfl⟩ : ∃ z, z = cur := ⟨_, rfl⟩
        obtain ⟨w1, rfl⟩ : ∃ z : World, z = wr := ⟨_, rfl⟩
      all_goals
        have HCA := Lib.hid hcA
        clear hcA HM HR1 ht
        simp only [hpw]
        go_loopg [12] 8 (fun gk iv wr => ∃ (i : Nat) (cur : List Int × List Nat), iv = .int .i64 (i : Int) ∧ L2 w0 A cw W g c curA b x S k gk i cur wr)
        case atStart => exact ⟨0, curA, rfl, ⟨rfl, HM1.out.mono (by omega), by rw [List.range_eq_range']⟩⟩
        case round =>
          obtain ⟨i, cur2, rfl, hL⟩ := hrel
          have hleft := hL.left
          by_cases hi : i < 8
          · obtain ⟨gk', rfl⟩ : ∃ gk', gk = gk' + 1 := ⟨gk - 1, by omega⟩
            obtain ⟨bv, hbv256, hpi, hyes, hno⟩ := bit_facts hS hi hx HMV.out
            by_cases hb : S.testBit i = true
            · obtain ⟨hand, hb0, T, U, hT8, hU8, hnot, hor, hl⟩ := hyes hb
              have hf := hL.fold
              rw [loads_fold, hl] at hf
              have HF := Lib.hid hf
              have HL := Lib.hid hL.mid
              clear hf hL hl hyes hno hb
              go_wp2_with fail
              refine (HL.out.reach (by omega) b i S k _ _ _ _ rfl rfl rfl rfl (by omega) hi hS).mono ?_
              rintro e w2 ⟨rfl, hmid2⟩
              have HM2 := Lib.hid hmid2
              clear hmid2
              go_wp2_with fail
              refine (HM2.out.reach (by omega) b x U k _ _ _ _ rfl rfl rfl rfl (by omega) hx hU8).mono ?_
              rintro e w3 ⟨rfl, hmid3⟩
              have HM3 := Lib.hid hmid3
              clear hmid3
              go_wp2_with fail
              go_roundg gk'
              case measure => omega
              case rel => exact ⟨i + 1, _, by go_num, ⟨by omega, HM3.out.mono (by omega), HF.out⟩⟩
            · obtain ⟨hand, hl⟩ := hno (by simpa using hb)
              have hf := hL.fold
              rw [loads_fold, hl] at hf
              have HF := Lib.hid hf
              have HL := Lib.hid hL.mid
              clear hf hL hl hyes hno hb
              go_wp2_with fail
              go_roundg gk'
              case measure => omega
              case rel => exact ⟨i + 1, _, by go_num, ⟨by omega, HL.out.mono (by omega), HF.out⟩⟩
          · obtain rfl : gk = 0 := by omega
            have hf : cur2 = ((List.range 8).flatMap (loadsAt (x, S, b) k)).foldl relax curA := hL.fold
            have c1 := hL.mid.cells.2
            have HL := Lib.hid (hL.mid.mono (show 20 + 2 * i ≤ 40 by omega))
            have HF := Lib.hid hf
            clear hf hL
            obtain ⟨PU, pn, hP8, hor, hPU, hpn, hcnt⟩ := put_facts hS hx HMV.out
            have HPU := Lib.hid hPU; clear hPU
            have HPN := Lib.hid hpn; clear hpn
            have hHL := HL.out.drewN
            have HLD := Lib.hid hHL; clear hHL
            have hfin : ∀ (R : List Int × List Nat) (wf : World), Mid w0 A cw W g c 41 R wf → R = (if pc PU ≤ c then [((x, PU, b), k)] else []).foldl relax cur2 →
                SS w0.heap.size wf g (.slice A W.length cw) c ((cands (wtOf W) c (x, S, b) k).foldl relax s).1 ((cands (wtOf W) c (x, S, b) k).foldl relax s).2 ∧ Below w0.heap.size w0 wf := by
              intro R wf hm hR
              rw [cands_fold, ← HCA.out, ← HF.out, ← HPU.out, ← hR]
              exact ⟨hm.ss, hm.bel⟩
            have HFIN := Lib.hid hfin; clear hfin
            by_cases hle : pn ≤ c
            · have hdl : decide ((pn : Int) ≤ (c : Int)) = true := by simp; omega
              go_wp2_with fail
              go_quiet ((go_at_call 30; exact Calls.quiet_of (hcnt _)))
              go_wp2_with fail
              refine ((HLD.out _).reach (by omega) b x PU k _ _ _ _ rfl rfl rfl rfl (by omega) hx hP8).mono ?_
              rintro e w3 ⟨rfl, hmid3⟩
              have HM3 := Lib.hid hmid3
              clear hmid3
              go_wp2_with fail
              go_end0
              exact ⟨rfl, HFIN.out _ _ (HM3.out.mono (by omega)) (by rw [if_pos (by rw [← HPN.out]; exact hle)]; rfl)⟩
            · have hdl : decide ((pn : Int) ≤ (c : Int)) = false := by simp; omega
              go_wp2_with fail
              go_quiet ((go_at_call 30; exact Calls.quiet_of (hcnt _)))
              go_wp2_with fail
              go_end0
              exact ⟨rfl, HFIN.out _ _ ((HLD.out _).mono (by omega)) (by rw [if_neg (by rw [← HPN.out]; exact hle)]; rfl)⟩

end Go.Proofs.Ytnnmidfkgjmfmaa.Ck
