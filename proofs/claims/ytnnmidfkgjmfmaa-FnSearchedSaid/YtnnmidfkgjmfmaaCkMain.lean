/- The program's SearchCost: it answers. -/
import Derived.Test.YtnnmidfkgjmfmaaCkClosure
import Derived.Test.YtnnmidfkgjmfmaaCkRegion
import Derived.Test.YtnnmidfkgjmfmaaCkMid
import Derived.Test.YtnnmidfkgjmfmaaCkSpecWalk
import Derived.StillTailTactics
import Derived.Deep.DeepCutAuto
namespace Go.Proofs.Ytnnmidfkgjmfmaa.Ck
open Go.RowKit Go.Proofs.YtnnmidfkgjmfmaaW.PrintWords Go.Proofs.YtnnmidfkgjmfmaaW.PrintLast Go.Proofs.YtnnmidfkgjmfmaaW.PrintMore
open Go.Proofs.Ytnnmidfkgjmfmaa.PFnExactSearchCost
open Go.Maps
set_option linter.unusedVariables false
set_option linter.unusedSimpArgs false

set_option maxHeartbeats 40000000 in
set_option maxRecDepth 100000 in
theorem implSearch_calls (w0 : World) (A : Option Addr) (cw : Nat) (W : List Int) (sl : Int) (hr : Kd.C (Kd.int .i64) w0 A W.length W) (hcw : W.length ≤ cw) (hWl : W.length ≤ 9000000000000000000) :
    Calls Try.prog 7 #[.slice A W.length cw, .int .i64 sl] w0 (AnsPost W sl w0) := by
  have hco := costed_calls A cw W sl w0 hr hcw hWl
  have HR := Lib.hid hr; clear hr
  by_cases hok : weightsOk W = false
  · have HA := Lib.hid (answer_bad (sl := sl) hok)
    have hc : costed W sl = 1 := by unfold costed; rw [hok]; rfl
    rw [hc] at hco
    clear hok hc
    go_enter Try.func7, Try.ntmps7
    go_wp2_with (go_at_call 17; refine hco.mono ?_; rintro e w' ⟨rfl, ⟨m1, rfl⟩⟩)
    go_ret2
    exact ansPost_mk HA.out (pw_below_drewN (Below.refl _ _) _)
  · have hok' : weightsOk W = true := by simpa using hok
    by_cases hs : inRange sl 0 8 = false
    · have HA := Lib.hid (answer_range (sl := sl) hok' (.inl (by simp [inRange] at hs ⊢; omega)))
      have hc : costed W sl = 2 := by unfold costed; rw [hok', hs]; rfl
      rw [hc] at hco
      clear hok hok' hs hc
      go_enter Try.func7, Try.ntmps7
      go_wp2_with (go_at_call 17; refine hco.mono ?_; rintro e w' ⟨rfl, ⟨m1, rfl⟩⟩)
      go_ret2
      exact ansPost_mk HA.out (pw_below_drewN (Below.refl _ _) _)
    · have hs' : inRange sl 0 8 = true := by simpa using hs
      have hc : costed W sl = 0 := by unfold costed; rw [hok', hs']; rfl
      rw [hc] at hco
      have hsl : 0 ≤ sl ∧ sl ≤ 8 := by simpa [inRange] using hs'
      obtain ⟨hsl0, hsl8⟩ := hsl
      obtain ⟨c, rfl⟩ := Int.eq_ofNat_of_zero_le hsl0
      clear hs hs' hc hsl0
      by_cases hl : 7 < W.length
      · have HA := Lib.hid (answer_range (sl := (c : Int)) hok' (.inr hl))
        clear hok hok'
        go_enter Try.func7, Try.ntmps7
        go_wp2_with (go_at_call 17; refine hco.mono ?_; rintro e w' ⟨rfl, ⟨m1, rfl⟩⟩)
        go_ret2
        exact ansPost_mk HA.out (pw_below_drewN (Below.refl _ _) _)
      · by_cases h3 : 3 < c
        · have HA := Lib.hid (answer_range (sl := (c : Int)) hok' (.inl (by simp [inRange]; omega)))
          clear hok hok'
          go_enter Try.func7, Try.ntmps7
          go_wp2_with (go_at_call 17; refine hco.mono ?_; rintro e w' ⟨rfl, ⟨m1, rfl⟩⟩)
          go_ret2
          exact ansPost_mk HA.out (pw_below_drewN (Below.refl _ _) _)
        · have HOK := Lib.hid hok'
          have HW := Lib.hid (weightsOk_spec hok').1
          have hl7 : W.length ≤ 7 := by omega
          have hc3 : c ≤ 3 := by omega
          clear hok hok' hsl8 hl h3
          go_enter Try.func7, Try.ntmps7
          go_wp2_with (go_at_call 17; refine hco.mono ?_; rintro e w1 ⟨rfl, hd⟩; have HD := Lib.hid hd; clear hd)
          obtain ⟨F, hF⟩ : ∃ F, F = w1.heap.size := ⟨_, rfl⟩
          have hblk := heap_alloc_new w1 (Obj.cells #[Value.int IntKind.i64 0, Value.int IntKind.i64 0, Value.int IntKind.i64 (W.length : Int)] 41)
          have hbel := (Below.refl w1.heap.size w1).alloc (Nat.le_refl _) (Obj.cells #[Value.int IntKind.i64 0, Value.int IntKind.i64 0, Value.int IntKind.i64 (W.length : Int)] 41)
          rw [← hF] at hblk ⊢
          generalize (w1.alloc (Obj.cells #[Value.int IntKind.i64 0, Value.int IntKind.i64 0, Value.int IntKind.i64 (W.length : Int)] 41)) = w2 at *
          have HF := Lib.hid hF
          have HB := Lib.hid hblk
          have HBE := Lib.hid hbel
          clear hF hblk hbel
          go_upto_region 7 with (fail)
          go_cut [8, 9] (fun p8 p9 wr => ∃ pb po bm f g, p8 = mkP pb ∧ p9 = mkP po ∧ w2.heap.size ≤ pb ∧ w2.heap.size ≤ po ∧ CW w2.heap.size wr pb po bm f 1 (best1 W.length) [((0, 0, W.length), 0)] g 1 ∧ Below w2.heap.size w2 wr)
          case first =>
            --[
            refine region_begin (n := W.length) (F := F) rfl (by kernel_rfl) (by omega) (by simp) rfl HB.out rfl rfl rfl rfl rfl rfl rfl rfl rfl rfl rfl rfl rfl rfl rfl rfl rfl rfl rfl rfl rfl (by simp) (by simp) (by simp) (by simp) (by simp) (by simp) (by simp) (by simp) (by simp) (by simp) ?_
            intro v8 v9 v38 v39 v40 v41 v42 v43 v44 w' hR
            obtain ⟨pb, po, bm, f, g, e8, e9, h1, h2, hC⟩ := hR.over (fun i hi => rfl)
            have hb := hR.below
            have HC := Lib.hid (And.intro h1 (And.intro h2 (And.intro hC hb)))
            have H89 := Lib.hid (And.intro e8 e9)
            clear hR h1 h2 hC hb e8 e9
            unfold fr
            go_wp2_with fail
            go_meet
            case rel => exact ⟨pb, po, bm, f, g, H89.out.1, H89.out.2, HC.out.1, HC.out.2.1, HC.out.2.2.1, HC.out.2.2.2⟩
            --]
          case rest =>
            obtain ⟨pb, po, bm, f, g, rfl, rfl, hpb, hpo, hC, hb⟩ := hcut
            unfold mkP
            have hb0 : Below w0.heap.size w0 w2 := by
              obtain ⟨⟨d, hd⟩⟩ := HD.out
              have h1 : Below w0.heap.size w0 w1 := by rw [hd]; exact pw_below_drewN (Below.refl _ _) d
              exact h1.trans (HBE.out.mono h1.size)
            have hst : HeadI w2 (wtOf W) W.length c pb po bm f 1000000000000 1 (best1 W.length) [((0, 0, W.length), 0)] g 1 wc := by
              have hi := iinv_start (wt := wtOf W) (c := c) hl7
              exact ⟨hC, hi, hb, by have := hi.few; simp only [best1, List.length_singleton] at this ⊢; omega⟩
            have HST := Lib.hid hst
            have HB0 := Lib.hid hb0
            clear hC hb hst hb0 hpb hpo HB HBE HD HF
            go_wp2_with fail
            go_loopg [] 1000000000000 (fun gk wr => ∃ nb best ys g cap, HeadI w2 (wtOf W) W.length c pb po bm f gk nb best ys g cap wr)
            case atStart => exact ⟨_, _, _, _, _, HST.out⟩
            case round =>
              obtain ⟨nb, best, ys, g, cap, hH⟩ := hrel
              have co : wr.cell? ⟨po, 0, none⟩ = some (.pointer (some ⟨f, 0, none⟩)) := cell_of_one hH.cw.pok
              have cf := hH.cw.fr.cell
              by_cases h0 : ys.length = 0
              · have hIN : inRange (c : Int) 0 3 = true := by simp [inRange]; omega
                have hys := List.length_eq_zero_iff.1 h0
                have hA := answer_good (sl := (c : Int)) HOK.out hIN (by omega) (by simpa using (by have := hH.inv; rw [hys] at this; exact this.empty : IsLeast (wtOf W) c (0, 0, W.length) none))
                have HA := Lib.hid hA
                have HBB := Lib.hid (HB0.out.trans (hH.bel.mono HB0.out.size))
                clear hH hIN hys hA
                go_wp2_with (go_at_call 18; refine (len_calls _ _ _ _).mono ?_; rintro e w' ⟨rfl, rfl⟩)
                go_ret2
                exact ansPost_mk HA.out HBB.out
              · have h1 : 0 < ys.length := by omega
                have hfew := hH.inv.few
                have hpop := hpop_calls w2.heap.size wr f g cap ys hH.cw.fr hH.inv.heap h1 (by omega)
                have HH := Lib.hid hH
                have HP := Lib.hid hpop
                have hlen : ys.length ≤ 300000000000 := by omega
                clear hH hpop hfew h0
                go_wp2_with (go_at_call 18; refine (len_calls _ _ _ _).mono ?_; rintro e w' ⟨rfl, rfl⟩)
                refine HP.out.mono ?_
                intro e w3 hp
                obtain ⟨⟨x, S, b⟩, m, zs, cap', he, hperm, htop, hord, hC, hB⟩ := HH.out.popped hp
                have he' : e = .returned (.iface 45 (.agg #[.int .i64 (x : Int), .int .i64 (S : Int), .int .i64 (b : Int), .int .i64 (m : Int)])) := he
                subst he'
                have hta := assert_calls
                have HPM := Lib.hid hperm
                have HTP := Lib.hid htop
                have HOD := Lib.hid hord
                have HC := Lib.hid hC
                have HB := Lib.hid hB
                clear hp he hperm htop hord hC hB
                go_wp2_with fail
                have hT := heap_alloc_new w3 (Obj.cells #[Value.int IntKind.i64 (x : Int), Value.int IntKind.i64 (S : Int), Value.int IntKind.i64 (b : Int), Value.int IntKind.i64 (m : Int)] 45)
                have hC4 := HC.out.alloc (Obj.cells #[Value.int IntKind.i64 (x : Int), Value.int IntKind.i64 (S : Int), Value.int IntKind.i64 (b : Int), Value.int IntKind.i64 (m : Int)] 45)
                have hB4 := HB.out.alloc HB.out.size (Obj.cells #[Value.int IntKind.i64 (x : Int), Value.int IntKind.i64 (S : Int), Value.int IntKind.i64 (b : Int), Value.int IntKind.i64 (m : Int)] 45)
                generalize w3.alloc (Obj.cells #[Value.int IntKind.i64 (x : Int), Value.int IntKind.i64 (S : Int), Value.int IntKind.i64 (b : Int), Value.int IntKind.i64 (m : Int)] 45) = w4 at *
                generalize w3.heap.size = T at *
                have ct0 : w4.cell? ⟨T, 0, none⟩ = some (.int .i64 (x : Int)) := by rw [blk_cell hT]; rfl
                have ct1 : w4.cell? ⟨T, 1, none⟩ = some (.int .i64 (S : Int)) := by rw [blk_cell hT]; rfl
                have ct2 : w4.cell? ⟨T, 2, none⟩ = some (.int .i64 (b : Int)) := by rw [blk_cell hT]; rfl
                have ct3 : w4.cell? ⟨T, 3, none⟩ = some (.int .i64 (m : Int)) := by rw [blk_cell hT]; rfl
                have st := blk_lt hT
                have HC4 := Lib.hid hC4
                have HB4 := Lib.hid hB4
                clear hT hC4 hB4 HC HB
                go_region
                go_upto_region 11 with (fail)
                have hAT := heap_alloc_new w4 (Obj.cells #[Value.int IntKind.i64 (x : Int), Value.int IntKind.i64 (S : Int), Value.int IntKind.i64 (b : Int)] 41)
                have hC5 := (HC4.out.alloc (Obj.cells #[Value.int IntKind.i64 (x : Int), Value.int IntKind.i64 (S : Int), Value.int IntKind.i64 (b : Int)] 41)).drewN 1
                have hB5 := pw_below_drewN (HB4.out.alloc HB4.out.size (Obj.cells #[Value.int IntKind.i64 (x : Int), Value.int IntKind.i64 (S : Int), Value.int IntKind.i64 (b : Int)] 41)) 1
                have hAT5 : (w4.alloc (Obj.cells #[Value.int IntKind.i64 (x : Int), Value.int IntKind.i64 (S : Int), Value.int IntKind.i64 (b : Int)] 41)).drew.heap[w4.heap.size]? = some (.cells #[Value.int IntKind.i64 (x : Int), Value.int IntKind.i64 (S : Int), Value.int IntKind.i64 (b : Int)] 41 (0, 0)) := hAT
                rw [show (w4.alloc (Obj.cells #[Value.int IntKind.i64 (x : Int), Value.int IntKind.i64 (S : Int), Value.int IntKind.i64 (b : Int)] 41)).drewN 1 = (w4.alloc (Obj.cells #[Value.int IntKind.i64 (x : Int), Value.int IntKind.i64 (S : Int), Value.int IntKind.i64 (b : Int)] 41)).drew from rfl] at hC5 hB5
                clear hAT ct0 ct1 ct2 ct3 st HC4 HB4
                generalize (w4.alloc (Obj.cells #[Value.int IntKind.i64 (x : Int), Value.int IntKind.i64 (S : Int), Value.int IntKind.i64 (b : Int)] 41)).drew = w5 at *
                generalize w4.heap.size = h at *
                have ch0 : w5.cell? ⟨h, 0, none⟩ = some (.int .i64 (x : Int)) := by rw [blk_cell hAT5]; rfl
                have ch1 : w5.cell? ⟨h, 1, none⟩ = some (.int .i64 (S : Int)) := by rw [blk_cell hAT5]; rfl
                have ch2 : w5.cell? ⟨h, 2, none⟩ = some (.int .i64 (b : Int)) := by rw [blk_cell hAT5]; rfl
                have cb : w5.cell? ⟨pb, 0, none⟩ = some (.map (some bm)) := cell_of_one hC5.pbk
                have sth := blk_lt hAT5
                have stb := blk_lt hC5.pbk
                have hmem : ((x, S, b), m) ∈ ys := HPM.out.mem_iff.2 (by simp)
                obtain ⟨hpath, m', hbm, hmle⟩ := HH.out.inv.ents _ hmem
                have hokv := (ok_start W.length c).path hl7 hpath
                have hdom := Path.dom hl7 hpath
                have hm'1 := HH.out.inv.bnd.le hbm
                obtain ⟨D, hD⟩ := hC5.map
                have hkey := litOf_spec w5 hdom
                have hval := hD.val _ _ hdom hbm
                have HD := Lib.hid hD
                have HK := Lib.hid hkey
                have HV := Lib.hid hval
                have HC5 := Lib.hid hC5
                have HB5 := Lib.hid hB5
                have HAT5 := Lib.hid hAT5
                have HPATH := Lib.hid hpath
                have HBM := Lib.hid hbm
                have HOKV := Lib.hid hokv
                have HDOM := Lib.hid hdom
                clear hmem hpath hbm hokv hdom hD hkey hval hC5 hB5 hAT5
                simp only at hmle
                by_cases hst : m' < m
                · go_wp2_with (at_lookup; (refine wpList_lookup_own_int _ rfl _ _ 42 rfl 41 2 .i64 keyed41 Try.underlying42 Try.underlying2 (zero2 _) bm nb D rfl HD.out.own (.agg #[.int .i64 (x : Int), .int .i64 (S : Int), .int .i64 (b : Int)]) (litOf (x, S, b)) rfl HK.out ?_); intro cv hat hwc; obtain rfl := lit_inj (HV.out.symm.trans hat); clear hat hwc)
                  go_roundg (gk - 1)
                  case measure => have := HH.out.most; omega
                  case rel =>
                    refine ⟨nb, best, zs, g, cap', HC5.out, HH.out.inv.stale HPM.out HOD.out HBM.out hst, HB5.out, ?_⟩
                    have h1 := HH.out.most
                    have h2 := HPM.out.length_eq
                    simp only [List.length_cons] at h2
                    omega
                · obtain rfl : m' = m := by omega
                  by_cases hb0 : b = 0
                  · subst hb0
                    go_wp2_with (at_lookup; (refine wpList_lookup_own_int _ rfl _ _ 42 rfl 41 2 .i64 keyed41 Try.underlying42 Try.underlying2 (zero2 _) bm nb D rfl HD.out.own (.agg #[.int .i64 (x : Int), .int .i64 (S : Int), .int .i64 _]) (litOf (x, S, 0)) rfl HK.out ?_); intro cv hat hwc; obtain rfl := lit_inj (HV.out.symm.trans hat); clear hat hwc)
                    go_ret2
                    have hIN : inRange (c : Int) 0 3 = true := by simp [inRange]; omega
                    have hA := answer_good (sl := (c : Int)) HOK.out hIN (by omega) (by simpa using HH.out.inv.found HPM.out (pop_least HH.out.inv.heap HPM.out HTP.out) HBM.out rfl)
                    exact ansPost_mk hA (HB0.out.trans (HB5.out.mono HB0.out.size))
                  · obtain ⟨G, rfl⟩ : ∃ z : Nat, z = gk := ⟨_, rfl⟩
                    have hM0 : MidP w2 (wtOf W) W.length c pb po bm f h x S b m' (2 * pot (1000 * 16384) best + zs.length) [] w5 :=
                      ⟨nb, best, zs, g, cap', HC5.out, HAT5.out, HH.out.inv.take HPM.out HOD.out HBM.out, HB5.out⟩
                    have hmost : 2 * pot (1000 * 16384) best + zs.length + 1 < G := by
                      have h1 := HH.out.most
                      have h2 := HPM.out.length_eq
                      simp only [List.length_cons] at h2
                      omega
                    have hd3 := HDOM.out
                    rw [mem_dom] at hd3
                    obtain ⟨hx8, hS8, hb8⟩ := hd3
                    have hbn : b ≤ W.length := HOKV.out.left
                    have hfew : pc S ≤ c := HOKV.out.few
                    have hbits : ∀ i, S.testBit i = true → i < W.length ∨ i = 0 := fun i hi => HOKV.out.bits hi
                    generalize 2 * pot (1000 * 16384) best + zs.length = M at *
                    go_upto_if 73 with (at_lookup; (refine wpList_lookup_own_int _ rfl _ _ 42 rfl 41 2 .i64 keyed41 Try.underlying42 Try.underlying2 (zero2 _) bm nb D rfl HD.out.own (.agg #[.int .i64 (x : Int), .int .i64 (S : Int), .int .i64 (b : Int)]) (litOf (x, S, b)) rfl HK.out ?_); intro cv hat hwc; obtain rfl := lit_inj (HV.out.symm.trans hat); clear hat hwc)
                    have HM0 := Lib.hid hM0
                    have HMOST := Lib.hid hmost
                    have HBITS := Lib.hid hbits
                    clear hM0 hmost hbits
                    clear HD HK HV HC5 HB5 HAT5 HBM HDOM cb ch0 ch1 ch2 sth stb HPM HTP HOD HH
                    have cM0 := HM0.out.cells
                    obtain ⟨ch0, ch1, ch2⟩ := cM0
                    go_cut [] (fun wr => ∃ sat, MidP w2 (wtOf W) W.length c pb po bm f h x S b m' M sat wr ∧ (x + 1 < b → ((x + 1, S, b), m' + wtOf W x) ∈ sat))
                    case first =>
                      --[
                      by_cases hx1 : x + 1 < b
                      · obtain ⟨nb5, best5, ys5, g5, cap5, hMM⟩ := HM0.out
                        obtain ⟨ad, rfl, hcell⟩ := weight_at (wr := w5) HR.out (HB0.out.trans (hMM.bel.mono HB0.out.size)) x (by omega)
                        clear hMM nb5 best5 ys5 g5 cap5
                        have hcell' : w5.cell? (ad.add x) = some (.int .i64 ((wtOf W x : Nat) : Int)) := by
                          rw [hcell]
                          have := (HW.out x).1
                          simp only [wtOf]
                          congr 2
                          omega
                        clear hcell
                        have hw1 : wtOf W x ≤ 1000 := by have := HW.out x; simp only [wtOf]; omega
                        have hpa := HPATH.out.step (E.adv hx1)
                        generalize hwt : wtOf W x = wv at *
                        have Hwt := Lib.hid hwt; clear hwt
                        have HPA := Lib.hid hpa; clear hpa
                        have hxl : x < W.length := by omega
                        go_wp2_with fail
                        go_still_tail 16, (by kernel_rfl)
                        go_wp2_with fail
                        refine (HM0.out.drew.call hl7 (.inr trivial) (x + 1) S b (m' + wv) _ _ _ _ (by go_num) rfl rfl (by go_num) HPA.out (by omega) (by omega) (by omega)).mono ?_
                        rintro e w6 ⟨rfl, hM6⟩
                        have HM6 := Lib.hid hM6
                        clear hM6
                        go_wp2_with fail
                        go_meet
                        case rel => exact ⟨_, HM6.out, fun _ => by simp⟩
                      · go_wp2_with fail
                        go_meet
                        case rel => exact ⟨_, HM0.out, fun h => absurd h hx1⟩
                      --]
                    case rest =>
                      obtain ⟨sat1, hM1, hadv⟩ := hcut
                      have HM1 := Lib.hid hM1
                      have HADV := Lib.hid hadv
                      clear hM1 hadv HM0 ch0 ch1 ch2
                      have cM0 := HM1.out.cells
                      obtain ⟨ch0, ch1, ch2⟩ := cM0
                      go_upto_if 96 with fail
                      go_cut [] (fun wr => ∃ sat, MidP w2 (wtOf W) W.length c pb po bm f h x S b m' M sat wr ∧ (x + 1 < b → ((x + 1, S, b), m' + wtOf W x) ∈ sat) ∧ (x + 1 = b → ((x, S, b - 1), m') ∈ sat))
                      case first =>
                        --[
                        by_cases hx2 : x + 1 = b
                        · have ht : ((x : Int) == (b : Int) - 1) = true := by simp; omega
                          have hpa := HPATH.out.step (E.rev hx2)
                          have HPA := Lib.hid hpa; clear hpa
                          go_wp2_with fail
                          refine (HM1.out.call hl7 (.inr trivial) x S (b - 1) m' _ _ _ _ rfl rfl (by go_num) rfl HPA.out (by omega) (by omega) (by omega)).mono ?_
                          rintro e w6 ⟨rfl, hM6⟩
                          have HM6 := Lib.hid hM6
                          clear hM6
                          go_wp2_with fail
                          go_meet
                          case rel => exact ⟨_, HM6.out, fun h => List.mem_cons_of_mem _ (HADV.out h), fun _ => by simp⟩
                        · have ht : ((x : Int) == (b : Int) - 1) = false := by simp; omega
                          go_wp2_with fail
                          go_meet
                          case rel => exact ⟨_, HM1.out, HADV.out, fun h => absurd h hx2⟩
                        --]
                      case rest =>
                        obtain ⟨sat2, hM2, hadv2, hrev2⟩ := hcut
                        have HM2 := Lib.hid hM2
                        have HADV2 := Lib.hid hadv2
                        have HREV2 := Lib.hid hrev2
                        clear hM2 hadv2 hrev2 HM1 HADV ch0 ch1 ch2
                        go_upto_region 20 with fail
                        have hO := MidO.start HM2.out
                        have HO := Lib.hid hO
                        clear hO HM2
                        generalize wc.heap.size = rb at *
                        generalize wc.alloc (Obj.cells #[] 2) = w7 at *
                        go_wp2_with fail
                        go_loopg [14, 112] (W.length + 1) (fun gk v iv wr => ∃ (i : Nat) (vb : Value) (sat : List Ent) (q : List Nat), vb = v ∧ iv = .int .i64 (i : Int) ∧ gk + i = W.length + 1 ∧ LA w2 (wtOf W) W.length c pb po bm f h x S b m' M i vb sat q wr)
                        case atStart => exact ⟨0, _, sat2, [], rfl, rfl, rfl, HO.out, HADV2.out, HREV2.out, fun j hj => absurd hj (by omega), rfl⟩
                        case round =>
                          obtain ⟨i, v, sat, q, rfl, rfl, hleft, hLA⟩ := hrel
                          have cM := hLA.mid.1.cells
                          obtain ⟨ch0, ch1, ch2⟩ := cM
                          have HLA := Lib.hid hLA
                          clear hLA
                          by_cases hi : i < W.length + 1
                          · obtain ⟨gk', rfl⟩ : ∃ gk', gk = gk' + 1 := ⟨gk - 1, by omega⟩
                            obtain ⟨hyes, hno⟩ := shr_bit (i := i) hS8
                            by_cases hbt : S.testBit i = true
                            · have hy := hyes hbt
                              have hown : wr.ownsRow w2.heap.size 2 1 v (nats q).length (nats q) := by have := HLA.out.mid.2; simpa [nats] using this
                              have hbel := HLA.out.mid.bel
                              have hsz := hbel.size
                              have hqi : q.length ≤ i := by rw [HLA.out.row]; exact filter_le S i
                              have hql : ((nats q).length + 1) * 8 ≤ 140737488355328 := by simp only [nats, List.length_map]; omega
                              have HBT := Lib.hid hbt
                              clear hbt hyes hno
                              obtain ⟨L, hL⟩ : ∃ L, L = nats q := ⟨_, rfl⟩
                              rw [← hL] at hown hql
                              have HL := Lib.hid hL
                              clear hL
                              go_wp2_with (at_builtin; (refine print_append w2.heap.size rfl (.tmp 121) (.tmp 123) 22 2 (.int .i64 0) 8 rfl Try.underlying22 info2 rfl (by omega) v L (.int .i64 (i : Int)) rfl rfl rfl hown hbel hsz hql ?_); intro v' w8 hown1 hb2 hgrow hat; have hap := HLA.out.mid.append (i := i) (by rw [← HL.out]; exact hown1) hb2 hgrow; obtain ⟨dh0, dh1, dh2⟩ := hap.1.cells; have HAP := Lib.hid hap; clear hap hown1 hgrow hat hb2)
                              refine (HAP.out.call hl7 i S b m' _ _ _ _ rfl rfl rfl rfl (HPATH.out.step (E.load HBT.out)) (by omega) (by omega) (by omega)).mono ?_
                              rintro e w9 ⟨rfl, hM9⟩
                              have HM9 := Lib.hid hM9
                              clear hM9
                              go_wp2_with fail
                              go_roundg gk'
                              case measure => omega
                              case rel => exact ⟨i + 1, _, _, _, rfl, by go_num, by omega, HLA.out.yes HBT.out HM9.out⟩
                            · have hbf : S.testBit i = false := by simpa using hbt
                              have hn := hno hbf
                              have HBF := Lib.hid hbf
                              clear hbt hbf hyes hno
                              go_wp2_with fail
                              go_roundg gk'
                              case measure => omega
                              case rel => exact ⟨i + 1, _, sat, q, rfl, by go_num, by omega, HLA.out.no HBF.out⟩
                          · obtain rfl : gk = 0 := by omega
                            have hi1 : i = W.length + 1 := by omega
                            obtain ⟨A1, cap1, rfl⟩ := own_slice HLA.out.mid.2
                            have hqn : q.length = pc S := by rw [HLA.out.row, hi1]; exact pc_filter hl7 HBITS.out
                            have HQN := Lib.hid hqn
                            have hq8 : q.length ≤ 3 := by omega
                            have HI1 := Lib.hid hi1
                            clear hqn hi1 hleft
                            go_upto_if 138 with fail
                            obtain ⟨mv, hmv⟩ : ∃ z : Nat, z = 2 ^ x := ⟨_, rfl⟩
                            have hmv256 : mv < 256 := by rw [hmv]; exact two_pow_lt hx8
                            have hpw := pow_wrap hx8
                            rw [← hmv] at hpw
                            have HMV := Lib.hid hmv
                            clear hmv
                            go_cut [] (fun wr => ∃ sat3, LB w2 (wtOf W) W.length c pb po bm f h x S b m' M 0 (.slice A1 q.length cap1) sat3 q wr)
                            case first =>
                              by_cases hlt : q.length < c
                              · obtain ⟨PU, pn, hP8, hor, hPU, hpn, -⟩ := put_facts hS8 hx8 HMV.out
                                have HPU := Lib.hid hPU
                                clear hPU hpn
                                go_wp2_with fail
                                go_still_tail 13, (by kernel_rfl)
                                go_wp2_with fail
                                refine (HLA.out.mid.drew.call hl7 x PU b m' _ _ _ _ rfl (by first | rfl | exact hor | (rw [hpw]; exact hor)) rfl rfl (by rw [HPU.out]; exact path_put HPATH.out (by rw [← HQN.out]; exact hlt)) (by omega) (by omega) (by omega)).mono ?_
                                rintro e w9 ⟨rfl, hM9⟩
                                have HM9 := Lib.hid hM9
                                clear hM9
                                go_wp2_with fail
                                go_meet
                                case rel => exact ⟨_, HLA.out.put HI1.out HBITS.out HM9.out (fun e he => List.mem_cons_of_mem _ he) (fun _ => by rw [← HPU.out]; simp)⟩
                              · go_wp2_with fail
                                go_meet
                                case rel => exact ⟨_, HLA.out.put HI1.out HBITS.out HLA.out.mid (fun e he => he) (fun h => absurd (by rw [HQN.out]; exact h) hlt)⟩
                            case rest =>
                              obtain ⟨sat3, hLB0⟩ := hcut
                              have HLB0 := Lib.hid hLB0
                              clear hLB0 HLA ch0 ch1 ch2
                              go_wp2_with fail
                              go_loopg [155] q.length (fun gk iv wr => ∃ (j : Nat) (sat4 : List Ent), iv = .int .i64 (j : Int) ∧ gk + j = q.length ∧ LB w2 (wtOf W) W.length c pb po bm f h x S b m' M j (.slice A1 q.length cap1) sat4 q wr)
                              case atStart => exact ⟨0, sat3, rfl, rfl, HLB0.out⟩
                              case round =>
                                obtain ⟨j, sat4, rfl, hleft4, hLB⟩ := hrel
                                obtain ⟨ch0, ch1, ch2⟩ := hLB.mid.1.cells
                                by_cases hj : j < q.length
                                · obtain ⟨gk', rfl⟩ : ∃ gk', gk = gk' + 1 := ⟨gk - 1, by omega⟩
                                  obtain ⟨r, cap, hv, hc⟩ := hLB.cell hj
                                  injection hv with e1 _ e3
                                  subst e1 e3
                                  have hb := hLB.bit hj
                                  have hi8 : q.getD j 0 < 8 := by have := HBITS.out _ hb; omega
                                  obtain ⟨iv, hiv⟩ : ∃ iv, iv = q.getD j 0 := ⟨_, rfl⟩
                                  rw [← hiv] at hc hb hi8
                                  obtain ⟨bv, T1, U, hbv, hT1, hU8, hpi, hnot, hor, hU⟩ := repl_facts hS8 hi8 hx8 HMV.out hb
                                  have HIV := Lib.hid hiv
                                  have HLB := Lib.hid hLB
                                  have HU := Lib.hid hU
                                  have HBI := Lib.hid hb
                                  clear hiv hLB hU hb
                                  go_wp2_with fail
                                  go_still_tail 16, (by kernel_rfl)
                                  go_wp2_with fail
                                  refine (HLB.out.mid.drew.call hl7 x U b m' _ _ _ _ rfl (by first | rfl | exact hor | (simp only [hpi, hpw, hnot, hor])) rfl rfl (by rw [HU.out]; exact HPATH.out.step (E.repl HBI.out)) (by omega) (by omega) (by omega)).mono ?_
                                  rintro e w9 ⟨rfl, hM9⟩
                                  have HM9 := Lib.hid hM9
                                  clear hM9
                                  go_wp2_with fail
                                  go_roundg gk'
                                  case measure => omega
                                  case rel =>
                                    refine ⟨j + 1, _, by go_num, by omega, HLB.out.next ?_⟩
                                    rw [← HIV.out, ← HU.out]
                                    exact HM9.out
                                · obtain rfl : gk = 0 := by omega
                                  have HLB := Lib.hid hLB
                                  clear hLB
                                  go_wp2_with fail
                                  go_roundg (G - 1)
                                  case measure => have := HMOST.out; omega
                                  case rel => exact HLB.out.mid.1.over hb0 (HLB.out.all (by omega) HBITS.out) (G - 1) (by have := HMOST.out; omega)

end Go.Proofs.Ytnnmidfkgjmfmaa.Ck
