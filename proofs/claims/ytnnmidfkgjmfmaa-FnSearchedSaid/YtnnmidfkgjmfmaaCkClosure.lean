/- The program's closure 'reach': one entry is noted. -/
import Derived.Test.YtnnmidfkgjmfmaaCkMapMem
namespace Go.Proofs.Ytnnmidfkgjmfmaa.Ck
open Go.RowKit Go.Proofs.YtnnmidfkgjmfmaaW.PrintWords Go.Proofs.YtnnmidfkgjmfmaaW.PrintLast Go.Proofs.YtnnmidfkgjmfmaaW.PrintMore
open Go.Proofs.Ytnnmidfkgjmfmaa.PFnExactSearchCost
open Go.Maps
set_option linter.unusedVariables false
set_option linter.unusedSimpArgs false

/-- The program's search in memory. -/
structure CW (base : Nat) (w : World) (pb po bm f nb : Nat) (best : Best) (ys : List Ent) (g cap : Nat) : Prop where
  pbk : w.heap[pb]? = some (.cells #[.map (some bm)] 42 (0, 0))
  pok : w.heap[po]? = some (.cells #[.pointer (some ⟨f, 0, none⟩)] 43 (0, 0))
  map : MB w bm nb best
  fr : FR base w f ys g cap
  bge : base ≤ bm

/-- All but the heap's two blocks and the map's are as they were. -/
def Keep3 (w w' : World) (f g bm : Nat) : Prop := w.heap.size ≤ w'.heap.size ∧ ∀ i, i < w.heap.size → i ≠ f → i ≠ g → i ≠ bm → w'.heap[i]? = w.heap[i]?

theorem Keep3.refl (w : World) (f g bm : Nat) : Keep3 w w f g bm := ⟨Nat.le_refl _, fun _ _ _ _ _ => rfl⟩

def ClPost (base : Nat) (w : World) (pb po bm f nb : Nat) (best : Best) (ys : List Ent) (g : Nat) (x : Ent) (e : Ending) (w' : World) : Prop :=
  e = .returned (.tuple #[]) ∧ ∃ best' ys' nb' g' cap', CW base w' pb po bm f nb' best' ys' g' cap' ∧ Rel best ys x best' ys' ∧ ((Gain best x.1 x.2 → nb' = nb + 1) ∧ (¬ Gain best x.1 x.2 → nb' = nb)) ∧ Below base w w' ∧ Keep3 w w' f g bm

theorem lit_inj {a b : Int} (h : (DataW.lit (.int .i64 a) : DataW Unit) = .lit (.int .i64 b)) : a = b := by cases h; rfl

theorem zero2 (w : World) : (zeroValue 2).run Try.prog w = .ok (.int .i64 0) w := by kernel_rfl

theorem gain_none {best : Best} {v : V} {k : Nat} (h : best v = none) : Gain best v k := fun m hm => by rw [h] at hm; cases hm
theorem gain_some {best : Best} {v : V} {k n : Nat} (h : best v = some n) (hk : k < n) : Gain best v k := fun m hm => by rw [h] at hm; cases hm; exact hk
theorem idle_some {best : Best} {v : V} {k n : Nat} (h : best v = some n) (hk : ¬ k < n) : ¬ Gain best v k := fun hg => hk (hg n h)

theorem CW.alloc {base pb po bm f nb g cap : Nat} {w : World} {best : Best} {ys : List Ent} (h : CW base w pb po bm f nb best ys g cap) (o : Obj) : CW base (w.alloc o) pb po bm f nb best ys g cap :=
  ⟨blk_alloc h.pbk o, blk_alloc h.pok o, h.map.block (Below.heap_alloc w o bm h.map.lt), ⟨blk_alloc h.fr.blk o, h.fr.ge, h.fr.own.alloc o⟩, h.bge⟩

theorem CW.drewN {base pb po bm f nb g cap : Nat} {w : World} {best : Best} {ys : List Ent} (h : CW base w pb po bm f nb best ys g cap) (m : Nat) : CW base (w.drewN m) pb po bm f nb best ys g cap :=
  ⟨h.pbk, h.pok, h.map.block rfl, ⟨h.fr.blk, h.fr.ge, h.fr.own⟩, h.bge⟩

theorem Keep3.alloc (w : World) (o : Obj) (f g bm : Nat) : Keep3 w (w.alloc o) f g bm := ⟨by simp, fun i hi _ _ _ => Below.heap_alloc w o i hi⟩

theorem CW.ne {base pb po bm f nb g cap : Nat} {w : World} {best : Best} {ys : List Ent} (h : CW base w pb po bm f nb best ys g cap) : bm ≠ f ∧ bm ≠ g ∧ bm ≠ pb ∧ bm ≠ po ∧ pb ≠ f ∧ pb ≠ g ∧ po ≠ f ∧ po ≠ g ∧ f ≠ g := by
  obtain ⟨_, _, cur, hc⟩ := own_block_type h.fr.own (g := g) rfl
  exact ⟨h.map.ne h.fr.blk, h.map.ne hc, h.map.ne h.pbk, h.map.ne h.pok, blk_ne h.pbk h.fr.blk (by decide), blk_ne h.pbk hc (by decide), blk_ne h.pok h.fr.blk (by decide), blk_ne h.pok hc (by decide), blk_ne h.fr.blk hc (by decide)⟩

/-- Behind the map's store. -/
theorem CW.stored {base pb po bm f nb g cap k : Nat} {w w1 : World} {best : Best} {ys : List Ent} {o : Obj} {D : DataW Unit} {v : V} (h : CW base w pb po bm f nb best ys g cap) (hD : MBv (w.alloc o) bm nb best D) (hv : v ∈ dom)
    (ho : w1.ownsMap Try.prog 41 (plainElem Try.prog 2) bm (nb + 1) (D.put (litOf v) (.lit (.int .i64 (k : Int))))) (hg : (w.alloc o).grownBy w1 (some bm)) :
    CW base w1 pb po bm f (nb + 1) (upd best v k) ys g cap ∧ Below base w w1 ∧ Keep3 w w1 f g bm ∧ w1.heap[w.heap.size]? = some o := by
  have hA := h.alloc o
  obtain ⟨n1, n2, n3, n4, _⟩ := hA.ne
  have hsz : (w.alloc o).heap.size = w.heap.size + 1 := by simp
  have hbs : base ≤ w.heap.size := Nat.le_trans h.fr.ge (Nat.le_of_lt h.fr.gge.2.2)
  refine ⟨⟨blk_grown hA.pbk hg (by simpa using Ne.symm n3), blk_grown hA.pok hg (by simpa using Ne.symm n4), hD.put hv ho, ⟨blk_grown hA.fr.blk hg (by simpa using Ne.symm n1), h.fr.ge, hA.fr.own.kept hg (.inr (by simp [Value.ownBlock]; exact Ne.symm n2))⟩, h.bge⟩, ?_, ?_, ?_⟩
  · exact ((Below.refl _ _).alloc hbs o).grown hg (by omega) (fun k e => by cases e; exact h.bge)
  · refine ⟨by have := hg.size; omega, fun i hi h1 h2 h3 => ?_⟩
    exact (hg.block i (by omega) (by simpa using h3)).trans (Below.heap_alloc w o i hi)
  · have hn : w.heap.size ≠ bm := by have := h.map.lt; omega
    exact (hg.block w.heap.size (by omega) (by simpa using hn)).trans (heap_alloc_new w o)

/-- Behind container/heap's Push. -/
theorem CW.pushed {base pb po bm f nb g cap k : Nat} {w w1 w2 : World} {best : Best} {ys : List Ent} {v : V} {e : Ending} (hgain : Gain best v k) (h : CW base w1 pb po bm f (nb + 1) (upd best v k) ys g cap) (hb : Below base w w1) (hk : Keep3 w w1 f g bm)
    (hp : HPush base w1 f ys (v, k) g e w2) : ClPost base w pb po bm f nb best ys g (v, k) e w2 := by
  obtain ⟨he, zs, g', cap', hfr, hperm, hord, hb2, hk2⟩ := hp
  obtain ⟨n1, n2, _, _, n5, n6, n7, n8, _⟩ := h.ne
  have hne : ∀ i, i ≠ g → some i ≠ some g := fun i hi e => hi (Option.some.inj e)
  refine ⟨he, upd best v k, zs, nb + 1, g', cap', ⟨hk2.blk h.pbk n5 (hne _ n6), hk2.blk h.pok n7 (hne _ n8), h.map.block (hk2.2 bm h.map.lt n1 (hne _ n2)), hfr, h.bge⟩, .inl ⟨hgain, rfl, hperm, hord⟩, ⟨fun _ => rfl, fun hn => absurd hgain hn⟩, hb.trans hb2, ?_⟩
  exact ⟨Nat.le_trans hk.1 hk2.1, fun i hi h1 h2 h3 => (hk2.2 i (Nat.lt_of_lt_of_le hi hk.1) h1 (hne _ h2)).trans (hk.2 i hi h1 h2 h3)⟩

set_option maxHeartbeats 2000000 in
theorem closure_calls (base : Nat) (w : World) (pb po bm f nb : Nat) (best : Best) (ys : List Ent) (g cap : Nat) (v : V) (k : Nat) (h : CW base w pb po bm f nb best ys g cap) (hv : v ∈ dom) (hord : HeapOrd ys ys.length) (hn : ys.length ≤ 700000000000) (hnb : nb ≤ 700000000000) (hk : k ≤ 1000000000) :
    Calls Try.prog 20 #[kv v, .int .i64 (k : Int), .pointer (some ⟨pb, 0, none⟩), .pointer (some ⟨po, 0, none⟩)] w (ClPost base w pb po bm f nb best ys g (v, k)) := by
  have hA := h.alloc (.cells #[.int .i64 (v.1 : Int), .int .i64 (v.2.1 : Int), .int .i64 (v.2.2 : Int)] 41)
  have hbA : Below base w (w.alloc (.cells #[.int .i64 (v.1 : Int), .int .i64 (v.2.1 : Int), .int .i64 (v.2.2 : Int)] 41)) := (Below.refl _ _).alloc (Nat.le_trans h.fr.ge (Nat.le_of_lt h.fr.gge.2.2)) _
  have cb : w.cell? ⟨pb, 0, none⟩ = some (.map (some bm)) := cell_of_one h.pbk
  have co : w.cell? ⟨po, 0, none⟩ = some (.pointer (some ⟨f, 0, none⟩)) := cell_of_one h.pok
  have spb := blk_lt h.pbk
  have spo := blk_lt h.pok
  obtain ⟨D, hD⟩ := hA.map
  have hkey := litOf_spec w hv
  have hhas := hD.has_ v hv
  cases hb : best v with
  | none =>
    rw [hb] at hhas
    have hg : Gain best v k := gain_none hb
    have HG := Lib.hid hg
    have HD := Lib.hid hD
    have HK := Lib.hid hkey
    have HH := Lib.hid hhas
    have HC := Lib.hid h
    have HO := Lib.hid hord
    clear hg hD hkey hhas hb hA hbA hord h
    obtain ⟨x, S, b⟩ := v
    unfold kv at HK ⊢
    simp only at HK HD HG hv ⊢
    go_enter Try.func20, Try.ntmps20
    go_wp2_with (first | (at_lookup; refine wpList_lookup_own_ok_int _ rfl (.tmp 9) (.tmp 10) 42 rfl 41 2 .i64 keyed41 Try.underlying42 Try.underlying2 (zero2 _) bm nb D rfl HD.out.own (.agg #[.int .i64 (x : Int), .int .i64 (S : Int), .int .i64 (b : Int)]) (litOf (x, S, b)) rfl HK.out ?_; intro c hat hwc;  rw [HH.out]; clear hat hwc) | (at_mapUpdate; (refine wpList_mapUpdate_own _ rfl (.tmp 21) (.tmp 22) (.tmp 23) 42 rfl 41 2 keyed41 Try.underlying42 (plainElem Try.prog 2) bm nb D rfl HD.out.own (by unfold maxLen; omega) (.agg #[.int .i64 (x : Int), .int .i64 (S : Int), .int .i64 (b : Int)]) (.int .i64 (k : Int)) (litOf (x, S, b)) rfl rfl HK.out (.lit (.int .i64 (k : Int))) [] (plainElem_int Try.underlying2 (wf_small k (by omega))) ?_); intro w1 hown1 hgrow1; obtain ⟨hC1, hB1, hK1, hblk⟩ := HC.out.stored HD.out hv hown1 hgrow1; have HC1 := Lib.hid hC1; have HB1 := Lib.hid hB1; have HK1 := Lib.hid hK1; have hpu := Lib.hid (hpush_calls base w1 f g cap ys ((x, S, b), k) hC1.fr HO.out (by omega)); have co1 : w1.cell? ⟨po, 0, none⟩ = some (.pointer (some ⟨f, 0, none⟩)) := cell_of_one hC1.pok; have q0 : w1.cell? ⟨w.heap.size, 0, none⟩ = some (.int .i64 (x : Int)) := (by rw [blk_cell hblk]; rfl); have q1 : w1.cell? ⟨w.heap.size, 1, none⟩ = some (.int .i64 (S : Int)) := (by rw [blk_cell hblk]; rfl); have q2 : w1.cell? ⟨w.heap.size, 2, none⟩ = some (.int .i64 (b : Int)) := (by rw [blk_cell hblk]; rfl); clear hC1 hB1 hK1 hblk hown1 hgrow1))
    refine hpu.out.mono ?_
    intro e w2 hp
    have hfin := CW.pushed HG.out HC1.out HB1.out HK1.out hp
    obtain ⟨rfl, -⟩ := hp
    have HF := Lib.hid hfin
    clear hfin
    go_wp2_with fail
    go_end0
    exact HF.out
  | some n =>
    have hval := hD.val v n hv hb
    rw [hb] at hhas
    by_cases hlt : k < n
    · have HV := Lib.hid hval
      have hg : Gain best v k := gain_some hb hlt
      clear hval
      have HG := Lib.hid hg
      have HD := Lib.hid hD
      have HK := Lib.hid hkey
      have HH := Lib.hid hhas
      have HC := Lib.hid h
      have HO := Lib.hid hord
      clear hg hD hkey hhas hb hA hbA hord h
      obtain ⟨x, S, b⟩ := v
      unfold kv at HK ⊢
      simp only at HK HD HG hv ⊢
      go_enter Try.func20, Try.ntmps20
      go_wp2_with (first | (at_lookup; refine wpList_lookup_own_ok_int _ rfl (.tmp 9) (.tmp 10) 42 rfl 41 2 .i64 keyed41 Try.underlying42 Try.underlying2 (zero2 _) bm nb D rfl HD.out.own (.agg #[.int .i64 (x : Int), .int .i64 (S : Int), .int .i64 (b : Int)]) (litOf (x, S, b)) rfl HK.out ?_; intro c hat hwc; obtain rfl := lit_inj (HV.out.symm.trans hat); rw [HH.out]; clear hat hwc) | (at_mapUpdate; (refine wpList_mapUpdate_own _ rfl (.tmp 21) (.tmp 22) (.tmp 23) 42 rfl 41 2 keyed41 Try.underlying42 (plainElem Try.prog 2) bm nb D rfl HD.out.own (by unfold maxLen; omega) (.agg #[.int .i64 (x : Int), .int .i64 (S : Int), .int .i64 (b : Int)]) (.int .i64 (k : Int)) (litOf (x, S, b)) rfl rfl HK.out (.lit (.int .i64 (k : Int))) [] (plainElem_int Try.underlying2 (wf_small k (by omega))) ?_); intro w1 hown1 hgrow1; obtain ⟨hC1, hB1, hK1, hblk⟩ := HC.out.stored HD.out hv hown1 hgrow1; have HC1 := Lib.hid hC1; have HB1 := Lib.hid hB1; have HK1 := Lib.hid hK1; have hpu := Lib.hid (hpush_calls base w1 f g cap ys ((x, S, b), k) hC1.fr HO.out (by omega)); have co1 : w1.cell? ⟨po, 0, none⟩ = some (.pointer (some ⟨f, 0, none⟩)) := cell_of_one hC1.pok; have q0 : w1.cell? ⟨w.heap.size, 0, none⟩ = some (.int .i64 (x : Int)) := (by rw [blk_cell hblk]; rfl); have q1 : w1.cell? ⟨w.heap.size, 1, none⟩ = some (.int .i64 (S : Int)) := (by rw [blk_cell hblk]; rfl); have q2 : w1.cell? ⟨w.heap.size, 2, none⟩ = some (.int .i64 (b : Int)) := (by rw [blk_cell hblk]; rfl); clear hC1 hB1 hK1 hblk hown1 hgrow1))
      refine hpu.out.mono ?_
      intro e w2 hp
      have hfin := CW.pushed HG.out HC1.out HB1.out HK1.out hp
      obtain ⟨rfl, -⟩ := hp
      have HF := Lib.hid hfin
      clear hfin
      go_wp2_with fail
      go_end0
      exact HF.out
    · have hpost : ClPost base w pb po bm f nb best ys g (v, k) (.returned (.tuple #[])) (w.alloc (.cells #[.int .i64 (v.1 : Int), .int .i64 (v.2.1 : Int), .int .i64 (v.2.2 : Int)] 41)) :=
        ⟨rfl, best, ys, nb, g, cap, hA, .inr ⟨idle_some hb hlt, rfl, rfl⟩, ⟨fun hg => absurd hg (idle_some hb hlt), fun _ => rfl⟩, hbA, Keep3.alloc _ _ _ _ _⟩
      have HP := Lib.hid hpost
      have HD := Lib.hid hD
      have HV := Lib.hid hval
      have HK := Lib.hid hkey
      have HH := Lib.hid hhas
      clear hpost hD hval hkey hhas hb hA hbA hord h
      obtain ⟨x, S, b⟩ := v
      unfold kv at HK ⊢
      simp only at HK HP HD ⊢
      go_enter Try.func20, Try.ntmps20
      go_wp2_with (at_lookup; (refine wpList_lookup_own_ok_int _ rfl (.tmp 9) (.tmp 10) 42 rfl 41 2 .i64 keyed41 Try.underlying42 Try.underlying2 (zero2 _) bm nb D rfl HD.out.own (.agg #[.int .i64 (x : Int), .int .i64 (S : Int), .int .i64 (b : Int)]) (litOf (x, S, b)) rfl HK.out ?_); intro c hat hwc; obtain rfl := lit_inj (HV.out.symm.trans hat); rw [HH.out]; clear hat hwc)
      go_end0
      exact HP.out

end Go.Proofs.Ytnnmidfkgjmfmaa.Ck
