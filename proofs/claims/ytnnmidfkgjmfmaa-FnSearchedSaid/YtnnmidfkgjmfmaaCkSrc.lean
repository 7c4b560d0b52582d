/- The source of draws: next, pick, one, among. Only that they answer, and within which bounds. -/
import Derived.Test.YtnnmidfkgjmfmaaCkImplA
import Derived.RegionTactic
import Derived.Deep.QuietTactic
import Derived.BigQuiet
import Derived.Deep.DeepCutAuto
namespace Go.Proofs.Ytnnmidfkgjmfmaa.Ck
open Go.RowKit Go.Proofs.YtnnmidfkgjmfmaaW.PrintWords Go.Proofs.YtnnmidfkgjmfmaaW.PrintLast Go.Proofs.YtnnmidfkgjmfmaaW.PrintMore
open Go.Proofs.Ytnnmidfkgjmfmaa.PFnExactSearchCost
set_option linter.unusedVariables false
set_option linter.unusedSimpArgs false

/-- The source in memory: block sb; k bytes are taken. -/
structure Src (w0 : World) (ca : Option Addr) (cc : Nat) (Z : List Int) (sb k : Nat) (w : World) : Prop where
  blk : ∃ seed : Int, w.heap[sb]? = some (.cells #[.slice ca Z.length cc, .int .i64 (k : Int), .int .u64 seed] 71 (0, 0))
  bel : Below w0.heap.size w0 w
  ge : w0.heap.size ≤ sb

/-- All but the source's block is as it was. -/
def Keep1 (w w' : World) (sb : Nat) : Prop := w.heap.size ≤ w'.heap.size ∧ ∀ i, i < w.heap.size → i ≠ sb → w'.heap[i]? = w.heap[i]?

theorem Keep1.refl (w : World) (sb : Nat) : Keep1 w w sb := ⟨Nat.le_refl _, fun _ _ _ => rfl⟩
theorem Keep1.trans {w w1 w2 : World} {sb : Nat} (h : Keep1 w w1 sb) (h' : Keep1 w1 w2 sb) : Keep1 w w2 sb :=
  ⟨Nat.le_trans h.1 h'.1, fun i hi h1 => (h'.2 i (Nat.lt_of_lt_of_le hi h.1) h1).trans (h.2 i hi h1)⟩
theorem Keep1.alloc (w : World) (o : Obj) (sb : Nat) : Keep1 w (w.alloc o) sb := ⟨by simp, fun i hi _ => Below.heap_alloc w o i hi⟩
theorem Keep1.drewN (w : World) (m sb : Nat) : Keep1 w (w.drewN m) sb := ⟨Nat.le_refl _, fun _ _ _ => rfl⟩
theorem Keep1.setCell (w : World) (sb o : Nat) (v : Value) : Keep1 w (w.setCell ⟨sb, o, none⟩ v) sb := ⟨by simp, fun i hi h => Below.heap_setCell w ⟨sb, o, none⟩ v i h⟩

/-- A byte of the code. -/
theorem byte_at {w0 wr : World} {ca : Option Addr} {Z : List Int} (hr : Kd.C (Kd.int .u8) w0 ca Z.length Z) (hb : Below w0.heap.size w0 wr) (i : Nat) (hi : i < Z.length) : ∃ ad, ca = some ad ∧ wr.cell? (ad.add i) = some (.int .u8 (Z.getD i 0)) := by
  obtain ⟨ad, e, hc⟩ := Kd.at_int hr (i : Int) (by omega) (by omega)
  have hc' : w0.cell? (ad.add i) = some (.int .u8 (Z.getD i 0)) := by simpa [rd] using hc
  refine ⟨ad, e, (hb.cell ?_).trans hc'⟩
  exact World.block_lt_of_cell? w0 _ hc'

def NextPost (w0 : World) (ca : Option Addr) (cc : Nat) (Z : List Int) (sb k : Nat) (w : World) (e : Ending) (w' : World) : Prop :=
  ∃ b : Nat, b ≤ 255 ∧ e = .returned (.int .i64 (b : Int)) ∧ Src w0 ca cc Z sb (k + 1) w' ∧ Keep1 w w' sb

theorem Src.took {w0 w : World} {ca : Option Addr} {cc : Nat} {Z : List Int} {sb k : Nat} {seed : Int} (hs : Src w0 ca cc Z sb k w) (hblk : w.heap[sb]? = some (.cells #[.slice ca Z.length cc, .int .i64 (k : Int), .int .u64 seed] 71 (0, 0))) (n m : Nat) (s' : Int) :
    Src w0 ca cc Z sb (k + 1) ((((w.drewN n).setCell ⟨sb, 1, none⟩ (.int .i64 ((k : Int) + 1))).setCell ⟨sb, 2, none⟩ (.int .u64 s')).drewN m) ∧ Keep1 w ((((w.drewN n).setCell ⟨sb, 1, none⟩ (.int .i64 ((k : Int) + 1))).setCell ⟨sb, 2, none⟩ (.int .u64 s')).drewN m) sb := by
  refine ⟨⟨⟨s', ?_⟩, ?_, hs.ge⟩, (((Keep1.drewN w n sb).trans (.setCell _ sb 1 _)).trans (.setCell _ sb 2 _)).trans (.drewN _ m sb)⟩
  · have h1 := heap_setCell_same (w.drewN n) sb 1 _ _ (.int .i64 ((k : Int) + 1)) hblk
    exact heap_setCell_same _ sb 2 _ _ (.int .u64 s') h1
  · exact pw_below_drewN (((pw_below_drewN hs.bel n).setCell (p := ⟨sb, 1, none⟩) hs.ge _).setCell (p := ⟨sb, 2, none⟩) hs.ge _) m

theorem next_end {w0 w w' : World} {ca : Option Addr} {cc : Nat} {Z : List Int} {sb k : Nat} {e : Ending} (b : Nat) (hb : b ≤ 255) (he : e = .returned (.int .i64 (b : Int))) (h : Src w0 ca cc Z sb (k + 1) w' ∧ Keep1 w w' sb) : NextPost w0 ca cc Z sb k w e w' := ⟨b, hb, he, h.1, h.2⟩

/-- The last eight bits. -/
theorem low_bits (x : Int) : ∃ b : Nat, b ≤ 255 ∧ wrap64 (Go.bits .and .u64 x 255) = (b : Int) := by
  have e : Go.bits .and .u64 x 255 = IntKind.u64.wrap ((BitVec.ofInt 64 x &&& BitVec.ofInt 64 255).toNat : Int) := rfl
  have h : (BitVec.ofInt 64 x &&& BitVec.ofInt 64 255).toNat ≤ 255 := by
    rw [BitVec.toNat_and]
    exact Nat.le_trans Nat.and_le_right (by decide)
  refine ⟨_, h, ?_⟩
  rw [e]
  generalize (BitVec.ofInt 64 x &&& BitVec.ofInt 64 255).toNat = b at *
  have : IntKind.u64.wrap (b : Int) = (b : Int) := by simp [IntKind.wrap, IntKind.bits, IntKind.signed]; omega
  rw [this]
  unfold wrap64
  omega

set_option maxHeartbeats 2000000 in
theorem next_calls (w0 : World) (ca : Option Addr) (cc : Nat) (Z : List Int) (hr : Kd.C (Kd.int .u8) w0 ca Z.length Z) (hZ : ∀ z ∈ Z, 0 ≤ z ∧ z ≤ 255) (hlen : Z.length ≤ 1000000) (sb k : Nat) (w : World) (hk : k ≤ 1000000000) (hs : Src w0 ca cc Z sb k w) :
    Calls Try.prog 35 #[.pointer (some ⟨sb, 0, none⟩)] w (NextPost w0 ca cc Z sb k w) := by
  obtain ⟨seed, hblk⟩ := hs.blk
  have c0 : w.cell? ⟨sb, 0, none⟩ = some (.slice ca Z.length cc) := by rw [blk_cell hblk]; rfl
  have c1 : w.cell? ⟨sb, 1, none⟩ = some (.int .i64 (k : Int)) := by rw [blk_cell hblk]; rfl
  have c2 : w.cell? ⟨sb, 2, none⟩ = some (.int .u64 seed) := by rw [blk_cell hblk]; rfl
  by_cases hlt : k < Z.length
  · obtain ⟨ad, rfl, hc⟩ := byte_at hr hs.bel k hlt
    have hz : 0 ≤ Z.getD k 0 ∧ Z.getD k 0 ≤ 255 := by
      have := hZ Z[k] (List.getElem_mem hlt)
      simpa [List.getD_eq_getElem?_getD, hlt] using this
    obtain ⟨hz0, hz1⟩ := hz
    generalize Z.getD k 0 = z at *
    have fz1 : w.frozen? ⟨sb, 1, none⟩ = false := frozen_of_row w sb 1 _ _ hblk
    have fz2 : w.frozen? ⟨sb, 2, none⟩ = false := frozen_of_row w sb 2 _ _ hblk
    have HT := Lib.hid (fun n m s' => hs.took hblk n m s')
    clear hblk hZ hr hs
    go_enter Try.func35, Try.ntmps35
    go_wp2_with fail
    go_quiet (fail)
    go_wp2_with fail
    go_quiet (fail)
    go_wp2_with fail
    go_quiet (fail)
    go_wp2_with fail
    go_ret
    exact next_end z.toNat (by omega) (ret_int (by omega)) (HT.out _ _ _)
  · have fz1 : w.frozen? ⟨sb, 1, none⟩ = false := frozen_of_row w sb 1 _ _ hblk
    have fz2 : w.frozen? ⟨sb, 2, none⟩ = false := frozen_of_row w sb 2 _ _ hblk
    have HT := Lib.hid (fun n m s' => hs.took hblk n m s')
    clear hblk hZ hr hs
    go_enter Try.func35, Try.ntmps35
    go_wp2_with fail
    go_quiet (fail)
    go_wp2_with fail
    go_quiet (fail)
    go_wp2_with fail
    go_ret
    obtain ⟨b, hb, e⟩ := low_bits (IntKind.u64.wrap (IntKind.u64.wrap (IntKind.u64.wrap (seed * 6364136223846793005)) + 1442695040888963407) / 1099511627776)
    exact next_end b hb (ret_int e) (HT.out _ _ _)

def PickPost (w0 : World) (ca : Option Addr) (cc : Nat) (Z : List Int) (sb k : Nat) (n : Int) (w : World) (e : Ending) (w' : World) : Prop :=
  ∃ (b : Nat) (k' : Nat), (b : Int) < max n 1 ∧ e = .returned (.int .i64 (b : Int)) ∧ k' ≤ k + 2 ∧ Src w0 ca cc Z sb k' w' ∧ Keep1 w w' sb

/-- The code in the world in which the law was called. -/
structure Code0 (w0 : World) (ca : Option Addr) (Z : List Int) : Prop where
  row : Kd.C (Kd.int .u8) w0 ca Z.length Z
  byte : ∀ z ∈ Z, 0 ≤ z ∧ z ≤ 255
  len : Z.length ≤ 1000000

set_option maxHeartbeats 2000000 in
theorem pick_calls (w0 : World) (ca : Option Addr) (cc : Nat) (Z : List Int) (h0 : Code0 w0 ca Z) (sb k : Nat) (n : Int) (w : World) (hk : k ≤ 900000000) (hn : n ≤ 200) (hs : Src w0 ca cc Z sb k w) :
    Calls Try.prog 24 #[.pointer (some ⟨sb, 0, none⟩), .int .i64 n] w (PickPost w0 ca cc Z sb k n w) := by
  by_cases h1 : n ≤ 1
  · have HS := Lib.hid hs
    clear hs h0
    go_enter Try.func24, Try.ntmps24
    go_wp2_with fail
    go_ret
    exact ⟨0, k, by omega, rfl, by omega, HS.out, .refl _ _⟩
  · have hnx := next_calls w0 ca cc Z h0.row h0.byte h0.len sb k w (by omega) hs
    have HN := Lib.hid hnx
    clear hnx hs h0
    go_enter Try.func24, Try.ntmps24
    go_wp2_with fail
    refine HN.out.mono ?_
    rintro e w1 ⟨b, hb, rfl, hS, hK⟩
    have HS := Lib.hid (And.intro hS hK)
    clear hS hK
    go_wp2_with fail
    go_ret
    have h2 : (b : Int) % n < n := Int.emod_lt_of_pos _ (by omega)
    have h3 : 0 ≤ (b : Int) % n := Int.emod_nonneg _ (by omega)
    refine ⟨((b : Int) % n).toNat, k + 1, by omega, ret_int ?_, by omega, HS.out.1, HS.out.2⟩
    exact (Int.toNat_of_nonneg h3).symm

def OnePost (w0 : World) (ca : Option Addr) (cc : Nat) (Z : List Int) (sb k : Nat) (w : World) (e : Ending) (w' : World) : Prop :=
  ∃ (x : Bool) (k' : Nat), e = .returned (.bool x) ∧ k' ≤ k + 2 ∧ Src w0 ca cc Z sb k' w' ∧ Keep1 w w' sb

theorem one_calls (w0 : World) (ca : Option Addr) (cc : Nat) (Z : List Int) (h0 : Code0 w0 ca Z) (sb k : Nat) (n : Int) (w : World) (hk : k ≤ 900000000) (hn : n ≤ 200) (hs : Src w0 ca cc Z sb k w) :
    Calls Try.prog 25 #[.pointer (some ⟨sb, 0, none⟩), .int .i64 n] w (OnePost w0 ca cc Z sb k w) := by
  have HN := Lib.hid (pick_calls w0 ca cc Z h0 sb k n w hk hn hs)
  clear hs h0
  go_enter Try.func25, Try.ntmps25
  go_wp2_with fail
  refine HN.out.mono ?_
  rintro e w1 ⟨b, k', hb, rfl, hk', hS, hK⟩
  have HS := Lib.hid (And.intro hk' (And.intro hS hK))
  clear hS hK hk'
  go_wp2_with fail
  go_ret
  exact ⟨_, k', rfl, HS.out⟩

def AmongPost (w0 : World) (ca : Option Addr) (cc : Nat) (Z : List Int) (sb k : Nat) (L : List Int) (w : World) (e : Ending) (w' : World) : Prop :=
  ∃ (z : Int) (k' : Nat), z ∈ L ∧ e = .returned (.int .i64 z) ∧ k' ≤ k + 2 ∧ Src w0 ca cc Z sb k' w' ∧ Keep1 w w' sb

theorem among_calls (w0 : World) (ca : Option Addr) (cc : Nat) (Z : List Int) (h0 : Code0 w0 ca Z) (sb k : Nat) (L : List Int) (g c : Nat) (w : World) (hk : k ≤ 900000000) (hL : L.length ≤ 200) (hL0 : 0 < L.length) (hc : L.length ≤ c) (hg : w.heap[g]? = some (.cells (L.map (Value.int .i64)).toArray 2 (0, 0))) (hs : Src w0 ca cc Z sb k w) :
    Calls Try.prog 26 #[.pointer (some ⟨sb, 0, none⟩), .slice (some ⟨g, 0, none⟩) L.length c] w (AmongPost w0 ca cc Z sb k L w) := by
  have HN := Lib.hid (pick_calls w0 ca cc Z h0 sb k (L.length : Int) w hk (by omega) hs)
  have hne : g ≠ sb := by
    obtain ⟨seed, hb⟩ := hs.blk
    exact blk_ne hg hb (by decide)
  have HG := Lib.hid hg
  clear hs h0 hg
  go_enter Try.func26, Try.ntmps26
  go_wp2_with fail
  refine HN.out.mono ?_
  rintro e w1 ⟨b, k', hb, rfl, hk', hS, hK⟩
  have hbl : b < L.length := by omega
  have hcell : w1.cell? ⟨g, b, none⟩ = some (.int .i64 (L.getD b 0)) := by
    have h1 := (hK.2 g (blk_lt HG.out) hne).trans HG.out
    rw [blk_cell h1]
    simp [List.getD_eq_getElem?_getD, hbl]
  have hmem : L.getD b 0 ∈ L := by
    simp [List.getD_eq_getElem?_getD, hbl]
  have HS := Lib.hid (And.intro hmem (And.intro hk' (And.intro hS hK)))
  generalize L.getD b 0 = z at *
  clear hS hK hk' hmem
  go_wp2_with fail
  go_ret
  exact ⟨z, k', HS.out.1, rfl, HS.out.2⟩

theorem from_calls (ca : Option Addr) (cc : Nat) (Z : List Int) (w : World) :
    Calls Try.prog 22 #[.slice ca Z.length cc] w fun e w' => e = .returned (.pointer (some ⟨w.heap.size, 0, none⟩)) ∧ Src w ca cc Z w.heap.size 0 w' := by
  have hp : Src w ca cc Z w.heap.size 0 (w.alloc (.cells #[.slice ca Z.length cc, .int .i64 0, .int .u64 0] 71)) :=
    ⟨⟨0, heap_alloc_new w _⟩, (Below.refl _ _).alloc (Nat.le_refl _) _, Nat.le_refl _⟩
  have HP := Lib.hid hp
  clear hp
  go_enter Try.func22, Try.ntmps22
  go_wp2_with fail
  go_ret
  exact ⟨rfl, HP.out⟩

end Go.Proofs.Ytnnmidfkgjmfmaa.Ck
