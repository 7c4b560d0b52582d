/- The program's map of costs, in memory. -/
import Derived.Test.YtnnmidfkgjmfmaaCkPush
import Derived.Maps.OwnSet
import Derived.Maps.OwnOps
import Derived.Maps.Views
import Derived.Lib.SmallJoins
import Derived.DeepKeys4
import Derived.MapViews
namespace Go.Proofs.Ytnnmidfkgjmfmaa.Ck
open Go.RowKit Go.Proofs.YtnnmidfkgjmfmaaW.PrintWords Go.Proofs.YtnnmidfkgjmfmaaW.PrintLast Go.Proofs.YtnnmidfkgjmfmaaW.PrintMore
open Go.Proofs.Ytnnmidfkgjmfmaa.PFnExactSearchCost
open Go.Joins Go.ChangeShapes Go.WideShapes Go.Maps
set_option linter.unusedVariables false
set_option linter.unusedSimpArgs false

theorem laidOut : laidOutB Try.prog = true := by kernel_rfl
theorem wide41 : (match Try.prog.underlying 41 with | some (.array _ _) | some (.struct _) => true | _ => false) = true := by kernel_rfl
theorem keyType41 : Try.prog.keyTypeAt 3 41 = true := by kernel_rfl
theorem law41 : WideMaps.KeyLaw Try.prog 41 := deep_law_laid laidOut (m := 3) (by omega) (of_decide_eq_true (by kernel_rfl)) keyType41 wide41
theorem keyed41 : Keyed Try.prog 41 := Keyed.of_law law41
theorem cells41 : Try.prog.cellsOf 41 = 3 := by kernel_rfl

/-- A state as a key. -/
def kv (v : V) : Value := .agg #[.int .i64 (v.1 : Int), .int .i64 (v.2.1 : Int), .int .i64 (v.2.2 : Int)]

theorem wf_small (n : Nat) (hn : n < 4611686018427387904) : (Lit.int .i64 (n : Int)).wf = true := by
  simp only [Lit.wf, Bool.and_eq_true, decide_eq_true_eq, IntKind.min, IntKind.max, IntKind.bits, IntKind.signed]
  simp
  omega

theorem formed41 (v : V) : (kv v).formed Try.prog 41 = true := by
  obtain ⟨fs, hu⟩ : ∃ fs, Try.prog.underlying 41 = some (.struct fs) := ⟨_, Try.underlying41⟩
  simp [kv, Value.formed, hu, cells41]

theorem key_some (W : World) {v : V} (h : v ∈ dom) : ∃ l, keyOf Try.prog 41 (kv v) = some l := by
  obtain ⟨x, S, b⟩ := v
  have hd := mem_dom.1 h
  have t0 : ∀ n : Nat, n < 256 → ∃ k, DataW.trod (H := Unit) (fun _ => ()) Try.prog W 0 (fun _ => false) false k 2 [.int .i64 (n : Int)] = some (.lit (.int .i64 (n : Int)), []) := fun n hn => ⟨1, by simp [DataW.trod, Try.underlying2, wf_small n (by omega)]⟩
  have ht := shut_agg3 (enc := fun _ => ()) (w := W) (base := 0) (spare := fun _ => false) (held := false) Try.underlying41 (by kernel_rfl) cells41 (t0 x (by omega)) (t0 S (by omega)) (t0 b (by omega))
  exact ⟨_, (keyOf_asKey (by kernel_rfl) wide41 (formed41 (x, S, b)) ht).1⟩

/-- The key as the map's reading has it. -/
noncomputable def litOf (v : V) : Lit := (keyOf Try.prog 41 (kv v)).getD .nil

theorem litOf_spec (W : World) {v : V} (h : v ∈ dom) : keyOf Try.prog 41 (kv v) = some (litOf v) := by
  obtain ⟨l, hl⟩ := key_some W h
  unfold litOf
  rw [hl]
  rfl

theorem litOf_key (W : World) {v : V} (h : v ∈ dom) : WideAt.IsKeyLit (litOf v) := keyed41.key (litOf_spec W h)

theorem litOf_inj (W : World) {v u : V} (hv : v ∈ dom) (hu : u ∈ dom) (h : litOf v = litOf u) : v = u := by
  have h1 := litOf_spec W hv
  have h2 := litOf_spec W hu
  rw [h] at h1
  have h3 := keyed41.inj h1 h2
  obtain ⟨x, S, b⟩ := v
  obtain ⟨x', S', b'⟩ := u
  simp only [kv, Value.agg.injEq, Array.mk.injEq, List.cons.injEq, Value.int.injEq, true_and, and_true, Int.natCast_inj] at h3
  obtain ⟨e1, e2, e3⟩ := h3
  rw [e1, e2, e3]

/-- The map in memory: block bm; at most nb entries. -/
structure MBv (w : World) (bm nb : Nat) (best : Best) (D : DataW Unit) : Prop where
  own : w.ownsMap Try.prog 41 (plainElem Try.prog 2) bm nb D
  isMap : IsMap D
  has_ : ∀ v, v ∈ dom → Maps.has D (litOf v) = (best v).isSome
  val : ∀ v n, v ∈ dom → best v = some n → D.atKey (litOf v) (.lit (.int .i64 0)) = .lit (.int .i64 (n : Int))

def MB (w : World) (bm nb : Nat) (best : Best) : Prop := ∃ D, MBv w bm nb best D

theorem MBv.put {w w' : World} {bm nb : Nat} {best : Best} {D : DataW Unit} (h : MBv w bm nb best D) {v : V} {n : Nat} (hv : v ∈ dom) (ho : w'.ownsMap Try.prog 41 (plainElem Try.prog 2) bm (nb + 1) (D.put (litOf v) (.lit (.int .i64 (n : Int))))) : MB w' bm (nb + 1) (upd best v n) := by
  refine ⟨_, ho, h.isMap.put _ _, fun u hu => ?_, fun u m hu hm => ?_⟩
  · by_cases e : u = v
    · subst e
      rw [has_put_same h.isMap (litOf_key w hu), upd_same]
      rfl
    · rw [has_put_other (fun e' => e (litOf_inj w hu hv e')), h.has_ u hu, upd_other e]
  · by_cases e : u = v
    · subst e
      rw [upd_same] at hm
      obtain rfl := Option.some.inj hm
      rw [atKey_put_same h.isMap (litOf_key w hu)]
    · rw [upd_other e] at hm
      rw [atKey_put_other (fun e' => e (litOf_inj w hu hv e'))]
      exact h.val u m hu hm

/-- A map's block that is as it was. -/
theorem ownsMap_block {H : Type} {w w' : World} {P : Program} {k : TypeId} {R : Value → Option (DataW H × List MemPlace)} {b n : Nat} {D : DataW H} (h : w.ownsMap P k R b n D) (hb : w'.heap[b]? = w.heap[b]?) : w'.ownsMap P k R b n D := by
  obtain ⟨es, clock, h1, h2⟩ := h
  exact ⟨es, clock, hb.trans h1, h2⟩

theorem MB.block {w w' : World} {bm nb : Nat} {best : Best} (h : MB w bm nb best) (hb : w'.heap[bm]? = w.heap[bm]?) : MB w' bm nb best := by
  obtain ⟨D, h1, h2, h3, h4⟩ := h
  exact ⟨D, ownsMap_block h1 hb, h2, h3, h4⟩

theorem MB.ne {w : World} {bm nb : Nat} {best : Best} (h : MB w bm nb best) {g : Nat} {cs : Array Value} {t : TypeId} {fr : Nat × Nat} (hg : w.heap[g]? = some (.cells cs t fr)) : bm ≠ g := by
  obtain ⟨D, ⟨es, clock, h1, _⟩, _⟩ := h
  intro e
  rw [e, hg] at h1
  cases h1

theorem MB.lt {w : World} {bm nb : Nat} {best : Best} (h : MB w bm nb best) : bm < w.heap.size := by
  obtain ⟨D, h1, _⟩ := h
  exact h1.lt

/-- The start: one entry. -/
theorem MB.none (w : World) : MB (w.alloc (.map #[] 0)) w.heap.size 0 (fun _ => Option.none) :=
  ⟨.map [], World.ownsMap_made w _ _ _, isMap_empty, fun v _ => rfl, fun v n _ h => by cases h⟩

end Go.Proofs.Ytnnmidfkgjmfmaa.Ck
