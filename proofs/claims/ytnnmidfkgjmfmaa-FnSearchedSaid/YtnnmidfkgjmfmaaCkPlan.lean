/- The planner in memory: two maps keyed by three numbers. -/
import Derived.Test.YtnnmidfkgjmfmaaCkLc
import Derived.Test.YtnnmidfkgjmfmaaCkMapMem
import Derived.WideKeyEntry
namespace Go.Proofs.Ytnnmidfkgjmfmaa.Ck
open Go.RowKit Go.Proofs.YtnnmidfkgjmfmaaW.PrintWords Go.Proofs.YtnnmidfkgjmfmaaW.PrintLast Go.Proofs.YtnnmidfkgjmfmaaW.PrintMore
open Go.Proofs.Ytnnmidfkgjmfmaa.PFnExactSearchCost
open Go.Joins Go.ChangeShapes Go.WideShapes Go.Maps Go.MapKept Go.ChangeMaps
set_option linter.unusedVariables false
set_option linter.unusedSimpArgs false

theorem wide76 : (match Try.prog.underlying 76 with | some (.array _ _) | some (.struct _) => true | _ => false) = true := by kernel_rfl
theorem keyType76 : Try.prog.keyTypeAt 3 76 = true := by kernel_rfl
theorem law76 : WideMaps.KeyLaw Try.prog 76 := deep_law_laid laidOut (m := 3) (by omega) (of_decide_eq_true (by kernel_rfl)) keyType76 wide76
theorem keyed76 : Keyed Try.prog 76 := Keyed.of_law law76
theorem cells76 : Try.prog.cellsOf 76 = 3 := by kernel_rfl
theorem cells2 : Try.prog.cellsOf 2 = 1 := by kernel_rfl
theorem isKey76 : Try.prog.keyType 76 = true := by kernel_rfl

/-- A part as a key. -/
def k3 (a b c : Nat) : Value := .agg #[.int .i64 (a : Int), .int .i64 (b : Int), .int .i64 (c : Int)]

theorem formed76 (a b c : Nat) : (k3 a b c).formed Try.prog 76 = true := by
  obtain ⟨n, e, hu⟩ : ∃ n e, Try.prog.underlying 76 = some (.array n e) := ⟨_, _, Try.underlying76⟩
  simp [k3, Value.formed, hu, cells76]

theorem sizes : ∃ m, Try.prog.types.size + 1 = m + 2 := ⟨Try.prog.types.size - 1, by have : 1 ≤ Try.prog.types.size := of_decide_eq_true (by kernel_rfl); omega⟩

theorem keyLits2 (m : Nat) (n : Nat) (hn : n < 4611686018427387904) : Try.prog.keyLits (m + 1) 2 [.int .i64 (n : Int)] = some [.int .i64 (n : Int)] := by
  unfold Program.keyLits
  simp [Try.underlying2, wf_small n hn]

theorem key3_some (a b c : Nat) (ha : a < 256) (hb : b < 256) (hc : c < 256) : ∃ l, keyOf Try.prog 76 (k3 a b c) = some l := by
  obtain ⟨m, hm⟩ := sizes
  unfold keyOf
  rw [Try.underlying76]
  simp only [isKey76, formed76, Bool.and_self, if_true, hm]
  unfold Program.keyLits
  rw [Try.underlying76]
  simp only [k3, Value.cells, cells76, cells2, List.length_cons, List.length_nil]
  refine ⟨.string (keyBytes [.int .i64 (a : Int), .int .i64 (b : Int), .int .i64 (c : Int)]), ?_⟩
  simp [List.range, List.range.loop, keyLits2 m a (by omega), keyLits2 m b (by omega), keyLits2 m c (by omega)]

noncomputable def lit3 (a b c : Nat) : Lit := (keyOf Try.prog 76 (k3 a b c)).getD .nil

theorem lit3_spec {a b c : Nat} (ha : a < 256) (hb : b < 256) (hc : c < 256) : keyOf Try.prog 76 (k3 a b c) = some (lit3 a b c) := by
  obtain ⟨l, hl⟩ := key3_some a b c ha hb hc
  unfold lit3
  rw [hl]
  rfl

theorem lit3_key {a b c : Nat} (ha : a < 256) (hb : b < 256) (hc : c < 256) : WideAt.IsKeyLit (lit3 a b c) := keyed76.key (lit3_spec ha hb hc)

theorem lit3_inj {a b c a' b' c' : Nat} (ha : a < 256) (hb : b < 256) (hc : c < 256) (ha' : a' < 256) (hb' : b' < 256) (hc' : c' < 256) (h : lit3 a b c = lit3 a' b' c') : a = a' ∧ b = b' ∧ c = c' := by
  have h1 := lit3_spec ha hb hc
  have h2 := lit3_spec ha' hb' hc'
  rw [h] at h1
  have h3 := keyed76.inj h1 h2
  simpa only [k3, Value.agg.injEq, Array.mk.injEq, List.cons.injEq, Value.int.injEq, true_and, and_true, Int.natCast_inj] using h3

/-- The map of costs: what stands in it is right. -/
structure MCv (w : World) (bm nb : Nat) (wt : Nat → Nat) (n : Nat) (D : DataW Unit) : Prop where
  own : w.ownsMap Try.prog 76 (plainElem Try.prog 2) bm nb D
  isMap : IsMap D
  right : ∀ a b c, a < 256 → b < 256 → c < 256 → Maps.has D (lit3 a b c) = true → ∃ r, Lc wt n a b c r ∧ D.atKey (lit3 a b c) (.lit (.int .i64 0)) = .lit (.int .i64 (encO r))

def MC (w : World) (bm nb : Nat) (wt : Nat → Nat) (n : Nat) : Prop := ∃ D, MCv w bm nb wt n D

/-- The map of splits. -/
def MS (w : World) (bm nb : Nat) : Prop := ∃ D : DataW Unit, w.ownsMap Try.prog 76 (plainElem Try.prog 2) bm nb D

theorem MCv.put {w w' : World} {bm nb n : Nat} {wt : Nat → Nat} {D : DataW Unit} (h : MCv w bm nb wt n D) {a b c : Nat} {r : Option Nat} (ha : a < 256) (hb : b < 256) (hc : c < 256) (hr : Lc wt n a b c r)
    (ho : w'.ownsMap Try.prog 76 (plainElem Try.prog 2) bm (nb + 1) (D.put (lit3 a b c) (.lit (.int .i64 (encO r))))) : MC w' bm (nb + 1) wt n := by
  refine ⟨_, ho, h.isMap.put _ _, fun a' b' c' ha' hb' hc' hh => ?_⟩
  by_cases e : lit3 a' b' c' = lit3 a b c
  · obtain ⟨rfl, rfl, rfl⟩ := lit3_inj ha' hb' hc' ha hb hc e
    exact ⟨r, hr, by rw [atKey_put_same h.isMap (lit3_key ha hb hc)]⟩
  · rw [has_put_other e] at hh
    rw [atKey_put_other e]
    exact h.right a' b' c' ha' hb' hc' hh

theorem MC.block {w w' : World} {bm nb n : Nat} {wt : Nat → Nat} (h : MC w bm nb wt n) (hb : w'.heap[bm]? = w.heap[bm]?) : MC w' bm nb wt n := by
  obtain ⟨D, h1, h2, h3⟩ := h
  exact ⟨D, ownsMap_block h1 hb, h2, h3⟩

theorem MS.block {w w' : World} {bm nb : Nat} (h : MS w bm nb) (hb : w'.heap[bm]? = w.heap[bm]?) : MS w' bm nb := by
  obtain ⟨D, h1⟩ := h
  exact ⟨D, ownsMap_block h1 hb⟩

theorem MC.mono {w : World} {bm nb nb' n : Nat} {wt : Nat → Nat} (h : MC w bm nb wt n) (hn : nb ≤ nb') : MC w bm nb' wt n := by
  obtain ⟨D, h1, h2, h3⟩ := h
  exact ⟨D, h1.mono hn, h2, h3⟩

theorem MS.mono {w : World} {bm nb nb' : Nat} (h : MS w bm nb) (hn : nb ≤ nb') : MS w bm nb' := by
  obtain ⟨D, h1⟩ := h
  exact ⟨D, h1.mono hn⟩

theorem ownsMap_ne {w : World} {P : Program} {k : TypeId} {R : Value → Option (DataW Unit × List MemPlace)} {b n : Nat} {D : DataW Unit} (h : w.ownsMap P k R b n D) {g : Nat} {cs : Array Value} {t : TypeId} {fr : Nat × Nat} (hg : w.heap[g]? = some (.cells cs t fr)) : b ≠ g := by
  obtain ⟨es, clock, h1, _⟩ := h
  intro e
  rw [e, hg] at h1
  cases h1

theorem MC.new (w : World) (wt : Nat → Nat) (n : Nat) : MC (w.alloc (.map #[] 0)) w.heap.size 0 wt n :=
  ⟨.map [], World.ownsMap_made w _ _ _, isMap_empty, fun a b c _ _ _ h => by cases h⟩

theorem MS.new (w : World) : MS (w.alloc (.map #[] 0)) w.heap.size 0 := ⟨.map [], World.ownsMap_made w _ _ _⟩

theorem zero2' (u : World) : (zeroValue 2).run Try.prog u = .ok (.int .i64 0) u := by kernel_rfl

theorem lit3_eq {a b : Int} (h : (DataW.lit (.int .i64 a) : DataW Unit) = .lit (.int .i64 b)) : a = b := by cases h; rfl

/-- 'v, ok := m[k]', whatever has been drawn. -/
theorem look3 {w : World} {bm nb : Nat} {D : DataW Unit} (h : w.ownsMap Try.prog 76 (plainElem Try.prog 2) bm nb D) {a b c : Nat} (ha : a < 256) (hb : b < 256) (hc : c < 256) :
    ∃ z : Int, (∀ n, (Instr.lookup 73 (.map (some bm)) (k3 a b c) true).run Try.prog (w.drewN n) = .ok (.tuple #[.int .i64 z, .bool (Maps.has D (lit3 a b c))]) (w.drewN n)) ∧ D.atKey (lit3 a b c) (.lit (.int .i64 0)) = .lit (.int .i64 z) := by
  have one : ∀ n, ∃ z : Int, (Instr.lookup 73 (.map (some bm)) (k3 a b c) true).run Try.prog (w.drewN n) = .ok (.tuple #[.int .i64 z, .bool (Maps.has D (lit3 a b c))]) (w.drewN n) ∧ D.atKey (lit3 a b c) (.lit (.int .i64 0)) = .lit (.int .i64 z) := by
    intro n
    obtain ⟨v, ps, hrun, hv⟩ := (ownsMap_block (w' := w.drewN n) h rfl).look_ok keyed76 Try.underlying73 (zero2' _) (plainElem_int Try.underlying2 (by decide : (Lit.int .i64 0).wf = true)) (lit3_spec ha hb hc)
    obtain ⟨z, rfl, hz, _⟩ := plainElem_int_inv Try.underlying2 hv
    exact ⟨z, hrun, congrArg Prod.fst hz⟩
  obtain ⟨z, _, hz⟩ := one 0
  refine ⟨z, fun n => ?_, hz⟩
  obtain ⟨z', h1, h2⟩ := one n
  rw [hz] at h2
  obtain rfl := lit3_eq h2
  exact h1

theorem set_block {w : World} {b : Nat} (hb : b < w.heap.size) (o : Obj) : (setBlock w b o).heap[b]? = some o := by
  simp [setBlock, Array.getElem?_setIfInBounds, hb]

theorem set_other (w : World) {b i : Nat} (o : Obj) (h : i ≠ b) : (setBlock w b o).heap[i]? = w.heap[i]? := by
  simp [setBlock, Array.getElem?_setIfInBounds, Ne.symm h]

theorem set_size (w : World) (b : Nat) (o : Obj) : (setBlock w b o).heap.size = w.heap.size := by simp [setBlock]

theorem set_grown (w : World) (b : Nat) (o : Obj) : w.grownBy (setBlock w b o) (some b) :=
  ⟨rfl, rfl, rfl, by simp [setBlock], fun i _ hi => set_other w o (fun e => hi (by rw [e]))⟩

/-- 'm[k] = v' in two steps: the entry, and its store. -/
theorem two_steps {w : World} {bm nb : Nat} {D : DataW Unit} (h : w.ownsMap Try.prog 76 (plainElem Try.prog 2) bm nb D) (hn : nb < maxLen) {a b c : Nat} (ha : a < 256) (hb : b < 256) (hc : c < 256) {z : Int} (hz : (Lit.int .i64 z).wf = true) :
    ∃ (v0 : Value) (st : Nat) (o1 o2 : Obj), (Instr.mapEntry 73 (.map (some bm)) (k3 a b c)).run Try.prog w = .ok (.tuple #[v0, goInt st]) (setBlock w bm o1) ∧
      (∀ w2 : World, w2.heap[bm]? = some o1 → (Instr.entryStore 73 (.map (some bm)) (goInt st) (.int .i64 z)).run Try.prog w2 = .ok () (setBlock w2 bm o2)) ∧
      (∀ w3 : World, w3.heap[bm]? = some o2 → w3.ownsMap Try.prog 76 (plainElem Try.prog 2) bm (nb + 1) (D.put (lit3 a b c) (.lit (.int .i64 z)))) := by
  obtain ⟨w', hu, ho, hg⟩ := h.update keyed76 Try.underlying73 hn (lit3_spec ha hb hc) (plainElem_int Try.underlying2 hz)
  have hlt := h.lt
  obtain ⟨es, clock, hb1, F, hs, hD⟩ := h
  obtain ⟨v0, st, es1, clock1, h1, _, h3⟩ := WideElems.entry_then_store law76 Try.underlying73 zero2' hb1 F (lit3_spec ha hb hc)
  obtain ⟨es', clock', hx, hy⟩ := h3 (setBlock w bm (.map es1 clock1)) (.int .i64 z) (set_block hlt _)
  rw [hu] at hy
  injection hy with _ hw'
  refine ⟨v0, st, .map es1 clock1, .map es' clock', h1, fun w2 hw2 => ?_, fun w3 hw3 => ownsMap_block ho (hw3.trans ?_)⟩
  · obtain ⟨es2, clock2, hx2, hy2⟩ := h3 w2 (.int .i64 z) hw2
    rw [hu] at hy2
    injection hy2 with _ hw2'
    have e : (setBlock w bm (.map es2 clock2)).heap[bm]? = (setBlock w bm (.map es' clock')).heap[bm]? := by rw [← hw2', hw']
    rw [set_block hlt, set_block hlt] at e
    rw [hx2, Option.some.inj e]
  · rw [hw', set_block hlt]

end Go.Proofs.Ytnnmidfkgjmfmaa.Ck
