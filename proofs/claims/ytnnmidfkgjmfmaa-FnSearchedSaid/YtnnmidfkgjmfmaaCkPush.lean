/- The program's heap: Push and Pop of its own, and container/heap's. -/
import Derived.Test.YtnnmidfkgjmfmaaCkDown
import Derived.Deep.RegionLaw
namespace Go.Proofs.Ytnnmidfkgjmfmaa.Ck
open Go.RowKit Go.Proofs.YtnnmidfkgjmfmaaW.PrintWords Go.Proofs.YtnnmidfkgjmfmaaW.PrintLast Go.Proofs.YtnnmidfkgjmfmaaW.PrintMore
open Go.Proofs.Ytnnmidfkgjmfmaa.PFnExactSearchCost
set_option linter.unusedVariables false
set_option linter.unusedSimpArgs false

theorem info45 : (Try.prog.info? 45).map (fun i => (i.zero, i.size, i.bytes)) = some (some (.agg #[.int .i64 0, .int .i64 0, .int .i64 0, .int .i64 0]), 4, 32) := by kernel_rfl

theorem assert_calls (v : Value) (w : World) : Sem.run Try.prog (Instr.typeAssert (.iface 45 v) 20 45 false) w = .ok v w := by kernel_rfl

/-- An entry as a value. -/
def ev (e : Ent) : Value := .agg (ecells e).toArray

theorem ownsRow4_shape {w : World} {base : Nat} {e : TypeId} {v : Value} {n : Nat} {xs : List Value} (h : w.ownsRow base e 4 v n xs) (hn : 0 < n) : ∃ g cap, v = .slice (some ⟨g, 0, none⟩) n cap ∧ n ≤ cap ∧ cap ≤ maxLen ∧ base ≤ g ∧ ∃ cur, w.heap[g]? = some (.cells cur e (0, 0)) := by
  rcases h.2 with ⟨_, h0⟩ | ⟨g, cap, cur, hv, hb, hg, hle, hm, _, _⟩
  · omega
  · exact ⟨g, cap, hv, hle, hm, hb, cur, hg⟩

/-- What an own Push leaves. -/
def AppPost (base : Nat) (w : World) (f : Nat) (ys : List Ent) (g : Nat) (e : Ending) (w' : World) : Prop :=
  e = .returned (.tuple #[]) ∧ ∃ g' cap', FR base w' f ys g' cap' ∧ Below base w w' ∧ KeepBut w w' f (some g) ∧ (g' = g ∨ w.heap.size ≤ g')

set_option maxHeartbeats 1000000 in
theorem fpush_calls (base : Nat) (w : World) (f g cap : Nat) (ys : List Ent) (e : Ent) (h : FR base w f ys g cap) (hn : ys.length ≤ 900000000000) :
    Calls Try.prog 58 #[.pointer (some ⟨f, 0, none⟩), .iface 45 (ev e)] w (AppPost base w f (ys ++ [e]) g) := by
  have cf := h.cell
  have hfs := h.gge.2.2
  have cfd : w.drew.cell? ⟨f, 0, none⟩ = some (.slice (some ⟨g, 0, none⟩) ys.length cap) := cf
  have hown : w.drew.ownsRow base 45 4 (.slice (some ⟨g, 0, none⟩) ys.length cap) ys.length (rows ys) := h.own
  have hbel : Below base w w.drew := (Below.refl _ _).drew
  have hsz : base ≤ w.drew.heap.size := Nat.le_trans h.ge (Nat.le_of_lt h.gge.2.2)
  have hl : (ys.length + 1) * 32 ≤ 140737488355328 := by omega
  have h1 : ∀ u ∈ ecells e, u.oneCell' = true := by intro u hu; simp [ecells] at hu; rcases hu with rfl | rfl | rfl | rfl <;> rfl
  have fin : ∀ v1 w1, w1.ownsRow base 45 4 v1 (ys.length + 1) (rows ys ++ ecells e) → Below base w w1 → w.drew.grownBy w1 (some g) → (v1.ownBlock = some g ∨ ∃ b, v1.ownBlock = some b ∧ w.drew.heap.size ≤ b) →
      (w1.cell? ⟨f, 0, none⟩ = some (.slice (some ⟨g, 0, none⟩) ys.length cap) ∧ w1.frozen? ⟨f, 0, none⟩ = false) ∧ AppPost base w f (ys ++ [e]) g (.returned (.tuple #[])) (w1.setCell ⟨f, 0, none⟩ v1) := by
    intro v1 w1 ho hb hg hat
    have hfg : some f ≠ some g := fun e => own_ne_blk h.own h.blk (by decide) (by rw [e]; rfl)
    have hb1 : w1.heap[f]? = some (.cells #[.slice (some ⟨g, 0, none⟩) ys.length cap] 47 (0, 0)) := blk_grown (w := w.drew) h.blk hg hfg
    obtain ⟨g', cap', rfl, _⟩ := ownsRow4_shape ho (by omega)
    refine ⟨⟨by rw [blk_cell hb1]; rfl, blk_frozen hb1 0⟩, rfl, g', cap', ⟨?_, h.ge, ?_⟩, hb.setCell (by exact h.ge) _, ?_, ?_⟩
    · have := blk_set hb1 0 (.slice (some ⟨g', 0, none⟩) (ys.length + 1) cap')
      simpa using this
    · have e1 : rows (ys ++ [e]) = rows ys ++ ecells e := by rw [rows_append]; simp [rows]
      rw [e1, List.length_append]
      exact own_setCell ho (fun e => own_ne_blk ho hb1 (by decide) e.symm) _
    · exact ⟨by simpa [World.setCell] using hg.size, fun i hi h1 h2 => (Below.heap_setCell w1 ⟨f, 0, none⟩ _ i h1).trans (hg.block i hi h2)⟩
    · rcases hat with hat | ⟨b, hb', hle⟩
      · simp only [Value.ownBlock, Option.some.injEq] at hat
        exact .inl hat
      · simp only [Value.ownBlock, Option.some.injEq] at hb'
        subst hb'
        exact .inr hle
  have FIN := Lib.hid fin
  have HX : Hid (ev e = .agg #[.int .i64 (e.1.1 : Int), .int .i64 (e.1.2.1 : Int), .int .i64 (e.1.2.2 : Int), .int .i64 (e.2 : Int)]) := rfl
  clear fin h
  rw [HX.out]
  obtain ⟨⟨x0, x1, x2⟩, x3⟩ := e
  simp only
  have hta := assert_calls
  go_enter Try.func58, Try.ntmps58
  go_region_law (refine step_append_cells base rfl (.tmp 7) (.tmp 10) 47 45 (.agg #[.int .i64 0, .int .i64 0, .int .i64 0, .int .i64 0]) 4 32 rfl Try.underlying47 info45 rfl (by omega) (by omega) (.slice (some ⟨g, 0, none⟩) ys.length cap) ys.length (rows ys) (ecells ((x0, x1, x2), x3)) rfl rfl rfl h1 hown hbel hsz hl ?_; intro v1 w1 ho hb hg hat; obtain ⟨⟨c1, f1⟩, hp⟩ := FIN.out v1 w1 ho hb hg hat; have HP := Lib.hid hp; obtain ⟨g', cap', rfl, -⟩ := ownsRow4_shape ho (by omega); clear ho hb hg hat hp)
  all_goals
    go_end0
    exact HP.out

/-- What an own Pop leaves. -/
def PopPost (base : Nat) (w : World) (f : Nat) (ys : List Ent) (top : Ent) (g cap : Nat) (e : Ending) (w' : World) : Prop :=
  e = .returned (.iface 45 (ev top)) ∧ FR base w' f ys g cap ∧ Below base w w' ∧ KeepBut w w' f (some g)

theorem own_pop {base g cap n : Nat} {w : World} {ys : List Ent} {e : Ent} (h : w.ownsRow base 45 4 (.slice (some ⟨g, 0, none⟩) (n + 1) cap) (n + 1) (rows (ys ++ [e]))) (hn : ys.length = n) : w.ownsRow base 45 4 (.slice (some ⟨g, 0, none⟩) n cap) n (rows ys) := by
  rcases h.2 with ⟨h0, _⟩ | ⟨g', cap', cur, hv, hb, hg, hle, hm, hs, ht⟩
  · cases h0
  · injection hv with h1 h2 h3
    injection h1 with h1
    injection h1 with h1
    subst h1 h3
    refine ⟨by rw [length_rows, hn], .inr ⟨g, cap, cur, rfl, hb, hg, by omega, hm, hs, ?_⟩⟩
    have e1 : rows (ys ++ [e]) = rows ys ++ ecells e := by rw [rows_append]; simp [rows]
    rw [e1] at ht
    have e2 : (cur.toList.take ((n + 1) * 4)).take (n * 4) = (rows ys ++ ecells e).take (n * 4) := by rw [ht]
    rw [List.take_take, Nat.min_eq_left (by omega), List.take_left' (by rw [length_rows, hn])] at e2
    exact e2

set_option maxHeartbeats 1000000 in
theorem fpop_calls (base : Nat) (w : World) (f g cap : Nat) (ys : List Ent) (e : Ent) (h : FR base w f (ys ++ [e]) g cap) (hn : ys.length ≤ 900000000000) :
    Calls Try.prog 57 #[.pointer (some ⟨f, 0, none⟩)] w (PopPost base w f ys e g cap) := by
  have cf := h.cell
  have hfs := h.gge.2.2
  have hgs := h.gge.2.1
  have hlen : (ys ++ [e]).length = ys.length + 1 := by simp
  have hc : ∀ a, a < 4 → w.cell? ⟨g, ys.length * 4 + a, none⟩ = (ecells e)[a]? := fun a ha => by
    rw [h.own.cellAt (ys.length * 4 + a) (by rw [hlen]; omega), rows_at (by rw [hlen]; omega) a ha]
    simp [List.getD_eq_getElem?_getD]
  have hcap : ys.length ≤ cap := by
    have := own_le h.own
    rw [hlen] at this
    omega
  have ff : w.frozen? ⟨f, 0, none⟩ = false := blk_frozen h.blk 0
  rw [hlen] at cf
  have fin : ∀ (o : Obj), PopPost base w f ys e g cap (.returned (.iface 45 (ev e))) ((w.setCell ⟨f, 0, none⟩ (.slice (some ⟨g, 0, none⟩) ys.length cap)).alloc o) := by
    intro o
    have ho := h.own
    rw [hlen] at ho
    have ho2 := own_pop ho rfl
    have hfg : some f ≠ some g := fun e => own_ne_blk h.own h.blk (by decide) (by rw [e]; rfl)
    have hs := blk_set h.blk 0 (.slice (some ⟨g, 0, none⟩) ys.length cap)
    have hsz : (w.setCell ⟨f, 0, none⟩ (.slice (some ⟨g, 0, none⟩) ys.length cap)).heap.size = w.heap.size := by simp [World.setCell]
    refine ⟨rfl, ⟨?_, h.ge, ?_⟩, ((Below.refl _ _).setCell (by exact h.ge) _).alloc (by rw [hsz]; exact Nat.le_trans h.ge (Nat.le_of_lt hfs)) o, ?_⟩
    · have := blk_alloc hs o
      simpa using this
    · exact (own_setCell ho2 (by simpa [Value.ownBlock] using hfg) _).alloc o
    · exact ⟨by simp [World.setCell], fun i hi h1 h2 => (Below.heap_alloc _ o i (by rw [hsz]; exact hi)).trans (Below.heap_setCell w ⟨f, 0, none⟩ _ i h1)⟩
  have FIN := Lib.hid fin
  obtain ⟨⟨x0, x1, x2⟩, x3⟩ := e
  have c0 : w.cell? ⟨g, ys.length * 4, none⟩ = some (.int .i64 (x0 : Int)) := hc 0 (by omega)
  have c1 : w.cell? ⟨g, ys.length * 4 + 1, none⟩ = some (.int .i64 (x1 : Int)) := hc 1 (by omega)
  have c2 : w.cell? ⟨g, ys.length * 4 + 2, none⟩ = some (.int .i64 (x2 : Int)) := hc 2 (by omega)
  have c3 : w.cell? ⟨g, ys.length * 4 + 3, none⟩ = some (.int .i64 (x3 : Int)) := hc 3 (by omega)
  clear fin h hc hlen
  go_enter Try.func57, Try.ntmps57
  go_wp2_with fail
  go_ret
  exact FIN.out _

/-- What container/heap's Push leaves. -/
def HPush (base : Nat) (w : World) (f : Nat) (ys : List Ent) (x : Ent) (g : Nat) (e : Ending) (w' : World) : Prop :=
  e = .returned (.tuple #[]) ∧ ∃ zs g' cap', FR base w' f zs g' cap' ∧ zs.Perm (x :: ys) ∧ HeapOrd zs zs.length ∧ Below base w w' ∧ KeepBut w w' f (some g)

set_option maxHeartbeats 1000000 in
theorem hpush_calls (base : Nat) (w : World) (f g cap : Nat) (ys : List Ent) (x : Ent) (h : FR base w f ys g cap) (hord : HeapOrd ys ys.length) (hn : ys.length ≤ 800000000000) :
    Calls Try.prog 21 #[.iface 43 (.pointer (some ⟨f, 0, none⟩)), .iface 45 (ev x)] w (HPush base w f ys x g) := by
  have hp := fpush_calls base w f g cap ys x h (by omega)
  have hm := method_push f w
  have hup := up_start x hord
  have hlen : (ys ++ [x]).length = ys.length + 1 := by simp
  have key : ∀ (w1 : World) (g' cap' : Nat), FR base w1 f (ys ++ [x]) g' cap' → Below base w w1 → KeepBut w w1 f (some g) → (g' = g ∨ w.heap.size ≤ g') →
      Sem.run Try.prog (method 197 43 (.pointer (some ⟨f, 0, none⟩)) "Len") w1 = .ok (18, .slice (some ⟨g', 0, none⟩) (ys.length + 1) cap') w1 ∧
      Calls Try.prog 34 #[.iface 43 (.pointer (some ⟨f, 0, none⟩)), .int .i64 (ys.length : Int)] w1 (fun e w2 => e = .returned (.tuple #[]) ∧ HPush base w f ys x g (.returned (.tuple #[])) w2) := by
    intro w1 g' cap' hfr hb hk hg
    refine ⟨?_, ?_⟩
    · have := method_len f w1 _ hfr.cell
      rw [hlen] at this
      exact this
    · refine (up_calls base w1 f g' cap' (ys ++ [x]) ys.length hfr (by rw [hlen]; omega) (by rw [hlen]; exact hup) (by rw [hlen]; omega)).mono ?_
      rintro e w2 ⟨rfl, zs, h1, h2, h3, h4, h5⟩
      refine ⟨rfl, rfl, zs, g', cap', h1, h2.trans (List.perm_append_comm.trans (.refl _)), h3, hb.trans h4, hk.trans h5 ?_⟩
      rcases hg with rfl | hg
      · exact .inl rfl
      · exact .inr ⟨g', rfl, hg⟩
  have KEY := Lib.hid key
  have HP := Lib.hid hp
  clear key hp hup hlen h hord
  go_enter Try.func21, Try.ntmps21
  go_wp2_with fail
  refine HP.out.mono ?_
  rintro e w1 ⟨rfl, g', cap', hfr, hb, hk, hg⟩
  obtain ⟨hml, hcall⟩ := KEY.out w1 g' cap' hfr hb hk hg
  have HC := Lib.hid hcall
  clear hfr hb hk hg hcall
  go_wp2_with (first | (go_at_call 18; refine (len_calls _ _ _ _).mono ?_; rintro e w' ⟨rfl, rfl⟩) | (go_at_call 34; refine HC.out.mono ?_; rintro e w2 ⟨rfl, hpost⟩; have HPO := Lib.hid hpost; clear hpost))
  go_end0
  exact HPO.out

theorem swapAny {base g cap : Nat} {ys : List Ent} {w : World} (h : w.ownsRow base 45 4 (.slice (some ⟨g, 0, none⟩) ys.length cap) ys.length (rows ys)) (i j : Nat) (ii ji : Int) (ei : ii = (i : Int)) (ej : ji = (j : Int)) (hi : i < ys.length) (hj : j < ys.length) (hn : ys.length ≤ 1000000000000) :
    Calls Try.prog 59 #[.slice (some ⟨g, 0, none⟩) ys.length cap, .int .i64 ii, .int .i64 ji] w fun e w' => e = .returned (.tuple #[]) ∧ w'.ownsRow base 45 4 (.slice (some ⟨g, 0, none⟩) ys.length cap) ys.length (rows (swp ys i j)) ∧ w.grownBy w' (some g) := by
  subst ei ej
  exact swap_calls h hi hj hn

/-- What container/heap's Pop leaves. -/
def HPop (base : Nat) (w : World) (f : Nat) (ys : List Ent) (g : Nat) (e : Ending) (w' : World) : Prop :=
  ∃ top zs cap', e = .returned (.iface 45 (ev top)) ∧ ys.Perm (top :: zs) ∧ ys.getD 0 e0 = top ∧ HeapOrd zs zs.length ∧ FR base w' f zs g cap' ∧ Below base w w' ∧ KeepBut w w' f (some g)

theorem split_last {zs : List Ent} {n : Nat} (h : zs.length = n + 1) : ∃ ys, zs = ys ++ [zs.getD n e0] ∧ ys.length = n := by
  refine ⟨zs.take n, ?_, by rw [List.length_take]; omega⟩
  have h1 : zs.drop n = [zs.getD n e0] := by
    rw [List.drop_eq_getElem_cons (by omega), List.drop_eq_nil_of_le (by omega)]
    simp [List.getD_eq_getElem?_getD, show n < zs.length by omega]
  rw [← h1, List.take_append_drop]

theorem heapOrd_take {ys : List Ent} {e : Ent} (h : HeapOrd (ys ++ [e]) ys.length) : HeapOrd ys ys.length := by
  have hc : ∀ k, k < ys.length → cs (ys ++ [e]) k = cs ys k := fun k hk => by
    unfold cs
    simp only [List.getD_eq_getElem?_getD]
    rw [List.getElem?_append_left hk]
  intro k h0 hk
  have := h k h0 hk
  rw [hc k hk, hc _ (by omega)] at this
  exact this

set_option maxHeartbeats 1000000 in
theorem hpop_calls (base : Nat) (w : World) (f g cap : Nat) (ys : List Ent) (h : FR base w f ys g cap) (hord : HeapOrd ys ys.length) (h0 : 0 < ys.length) (hn : ys.length ≤ 800000000000) :
    Calls Try.prog 19 #[.iface 43 (.pointer (some ⟨f, 0, none⟩))] w (HPop base w f ys g) := by
  obtain ⟨n, hlen⟩ : ∃ n, ys.length = n + 1 := ⟨ys.length - 1, by omega⟩
  have hml := method_len f w _ h.cell
  have hms := method_swap f w _ h.cell
  have hsw := swapAny h.own 0 n 0 (n : Int) rfl rfl h0 (by omega) (by omega)
  rw [hlen] at hml hms hsw
  have key : ∀ w1 : World, w1.ownsRow base 45 4 (.slice (some ⟨g, 0, none⟩) ys.length cap) ys.length (rows (swp ys 0 n)) → w.grownBy w1 (some g) →
      Calls Try.prog 33 #[.iface 43 (.pointer (some ⟨f, 0, none⟩)), .int .i64 0, .int .i64 (n : Int)] w1 (fun e w2 => (∃ b, e = .returned (.bool b)) ∧
        Sem.run Try.prog (method 197 43 (.pointer (some ⟨f, 0, none⟩)) "Pop") w2 = .ok (57, .pointer (some ⟨f, 0, none⟩)) w2 ∧ Calls Try.prog 57 #[.pointer (some ⟨f, 0, none⟩)] w2 (fun e w3 => ∃ v, e = .returned v ∧ HPop base w f ys g e w3)) := by
    intro w1 ho hg
    have hfr := h.swapped ho hg
    have hls : (swp ys 0 n).length = n + 1 := by rw [length_swp, hlen]
    have hd := down_start (ys := ys) (n := n) (by rw [hlen] at hord; exact hord) hlen
    refine (down_calls base w1 f g cap (swp ys 0 n) n hfr hd (by omega) (by omega)).mono ?_
    rintro e w2 ⟨hb, zs, f1, f2, f3, f4, f5, f6⟩
    refine ⟨hb, method_pop f w2, ?_⟩
    obtain ⟨rs, hz, hrl⟩ := split_last (zs := zs) (n := n) (by rw [f2.length_eq, hls])
    have htop : zs.getD n e0 = ys.getD 0 e0 := by
      rw [f4 n (Nat.le_refl _), getD_swp h0 (by omega), if_pos rfl]
    rw [htop] at hz
    subst hz
    refine (fpop_calls base w2 f g cap rs (ys.getD 0 e0) f1 (by omega)).mono ?_
    rintro e w3 ⟨rfl, p1, p2, p3⟩
    refine ⟨_, rfl, ys.getD 0 e0, rs, cap, rfl, ?_, rfl, ?_, p1, ?_, ?_⟩
    · exact (((swp_perm h0 (by omega)).symm.trans f2.symm).trans List.perm_append_comm)
    · rw [← hrl] at f3; exact heapOrd_take f3
    · have hb1 : Below base w w1 := (Below.refl _ _).grown hg (Nat.le_trans h.ge (Nat.le_of_lt h.gge.2.2)) (fun k e => by cases e; exact h.gge.1)
      exact (hb1.trans f5).trans p2
    · have k1 : KeepBut w w1 f (some g) := KeepBut.of_grown hg f
      exact (k1.trans f6 (.inl rfl)).trans p3 (.inl rfl)
  have KEY := Lib.hid key
  rw [hlen] at KEY
  have hn' : n ≤ 800000000000 := by omega
  clear key h hord hlen h0 hn
  go_enter Try.func19, Try.ntmps19
  go_wp2_with fail
  refine (len_calls _ _ _ _).mono ?_
  rintro e w' ⟨rfl, rfl⟩
  go_wp2_with fail
  refine hsw.mono ?_
  rintro e w1 ⟨rfl, ho, hg⟩
  have HK := Lib.hid (KEY.out w1 ho hg)
  clear ho hg hsw
  go_wp2_with fail
  refine HK.out.mono ?_
  rintro e w2 ⟨⟨bb, rfl⟩, hmp, hpp⟩
  have HPP := Lib.hid hpp
  clear hpp
  go_wp2_with fail
  refine HPP.out.mono ?_
  rintro e w3 ⟨vv, rfl, hpost⟩
  have HPO := Lib.hid hpost
  clear hpost
  go_wp2_with fail
  go_ret
  exact HPO.out

end Go.Proofs.Ytnnmidfkgjmfmaa.Ck
