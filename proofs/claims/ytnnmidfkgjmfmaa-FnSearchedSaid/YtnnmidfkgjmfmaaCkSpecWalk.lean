/- The reference's SearchCost: it answers. -/
import Derived.Test.YtnnmidfkgjmfmaaCkAns
namespace Go.Proofs.Ytnnmidfkgjmfmaa.Ck
open Go.RowKit Go.Proofs.YtnnmidfkgjmfmaaW.PrintWords Go.Proofs.YtnnmidfkgjmfmaaW.PrintLast Go.Proofs.YtnnmidfkgjmfmaaW.PrintMore
open Go.Proofs.Ytnnmidfkgjmfmaa.PFnExactSearchCost
set_option linter.unusedVariables false
set_option linter.unusedSimpArgs false

/-- 'step', its arguments as they come. -/
theorem Mid.step {w0 : World} {A : Option Addr} {cw : Nat} {W : List Int} {g c : Nat} {cur : List Int × List Nat} {wr : World} (h : Mid w0 A cw W g c 0 cur wr) (hr : Kd.C (Kd.int .i64) w0 A W.length W) (hcw : W.length ≤ cw) (hW : ∀ i, 0 ≤ W.getD i 0 ∧ W.getD i 0 ≤ 1000)
    (v : V) (bi xi Si : Int) (eb : bi = (v.2.2 : Int)) (ex : xi = (v.1 : Int)) (eS : Si = (v.2.1 : Int)) (hbn : v.2.2 ≤ W.length) (hn : W.length ≤ 7) (hd : v ∈ dom) (h0 : 0 ≤ cur.1.getD (key v) (-1)) (hk7 : cur.1.getD (key v) (-1) ≤ 1000000000) :
    Calls Try.prog 16 #[.pointer (some ⟨g, 0, none⟩), .int .i64 bi, .int .i64 xi, .int .i64 Si] wr fun e w' => e = .returned (.tuple #[]) ∧ SS w0.heap.size w' g (.slice A W.length cw) c (round (wtOf W) c v cur).1 (round (wtOf W) c v cur).2 ∧ Below w0.heap.size w0 w' := by
  obtain ⟨x, S, b⟩ := v
  subst eb ex eS
  have hd' := mem_dom.1 hd
  exact step_calls w0 A cw W hr hcw hW wr g c cur b x S (cur.1.getD (key (x, S, b)) (-1)).toNat h.bel h.ss hbn hn hd'.1 hd'.2.1 h.lenB (by have := h.lenq; omega) (by omega) (by omega)

/-- Where it ends. -/
def AnsPost (W : List Int) (sl : Int) (w0 : World) (e : Ending) (w' : World) : Prop := ∃ z, Answer W sl z ∧ e = .returned (.tuple #[.int .i64 z.1, .int .i64 z.2]) ∧ Below w0.heap.size w0 w'

theorem ansPost_mk {W : List Int} {sl : Int} {w0 : World} {w' : World} {a b : Int} (h : Answer W sl (a, b)) (hb : Below w0.heap.size w0 w') : AnsPost W sl w0 (.returned (.tuple #[.int .i64 a, .int .i64 b])) w' := ⟨(a, b), h, rfl, hb⟩

theorem answer_bad {W : List Int} {sl : Int} (h : weightsOk W = false) : Answer W sl (0, 1) := by unfold Answer; rw [if_pos h]
theorem answer_range {W : List Int} {sl : Int} (h : weightsOk W = true) (h' : inRange sl 0 3 = false ∨ 7 < W.length) : Answer W sl (0, 2) := by unfold Answer; rw [if_neg (by simp [h]), if_pos h']
theorem answer_good {W : List Int} {sl : Int} {r : Option Nat} (h : weightsOk W = true) (h1 : inRange sl 0 3 = true) (h2 : ¬ 7 < W.length) (hr : IsLeast (wtOf W) sl.toNat (0, 0, W.length) r) : Answer W sl (codeOf r) := by
  unfold Answer; rw [if_neg (by simp [h]), if_neg (by simp [h1, h2])]; exact ⟨r, hr, rfl⟩

/-- While the list of costs is made. -/
structure Init (w0 : World) (A : Option Addr) (cw : Nat) (W : List Int) (g c : Nat) (i : Nat) (vb : Value) (wr : World) : Prop where
  blk : wr.heap[g]? = some (.cells #[.slice A W.length cw, .int .i64 (c : Int), vb, .slice none 0 0] 36 (0, 0))
  ge : w0.heap.size ≤ g
  best : wr.ownsRow w0.heap.size 2 1 vb (ints (List.replicate i (-1))).length (ints (List.replicate i (-1)))
  bel : Below w0.heap.size w0 wr

theorem Init.start (w0 : World) (A : Option Addr) (cw : Nat) (W : List Int) (c m : Nat) : Init w0 A cw W w0.heap.size c 0 (.slice none 0 0) ((w0.drewN m).alloc (.cells #[.slice A W.length cw, .int .i64 (c : Int), .slice none 0 0, .slice none 0 0] 36)) :=
  ⟨heap_alloc_new (w0.drewN m) _, Nat.le_refl _, World.ownsRow_nil _ _ _ _, (pw_below_drewN (Below.refl _ _) m).alloc (Nat.le_refl _) _⟩

theorem Init.next {w0 : World} {A : Option Addr} {cw : Nat} {W : List Int} {g c i : Nat} {vb v' : Value} {wr w1 : World} (h : Init w0 A cw W g c i vb wr) (ho : w1.ownsRow w0.heap.size 2 1 v' (ints (List.replicate i (-1)) ++ [Value.int .i64 (-1)]).length (ints (List.replicate i (-1)) ++ [Value.int .i64 (-1)]))
    (b2 : Below w0.heap.size w0 w1) (hgr : wr.grownBy w1 vb.ownBlock) : (w1.cell? ⟨g, 2, none⟩ = some vb ∧ w1.frozen? ⟨g, 2, none⟩ = false) ∧ Init w0 A cw W g c (i + 1) v' (w1.setCell ⟨g, 2, none⟩ v') := by
  have hqg : some g ≠ vb.ownBlock := fun e => own_ne_blk h.best h.blk (by decide) e.symm
  have hb1 := blk_grown h.blk hgr hqg
  refine ⟨⟨by rw [blk_cell hb1]; rfl, blk_frozen hb1 2⟩, ⟨?_, h.ge, ?_, b2.setCell (by exact h.ge) _⟩⟩
  · have := blk_set hb1 2 v'
    simpa using this
  · have e1 : ints (List.replicate (i + 1) (-1)) = ints (List.replicate i (-1)) ++ [Value.int .i64 (-1)] := by
      rw [List.replicate_succ']
      simp [ints]
    rw [e1]
    exact own_setCell ho (fun e => own_ne_blk ho hb1 (by decide) e.symm) _

theorem Init.done {w0 : World} {A : Option Addr} {cw : Nat} {W : List Int} {g c i : Nat} {vb : Value} {wr : World} (h : Init w0 A cw W g c i vb wr) (hi : i = 16384) : Mid w0 A cw W g c 0 (B0, []) wr := by
  subst hi
  refine ⟨⟨vb, .slice none 0 0, h.blk, h.ge, ?_, World.ownsRow_nil _ _ _ _, ?_⟩, h.bel, List.length_replicate, Nat.zero_le _⟩
  · have := h.best
    have e : (ints (List.replicate 16384 (-1))).length = B0.length := by unfold ints B0; rw [List.length_map]
    rw [e] at this
    exact this
  · cases hv : vb.ownBlock with
    | none => exact .inl rfl
    | some b => exact .inr (by simp [Value.ownBlock])

theorem Mid.queueAt {w0 : World} {A : Option Addr} {cw : Nat} {W : List Int} {g c m : Nat} {cur : List Int × List Nat} {wr : World} (h : Mid w0 A cw W g c m cur wr) (hp : 0 < cur.2.length) :
    ∃ gq cq, wr.cell? ⟨g, 3, none⟩ = some (.slice (some ⟨gq, 0, none⟩) cur.2.length cq) ∧ ∀ (i : Nat) (hi : i < cur.2.length), wr.cell? ⟨gq, i, none⟩ = some (.int .i64 ((cur.2[i] : Nat) : Int)) := by
  obtain ⟨⟨vb, vq, H⟩, _⟩ := h
  obtain ⟨gq, cq, rfl, _⟩ := ownsRow_shape H.queue hp
  refine ⟨gq, cq, by rw [blk_cell H.blk]; rfl, fun i hi => ?_⟩
  rw [H.queue.cellAt i (by omega)]
  simp [nats, hi]

theorem Mid.bestAt {w0 : World} {A : Option Addr} {cw : Nat} {W : List Int} {g c m : Nat} {cur : List Int × List Nat} {wr : World} (h : Mid w0 A cw W g c m cur wr) :
    ∃ gb cb, wr.cell? ⟨g, 2, none⟩ = some (.slice (some ⟨gb, 0, none⟩) cur.1.length cb) ∧ ∀ (i : Nat), i < cur.1.length → wr.cell? ⟨gb, i, none⟩ = some (.int .i64 (cur.1.getD i (-1))) := by
  have hl := h.lenB
  obtain ⟨⟨vb, vq, H⟩, _⟩ := h
  obtain ⟨gb, cb, rfl, _⟩ := ownsRow_shape H.best (by omega)
  refine ⟨gb, cb, by rw [blk_cell H.blk]; rfl, fun i hi => ?_⟩
  rw [H.best.cellAt i (by omega)]
  simp [ints, List.getD_eq_getElem?_getD, hi]

/-- At the head of a round of the search. -/
structure ML (w0 : World) (A : Option Addr) (cw : Nat) (W : List Int) (g c : Nat) (gk i : Nat) (s : List Int × List Nat) (wr : World) : Prop where
  mid : Mid w0 A cw W g c 0 s wr
  inv : SInv (wtOf W) W.length c s.1 s.2
  all : AllOpen (wtOf W) c s.1 s.2 i
  le : i ≤ s.2.length
  pos : 0 < s.2.length
  most : pot (7000 * 16384) (bestOf s.1) + s.2.length ≤ gk + i

theorem ML.start {w0 : World} {A : Option Addr} {cw : Nat} {W : List Int} {g c : Nat} {wr : World} (hn : W.length ≤ 7) (h : Mid w0 A cw W g c 1 (relax (B0, []) ((0, 0, W.length), 0)) wr) : ML w0 A cw W g c 2000000000000 0 (relax (B0, []) ((0, 0, W.length), 0)) wr := by
  obtain ⟨h1, h2⟩ := Ck.start (wt := wtOf W) (n := W.length) (c := c) hn
  have hf := h1.few
  refine ⟨⟨h.ss, h.bel, h.lenB, by omega⟩, h1, h2, Nat.zero_le _, ?_, by omega⟩
  obtain ⟨m, hm, _⟩ := h1.zero
  rcases h2 _ _ hm with hq | hq
  · exact List.length_pos_of_mem (List.mem_of_mem_drop hq)
  · refine Nat.pos_of_ne_zero fun e => ?_
    have hd : ((0, 0, W.length) : V) ∈ dom := mem_dom.2 ⟨by omega, by omega, by omega⟩
    have hg : Gain (bestOf B0) (0, 0, W.length) 0 := fun m hm => by rw [bestOf_B0] at hm; cases hm
    rw [relax_gain (s := (B0, [])) hd hg] at e
    simp at e

/-- What is taken out of the queue. -/
theorem ML.take {w0 : World} {A : Option Addr} {cw : Nat} {W : List Int} {g c gk i : Nat} {s : List Int × List Nat} {wr : World} (hn : W.length ≤ 7) (hW : ∀ i, 0 ≤ W.getD i 0 ∧ W.getD i 0 ≤ 1000) (h : ML w0 A cw W g c gk i s wr) (hi : i < s.2.length) :
    ∃ v : V, key v = s.2[i] ∧ v ∈ dom ∧ v.2.2 ≤ W.length ∧ 0 ≤ s.1.getD (key v) (-1) ∧ s.1.getD (key v) (-1) ≤ 1000000000 ∧
      ∀ (gk' : Nat) (w1 : World), gk = gk' + 1 → SS w0.heap.size w1 g (.slice A W.length cw) c (round (wtOf W) c v s).1 (round (wtOf W) c v s).2 → Below w0.heap.size w0 w1 → ML w0 A cw W g c gk' (i + 1) (round (wtOf W) c v s) w1 := by
  have hw : ∀ x, wtOf W x ≤ 1000 := fun x => by have := hW x; simp only [wtOf]; omega
  obtain ⟨B, q⟩ := s
  have hinv0 : SInv (wtOf W) W.length c B q := h.inv
  have hall0 : AllOpen (wtOf W) c B q i := h.all
  obtain ⟨v, hk, hd, hok, h0, hinv, hall, hmost, hlt⟩ := SInv.round hinv0 hn hw hall0 hi
  simp only at hi
  refine ⟨v, hk, hd, hok.left, h0, ?_, fun gk' w1 e hss hb => ?_⟩
  · obtain ⟨m, hm⟩ := Int.eq_ofNat_of_zero_le h0
    have h1 := hinv0.bnd.le (bestOf_mk hd hm)
    show B.getD (key v) (-1) ≤ 1000000000
    rw [hm]
    omega
  · have hf := hinv.few
    have hm := h.most
    simp only at hm
    exact ⟨⟨hss, hb, hinv.len, by omega⟩, hinv, hall, by omega, by omega, by omega⟩

set_option maxHeartbeats 4000000 in
set_option maxRecDepth 100000 in
theorem specSearch_calls (w0 : World) (A : Option Addr) (cw : Nat) (W : List Int) (sl : Int) (hr : Kd.C (Kd.int .i64) w0 A W.length W) (hcw : W.length ≤ cw) (hWl : W.length ≤ 9000000000000000000) :
    Calls Try.prog 5 #[.slice A W.length cw, .int .i64 sl] w0 (AnsPost W sl w0) := by
  have hwc := fun (m : Nat) => weights_calls A cw W (w0.drewN m) (Kd.C_drewN hr m) hcw hWl
  have hwc0 : Calls Try.prog 13 #[.slice A W.length cw] w0 fun e w' => e = .returned (.bool (weightsOk W)) ∧ Drawn0 w0 w' := hwc 0
  clear hwc
  have HR := Lib.hid hr; clear hr
  have hin := fun w => in_calls sl 0 3 w
  by_cases hok : weightsOk W = false
  · have HA := Lib.hid (answer_bad (sl := sl) hok)
    rw [hok] at hwc0
    clear hok
    go_enter Try.func5, Try.ntmps5
    go_wp2_with (go_at_call 13; refine hwc0.mono ?_; rintro e w' ⟨rfl, ⟨m1, rfl⟩⟩)
    go_ret2
    exact ansPost_mk HA.out (pw_below_drewN (Below.refl _ _) _)
  · have hok' : weightsOk W = true := by simpa using hok
    rw [hok'] at hwc0
    by_cases hs : inRange sl 0 3 = false
    · have HA := Lib.hid (answer_range hok' (.inl hs))
      rw [hs] at hin
      clear hok hok' hs
      go_enter Try.func5, Try.ntmps5
      go_wp2_with (first | (go_at_call 13; refine hwc0.mono ?_; rintro e w' ⟨rfl, ⟨m1, rfl⟩⟩) | (go_at_call 14; refine (hin _).mono ?_; rintro e w' ⟨rfl, ⟨m2, rfl⟩⟩))
      go_ret2
      exact ansPost_mk HA.out (pw_below_drewN (Below.refl _ _) _)
    · have hs' : inRange sl 0 3 = true := by simpa using hs
      rw [hs'] at hin
      by_cases hl : 7 < W.length
      · have HA := Lib.hid (answer_range (sl := sl) hok' (.inr hl))
        clear hok hok' hs hs'
        go_enter Try.func5, Try.ntmps5
        go_wp2_with (first | (go_at_call 13; refine hwc0.mono ?_; rintro e w' ⟨rfl, ⟨m1, rfl⟩⟩) | (go_at_call 14; refine (hin _).mono ?_; rintro e w' ⟨rfl, ⟨m2, rfl⟩⟩))
        go_ret2
        exact ansPost_mk HA.out (pw_below_drewN (Below.refl _ _) _)
      · have HOK := Lib.hid hok'
        have HIN := Lib.hid hs'
        have hW := (weightsOk_spec hok').1
        have HW := Lib.hid hW
        have hsl : 0 ≤ sl ∧ sl ≤ 3 := by simpa [inRange] using hs'
        obtain ⟨hsl0, hsl3⟩ := hsl
        obtain ⟨c, rfl⟩ := Int.eq_ofNat_of_zero_le hsl0
        clear hok hok' hs hs' hW hsl0
        go_enter Try.func5, Try.ntmps5
        go_wp2_with (first | (go_at_call 13; refine hwc0.mono ?_; rintro e w' ⟨rfl, ⟨m1, rfl⟩⟩) | (go_at_call 14; refine (hin _).mono ?_; rintro e w' ⟨rfl, ⟨m2, rfl⟩⟩))
        have HI0 := Lib.hid (Init.start w0 A cw W c (m1 + m2))
        have hg0 : w0.heap.size ≤ w0.heap.size := Nat.le_refl _
        generalize ((w0.drewN (m1 + m2)).alloc (Obj.cells #[Value.slice A W.length cw, Value.int IntKind.i64 (c : Int), Value.slice none 0 0, Value.slice none 0 0] 36)) = ws at *
        obtain ⟨g, hg⟩ : ∃ g, g = w0.heap.size := ⟨_, rfl⟩
        rw [← hg] at HI0 ⊢
        have HG := Lib.hid hg; clear hg hg0
        go_loopg [7] 16384 (fun gk iv wr => ∃ (i : Nat) (vb : Value), iv = .int .i64 (i : Int) ∧ gk + i = 16384 ∧ Init w0 A cw W g c i vb wr)
        case atStart => exact ⟨0, _, rfl, rfl, HI0.out⟩
        case round =>
          obtain ⟨i, vb, rfl, hleft, hI⟩ := hrel
          have c2 : wr.cell? ⟨g, 2, none⟩ = some vb := by rw [blk_cell hI.blk]; rfl
          have hII := Lib.hid hI
          clear hI
          by_cases hi : i < 16384
          · obtain ⟨gk', rfl⟩ : ∃ gk', gk = gk' + 1 := ⟨gk - 1, by omega⟩
            have hown := hII.out.best
            have hbel := hII.out.bel
            have hsz : w0.heap.size ≤ wr.heap.size := hbel.size
            have hql : ((ints (List.replicate i (-1))).length + 1) * 8 ≤ 140737488355328 := by simp only [ints, List.length_map, List.length_replicate]; omega
            generalize hL : ints (List.replicate i (-1)) = L at *
            have HL := Lib.hid hL
            clear hL
            go_wp2_with (at_builtin; refine print_append w0.heap.size rfl (.tmp 35) (.tmp 36) 22 2 (.int .i64 0) 8 rfl Try.underlying22 info2 rfl (by omega) vb L (.int .i64 (-1)) rfl rfl rfl hown hbel hsz hql ?_; intro v' w1 hown1 hb2 hgrow hat; obtain ⟨gq, cq, rfl, -⟩ := ownsRow_shape hown1 (by simp); obtain ⟨⟨c5, f5⟩, hnx⟩ := hII.out.next (by rw [HL.out]; exact hown1) hb2 hgrow; have HN := Lib.hid hnx; clear hnx hown1 hgrow hat hb2)
            go_roundg gk'
            case measure => omega
            case rel => exact ⟨i + 1, _, by go_num, by omega, by simpa using HN.out⟩
          · have hi' : i = 16384 := by omega
            have HM := Lib.hid (hII.out.done hi')
            subst hi'
            clear hII c2
            have hl7 : W.length ≤ 7 := by omega
            go_wp2_with fail
            refine (HM.out.reach (by omega) W.length 0 0 0 _ _ _ _ rfl rfl rfl rfl (by omega) (by omega) (by omega)).mono ?_
            rintro e w1 ⟨rfl, hmid⟩
            have hst := ML.start hl7 hmid
            clear hmid
            generalize hs0 : relax (B0, []) ((0, 0, W.length), 0) = s0 at *
            clear hs0
            have HST := Lib.hid hst
            clear hst HM
            go_wp2_with fail
            go_loopg [8] 2000000000000 (fun gk iv wr => ∃ (i : Nat) (s : List Int × List Nat), iv = .int .i64 (i : Int) ∧ ML w0 A cw W g c gk i s wr)
            case atStart => exact ⟨0, s0, rfl, HST.out⟩
            case round =>
              obtain ⟨i, s, rfl, hL⟩ := hrel
              obtain ⟨gq, cq, c3, hq⟩ := hL.mid.queueAt hL.pos
              have hle := hL.le
              by_cases hi : i < s.2.length
              · obtain ⟨⟨x, S, b⟩, hkv, hd, hvn, h0, h9, hnext⟩ := hL.take hl7 HW.out hi
                have ck := hq i hi
                have hst := hL.mid.step HR.out hcw HW.out (x, S, b)
                clear hq
                obtain ⟨gk', rfl⟩ : ∃ gk', gk = gk' + 1 := ⟨gk - 1, by have := hL.most; omega⟩
                have hkk : s.2[i] < 16384 := by rw [← hkv]; exact key_lt hd
                generalize s.2[i] = kk at *
                obtain ⟨hx8, hS8, hb8⟩ := mem_dom.1 hd
                have HN := Lib.hid (fun w1 => hnext gk' w1 rfl)
                have hcall := hst ((kk : Int) / 2048) ((kk : Int) / 256 % 8) ((kk : Int) % 256) (by rw [← hkv]; simp only [key]; omega) (by rw [← hkv]; simp only [key]; omega) (by rw [← hkv]; simp only [key]; omega) hvn hl7 hd h0 h9
                have HC := Lib.hid hcall
                have hq12 := hL.mid.lenq
                clear hnext hL hst h0 h9 hkv hcall hb8 hx8 hS8 hd
                go_wp2_with fail
                refine HC.out.mono ?_
                rintro e w2 ⟨rfl, hss, hbl⟩
                have hL2 := Lib.hid (HN.out w2 hss hbl)
                clear hss hbl
                go_wp2_with fail
                go_roundg gk'
                case measure => omega
                case rel => exact ⟨i + 1, _, by go_num, hL2.out⟩
              · obtain ⟨gb, cb, c2, hbc⟩ := hL.mid.bestAt
                have hlB := hL.mid.lenB
                have hmn := minTo_spec s.1 hL.inv.from_
                have hfin := final (i := i) (K := 2048) rfl hL.inv hl7 hL.all (Nat.le_of_not_lt hi)
                have HB := Lib.hid hL.mid.bel
                have HF := Lib.hid hfin
                have HMN := Lib.hid hmn
                have HBC := Lib.hid hbc
                clear hL hfin hmn hbc hle
                have hlB' : 2048 ≤ s.1.length := by omega
                clear hlB
                go_wp2_with fail
                go_loopg [10, 11] 2048 (fun gk mv kv w' => ∃ (k : Nat), kv = .int .i64 (k : Int) ∧ mv = .int .i64 (minTo s.1 k) ∧ gk + k = 2048 ∧ wr = w')
                case atStart => exact ⟨0, rfl, rfl, rfl, rfl⟩
                case round =>
                  obtain ⟨k, rfl, rfl, hleft, rfl⟩ := hrel
                  by_cases hk : k < 2048
                  · obtain ⟨gk', rfl⟩ : ∃ gk', gk = gk' + 1 := ⟨gk - 1, by omega⟩
                    have hcell := HBC.out k (by omega)
                    have hnx := minTo_succ s.1 k
                    unfold minAt at hnx
                    have hkl : k < s.1.length := by omega
                    generalize minTo s.1 k = m at *
                    generalize s.1.getD k (-1) = z at *
                    have HNX := Lib.hid hnx; clear hnx
                    by_cases hz : 0 ≤ z
                    · by_cases hm : m < 0
                      · go_wp2_with fail
                        go_roundg gk'
                        case measure => omega
                        case rel => exact ⟨k + 1, by go_num, by rw [HNX.out, if_pos ⟨hz, .inl hm⟩], by omega, rfl⟩
                      · by_cases hzm : z < m
                        · go_wp2_with fail
                          go_roundg gk'
                          case measure => omega
                          case rel => exact ⟨k + 1, by go_num, by rw [HNX.out, if_pos ⟨hz, .inr hzm⟩], by omega, rfl⟩
                        · go_wp2_with fail
                          go_roundg gk'
                          case measure => omega
                          case rel => exact ⟨k + 1, by go_num, by rw [HNX.out, if_neg (by omega)], by omega, rfl⟩
                    · go_wp2_with fail
                      go_roundg gk'
                      case measure => omega
                      case rel => exact ⟨k + 1, by go_num, by rw [HNX.out, if_neg (by omega)], by omega, rfl⟩
                  · have hk' : k = 2048 := by omega
                    subst hk'
                    have hA := answer_good (sl := (c : Int)) HOK.out HIN.out (by omega) (by simpa using HF.out)
                    generalize minTo s.1 2048 = m at *
                    have HA := Lib.hid hA
                    clear hA
                    by_cases hm : m < 0
                    · go_wp2_with fail
                      go_ret2
                      refine ansPost_mk ?_ HB.out
                      have := HA.out
                      rw [resOf, if_pos hm] at this
                      exact this
                    · go_wp2_with fail
                      go_ret2
                      refine ansPost_mk ?_ HB.out
                      have := HA.out
                      rw [resOf, if_neg (by omega)] at this
                      simp only [codeOf] at this
                      rw [Int.toNat_of_nonneg (by omega)] at this
                      exact this

end Go.Proofs.Ytnnmidfkgjmfmaa.Ck
