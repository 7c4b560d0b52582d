/- container/heap over the program's heap: down. -/
import Derived.Test.YtnnmidfkgjmfmaaCkHeapWalk
namespace Go.Proofs.Ytnnmidfkgjmfmaa.Ck
open Go.RowKit Go.Proofs.YtnnmidfkgjmfmaaW.PrintWords Go.Proofs.YtnnmidfkgjmfmaaW.PrintLast Go.Proofs.YtnnmidfkgjmfmaaW.PrintMore
open Go.Proofs.Ytnnmidfkgjmfmaa.PFnExactSearchCost
set_option linter.unusedVariables false
set_option linter.unusedSimpArgs false

structure DownL (base : Nat) (w : World) (f : Nat) (ys : List Ent) (g cap n : Nat) (i : Nat) (zs : List Ent) (wr : World) : Prop where
  fr : FR base wr f zs g cap
  perm : zs.Perm ys
  at_ : DownAt zs n i
  rest : ∀ k, n ≤ k → zs.getD k e0 = ys.getD k e0
  le : i ≤ n
  bel : Below base w wr
  keep : KeepBut w wr f (some g)

/-- What down leaves. -/
def DownPost (base : Nat) (w : World) (f : Nat) (ys : List Ent) (g cap n : Nat) (e : Ending) (w' : World) : Prop :=
  (∃ b, e = .returned (.bool b)) ∧ ∃ zs, FR base w' f zs g cap ∧ zs.Perm ys ∧ HeapOrd zs n ∧ (∀ k, n ≤ k → zs.getD k e0 = ys.getD k e0) ∧ Below base w w' ∧ KeepBut w w' f (some g)

theorem DownL.done {base f g cap n i : Nat} {w wr : World} {ys zs : List Ent} (h : DownL base w f ys g cap n i zs wr) (hd : ∀ k, 0 < k → k < n → (k - 1) / 2 = i → cs zs i ≤ cs zs k) (m : Nat) (b : Bool) : DownPost base w f ys g cap n (.returned (.bool b)) (wr.drewN m) :=
  ⟨⟨b, rfl⟩, zs, h.fr.drewN m, h.perm, h.at_.done hd, h.rest, pw_below_drewN h.bel m, keep_drewN' h.keep m⟩

theorem DownL.next {base f g cap n i j : Nat} {w wr w2 : World} {ys zs : List Ent} (h : DownL base w f ys g cap n i zs wr) (hn : n ≤ zs.length) (h0 : 0 < j) (hj : j < n) (hp : (j - 1) / 2 = i) (hmin : ∀ k, 0 < k → k < n → (k - 1) / 2 = i → cs zs j ≤ cs zs k) (hlt : cs zs j < cs zs i)
    (m : Nat) (ho : w2.ownsRow base 45 4 (.slice (some ⟨g, 0, none⟩) zs.length cap) zs.length (rows (swp zs i j))) (hg : (wr.drewN m).grownBy w2 (some g)) : DownL base w f ys g cap n j (swp zs i j) w2 := by
  have hi : i < zs.length := by omega
  refine ⟨(h.fr.drewN m).swapped ho hg, (swp_perm hi (by omega)).trans h.perm, h.at_.step hn h0 hj hp hmin hlt, fun k hk => ?_, by omega, ?_, keep_grown (keep_drewN' h.keep m) hg⟩
  · rw [getD_swp hi (by omega), if_neg (by omega), if_neg (by omega)]
    exact h.rest k hk
  · exact (pw_below_drewN h.bel m).grown hg (Nat.le_trans h.fr.ge (Nat.le_of_lt h.fr.gge.2.2)) (fun k e => by cases e; exact h.fr.gge.1)

theorem lessAny {base g cap : Nat} {ys : List Ent} {w : World} (h : w.ownsRow base 45 4 (.slice (some ⟨g, 0, none⟩) ys.length cap) ys.length (rows ys)) (hn : ys.length ≤ 1000000000000) (i j : Nat) (ii ji : Int) (ei : ii = (i : Int)) (ej : ji = (j : Int)) (hi : i < ys.length) (hj : j < ys.length) (b : Bool) (hb : decide (cs ys i < cs ys j) = b) :
    Calls Try.prog 56 #[.slice (some ⟨g, 0, none⟩) ys.length cap, .int .i64 ii, .int .i64 ji] w fun e w' => e = .returned (.bool b) ∧ Drawn0 w w' := by
  subst ei ej hb
  exact lessAt_calls h hi hj hn

/-- The smaller child, where there is one. -/
theorem child_pick {zs : List Ent} {n i J1 J2 : Nat} (e1 : J1 = 2 * i + 1) (e2 : J2 = J1 + 1) (h1 : J1 < n) (j : Nat) (hj : (j = J1 ∧ (J2 < n → ¬ cs zs J2 < cs zs J1)) ∨ (j = J2 ∧ J2 < n ∧ cs zs J2 < cs zs J1)) :
    0 < j ∧ j < n ∧ (j - 1) / 2 = i ∧ ∀ k, 0 < k → k < n → (k - 1) / 2 = i → cs zs j ≤ cs zs k := by
  refine ⟨by omega, by omega, by omega, fun k h0 hk hp => ?_⟩
  have hk' : k = J1 ∨ k = J2 := by omega
  rcases hj with ⟨rfl, h2⟩ | ⟨rfl, h2, h3⟩
  · rcases hk' with rfl | rfl
    · exact Nat.le_refl _
    · have := h2 hk; omega
  · rcases hk' with rfl | rfl
    · omega
    · exact Nat.le_refl _

set_option maxHeartbeats 4000000 in
theorem down_calls (base : Nat) (w : World) (f g cap : Nat) (ys : List Ent) (n : Nat) (h : FR base w f ys g cap) (hat : DownAt ys n 0) (hny : n ≤ ys.length) (hn : ys.length ≤ 1000000000000) :
    Calls Try.prog 33 #[.iface 43 (.pointer (some ⟨f, 0, none⟩)), .int .i64 0, .int .i64 (n : Int)] w (DownPost base w f ys g cap n) := by
  have H0 : DownL base w f ys g cap n 0 ys w := ⟨h, .refl _, hat, fun _ _ => rfl, Nat.zero_le _, Below.refl _ _, KeepBut.refl _ _ _⟩
  have HH := Lib.hid H0
  clear H0 h hat
  go_enter Try.func33, Try.ntmps33
  go_wp2_with fail
  go_loopg [7] (n + 1) (fun gk iv wr => ∃ (i : Nat) (zs : List Ent), iv = .int .i64 (i : Int) ∧ n < gk + i ∧ DownL base w f ys g cap n i zs wr)
  case atStart => exact ⟨0, ys, rfl, by omega, HH.out⟩
  case round =>
    obtain ⟨i, zs, rfl, hgk, hL⟩ := hrel
    have hlen : zs.length ≤ ys.length := Nat.le_of_eq hL.perm.length_eq
    have hlen' : n ≤ zs.length := by rw [hL.perm.length_eq]; exact hny
    have hle := hL.le
    obtain ⟨J1, hJ1⟩ : ∃ J1 : Nat, J1 = 2 * i + 1 := ⟨_, rfl⟩
    obtain ⟨J2, hJ2⟩ : ∃ J2 : Nat, J2 = J1 + 1 := ⟨_, rfl⟩
    have e1 : 2 * (i : Int) + 1 = (J1 : Int) := by omega
    have e2 : (J1 : Int) + 1 = (J2 : Int) := by omega
    have HJ1 := Lib.hid hJ1
    have HJ2 := Lib.hid hJ2
    by_cases hj1 : J1 < n
    · clear hJ1 hJ2
      have hil : i < zs.length := by have := HJ1.out; omega
      have hm0 := method_less f wr _ hL.fr.cell
      have hm1 := fun m => method_less f (wr.drewN m) _ (hL.fr.drewN m).cell
      have hms := fun m => method_swap f (wr.drewN m) _ (hL.fr.drewN m).cell
      by_cases hj2 : J2 < n
      · have hj2l : J2 < zs.length := by omega
        by_cases hb : cs zs J2 < cs zs J1
        · have hc := lessAny hL.fr.own (by omega) J2 J1 _ _ rfl rfl hj2l (by omega) true (decide_eq_true hb)
          have HC := Lib.hid hc
          clear hc
          obtain ⟨q0, q1, q2, q3⟩ := child_pick HJ1.out HJ2.out hj1 J2 (.inr ⟨rfl, hj2, hb⟩)
          have hjl : J2 < zs.length := by omega
          by_cases hlt : cs zs J2 < cs zs i
          · have hL2 := fun (j : Nat) (hj : j = J2) (m : Nat) (w2 : World) (ho : w2.ownsRow base 45 4 (.slice (some ⟨g, 0, none⟩) zs.length cap) zs.length (rows (swp zs i j))) (hg : (wr.drewN m).grownBy w2 (some g)) => hL.next hlen' (by rw [hj]; exact q0) (by rw [hj]; exact q1) (by rw [hj]; exact q2) (by rw [hj]; exact q3) (by rw [hj]; exact hlt) m ho hg
            have hsw := fun m => swap_calls (hL.fr.drewN m).own hil hjl (by omega)
            have hl2 := fun m => lessAny (hL.fr.drewN m).own (by omega) J2 i _ _ rfl rfl hjl hil true (decide_eq_true hlt)
            have hl20 := lessAny hL.fr.own (by omega) J2 i _ _ rfl rfl hjl hil true (decide_eq_true hlt)
            have HL2 := Lib.hid hL2
            have HSW := Lib.hid hsw
            have HQ := Lib.hid q1
            have HA := Lib.hid hl2
            have HB := Lib.hid hl20
            clear hL2 hsw hl2 hl20 hL q0 q2 q3 hlt hb
            go_wp2_with fail
            refine (HC.out).mono ?_
            rintro e w' ⟨rfl, ⟨m1, rfl⟩⟩
            go_wp2_with fail
            refine (HA.out _).mono ?_
            rintro e w' ⟨rfl, ⟨m2, rfl⟩⟩
            go_wp2_with fail
            refine (HSW.out _).mono ?_
            rintro e w2 ⟨rfl, ho, hg⟩
            have hLN := Lib.hid (HL2.out J2 rfl _ w2 ho hg)
            clear ho hg
            go_wp2_with fail
            go_roundg (n + 1 - J2)
            case measure => omega
            case rel => exact ⟨J2, _, rfl, by omega, hLN.out⟩
          · have hfin := fun m b => hL.done (fun k h0 hk hp => Nat.le_trans (Nat.le_of_not_lt hlt) (q3 k h0 hk hp)) m b
            have hl2 := fun m => lessAny (hL.fr.drewN m).own (by omega) J2 i _ _ rfl rfl hjl hil false (decide_eq_false hlt)
            have hl20 := lessAny hL.fr.own (by omega) J2 i _ _ rfl rfl hjl hil false (decide_eq_false hlt)
            have HF := Lib.hid hfin
            have HA := Lib.hid hl2
            have HB := Lib.hid hl20
            clear hfin hl2 hl20 hL q0 q2 q3 hlt hb
            go_wp2_with fail
            refine (HC.out).mono ?_
            rintro e w' ⟨rfl, ⟨m1, rfl⟩⟩
            go_wp2_with fail
            refine (HA.out _).mono ?_
            rintro e w' ⟨rfl, ⟨m2, rfl⟩⟩
            go_wp2_with fail
            go_ret
            exact HF.out _ _
        · have hc := lessAny hL.fr.own (by omega) J2 J1 _ _ rfl rfl hj2l (by omega) false (decide_eq_false hb)
          have HC := Lib.hid hc
          clear hc
          obtain ⟨q0, q1, q2, q3⟩ := child_pick HJ1.out HJ2.out hj1 J1 (.inl ⟨rfl, fun _ => hb⟩)
          have hjl : J1 < zs.length := by omega
          by_cases hlt : cs zs J1 < cs zs i
          · have hL2 := fun (j : Nat) (hj : j = J1) (m : Nat) (w2 : World) (ho : w2.ownsRow base 45 4 (.slice (some ⟨g, 0, none⟩) zs.length cap) zs.length (rows (swp zs i j))) (hg : (wr.drewN m).grownBy w2 (some g)) => hL.next hlen' (by rw [hj]; exact q0) (by rw [hj]; exact q1) (by rw [hj]; exact q2) (by rw [hj]; exact q3) (by rw [hj]; exact hlt) m ho hg
            have hsw := fun m => swap_calls (hL.fr.drewN m).own hil hjl (by omega)
            have hl2 := fun m => lessAny (hL.fr.drewN m).own (by omega) J1 i _ _ rfl rfl hjl hil true (decide_eq_true hlt)
            have hl20 := lessAny hL.fr.own (by omega) J1 i _ _ rfl rfl hjl hil true (decide_eq_true hlt)
            have HL2 := Lib.hid hL2
            have HSW := Lib.hid hsw
            have HQ := Lib.hid q1
            have HA := Lib.hid hl2
            have HB := Lib.hid hl20
            clear hL2 hsw hl2 hl20 hL q0 q2 q3 hlt hb
            go_wp2_with fail
            refine (HC.out).mono ?_
            rintro e w' ⟨rfl, ⟨m1, rfl⟩⟩
            go_wp2_with fail
            refine (HA.out _).mono ?_
            rintro e w' ⟨rfl, ⟨m2, rfl⟩⟩
            go_wp2_with fail
            refine (HSW.out _).mono ?_
            rintro e w2 ⟨rfl, ho, hg⟩
            have hLN := Lib.hid (HL2.out J1 rfl _ w2 ho hg)
            clear ho hg
            go_wp2_with fail
            go_roundg (n + 1 - J1)
            case measure => omega
            case rel => exact ⟨J1, _, rfl, by omega, hLN.out⟩
          · have hfin := fun m b => hL.done (fun k h0 hk hp => Nat.le_trans (Nat.le_of_not_lt hlt) (q3 k h0 hk hp)) m b
            have hl2 := fun m => lessAny (hL.fr.drewN m).own (by omega) J1 i _ _ rfl rfl hjl hil false (decide_eq_false hlt)
            have hl20 := lessAny hL.fr.own (by omega) J1 i _ _ rfl rfl hjl hil false (decide_eq_false hlt)
            have HF := Lib.hid hfin
            have HA := Lib.hid hl2
            have HB := Lib.hid hl20
            clear hfin hl2 hl20 hL q0 q2 q3 hlt hb
            go_wp2_with fail
            refine (HC.out).mono ?_
            rintro e w' ⟨rfl, ⟨m1, rfl⟩⟩
            go_wp2_with fail
            refine (HA.out _).mono ?_
            rintro e w' ⟨rfl, ⟨m2, rfl⟩⟩
            go_wp2_with fail
            go_ret
            exact HF.out _ _
      ·
        obtain ⟨q0, q1, q2, q3⟩ := child_pick HJ1.out HJ2.out hj1 J1 (.inl ⟨rfl, fun h => absurd h hj2⟩)
        have hjl : J1 < zs.length := by omega
        by_cases hlt : cs zs J1 < cs zs i
        · have hL2 := fun (j : Nat) (hj : j = J1) (m : Nat) (w2 : World) (ho : w2.ownsRow base 45 4 (.slice (some ⟨g, 0, none⟩) zs.length cap) zs.length (rows (swp zs i j))) (hg : (wr.drewN m).grownBy w2 (some g)) => hL.next hlen' (by rw [hj]; exact q0) (by rw [hj]; exact q1) (by rw [hj]; exact q2) (by rw [hj]; exact q3) (by rw [hj]; exact hlt) m ho hg
          have hsw := fun m => swap_calls (hL.fr.drewN m).own hil hjl (by omega)
          have hl2 := fun m => lessAny (hL.fr.drewN m).own (by omega) J1 i _ _ rfl rfl hjl hil true (decide_eq_true hlt)
          have hl20 := lessAny hL.fr.own (by omega) J1 i _ _ rfl rfl hjl hil true (decide_eq_true hlt)
          have HL2 := Lib.hid hL2
          have HSW := Lib.hid hsw
          have HQ := Lib.hid q1
          have HA := Lib.hid hl2
          have HB := Lib.hid hl20
          clear hL2 hsw hl2 hl20 hL q0 q2 q3 hlt
          go_wp2_with fail
          refine (HB.out).mono ?_
          rintro e w' ⟨rfl, ⟨m1, rfl⟩⟩
          go_wp2_with fail
          refine (HSW.out _).mono ?_
          rintro e w2 ⟨rfl, ho, hg⟩
          have hLN := Lib.hid (HL2.out J1 rfl _ w2 ho hg)
          clear ho hg
          go_wp2_with fail
          go_roundg (n + 1 - J1)
          case measure => omega
          case rel => exact ⟨J1, _, rfl, by omega, hLN.out⟩
        · have hfin := fun m b => hL.done (fun k h0 hk hp => Nat.le_trans (Nat.le_of_not_lt hlt) (q3 k h0 hk hp)) m b
          have hl2 := fun m => lessAny (hL.fr.drewN m).own (by omega) J1 i _ _ rfl rfl hjl hil false (decide_eq_false hlt)
          have hl20 := lessAny hL.fr.own (by omega) J1 i _ _ rfl rfl hjl hil false (decide_eq_false hlt)
          have HF := Lib.hid hfin
          have HA := Lib.hid hl2
          have HB := Lib.hid hl20
          clear hfin hl2 hl20 hL q0 q2 q3 hlt
          go_wp2_with fail
          refine (HB.out).mono ?_
          rintro e w' ⟨rfl, ⟨m1, rfl⟩⟩
          go_wp2_with fail
          go_ret
          exact HF.out _ _
    · have hfin := fun m b => hL.done (fun k h0 hk hp => by omega) m b
      have HF := Lib.hid hfin
      clear hL hfin hJ1 hJ2
      go_wp2_with fail
      go_ret
      exact HF.out 0 _

end Go.Proofs.Ytnnmidfkgjmfmaa.Ck
