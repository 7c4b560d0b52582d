/- The program's heap of what is to be looked at, in memory: its own methods. -/
import Derived.Test.YtnnmidfkgjmfmaaCkImplA
import Derived.Test.YtnnmidfkgjmfmaaCkDijk
import Derived.RegionTactic
import Derived.BigRegion
namespace Go.Proofs.Ytnnmidfkgjmfmaa.Ck
open Go.RowKit Go.Proofs.YtnnmidfkgjmfmaaW.PrintWords Go.Proofs.YtnnmidfkgjmfmaaW.PrintLast Go.Proofs.YtnnmidfkgjmfmaaW.PrintMore
open Go.Proofs.Ytnnmidfkgjmfmaa.PFnExactSearchCost
set_option linter.unusedVariables false
set_option linter.unusedSimpArgs false

def ecells (e : Ent) : List Value := [.int .i64 (e.1.1 : Int), .int .i64 (e.1.2.1 : Int), .int .i64 (e.1.2.2 : Int), .int .i64 (e.2 : Int)]
def rows (ys : List Ent) : List Value := ys.flatMap ecells

theorem rows_cons (e : Ent) (ys : List Ent) : rows (e :: ys) = ecells e ++ rows ys := rfl
theorem rows_append (ys zs : List Ent) : rows (ys ++ zs) = rows ys ++ rows zs := by simp [rows]
theorem length_ecells (e : Ent) : (ecells e).length = 4 := rfl
theorem length_rows : ∀ ys : List Ent, (rows ys).length = ys.length * 4
  | [] => rfl
  | e :: ys => by rw [rows_cons, List.length_append, length_rows ys, length_ecells, List.length_cons]; omega

theorem rows_get : ∀ (ys : List Ent) (k : Nat), (rows ys)[k]? = (ys[k / 4]?).bind fun e => (ecells e)[k % 4]?
  | [], k => by simp [rows]
  | e :: ys, k => by
    rw [rows_cons]
    by_cases hk : k < 4
    · rw [List.getElem?_append_left (by rw [length_ecells]; exact hk), show k / 4 = 0 by omega, show k % 4 = k by omega]
      rfl
    · rw [List.getElem?_append_right (by rw [length_ecells]; omega), length_ecells, rows_get ys (k - 4), show k / 4 = (k - 4) / 4 + 1 by omega, show k % 4 = (k - 4) % 4 by omega]
      rfl

theorem rows_at {ys : List Ent} {i : Nat} (hi : i < ys.length) (a : Nat) (ha : a < 4) : (rows ys)[i * 4 + a]? = (ecells (ys.getD i e0))[a]? := by
  rw [rows_get, show (i * 4 + a) / 4 = i by omega, show (i * 4 + a) % 4 = a by omega]
  simp [List.getD_eq_getElem?_getD, hi]

def set4 (L : List Value) (i : Nat) (e : Ent) : List Value := (((L.set (i * 4) (.int .i64 (e.1.1 : Int))).set (i * 4 + 1) (.int .i64 (e.1.2.1 : Int))).set (i * 4 + 2) (.int .i64 (e.1.2.2 : Int))).set (i * 4 + 3) (.int .i64 (e.2 : Int))

theorem rows_set {ys : List Ent} {i : Nat} (hi : i < ys.length) (e : Ent) : rows (ys.set i e) = set4 (rows ys) i e := by
  refine List.ext_getElem? fun k => ?_
  have hl := length_rows ys
  unfold set4
  rw [rows_get]
  simp only [List.getElem?_set, List.length_set, hl]
  by_cases h3 : i * 4 + 3 = k
  · subst h3
    rw [show (i * 4 + 3) / 4 = i by omega, show (i * 4 + 3) % 4 = 3 by omega]
    simp [hi, ecells, show i * 4 + 3 < ys.length * 4 by omega]
  · rw [if_neg h3]
    by_cases h2 : i * 4 + 2 = k
    · subst h2
      rw [show (i * 4 + 2) / 4 = i by omega, show (i * 4 + 2) % 4 = 2 by omega]
      simp [hi, ecells, show i * 4 + 2 < ys.length * 4 by omega]
    · rw [if_neg h2]
      by_cases h1 : i * 4 + 1 = k
      · subst h1
        rw [show (i * 4 + 1) / 4 = i by omega, show (i * 4 + 1) % 4 = 1 by omega]
        simp [hi, ecells, show i * 4 + 1 < ys.length * 4 by omega]
      · rw [if_neg h1]
        by_cases h0 : i * 4 = k
        · subst h0
          rw [show (i * 4) / 4 = i by omega, show (i * 4) % 4 = 0 by omega]
          simp [hi, ecells, show i * 4 < ys.length * 4 by omega]
        · rw [if_neg h0, if_neg (show ¬ i = k / 4 by omega), rows_get]

theorem grown_trans {w w1 w2 : World} {row : Option Nat} (h : w.grownBy w1 row) (k : w1.grownBy w2 row) : w.grownBy w2 row :=
  ⟨k.os.trans h.os, k.tape.trans h.tape, k.output.trans h.output, Nat.le_trans h.size k.size, fun i hi hr => (k.block i (Nat.lt_of_lt_of_le hi h.size) hr).trans (h.block i hi hr)⟩

theorem grown_drew {w w1 : World} {row : Option Nat} (h : w.grownBy w1 row) : w.grownBy w1.drew row := ⟨h.os, h.tape, h.output, h.size, h.block⟩
theorem grown_drewN {w w1 : World} {row : Option Nat} (h : w.grownBy w1 row) (m : Nat) : w.grownBy (w1.drewN m) row := ⟨h.os, h.tape, h.output, h.size, h.block⟩

/-- An entry set, cell by cell. -/
def setEnt (w : World) (g i : Nat) (e : Ent) : World := (((w.setCell ⟨g, i * 4, none⟩ (.int .i64 (e.1.1 : Int))).setCell ⟨g, i * 4 + 1, none⟩ (.int .i64 (e.1.2.1 : Int))).setCell ⟨g, i * 4 + 2, none⟩ (.int .i64 (e.1.2.2 : Int))).setCell ⟨g, i * 4 + 3, none⟩ (.int .i64 (e.2 : Int))

theorem setEnt_own {w : World} {base g n cap i : Nat} {ys : List Ent} (h : w.ownsRow base 45 4 (.slice (some ⟨g, 0, none⟩) n cap) n (rows ys)) (hi : i < ys.length) (e : Ent) :
    (setEnt w g i e).ownsRow base 45 4 (.slice (some ⟨g, 0, none⟩) n cap) n (rows (ys.set i e)) ∧ w.grownBy (setEnt w g i e) (some g) := by
  obtain ⟨h0, g0⟩ := h.stored (i * 4) (.int .i64 (e.1.1 : Int))
  obtain ⟨h1, g1⟩ := h0.stored (i * 4 + 1) (.int .i64 (e.1.2.1 : Int))
  obtain ⟨h2, g2⟩ := h1.stored (i * 4 + 2) (.int .i64 (e.1.2.2 : Int))
  obtain ⟨h3, g3⟩ := h2.stored (i * 4 + 3) (.int .i64 (e.2 : Int))
  rw [rows_set hi]
  exact ⟨h3, grown_trans (grown_trans (grown_trans g0 g1) g2) g3⟩

theorem own_drew {w : World} {base g n cap : Nat} {L : List Value} (h : w.ownsRow base 45 4 (.slice (some ⟨g, 0, none⟩) n cap) n L) : w.drew.ownsRow base 45 4 (.slice (some ⟨g, 0, none⟩) n cap) n L := h

theorem len_calls (A : Option Addr) (n c : Nat) (w : World) : Calls Try.prog 18 #[.slice A n c] w fun e w' => e = .returned (.int .i64 (n : Int)) ∧ w' = w := by
  go_enter Try.func18, Try.ntmps18
  go_wp2
  go_ret
  exact ⟨rfl, rfl⟩

theorem less_calls (g n c i j : Nat) (a b : Int) (w : World) (hi : i < n) (hj : j < n) (hn : n ≤ 1000000000000) (ha : w.cell? ⟨g, i * 4 + 3, none⟩ = some (.int .i64 a)) (hb : w.cell? ⟨g, j * 4 + 3, none⟩ = some (.int .i64 b)) :
    Calls Try.prog 56 #[.slice (some ⟨g, 0, none⟩) n c, .int .i64 (i : Int), .int .i64 (j : Int)] w fun e w' => e = .returned (.bool (decide (a < b))) ∧ Drawn0 w w' := by
  go_enter Try.func56, Try.ntmps56
  go_wp2_with fail
  go_quiet (fail)
  go_wp2_with fail
  go_ret
  exact ⟨rfl, ⟨_, rfl⟩⟩

theorem swap_ne (g n c i j : Nat) (ea eb : Ent) (w : World) (hi : i < n) (hj : j < n) (hij : i ≠ j) (hn : n ≤ 1000000000000) (ha0 : w.cell? ⟨g, i * 4, none⟩ = some (.int .i64 (ea.1.1 : Int))) (ha1 : w.cell? ⟨g, i * 4 + 1, none⟩ = some (.int .i64 (ea.1.2.1 : Int))) (ha2 : w.cell? ⟨g, i * 4 + 2, none⟩ = some (.int .i64 (ea.1.2.2 : Int))) (ha3 : w.cell? ⟨g, i * 4 + 3, none⟩ = some (.int .i64 (ea.2 : Int)))
    (hb0 : w.cell? ⟨g, j * 4, none⟩ = some (.int .i64 (eb.1.1 : Int))) (hb1 : w.cell? ⟨g, j * 4 + 1, none⟩ = some (.int .i64 (eb.1.2.1 : Int))) (hb2 : w.cell? ⟨g, j * 4 + 2, none⟩ = some (.int .i64 (eb.1.2.2 : Int))) (hb3 : w.cell? ⟨g, j * 4 + 3, none⟩ = some (.int .i64 (eb.2 : Int))) (hf : ∀ o, w.frozen? ⟨g, o, none⟩ = false) :
    Calls Try.prog 59 #[.slice (some ⟨g, 0, none⟩) n c, .int .i64 (i : Int), .int .i64 (j : Int)] w fun e w' => e = .returned (.tuple #[]) ∧ w' = (setEnt (setEnt w g i eb) g j ea).drew := by
  have n00 : ¬ i * 4 = j * 4 := by omega
  have m00 : ¬ j * 4 = i * 4 := by omega
  have n01 : ¬ i * 4 = j * 4 + 1 := by omega
  have m01 : ¬ j * 4 = i * 4 + 1 := by omega
  have n02 : ¬ i * 4 = j * 4 + 2 := by omega
  have m02 : ¬ j * 4 = i * 4 + 2 := by omega
  have n03 : ¬ i * 4 = j * 4 + 3 := by omega
  have m03 : ¬ j * 4 = i * 4 + 3 := by omega
  have n10 : ¬ i * 4 + 1 = j * 4 := by omega
  have m10 : ¬ j * 4 + 1 = i * 4 := by omega
  have n11 : ¬ i * 4 + 1 = j * 4 + 1 := by omega
  have m11 : ¬ j * 4 + 1 = i * 4 + 1 := by omega
  have n12 : ¬ i * 4 + 1 = j * 4 + 2 := by omega
  have m12 : ¬ j * 4 + 1 = i * 4 + 2 := by omega
  have n13 : ¬ i * 4 + 1 = j * 4 + 3 := by omega
  have m13 : ¬ j * 4 + 1 = i * 4 + 3 := by omega
  have n20 : ¬ i * 4 + 2 = j * 4 := by omega
  have m20 : ¬ j * 4 + 2 = i * 4 := by omega
  have n21 : ¬ i * 4 + 2 = j * 4 + 1 := by omega
  have m21 : ¬ j * 4 + 2 = i * 4 + 1 := by omega
  have n22 : ¬ i * 4 + 2 = j * 4 + 2 := by omega
  have m22 : ¬ j * 4 + 2 = i * 4 + 2 := by omega
  have n23 : ¬ i * 4 + 2 = j * 4 + 3 := by omega
  have m23 : ¬ j * 4 + 2 = i * 4 + 3 := by omega
  have n30 : ¬ i * 4 + 3 = j * 4 := by omega
  have m30 : ¬ j * 4 + 3 = i * 4 := by omega
  have n31 : ¬ i * 4 + 3 = j * 4 + 1 := by omega
  have m31 : ¬ j * 4 + 3 = i * 4 + 1 := by omega
  have n32 : ¬ i * 4 + 3 = j * 4 + 2 := by omega
  have m32 : ¬ j * 4 + 3 = i * 4 + 2 := by omega
  have n33 : ¬ i * 4 + 3 = j * 4 + 3 := by omega
  have m33 : ¬ j * 4 + 3 = i * 4 + 3 := by omega
  clear hij
  obtain ⟨⟨a0, a1, a2⟩, a3⟩ := ea
  obtain ⟨⟨b0, b1, b2⟩, b3⟩ := eb
  unfold setEnt
  simp only at ha0 ha1 ha2 ha3 hb0 hb1 hb2 hb3 ⊢
  go_enter Try.func59, Try.ntmps59
  go_wp2_with fail
  go_region
  go_end0
  exact ⟨rfl, rfl⟩

theorem swap_eq (g n c i : Nat) (ea : Ent) (w : World) (hi : i < n) (hn : n ≤ 1000000000000) (ha0 : w.cell? ⟨g, i * 4, none⟩ = some (.int .i64 (ea.1.1 : Int))) (ha1 : w.cell? ⟨g, i * 4 + 1, none⟩ = some (.int .i64 (ea.1.2.1 : Int))) (ha2 : w.cell? ⟨g, i * 4 + 2, none⟩ = some (.int .i64 (ea.1.2.2 : Int))) (ha3 : w.cell? ⟨g, i * 4 + 3, none⟩ = some (.int .i64 (ea.2 : Int))) (hf : ∀ o, w.frozen? ⟨g, o, none⟩ = false) :
    Calls Try.prog 59 #[.slice (some ⟨g, 0, none⟩) n c, .int .i64 (i : Int), .int .i64 (i : Int)] w fun e w' => e = .returned (.tuple #[]) ∧ w' = (setEnt (setEnt w g i ea) g i ea).drew := by
  obtain ⟨⟨a0, a1, a2⟩, a3⟩ := ea
  unfold setEnt
  simp only at ha0 ha1 ha2 ha3 ⊢
  go_enter Try.func59, Try.ntmps59
  go_wp2_with fail
  go_region
  go_end0
  exact ⟨rfl, rfl⟩

end Go.Proofs.Ytnnmidfkgjmfmaa.Ck
