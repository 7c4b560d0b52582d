/- Plain: the law's own helpers: the copy of a row, and the comparison of a row with itself. -/
import Derived.Test.YtnnmidfkgjmfmaaCkMem
namespace Go.Proofs.Ytnnmidfkgjmfmaa.Ck
open Go.RowKit Go.Proofs.YtnnmidfkgjmfmaaW.PrintWords Go.Proofs.YtnnmidfkgjmfmaaW.PrintLast Go.Proofs.YtnnmidfkgjmfmaaW.PrintMore
open Go.Proofs.Ytnnmidfkgjmfmaa.PFnExactSearchCost
set_option linter.unusedVariables false
set_option linter.unusedSimpArgs false

theorem to_l0 (W : List Int) (hW : W.length ≤ 1048576) : ∀ d i : Nat, i + d = W.length → laws_toInt64S.l0 (d + 1) W (W.take i ++ List.replicate d 0) (i : Int) = some W
  | 0, i, h => by
    unfold laws_toInt64S.l0
    rw [if_neg (by omega), List.take_of_length_le (by omega)]
    simp
  | d + 1, i, h => by
    have hi : i < W.length := by omega
    have hlen : (W.take i).length = i := by simp; omega
    have hrd : rd W (i : Int) = W[i] := by simp [rd, List.getD_eq_getElem?_getD, hi]
    have e : wrap64 ((i : Int) + 1) = ((i + 1 : Nat) : Int) := by unfold wrap64; omega
    have hset : (W.take i ++ List.replicate (d + 1) 0).set ((i : Int)).toNat (W[i]) = W.take (i + 1) ++ List.replicate d 0 := by
      rw [Int.toNat_natCast, List.set_append_right _ _ (by omega), hlen, Nat.sub_self, List.replicate_succ, List.set_cons_zero, List.take_succ_eq_append_getElem hi, List.append_assoc]
      rfl
    unfold laws_toInt64S.l0
    rw [if_pos (by omega), if_pos (by omega), if_pos (by rw [List.length_append, hlen, List.length_replicate]; omega), hrd, hset, e]
    exact to_l0 W hW d (i + 1) (by omega)

theorem to_f (W : List Int) (hW : W.length ≤ 1048576) : laws_toInt64S.f (W.length + 1) W = some W := by
  unfold laws_toInt64S.f
  rw [if_pos (by omega), if_pos (by omega)]
  have := to_l0 W hW W.length 0 (by omega)
  simpa using this

theorem eq_l0 (W : List Int) (hW : W.length ≤ 1048576) : ∀ d i : Nat, i + d = W.length → laws_eqInt64S.l0 (d + 1) W W (i : Int) = some true
  | 0, i, h => by
    unfold laws_eqInt64S.l0
    rw [if_neg (by omega)]
  | d + 1, i, h => by
    have e : wrap64 ((i : Int) + 1) = ((i + 1 : Nat) : Int) := by unfold wrap64; omega
    unfold laws_eqInt64S.l0
    rw [if_pos (by omega), if_pos (by omega), if_pos (by omega), if_pos rfl, e]
    exact eq_l0 W hW d (i + 1) (by omega)

theorem eq_f (W : List Int) (hW : W.length ≤ 1048576) : laws_eqInt64S.f (W.length + 1) W W = some true := by
  unfold laws_eqInt64S.f
  rw [if_pos rfl]
  exact eq_l0 W hW W.length 0 (by omega)

end Go.Proofs.Ytnnmidfkgjmfmaa.Ck
