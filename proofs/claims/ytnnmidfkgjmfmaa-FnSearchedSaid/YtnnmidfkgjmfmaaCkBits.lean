/- Plain: Go's operations on bits of int64, at small numbers. -/
import Derived.Laws.Entries
import Derived.Test.YtnnmidfkgjmfmaaCkOpt
namespace Go.Proofs.Ytnnmidfkgjmfmaa.Ck
set_option linter.unusedVariables false
set_option linter.unusedSimpArgs false

theorem wrap_small {n : Int} (h0 : -9223372036854775808 ≤ n) (h : n < 9223372036854775808) : IntKind.i64.wrap n = n := by
  simp [IntKind.wrap, IntKind.bits, IntKind.signed]; omega

theorem ofInt_i64 (a : Nat) (ha : a < 18446744073709551616) : (BitVec.ofInt 64 (a : Int)).toNat = a := by
  rw [BitVec.ofInt_natCast, BitVec.toNat_ofNat]; exact Nat.mod_eq_of_lt (by omega)

theorem i64_or (a b : Nat) (ha : a < 4294967296) (hb : b < 4294967296) : Go.bits .or .i64 (a : Int) (b : Int) = ((a ||| b : Nat) : Int) := by
  have hx : a ||| b < 2 ^ 32 := Nat.or_lt_two_pow (by omega) (by omega)
  show IntKind.i64.wrap ((BitVec.ofInt 64 (a : Int) ||| BitVec.ofInt 64 (b : Int)).toNat : Int) = _
  rw [BitVec.toNat_or, ofInt_i64 a (by omega), ofInt_i64 b (by omega), wrap_small (by omega) (by omega)]

theorem i64_and (a b : Nat) (ha : a < 4294967296) (hb : b < 4294967296) : Go.bits .and .i64 (a : Int) (b : Int) = ((a &&& b : Nat) : Int) := by
  have hx : a &&& b < 2 ^ 32 := Nat.and_lt_two_pow _ (by omega)
  show IntKind.i64.wrap ((BitVec.ofInt 64 (a : Int) &&& BitVec.ofInt 64 (b : Int)).toNat : Int) = _
  rw [BitVec.toNat_and, ofInt_i64 a (by omega), ofInt_i64 b (by omega), wrap_small (by omega) (by omega)]

theorem i64_andNot (a i : Nat) (ha : a < 4294967296) (hi : i < 32) (h : a.testBit i = true) : Go.bits .andNot .i64 (a : Int) ((2 ^ i : Nat) : Int) = ((a ^^^ 2 ^ i : Nat) : Int) := by
  have h2 : 2 ^ i < 2 ^ 32 := Nat.pow_lt_pow_right (by omega) hi
  have hx : a ^^^ 2 ^ i < 2 ^ 32 := Nat.xor_lt_two_pow (by omega) h2
  show IntKind.i64.wrap ((BitVec.ofInt 64 (a : Int) &&& ~~~ BitVec.ofInt 64 ((2 ^ i : Nat) : Int)).toNat : Int) = _
  have e : (BitVec.ofInt 64 (a : Int) &&& ~~~ BitVec.ofInt 64 ((2 ^ i : Nat) : Int)).toNat = a ^^^ 2 ^ i := by
    refine Nat.eq_of_testBit_eq fun j => ?_
    rw [BitVec.testBit_toNat, BitVec.getLsbD_and, BitVec.getLsbD_not, ← BitVec.testBit_toNat, ← BitVec.testBit_toNat, ofInt_i64 a (by omega), ofInt_i64 (2 ^ i) (by omega), Nat.testBit_xor, Nat.testBit_two_pow]
    by_cases e : i = j
    · subst e; simp [h]
    · by_cases hj : j < 64
      · simp [e, hj]
      · have : a.testBit j = false := Nat.testBit_lt_two_pow (Nat.lt_of_lt_of_le (show a < 2 ^ 32 by omega) (Nat.pow_le_pow_right (by omega) (by omega)))
        simp [this, e]
  rw [e, wrap_small (by omega) (by omega)]

theorem and_bit (S i : Nat) : S &&& 2 ^ i = if S.testBit i = true then 2 ^ i else 0 := by
  refine Nat.eq_of_testBit_eq fun j => ?_
  rw [Nat.testBit_and, Nat.testBit_two_pow]
  by_cases h : S.testBit i = true
  · rw [if_pos h, Nat.testBit_two_pow]
    by_cases e : i = j
    · subst e; simp [h]
    · simp [e]
  · rw [if_neg h]
    by_cases e : i = j
    · subst e; simp [h]
    · simp [e]

theorem two_pow_lt {x : Nat} (h : x < 8) : 2 ^ x < 256 := Nat.lt_of_lt_of_le (Nat.pow_lt_pow_right (by omega) h) (Nat.le_refl _)

theorem shl_one {x : Nat} (h : x < 8) : IntKind.i64.wrap ((2 : Int) ^ min x 64) = ((2 ^ x : Nat) : Int) := by
  rw [Nat.min_eq_left (by omega)]
  have := two_pow_lt h
  rw [wrap_small]
  · simp
  · have : (0 : Int) ≤ 2 ^ x := Int.pow_nonneg (by omega)
    omega
  · have e : ((2 : Int) ^ x) = ((2 ^ x : Nat) : Int) := by simp
    omega

end Go.Proofs.Ytnnmidfkgjmfmaa.Ck
