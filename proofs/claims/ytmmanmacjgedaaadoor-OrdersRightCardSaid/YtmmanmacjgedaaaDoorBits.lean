/- Plain: bits of small whole numbers, as the walk spells them. -/
import Derived.WalkKit
import Derived.Laws.BitsAllLaws
import Derived.Laws.BitsLemmas
namespace Go.Proofs.YtmmanmacjgedaaaDoor
open Go.RowKit

theorem ofInt_i64 (a : Nat) (ha : a < 9223372036854775808) : (BitVec.ofInt 64 (a : Int)).toNat = a := by
  rw [BitVec.ofInt_natCast, BitVec.toNat_ofNat]; exact Nat.mod_eq_of_lt (by omega)
theorem i64_and_nat (a b : Nat) (ha : a < 9223372036854775808) (hb : b < 9223372036854775808) : bits .and .i64 (a : Int) (b : Int) = ((a &&& b : Nat) : Int) := by
  have hx : a &&& b < 2 ^ 63 := Nat.and_lt_two_pow _ (by omega)
  show IntKind.i64.wrap ((BitVec.ofInt 64 (a : Int) &&& BitVec.ofInt 64 (b : Int)).toNat : Int) = _
  rw [BitVec.toNat_and, ofInt_i64 a ha, ofInt_i64 b hb, IntKind.wrap_i64]
  omega
theorem i64_or_nat (a b : Nat) (ha : a < 9223372036854775808) (hb : b < 9223372036854775808) : bits .or .i64 (a : Int) (b : Int) = ((a ||| b : Nat) : Int) := by
  have hx : a ||| b < 2 ^ 63 := Nat.or_lt_two_pow (by omega) (by omega)
  show IntKind.i64.wrap ((BitVec.ofInt 64 (a : Int) ||| BitVec.ofInt 64 (b : Int)).toNat : Int) = _
  rw [BitVec.toNat_or, ofInt_i64 a ha, ofInt_i64 b hb, IntKind.wrap_i64]
  omega
theorem pow_nat (j : Nat) (hj : j < 10) : wrap64 ((2 : Int) ^ j) = ((1 <<< j : Nat) : Int) := by
  have h : j = 0 ∨ j = 1 ∨ j = 2 ∨ j = 3 ∨ j = 4 ∨ j = 5 ∨ j = 6 ∨ j = 7 ∨ j = 8 ∨ j = 9 := by omega
  rcases h with rfl | rfl | rfl | rfl | rfl | rfl | rfl | rfl | rfl | rfl <;> (unfold wrap64; decide)
theorem shl_lt (j : Nat) (hj : j < 10) : 1 <<< j < 1024 := by
  have h : j = 0 ∨ j = 1 ∨ j = 2 ∨ j = 3 ∨ j = 4 ∨ j = 5 ∨ j = 6 ∨ j = 7 ∨ j = 8 ∨ j = 9 := by omega
  rcases h with rfl | rfl | rfl | rfl | rfl | rfl | rfl | rfl | rfl | rfl <;> decide
theorem or_lt (a b : Nat) (ha : a < 1024) (hb : b < 1024) : a ||| b < 1024 := Nat.or_lt_two_pow (n := 10) ha hb
theorem or_shl (o j : Nat) (ho : o < 1024) (hj : j < 10) : bits .or .i64 (o : Int) (wrap64 (2 ^ j)) = ((o ||| (1 <<< j) : Nat) : Int) := by
  rw [pow_nat j hj, i64_or_nat o _ (by omega) (by have := shl_lt j hj; omega)]
theorem bit_test (x k : Nat) (hx : x < 1024) : (bits .and .i64 ((x : Int) / 2 ^ k) 1 == 1) = decide ((x >>> k) % 2 = 1) := by
  have e : (x : Int) / 2 ^ k = ((x >>> k : Nat) : Int) := by
    rw [Nat.shiftRight_eq_div_pow]
    simp
  have hlt : x >>> k < 1024 := by
    rw [Nat.shiftRight_eq_div_pow]
    exact Nat.lt_of_le_of_lt (Nat.div_le_self _ _) hx
  have h1 := i64_and_nat (x >>> k) 1 (by omega) (by omega)
  rw [e]
  rw [show ((1 : Nat) : Int) = 1 from rfl] at h1
  rw [h1, Nat.and_one_is_mod, Bool.eq_iff_iff]
  simp only [beq_iff_eq, decide_eq_true_eq]
  omega
theorem or_small (x y : Nat) (hx : x < 1024) (hy : y < 1024) : bits .or .i64 (x : Int) (y : Int) = ((x ||| y : Nat) : Int) := i64_or_nat x y (by omega) (by omega)
theorem i64_andNot_nat (a b : Nat) (ha : a < 1024) (hb : b < 1024) : bits .andNot .i64 (a : Int) (b : Int) = ((a &&& (1023 - b) : Nat) : Int) := by
  have hx : a &&& (1023 - b) < 1024 := Nat.and_lt_two_pow (n := 10) _ (by omega)
  show IntKind.i64.wrap ((BitVec.ofInt 64 (a : Int) &&& ~~~ BitVec.ofInt 64 (b : Int)).toNat : Int) = _
  have hn : (BitVec.ofInt 64 (a : Int) &&& ~~~ BitVec.ofInt 64 (b : Int)).toNat = a &&& (1023 - b) := by
    apply Nat.eq_of_testBit_eq
    intro j
    rw [BitVec.testBit_toNat, BitVec.getLsbD_and, BitVec.getLsbD_not, ← BitVec.testBit_toNat, ← BitVec.testBit_toNat, ofInt_i64 a (by omega), ofInt_i64 b (by omega), Nat.testBit_and]
    cases haj : a.testBit j with
    | false => rfl
    | true =>
      have hj : j < 10 := by
        rcases Nat.lt_or_ge j 10 with h | h
        · exact h
        · have : a < 2 ^ j := Nat.lt_of_lt_of_le ha (Nat.pow_le_pow_right (n := 2) (by omega) h)
          rw [Nat.testBit_lt_two_pow this] at haj
          cases haj
      have e : (1023 - b).testBit j = !b.testBit j := by
        have h := Nat.testBit_two_pow_sub_succ (x := b) (n := 10) (by omega) j
        simp only [show (2 : Nat) ^ 10 - (b + 1) = 1023 - b by omega] at h
        rw [h]
        simp [hj]
      rw [e]
      simp
      omega
  rw [hn, IntKind.wrap_i64]
  omega
end Go.Proofs.YtmmanmacjgedaaaDoor
