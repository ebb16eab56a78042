/- Words as the walk spells them: and, or, a bit. -/
import Derived.Test.YtdkpcjabciocgaaBase
import Derived.Test.YtdkpcjabciocgaaMask
namespace Go.Proofs.Ytdkpcjabciocgaa
open Go.RowKit

/-! ### '&', '|', '^', '&^' on words that are no less than 0 -/
theorem ofInt_nat (k a : Nat) (h : a < 2 ^ k) : (BitVec.ofInt k (a : Int)).toNat = a := by
  rw [BitVec.ofInt_natCast, BitVec.toNat_ofNat]; exact Nat.mod_eq_of_lt h
theorem i64_and (a b : Nat) (ha : a < 9223372036854775808) (hb : b < 9223372036854775808) : bits .and .i64 (a : Int) (b : Int) = ((a &&& b : Nat) : Int) := by
  have hx : a &&& b < 2 ^ 63 := Nat.and_lt_two_pow _ (by omega)
  show IntKind.i64.wrap ((BitVec.ofInt 64 (a : Int) &&& BitVec.ofInt 64 (b : Int)).toNat : Int) = _
  rw [BitVec.toNat_and, ofInt_nat 64 a (by omega), ofInt_nat 64 b (by omega), IntWalk.i64_in _ (by omega)]
theorem i64_or (a b : Nat) (ha : a < 9223372036854775808) (hb : b < 9223372036854775808) : bits .or .i64 (a : Int) (b : Int) = ((a ||| b : Nat) : Int) := by
  have hx : a ||| b < 2 ^ 63 := Nat.or_lt_two_pow (by omega) (by omega)
  show IntKind.i64.wrap ((BitVec.ofInt 64 (a : Int) ||| BitVec.ofInt 64 (b : Int)).toNat : Int) = _
  rw [BitVec.toNat_or, ofInt_nat 64 a (by omega), ofInt_nat 64 b (by omega), IntWalk.i64_in _ (by omega)]
theorem u32_and (a b : Nat) (ha : a < 4294967296) (hb : b < 4294967296) : bits .and .u32 (a : Int) (b : Int) = ((a &&& b : Nat) : Int) := by
  have hx : a &&& b < 2 ^ 32 := Nat.and_lt_two_pow _ (by omega)
  show IntKind.u32.wrap ((BitVec.ofInt 32 (a : Int) &&& BitVec.ofInt 32 (b : Int)).toNat : Int) = _
  rw [BitVec.toNat_and, ofInt_nat 32 a (by omega), ofInt_nat 32 b (by omega), IntWalk.u32_in _ (by omega)]
theorem u32_or (a b : Nat) (ha : a < 4294967296) (hb : b < 4294967296) : bits .or .u32 (a : Int) (b : Int) = ((a ||| b : Nat) : Int) := by
  have hx : a ||| b < 2 ^ 32 := Nat.or_lt_two_pow (by omega) (by omega)
  show IntKind.u32.wrap ((BitVec.ofInt 32 (a : Int) ||| BitVec.ofInt 32 (b : Int)).toNat : Int) = _
  rw [BitVec.toNat_or, ofInt_nat 32 a (by omega), ofInt_nat 32 b (by omega), IntWalk.u32_in _ (by omega)]
theorem div_pow (u j : Nat) : (u : Int) / 2 ^ j = ((u / 2 ^ j : Nat) : Int) := by push_cast; rfl
theorem and_one_bit (u j : Nat) : (u / 2 ^ j) &&& 1 = if u.testBit j then 1 else 0 := by
  rw [Nat.and_one_is_mod, ← Nat.shiftRight_eq_div_pow, Nat.testBit_eq_decide_div_mod_eq, Nat.shiftRight_eq_div_pow]
  have := Nat.mod_two_eq_zero_or_one (u / 2 ^ j)
  rcases this with h | h <;> simp [h]
theorem i64_bit1 {u j : Nat} (hu : u < 9223372036854775808) (h : u.testBit j = true) : bits .and .i64 ((u : Int) / 2 ^ j) 1 = 1 := by
  rw [div_pow, show (1 : Int) = ((1 : Nat) : Int) from rfl, i64_and _ _ (Nat.lt_of_le_of_lt (Nat.div_le_self _ _) hu) (by omega), and_one_bit, h]; rfl
theorem i64_bit0 {u j : Nat} (hu : u < 9223372036854775808) (h : u.testBit j = false) : bits .and .i64 ((u : Int) / 2 ^ j) 1 = 0 := by
  rw [div_pow, show (1 : Int) = ((1 : Nat) : Int) from rfl, i64_and _ _ (Nat.lt_of_le_of_lt (Nat.div_le_self _ _) hu) (by omega), and_one_bit, h]; rfl
theorem u32_bit1 {u j : Nat} (hu : u < 4294967296) (h : u.testBit j = true) : bits .and .u32 ((u : Int) / 2 ^ j) 1 = 1 := by
  rw [div_pow, show (1 : Int) = ((1 : Nat) : Int) from rfl, u32_and _ _ (Nat.lt_of_le_of_lt (Nat.div_le_self _ _) hu) (by omega), and_one_bit, h]; rfl
theorem u32_bit0 {u j : Nat} (hu : u < 4294967296) (h : u.testBit j = false) : bits .and .u32 ((u : Int) / 2 ^ j) 1 = 0 := by
  rw [div_pow, show (1 : Int) = ((1 : Nat) : Int) from rfl, u32_and _ _ (Nat.lt_of_le_of_lt (Nat.div_le_self _ _) hu) (by omega), and_one_bit, h]; rfl
theorem pow_cast (j : Nat) : ((2 : Int) ^ j) = ((2 ^ j : Nat) : Int) := by push_cast; rfl
theorem pow_lt62 {j : Nat} (hj : j < 32) : 2 ^ j < 4294967296 := Nat.pow_lt_pow_right (a := 2) (by omega) hj
theorem i64_pow {j : Nat} (hj : j < 32) : wrap64 ((2 : Int) ^ j) = ((2 ^ j : Nat) : Int) := by
  obtain ⟨y, hy⟩ : ∃ y, y = 2 ^ j := ⟨_, rfl⟩
  have h : y < 4294967296 := hy ▸ pow_lt62 hj
  rw [pow_cast, ← hy]; exact IntWalk.wrap64_in _ ⟨by omega, by omega⟩

theorem i64_pow' {j : Nat} (hj : j < 32) : IntKind.i64.wrap ((2 : Int) ^ j) = ((2 ^ j : Nat) : Int) := by
  obtain ⟨y, hy⟩ : ∃ y, y = 2 ^ j := ⟨_, rfl⟩
  have h : y < 4294967296 := hy ▸ pow_lt62 hj
  rw [pow_cast, ← hy]; exact IntWalk.i64_in _ ⟨by omega, by omega⟩
end Go.Proofs.Ytdkpcjabciocgaa
