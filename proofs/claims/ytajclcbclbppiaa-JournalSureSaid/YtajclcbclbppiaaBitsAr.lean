/-
  The walk's integer forms of the layer bits, as numbers. No program.
-/
import Derived.WalkKit
namespace Go.Bt
theorem pow128 (k : Nat) : (2 : Nat) ^ (7 * k) = 128 ^ k := by rw [Nat.pow_mul]
theorem or_step (m k c : Nat) (hm : m < 128 ^ k) (hk : k ≤ 9) (hc : c < 256) :
    ∃ m' : Nat, bits .or .u64 (m : Int) (IntKind.u64.wrap (IntKind.u64.wrap (bits .and .u8 (c : Int) 127) * 2 ^ (7 * k))) = (m' : Int) ∧
      m' < 18446744073709551616 ∧ (k ≤ 8 ∨ c % 128 ≤ 1 → m' = m + (c % 128) * 128 ^ k) := by
  have h9 : 128 ^ k ≤ 128 ^ 9 := Nat.pow_le_pow_right (by omega) hk
  have e1 : bits .and .u8 (c : Int) 127 = ((c % 128 : Nat) : Int) := by
    have := u8_and_nat c 127 hc (by omega)
    rw [nat_mask7] at this
    exact this
  have e2 : IntKind.u64.wrap ((c % 128 : Nat) : Int) = ((c % 128 : Nat) : Int) := by rw [IntKind.wrap_u64]; omega
  have e3 : ((c % 128 : Nat) : Int) * 2 ^ (7 * k) = ((c % 128 * 128 ^ k : Nat) : Int) := by
    rw [← pow128, Int.natCast_mul, Int.natCast_pow]; rfl
  have e4 : IntKind.u64.wrap ((c % 128 * 128 ^ k : Nat) : Int) = ((c % 128 * 128 ^ k % 18446744073709551616 : Nat) : Int) := by
    rw [IntKind.wrap_u64, Int.natCast_emod]; rfl
  have hm64 : m < 18446744073709551616 := by have : (128 : Nat) ^ 9 < 18446744073709551616 := by decide
                                             omega
  rw [e1, e2, e3, e4, u64_or_nat m _ hm64 (Nat.mod_lt _ (by decide))]
  refine ⟨_, rfl, ?_, ?_⟩
  · exact Nat.or_lt_two_pow (n := 64) hm64 (Nat.mod_lt _ (by decide))
  · intro h
    have hlt : c % 128 * 128 ^ k < 18446744073709551616 := by
      rcases h with h | h
      · have h8 : 128 ^ k ≤ 128 ^ 8 := Nat.pow_le_pow_right (by omega) h
        have : c % 128 * 128 ^ k ≤ 127 * 128 ^ 8 := Nat.mul_le_mul (by omega) h8
        have : (127 * 128 ^ 8 : Nat) < 18446744073709551616 := by decide
        omega
      · have : c % 128 * 128 ^ k ≤ 1 * 128 ^ 9 := Nat.mul_le_mul h h9
        have : (1 * 128 ^ 9 : Nat) < 18446744073709551616 := by decide
        omega
    rw [Nat.mod_eq_of_lt hlt, Nat.or_comm, nat_join (7 * k) _ _ (by rw [pow128]; exact Nat.mul_mod_left _ _) (by rw [pow128]; exact hm), Nat.add_comm]
theorem or128 (x : Nat) : bits .or .u8 (IntKind.u8.wrap (x : Int)) 128 = ((UInt8.ofNat (x % 128 + 128)).toNat : Int) := by
  have e1 : IntKind.u8.wrap (x : Int) = ((x % 256 : Nat) : Int) := by rw [IntKind.wrap_u8, Int.natCast_emod]; rfl
  have e2 : (UInt8.ofNat (x % 128 + 128)).toNat = x % 128 + 128 := by simp [UInt8.toNat_ofNat']; omega
  rw [e1, e2]
  have := u8_or_nat (x % 256) 128 (by omega) (by omega)
  refine this.trans ?_
  congr 1
  have h1 : x % 256 ||| 128 = x % 128 ||| 128 := by
    apply Nat.eq_of_testBit_eq
    intro i
    rw [Nat.testBit_or, Nat.testBit_or, show (256 : Nat) = 2 ^ 8 from rfl, show (128 : Nat) = 2 ^ 7 from rfl, Nat.testBit_mod_two_pow, Nat.testBit_mod_two_pow, Nat.testBit_two_pow]
    by_cases h7 : i = 7
    · subst h7; simp
    · have : (decide (7 = i)) = false := by simp; omega
      rw [this, Bool.or_false, Bool.or_false]
      have : decide (i < 8) = decide (i < 7) := by congr 1; simp; omega
      rw [this]
  rw [h1, Nat.or_comm, nat_join 7 128 (x % 128) (by decide) (Nat.mod_lt _ (by decide)), Nat.add_comm]
end Go.Bt
namespace Go.Bt
/-- Sign, as a number. -/
def sign (n : Int) : Nat := if n < 0 then ((-1 - n) * 2 + 1).toNat else (n * 2).toNat
/-- Back, as a number. -/
def back (n : Nat) : Int := if n % 2 = 1 then -1 - ((n / 2 : Nat) : Int) else ((n / 2 : Nat) : Int)
theorem back_sign (n : Int) : back (sign n) = n := by unfold back sign; split <;> split <;> omega
theorem sign_back (n : Nat) : sign (back n) = n := by unfold back sign; split <;> split <;> omega
theorem xor_ones (a : Nat) (h : a < 18446744073709551616) : a ^^^ 18446744073709551615 = 18446744073709551615 - a := by
  apply Nat.eq_of_testBit_eq
  intro i
  have h1 : (18446744073709551615 : Nat) - a = 2 ^ 64 - (a + 1) := by omega
  rw [h1, Nat.testBit_two_pow_sub_succ h, Nat.testBit_xor, show (18446744073709551615 : Nat) = 2 ^ 64 - 1 from rfl, Nat.testBit_two_pow_sub_one]
  by_cases hi : i < 64
  · simp [hi]
  · have : a.testBit i = false := Nat.testBit_lt_two_pow (Nat.lt_of_lt_of_le h (by rw [show (18446744073709551616 : Nat) = 2 ^ 64 from rfl]; exact Nat.pow_le_pow_right (by omega) (by omega)))
    simp [hi, this]
theorem sign_bits (n : Int) (h1 : -9223372036854775808 ≤ n) (h2 : n ≤ 9223372036854775807) :
    bits .xor .u64 (IntKind.u64.wrap (IntKind.u64.wrap n * 2)) (IntKind.u64.wrap (n / 9223372036854775808)) = ((sign n : Nat) : Int) := by
  by_cases hn : n < 0
  · have e1 : IntKind.u64.wrap (IntKind.u64.wrap n * 2) = ((18446744073709551616 - (-n).toNat * 2 : Nat) : Int) := by
      simp only [IntKind.wrap_u64]; omega
    have e2 : IntKind.u64.wrap (n / 9223372036854775808) = ((18446744073709551615 : Nat) : Int) := by
      simp only [IntKind.wrap_u64]; omega
    rw [e1, e2, u64_xor_nat _ _ (by omega) (by omega), xor_ones _ (by omega)]
    unfold sign
    rw [if_pos hn]
    omega
  · have e1 : IntKind.u64.wrap (IntKind.u64.wrap n * 2) = ((n.toNat * 2 : Nat) : Int) := by
      simp only [IntKind.wrap_u64]; omega
    have e2 : IntKind.u64.wrap (n / 9223372036854775808) = ((0 : Nat) : Int) := by
      simp only [IntKind.wrap_u64]; omega
    rw [e1, e2, u64_xor_nat _ _ (by omega) (by omega), Nat.xor_zero]
    unfold sign
    rw [if_neg hn]
    omega
theorem i64_xor_zero (m : Nat) (h : m < 9223372036854775808) : bits .xor .i64 (m : Int) 0 = (m : Int) := by
  show IntKind.i64.wrap ((BitVec.ofInt 64 (m : Int) ^^^ BitVec.ofInt 64 0 : BitVec 64).toNat : Int) = _
  rw [BitVec.toNat_xor, BitVec.ofInt_natCast, BitVec.toNat_ofNat, show (BitVec.ofInt 64 0).toNat = 0 from rfl, Nat.xor_zero, Nat.mod_eq_of_lt (by omega), IntKind.wrap_i64]
  omega
theorem i64_xor_neg (m : Nat) (h : m < 9223372036854775808) : bits .xor .i64 (m : Int) (-1) = -1 - (m : Int) := by
  show IntKind.i64.wrap ((BitVec.ofInt 64 (m : Int) ^^^ BitVec.ofInt 64 (-1) : BitVec 64).toNat : Int) = _
  rw [BitVec.toNat_xor, BitVec.ofInt_natCast, BitVec.toNat_ofNat, show (BitVec.ofInt 64 (-1)).toNat = 18446744073709551615 from rfl, Nat.mod_eq_of_lt (by omega), xor_ones m (by omega), IntKind.wrap_i64]
  omega
theorem back_bits (n : Nat) (h : n < 18446744073709551616) :
    bits .xor .i64 ((n : Int) / 2) (RowKit.wrap64 (-RowKit.wrap64 (bits .and .u64 (n : Int) 1))) = back n := by
  have e1 : bits .and .u64 (n : Int) 1 = ((n % 2 : Nat) : Int) := by
    have := u64_and_nat n 1 h (by omega)
    rw [nat_mask1] at this
    exact this
  have e2 : RowKit.wrap64 ((n % 2 : Nat) : Int) = ((n % 2 : Nat) : Int) := IntWalk.wrap64_in _ (by omega)
  rw [e1, e2, show (n : Int) / 2 = ((n / 2 : Nat) : Int) from rfl]
  unfold back
  split
  · rename_i h1
    rw [h1, show RowKit.wrap64 (-((1 : Nat) : Int)) = -1 from IntWalk.wrap64_in _ (by omega), i64_xor_neg _ (by omega)]
  · rename_i h1
    rw [show n % 2 = 0 by omega, show RowKit.wrap64 (-((0 : Nat) : Int)) = 0 from IntWalk.wrap64_in _ (by omega), i64_xor_zero _ (by omega)]
theorem sign_lt (n : Int) (h1 : -9223372036854775808 ≤ n) (h2 : n ≤ 9223372036854775807) : sign n < 18446744073709551616 := by unfold sign; split <;> omega
theorem back_range (n : Nat) (h : n < 18446744073709551616) : -9223372036854775808 ≤ back n ∧ back n ≤ 9223372036854775807 := by unfold back; split <;> omega
end Go.Bt
