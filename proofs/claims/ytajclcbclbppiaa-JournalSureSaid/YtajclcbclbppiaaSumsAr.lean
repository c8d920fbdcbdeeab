/-
  The walk's integer forms of the layer sums, as words. No program.
-/
import Derived.WalkKit
import Derived.Test.YtajclcbclbppiaaSumsPl
namespace Go.Sm
theorem W_lt (s : W32) : s.toNat < 4294967296 := s.isLt
theorem xor_W (a b : W32) : bits .xor .u32 (a.toNat : Int) (b.toNat : Int) = ((a ^^^ b).toNat : Int) := by
  rw [u32_xor_nat _ _ (W_lt a) (W_lt b), BitVec.toNat_xor]
theorem and_W (a b : W32) : bits .and .u32 (a.toNat : Int) (b.toNat : Int) = ((a &&& b).toNat : Int) := by
  rw [u32_and_nat _ _ (W_lt a) (W_lt b), BitVec.toNat_and]
theorem byteW_toNat (c : UInt8) : (byteW c).toNat = c.toNat := by
  unfold byteW; rw [BitVec.toNat_ofNat]; exact Nat.mod_eq_of_lt (by have := c.toNat_lt; omega)
theorem xor_byte (s : W32) (c : UInt8) : bits .xor .u32 (s.toNat : Int) (c.toNat : Int) = ((s ^^^ byteW c).toNat : Int) := by
  rw [← byteW_toNat c, xor_W]
theorem low_W (s : W32) : s.toNat % 2 = if s.getLsbD 0 then 1 else 0 := by
  rw [BitVec.getLsbD, Nat.testBit_zero]
  rcases Nat.mod_two_eq_zero_or_one s.toNat with h | h <;> simp [h]
/-- state>>1 ^ poly & -(state&1). -/
theorem T_int (s : W32) : bits .xor .u32 ((s.toNat : Int) / 2) (bits .and .u32 2197175160 (-bits .and .u32 (s.toNat : Int) 1 % 4294967296)) = ((T s).toNat : Int) := by
  have e1 : bits .and .u32 (s.toNat : Int) 1 = ((s.toNat % 2 : Nat) : Int) := by
    have := u32_and_nat s.toNat 1 (W_lt s) (by omega)
    rw [nat_mask1] at this
    exact this
  have e2 : (s.toNat : Int) / (2 : Int) = ((s >>> 1).toNat : Int) := by rw [BitVec.toNat_ushiftRight, Nat.shiftRight_eq_div_pow]; rfl
  rw [e1, low_W, e2]
  unfold T
  cases s.getLsbD 0
  · have e3 : (-((if false = true then 1 else 0 : Nat) : Int)) % 4294967296 = ((0#32).toNat : Int) := by rfl
    have e4 : (2197175160 : Int) = (poly.toNat : Int) := by decide
    rw [e3, e4, and_W, xor_W]
    simp
  · have e3 : (-((if true = true then 1 else 0 : Nat) : Int)) % 4294967296 = ((4294967295#32).toNat : Int) := by rfl
    have e4 : (2197175160 : Int) = (poly.toNat : Int) := by decide
    rw [e3, e4, and_W, xor_W]
    have e5 : poly &&& 4294967295#32 = poly := by decide
    rw [e5]
    simp
theorem compl_W (s : W32) : (4294967295 : Int) - (s.toNat : Int) = ((~~~ s).toNat : Int) := by
  have := W_lt s
  rw [BitVec.toNat_not]; omega
theorem not_W (s : W32) : bits .xor .u32 IntKind.u32.max (s.toNat : Int) = ((~~~ s).toNat : Int) := by
  have e : IntKind.u32.max = ((BitVec.allOnes 32).toNat : Int) := by decide
  rw [e, xor_W, BitVec.allOnes_xor]
/-- The document's state behind j bits of a byte. -/
def refSt (s : W32) (c : UInt8) (j : Nat) : W32 := TN j (s ^^^ byteW c) ^^^ (byteW c >>> j)
theorem refSt_zero (s : W32) (c : UInt8) : refSt s c 0 = s := by
  unfold refSt; simp [TN, BitVec.xor_assoc]
theorem refSt_eight (s : W32) (c : UInt8) : refSt s c 8 = stepW s c := by
  have : byteW c >>> 8 = 0#32 := by
    apply ext32; intro i hi
    rw [BitVec.getLsbD_ushiftRight, byteW_high c _ (by omega)]; simp
  unfold refSt stepW; rw [this, BitVec.xor_zero]
theorem byte_bit (c : UInt8) (j : Nat) : c.toNat / 2 ^ j % 2 = if (byteW c).getLsbD j then 1 else 0 := by
  have : (byteW c).getLsbD j = c.toNat.testBit j := by rw [BitVec.getLsbD, byteW_toNat]
  rw [this, Nat.testBit_eq_decide_div_mod_eq]
  rcases Nat.mod_two_eq_zero_or_one (c.toNat / 2 ^ j) with h | h <;> simp [h]
theorem bit_sum (x y : Nat) (a b : Bool) (h1 : x % 2 = if (a ^^ b) then 1 else 0) (h2 : y % 2 = if b then 1 else 0) : (x + y) % 2 = if a then 1 else 0 := by
  cases a <;> cases b <;> simp at h1 h2 ⊢ <;> omega
theorem refSt_bit (s : W32) (c : UInt8) (j : Nat) : ((refSt s c j).toNat + c.toNat / 2 ^ j) % 2 = if (TN j (s ^^^ byteW c)).getLsbD 0 then 1 else 0 := by
  have h1 := low_W (refSt s c j)
  have h2 := byte_bit c j
  have h3 : (refSt s c j).getLsbD 0 = ((TN j (s ^^^ byteW c)).getLsbD 0 ^^ (byteW c).getLsbD j) := by
    unfold refSt; rw [BitVec.getLsbD_xor, BitVec.getLsbD_ushiftRight, Nat.add_zero]
  rw [h3] at h1
  exact bit_sum _ _ _ _ h1 h2
theorem refSt_succ (s : W32) (c : UInt8) (j : Nat) : refSt s c (j + 1) = (refSt s c j >>> 1) ^^^ (if (TN j (s ^^^ byteW c)).getLsbD 0 then poly else 0#32) := by
  unfold refSt
  rw [TN_succ', BitVec.ushiftRight_xor_distrib, shr_shr]
  unfold T
  rw [BitVec.xor_assoc, BitVec.xor_assoc, BitVec.xor_comm (byteW c >>> (j + 1))]
theorem refSt_yes {s : W32} {c : UInt8} {j : Nat} (h : ((refSt s c j).toNat + c.toNat / 2 ^ j) % 2 = 1) : bits .xor .u32 ((refSt s c j).toNat / 2 : Int) 2197175160 = ((refSt s c (j + 1)).toNat : Int) := by
  rw [refSt_bit] at h
  have h' : (TN j (s ^^^ byteW c)).getLsbD 0 = true := by
    cases hx : (TN j (s ^^^ byteW c)).getLsbD 0
    · rw [hx] at h; simp at h
    · rfl
  have e2 : ((refSt s c j).toNat : Int) / (2 : Int) = ((refSt s c j >>> 1).toNat : Int) := by rw [BitVec.toNat_ushiftRight, Nat.shiftRight_eq_div_pow]; rfl
  have e4 : (2197175160 : Int) = (poly.toNat : Int) := by decide
  rw [refSt_succ, h', e2, e4, xor_W]
  rfl
theorem refSt_no {s : W32} {c : UInt8} {j : Nat} (h : ¬ ((refSt s c j).toNat + c.toNat / 2 ^ j) % 2 = 1) : ((refSt s c j).toNat : Int) / (2 : Int) = ((refSt s c (j + 1)).toNat : Int) := by
  rw [refSt_bit] at h
  have h' : (TN j (s ^^^ byteW c)).getLsbD 0 = false := by
    cases hx : (TN j (s ^^^ byteW c)).getLsbD 0
    · rfl
    · rw [hx] at h; simp at h
  rw [refSt_succ, h', BitVec.toNat_xor, BitVec.toNat_ushiftRight, Nat.shiftRight_eq_div_pow]
  simp
end Go.Sm
