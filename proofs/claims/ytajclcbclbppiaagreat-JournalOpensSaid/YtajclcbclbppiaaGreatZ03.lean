/-
  The walk's integer forms of the layer sums, as words. No program.
  The walks of the layer sums: step, Sum, Seal, Open, and the document's.
  The examples of the layer sums: 'works' answers true.
-/
import Derived.WalkKit
import Derived.Test.YtajclcbclbppiaaGreatZ02
import Derived.Test.YtajclcbclbppiaaGreatZ01
import Derived.Deep.RegionWith
import Derived.Deep.DrawnRows
section
namespace Go.Sm
theorem W_lt (s : W32) : s.toNat < 4294967296 := s.isLt
theorem xor_W (a b : W32) : bits .xor .u32 (a.toNat : Int) (b.toNat : Int) = ((a ^^^ b).toNat : Int) := by
  rw [u32_xor_nat _ _ (W_lt a) (W_lt b), BitVec.toNat_xor]
theorem and_W (a b : W32) : bits .and .u32 (a.toNat : Int) (b.toNat : Int) = ((a &&& b).toNat : Int) := by
  rw [u32_and_nat _ _ (W_lt a) (W_lt b), BitVec.toNat_and]
theorem byteW_toNat (c : UInt8) : (byteW c).toNat = c.toNat := by
  unfold byteW; rw [BitVec.toNat_ofNat]; exact Nat.mod_eq_of_lt (by have := c.toNat_lt; omega)
theorem xor_byte (s : W32) (c : UInt8) : bits .xor .u32 (s.toNat : Int) (c.toNat : Int) = ((s ^^^ byteW c).toNat : Int) := by
  rw [← byteW_toNat c, xor_W]
theorem low_W (s : W32) : s.toNat % 2 = if s.getLsbD 0 then 1 else 0 := by
  rw [BitVec.getLsbD, Nat.testBit_zero]
  rcases Nat.mod_two_eq_zero_or_one s.toNat with h | h <;> simp [h]
/-- state>>1 ^ poly & -(state&1). -/
theorem T_int (s : W32) : bits .xor .u32 ((s.toNat : Int) / 2) (bits .and .u32 2197175160 (-bits .and .u32 (s.toNat : Int) 1 % 4294967296)) = ((T s).toNat : Int) := by
  have e1 : bits .and .u32 (s.toNat : Int) 1 = ((s.toNat % 2 : Nat) : Int) := by
    have := u32_and_nat s.toNat 1 (W_lt s) (by omega)
    rw [nat_mask1] at this
    exact this
  have e2 : (s.toNat : Int) / (2 : Int) = ((s >>> 1).toNat : Int) := by rw [BitVec.toNat_ushiftRight, Nat.shiftRight_eq_div_pow]; rfl
  rw [e1, low_W, e2]
  unfold T
  cases s.getLsbD 0
  · have e3 : (-((if false = true then 1 else 0 : Nat) : Int)) % 4294967296 = ((0#32).toNat : Int) := by rfl
    have e4 : (2197175160 : Int) = (poly.toNat : Int) := by decide
    rw [e3, e4, and_W, xor_W]
    simp
  · have e3 : (-((if true = true then 1 else 0 : Nat) : Int)) % 4294967296 = ((4294967295#32).toNat : Int) := by rfl
    have e4 : (2197175160 : Int) = (poly.toNat : Int) := by decide
    rw [e3, e4, and_W, xor_W]
    have e5 : poly &&& 4294967295#32 = poly := by decide
    rw [e5]
    simp
theorem compl_W (s : W32) : (4294967295 : Int) - (s.toNat : Int) = ((~~~ s).toNat : Int) := by
  have := W_lt s
  rw [BitVec.toNat_not]; omega
theorem not_W (s : W32) : bits .xor .u32 IntKind.u32.max (s.toNat : Int) = ((~~~ s).toNat : Int) := by
  have e : IntKind.u32.max = ((BitVec.allOnes 32).toNat : Int) := by decide
  rw [e, xor_W, BitVec.allOnes_xor]
/-- The document's state behind j bits of a byte. -/
def refSt (s : W32) (c : UInt8) (j : Nat) : W32 := TN j (s ^^^ byteW c) ^^^ (byteW c >>> j)
theorem refSt_zero (s : W32) (c : UInt8) : refSt s c 0 = s := by
  unfold refSt; simp [TN, BitVec.xor_assoc]
theorem refSt_eight (s : W32) (c : UInt8) : refSt s c 8 = stepW s c := by
  have : byteW c >>> 8 = 0#32 := by
    apply ext32; intro i hi
    rw [BitVec.getLsbD_ushiftRight, byteW_high c _ (by omega)]; simp
  unfold refSt stepW; rw [this, BitVec.xor_zero]
theorem byte_bit (c : UInt8) (j : Nat) : c.toNat / 2 ^ j % 2 = if (byteW c).getLsbD j then 1 else 0 := by
  have : (byteW c).getLsbD j = c.toNat.testBit j := by rw [BitVec.getLsbD, byteW_toNat]
  rw [this, Nat.testBit_eq_decide_div_mod_eq]
  rcases Nat.mod_two_eq_zero_or_one (c.toNat / 2 ^ j) with h | h <;> simp [h]
theorem bit_sum (x y : Nat) (a b : Bool) (h1 : x % 2 = if (a ^^ b) then 1 else 0) (h2 : y % 2 = if b then 1 else 0) : (x + y) % 2 = if a then 1 else 0 := by
  cases a <;> cases b <;> simp at h1 h2 ⊢ <;> omega
theorem refSt_bit (s : W32) (c : UInt8) (j : Nat) : ((refSt s c j).toNat + c.toNat / 2 ^ j) % 2 = if (TN j (s ^^^ byteW c)).getLsbD 0 then 1 else 0 := by
  have h1 := low_W (refSt s c j)
  have h2 := byte_bit c j
  have h3 : (refSt s c j).getLsbD 0 = ((TN j (s ^^^ byteW c)).getLsbD 0 ^^ (byteW c).getLsbD j) := by
    unfold refSt; rw [BitVec.getLsbD_xor, BitVec.getLsbD_ushiftRight, Nat.add_zero]
  rw [h3] at h1
  exact bit_sum _ _ _ _ h1 h2
theorem refSt_succ (s : W32) (c : UInt8) (j : Nat) : refSt s c (j + 1) = (refSt s c j >>> 1) ^^^ (if (TN j (s ^^^ byteW c)).getLsbD 0 then poly else 0#32) := by
  unfold refSt
  rw [TN_succ', BitVec.ushiftRight_xor_distrib, shr_shr]
  unfold T
  rw [BitVec.xor_assoc, BitVec.xor_assoc, BitVec.xor_comm (byteW c >>> (j + 1))]
theorem refSt_yes {s : W32} {c : UInt8} {j : Nat} (h : ((refSt s c j).toNat + c.toNat / 2 ^ j) % 2 = 1) : bits .xor .u32 ((refSt s c j).toNat / 2 : Int) 2197175160 = ((refSt s c (j + 1)).toNat : Int) := by
  rw [refSt_bit] at h
  have h' : (TN j (s ^^^ byteW c)).getLsbD 0 = true := by
    cases hx : (TN j (s ^^^ byteW c)).getLsbD 0
    · rw [hx] at h; simp at h
    · rfl
  have e2 : ((refSt s c j).toNat : Int) / (2 : Int) = ((refSt s c j >>> 1).toNat : Int) := by rw [BitVec.toNat_ushiftRight, Nat.shiftRight_eq_div_pow]; rfl
  have e4 : (2197175160 : Int) = (poly.toNat : Int) := by decide
  rw [refSt_succ, h', e2, e4, xor_W]
  rfl
theorem refSt_no {s : W32} {c : UInt8} {j : Nat} (h : ¬ ((refSt s c j).toNat + c.toNat / 2 ^ j) % 2 = 1) : ((refSt s c j).toNat : Int) / (2 : Int) = ((refSt s c (j + 1)).toNat : Int) := by
  rw [refSt_bit] at h
  have h' : (TN j (s ^^^ byteW c)).getLsbD 0 = false := by
    cases hx : (TN j (s ^^^ byteW c)).getLsbD 0
    · rfl
    · rw [hx] at h; simp at h
  rw [refSt_succ, h', BitVec.toNat_xor, BitVec.toNat_ushiftRight, Nat.shiftRight_eq_div_pow]
  simp
end Go.Sm
end
section
namespace Go.Proofs.YtajclcbclbppiaaGreat
open Go.RowKit Go.Sm Go.Bt
attribute [local go_sem ↓] Go.wp_at_zero Go.wp_at_succ
theorem run_take (l : List UInt8) (k : Nat) (h : k < l.length) (s : W32) : run s (l.take (k + 1)) = stepW (run s (l.take k)) (l[k]) := by
  rw [List.take_succ_eq_append_getElem h, run_append]; rfl
theorem ones_int : (4294967295 : Int) = (ones.toNat : Int) := by decide
set_option maxRecDepth 100000 in
theorem step_same (s : W32) (c : UInt8) (w : World) :
    Calls Tryz.prog 93 #[.int .u32 s.toNat, .int .u8 c.toNat] w fun e w' => e = .returned (.int .u32 (stepW s c).toNat) ∧ w = w' := by
  have Hx := Lib.hid (xor_byte s c)
  have hc : c.toNat ≤ 255 := by have := c.toNat_lt; omega
  go_enter Tryz.func93, Tryz.ntmps93
  go_wp2
  go_loop [0, 9] (fun x i => ∃ k : Nat, k ≤ 8 ∧ i = .int .i64 k ∧ x = .int .u32 (TN k (s ^^^ byteW c)).toNat) (fun _ i => 8 - (intOf i).toNat)
  case atStart => exact ⟨0, by omega, rfl, by rw [Hx.out]; rfl⟩
  case round =>
    obtain ⟨k, hk, rfl, rfl⟩ := hrel
    by_cases hlt : k < 8
    · have Ht := Lib.hid (T_int (TN k (s ^^^ byteW c)))
      go_wp2
      go_round
      case rel => exact ⟨k + 1, by omega, by go_num, by rw [Ht.out, TN_succ']⟩
      case measure => simp [intOf]; omega
    · have He := Lib.hid (show TN k (s ^^^ byteW c) = stepW s c by rw [show k = 8 by omega]; rfl)
      go_wp2
      go_ret
      exact ⟨by rw [← He.out]; rfl, rfl⟩
set_option maxRecDepth 100000 in
theorem sum_same (l : List UInt8) (w : World) (hl : l.length ≤ 16777216) :
    Calls Tryz.prog 86 #[.string (ofL l)] w fun e w' => e = .returned (.int .u32 (sum l).toNat) ∧ w = w' := by
  go_enter Tryz.func86, Tryz.ntmps86
  go_wp2_with fail
  go_loop [3, 7] (fun x i => ∃ k : Nat, k ≤ l.length ∧ i = .int .i64 k ∧ x = .int .u32 (run ones (l.take k)).toNat) (fun _ i => l.length - (intOf i).toNat)
  case atStart => exact ⟨0, by omega, rfl, by rw [ones_int]; rfl⟩
  case round =>
    obtain ⟨k, hk, rfl, rfl⟩ := hrel
    by_cases hlt : k < l.length
    · have Ht := Lib.hid (run_take l k hlt ones)
      go_wp2_with (go_at_call 93; with_reducible refine (step_same _ _ _).mono ?_; rintro e w1 ⟨rfl, rfl⟩)
      exact ⟨⟨k + 1, by omega, by go_num, by rw [Ht.out]⟩, by simp [intOf]; omega⟩
    · have Hc := Lib.hid (not_W (run ones (l.take k)))
      have He := Lib.hid (show ~~~ (run ones (l.take k)) = sum l by rw [List.take_of_length_le (by omega)]; rfl)
      go_wp2_with fail
      go_ret
      exact ⟨ret_int (by rw [← He.out]; exact Hc.out), rfl⟩
theorem same_ext {P : Program} {f : FuncId} {args : Array Value} {w : World} {v : Value} (h : Calls P f args w fun e w' => e = .returned v ∧ w = w') : Calls P f args w fun e w' => e = .returned v ∧ Ext w w' :=
  h.mono fun e w' ⟨he, hw⟩ => by subst hw; exact ⟨he, Ext.refl _⟩
theorem sum_any (l : List UInt8) (w : World) (hl : l.length ≤ 16777216) :
    Calls Tryz.prog 86 #[.string (ofL l)] w fun e w' => e = .returned (.int .u32 (sum l).toNat) ∧ Ext w w' := same_ext (sum_same l w hl)
/-! ### the document's Sum -/
theorem bit_int (x y j : Nat) : ((x : Int) + (y : Int) / 2 ^ j) % 2 = (((x + y / 2 ^ j) % 2 : Nat) : Int) := by
  rw [Int.natCast_emod, Int.natCast_add, Int.natCast_ediv, Int.natCast_pow]; rfl
set_option maxRecDepth 100000 in
theorem refSum_same (l : List UInt8) (w : World) (hl : l.length ≤ 16777216) :
    Calls Tryz.prog 87 #[.string (ofL l)] w fun e w' => e = .returned (.int .u32 (sum l).toNat) ∧ w = w' := by
  go_enter Tryz.func87, Tryz.ntmps87
  go_wp2_with fail
  go_loop [3, 4] (fun x i => ∃ k : Nat, k ≤ l.length ∧ i = .int .i64 k ∧ x = .int .u32 (run ones (l.take k)).toNat) (fun _ i => l.length - (intOf i).toNat)
  case atStart => exact ⟨0, by omega, rfl, by rw [ones_int]; rfl⟩
  case round =>
    obtain ⟨k, hk, rfl, rfl⟩ := hrel
    by_cases hlt : k < l.length
    · have Ht := Lib.hid (run_take l k hlt ones)
      obtain ⟨c, hck⟩ : ∃ c, l[k] = c := ⟨_, rfl⟩
      obtain ⟨s, hs⟩ : ∃ s, run ones (l.take k) = s := ⟨_, rfl⟩
      have hcu : c.toNat ≤ 255 := by have := c.toNat_lt; omega
      rw [hs, hck] at Ht
      rw [hs]
      clear hs
      go_wp2_with fail
      go_loop [3, 5] (fun x i => ∃ j : Nat, j ≤ 8 ∧ i = .int .i64 j ∧ x = .int .u32 (refSt s c j).toNat) (fun _ i => 8 - (intOf i).toNat)
      case atStart => exact ⟨0, by omega, rfl, by rw [refSt_zero]⟩
      case round =>
        obtain ⟨j, hj, rfl, rfl⟩ := hrel
        have hw : (refSt s c j).toNat ≤ 4294967295 := by have := W_lt (refSt s c j); omega
        by_cases h8 : j < 8
        · by_cases hb : ((refSt s c j).toNat + c.toNat / 2 ^ j) % 2 = 1
          · have Hy := Lib.hid (refSt_yes hb)
            have hbi : ((((refSt s c j).toNat : Int) + (c.toNat : Int) / 2 ^ j) % 2 == 1) = true := by
              rw [bit_int, hb]; rfl
            clear hb
            go_wp2
            exact ⟨⟨j + 1, by omega, by go_num, by rw [Hy.out]⟩, by simp [intOf]; omega⟩
          · have Hn := Lib.hid (refSt_no hb)
            have hbi : ((((refSt s c j).toNat : Int) + (c.toNat : Int) / 2 ^ j) % 2 == 1) = false := by
              rw [bit_int, beq_eq_false_iff_ne]; omega
            clear hb
            go_wp2
            exact ⟨⟨j + 1, by omega, by go_num, by rw [Hn.out]⟩, by simp [intOf]; omega⟩
        · have He := Lib.hid (show refSt s c j = run ones (l.take (k + 1)) by rw [Ht.out, show j = 8 by omega, refSt_eight])
          go_wp2
          exact ⟨⟨k + 1, by omega, by go_num, by rw [He.out]⟩, by simp [intOf]; omega⟩
    · have Hc := Lib.hid (compl_W (run ones (l.take k)))
      have He := Lib.hid (show ~~~ (run ones (l.take k)) = sum l by rw [List.take_of_length_le (by omega)]; rfl)
      have hw : (run ones (l.take k)).toNat ≤ 4294967295 := by have := W_lt (run ones (l.take k)); omega
      go_wp2
      go_ret
      exact ⟨ret_int (by rw [← He.out]; exact Hc.out), rfl⟩
theorem refSum_any (l : List UInt8) (w : World) (hl : l.length ≤ 16777216) :
    Calls Tryz.prog 87 #[.string (ofL l)] w fun e w' => e = .returned (.int .u32 (sum l).toNat) ∧ Ext w w' := same_ext (refSum_same l w hl)
/-! ### Seal, Open -/
theorem put4 (x : W32) : put x.toNat 4 = (le4 x).reverse := by
  unfold put le4
  simp [List.range_succ_eq_map]
set_option maxRecDepth 100000 in
theorem seal_any (l : List UInt8) (w : World) (hl : l.length ≤ 16777000) :
    Calls Tryz.prog 71 #[.string (ofL l)] w fun e w' => e = .returned (.string (ofL (seal4 l))) ∧ Ext w w' := by
  have hE := Ext.refl w
  have S1 := Lib.hid (fun w' => sum_any l w' (by omega))
  have hx : (sum l).toNat ≤ 4294967295 := by have := W_lt (sum l); omega
  obtain ⟨x, hxx⟩ : ∃ x, sum l = x := ⟨_, rfl⟩
  rw [hxx] at S1 hx
  have P1 := Lib.hid (fun w' => put_at x.toNat 4 4 rfl w' (by omega) (by omega) (by omega))
  obtain ⟨b0, b1, b2, b3, hb⟩ : ∃ b0 b1 b2 b3, le4 x = [b0, b1, b2, b3] := ⟨_, _, _, _, rfl⟩
  rw [put4, hb, show [b0, b1, b2, b3].reverse = [b3, b2, b1, b0] from rfl] at P1
  have Hs := Lib.hid (show seal4 l = l ++ [b0, b1, b2, b3] by unfold seal4; rw [hxx, hb])
  clear hxx hb
  go_enter Tryz.func71, Tryz.ntmps71
  go_wp2_with (first | (go_at_call 86; with_reducible refine (S1.out _).ext hE (fun w1 hE => ?_)) | (go_at_call 72; with_reducible refine (P1.out _).ext hE (fun w1 hE => ?_)) | (with_reducible refine conv_bytes rfl 7 rfl rfl (fun cap w2 hz hx2 hlt => ?_)))
  have c0 := hz.cell 0 (by simp)
  have c1 := hz.cell 1 (by simp)
  have c2 := hz.cell 2 (by simp)
  have c3 := hz.cell 3 (by simp)
  simp only [List.getD_cons_zero, List.getD_cons_succ] at c0 c1 c2 c3
  have hE := hE.trans hx2
  clear hz hx2 S1 P1
  go_region
  all_goals
    go_wp2
    go_ret
    exact ⟨ret_str (by rw [Hs.out]; simp [byt_byte]), (hE.alloc _).drew⟩
theorem seal4_length (l : List UInt8) : (seal4 l).length = l.length + 4 := by unfold seal4 le4; simp
def openV (l : List UInt8) : Value := match openL l with | some t => .tuple #[.string (ofL t), .bool true] | none => .tuple #[.string (ofL []), .bool false]
theorem openV_none {l : List UInt8} (h : openL l = none) : openV l = .tuple #[.string (ofL []), .bool false] := by simp [openV, h]
theorem openV_some {l t : List UInt8} (h : openL l = some t) : openV l = .tuple #[.string (ofL t), .bool true] := by simp [openV, h]
set_option maxRecDepth 100000 in
theorem open_any (l : List UInt8) (w : World) (hl : l.length ≤ 16777000) :
    Calls Tryz.prog 106 #[.string (ofL l)] w fun e w' => e = .returned (openV l) ∧ Ext w w' := by
  have hE := Ext.refl w
  by_cases h4 : 4 ≤ l.length
  · have S1 := Lib.hid (fun w' => seal_any (l.take (l.length - 4)) w' (by simp; omega))
    by_cases hs : seal4 (l.take (l.length - 4)) = l
    · have Ho := Lib.hid (openV_some (show openL l = some (l.take (l.length - 4)) by unfold openL; rw [if_pos ⟨h4, hs⟩]))
      have hb : (seal4 (l.take (l.length - 4)) == l) = true := by simpa using hs
      clear hs
      go_enter Tryz.func106, Tryz.ntmps106
      go_wp2_with (go_at_call 71; with_reducible refine (S1.out _).ext hE (fun w1 hE => ?_))
      go_ret2
      exact ⟨by rw [Ho.out]; rfl, hE⟩
    · have Ho := Lib.hid (openV_none (show openL l = none by unfold openL; rw [if_neg (fun h => hs h.2)]))
      have hb : (seal4 (l.take (l.length - 4)) == l) = false := by simpa using hs
      clear hs
      go_enter Tryz.func106, Tryz.ntmps106
      go_wp2_with (go_at_call 71; with_reducible refine (S1.out _).ext hE (fun w1 hE => ?_))
      go_ret2
      exact ⟨by rw [Ho.out]; rfl, hE⟩
  · have Ho := Lib.hid (openV_none (show openL l = none by unfold openL; rw [if_neg (fun h => h4 h.1)]))
    go_enter Tryz.func106, Tryz.ntmps106
    go_wp2_with (fail)
    go_ret2
    exact ⟨by rw [Ho.out]; rfl, hE⟩
/-! ### the document's Seal, Open -/
theorem le4_byt (x : W32) (hx : x.toNat ≤ 4294967295) : le4 x = [byt ((x.toNat : Int) % 256), byt ((x.toNat : Int) / 256 % 256), byt ((x.toNat : Int) / 65536 % 256), byt ((x.toNat : Int) / 16777216)] := by
  unfold le4
  rw [byt256 x.toNat, byt256 (x.toNat / 256), byt256 (x.toNat / 65536), byt256 (x.toNat / 16777216)]
  have e1 : (((x.toNat / 256 : Nat) : Int)) % 256 = (x.toNat : Int) / 256 % 256 := by omega
  have e2 : (((x.toNat / 65536 : Nat) : Int)) % 256 = (x.toNat : Int) / 65536 % 256 := by omega
  have e3 : (((x.toNat / 16777216 : Nat) : Int)) % 256 = (x.toNat : Int) / 16777216 := by omega
  rw [e1, e2, e3]
set_option maxRecDepth 100000 in
theorem refSeal_any (l : List UInt8) (w : World) (hl : l.length ≤ 16777000) :
    Calls Tryz.prog 74 #[.string (ofL l)] w fun e w' => e = .returned (.string (ofL (seal4 l))) ∧ Ext w w' := by
  have hE := Ext.refl w
  have S1 := Lib.hid (fun w' => refSum_any l w' (by omega))
  have hx : (sum l).toNat ≤ 4294967295 := by have := W_lt (sum l); omega
  obtain ⟨x, hxx⟩ : ∃ x, sum l = x := ⟨_, rfl⟩
  rw [hxx] at S1 hx
  have Hs := Lib.hid (show seal4 l = l ++ le4 x by unfold seal4; rw [hxx])
  clear hxx
  go_enter Tryz.func74, Tryz.ntmps74
  go_wp2_with (go_at_call 87; with_reducible refine (S1.out _).ext hE (fun w1 hE => ?_))
  go_ret
  exact ⟨ret_str (by rw [Hs.out, le4_byt x hx]), hE.alloc _⟩
end Go.Proofs.YtajclcbclbppiaaGreat
end
section
namespace Go.Sm
theorem openL_seal4 (l : List UInt8) : openL (seal4 l) = some l := by
  have h1 : (seal4 l).length = l.length + 4 := by unfold seal4 le4; simp
  have h2 : (seal4 l).take ((seal4 l).length - 4) = l := by
    rw [h1, show l.length + 4 - 4 = l.length by omega]
    unfold seal4; rw [List.take_append_of_le_length (Nat.le_refl _), List.take_of_length_le (Nat.le_refl _)]
  unfold openL
  rw [h2, if_pos ⟨by omega, rfl⟩]
end Go.Sm
namespace Go.Proofs.YtajclcbclbppiaaGreat
open Go.RowKit Go.Sm Go.Bt
theorem sum_at {l : List UInt8} {x : Int} (h : ((sum l).toNat : Int) = x) (w : World) (hl : l.length ≤ 16777216) :
    Calls Tryz.prog 86 #[.string (ofL l)] w fun e w' => e = .returned (.int .u32 x) ∧ Ext w w' := by
  have := sum_any l w hl; rw [h] at this; exact this
theorem seal_at {l m : List UInt8} (h : seal4 l = m) (w : World) (hl : l.length ≤ 16777000) :
    Calls Tryz.prog 71 #[.string (ofL l)] w fun e w' => e = .returned (.string (ofL m)) ∧ Ext w w' := by
  have := seal_any l w hl; rw [h] at this; exact this
theorem open_none {l : List UInt8} (h : openL l = none) (w : World) (hl : l.length ≤ 16777000) :
    Calls Tryz.prog 106 #[.string (ofL l)] w fun e w' => e = .returned (.tuple #[.string (ofL []), .bool false]) ∧ Ext w w' := by
  have := open_any l w hl; rw [openV_none h] at this; exact this
theorem open_some {l t : List UInt8} (h : openL l = some t) (w : World) (hl : l.length ≤ 16777000) :
    Calls Tryz.prog 106 #[.string (ofL l)] w fun e w' => e = .returned (.tuple #[.string (ofL t), .bool true]) ∧ Ext w w' := by
  have := open_any l w hl; rw [openV_some h] at this; exact this
end Go.Proofs.YtajclcbclbppiaaGreat
end
