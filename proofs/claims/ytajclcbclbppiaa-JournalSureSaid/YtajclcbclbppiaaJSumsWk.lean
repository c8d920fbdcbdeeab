/-
  The walks of the layer sums: step, Sum, Seal, Open, and the document's.
-/
import Derived.Test.YtajclcbclbppiaaJBitsWk
import Derived.Test.YtajclcbclbppiaaSumsAr
import Derived.Deep.RegionWith
import Derived.Deep.DrawnRows
namespace Go.Proofs.Ytajclcbclbppiaa
open Go.RowKit Go.Sm Go.Bt
attribute [local go_sem ↓] Go.wp_at_zero Go.wp_at_succ
theorem run_take (l : List UInt8) (k : Nat) (h : k < l.length) (s : W32) : run s (l.take (k + 1)) = stepW (run s (l.take k)) (l[k]) := by
  rw [List.take_succ_eq_append_getElem h, run_append]; rfl
theorem ones_int : (4294967295 : Int) = (ones.toNat : Int) := by decide
set_option maxRecDepth 100000 in
theorem step_same (s : W32) (c : UInt8) (w : World) :
    Calls Try.prog 73 #[.int .u32 s.toNat, .int .u8 c.toNat] w fun e w' => e = .returned (.int .u32 (stepW s c).toNat) ∧ w = w' := by
  have Hx := Lib.hid (xor_byte s c)
  have hc : c.toNat ≤ 255 := by have := c.toNat_lt; omega
  go_enter Try.func73, Try.ntmps73
  go_wp2
  go_loop [0, 9] (fun x i => ∃ k : Nat, k ≤ 8 ∧ i = .int .i64 k ∧ x = .int .u32 (TN k (s ^^^ byteW c)).toNat) (fun _ i => 8 - (intOf i).toNat)
  case atStart => exact ⟨0, by omega, rfl, by rw [Hx.out]; rfl⟩
  case round =>
    obtain ⟨k, hk, rfl, rfl⟩ := hrel
    by_cases hlt : k < 8
    · have Ht := Lib.hid (T_int (TN k (s ^^^ byteW c)))
      go_wp2
      go_round
      case rel => exact ⟨k + 1, by omega, by go_num, by rw [Ht.out, TN_succ']⟩
      case measure => simp [intOf]; omega
    · have He := Lib.hid (show TN k (s ^^^ byteW c) = stepW s c by rw [show k = 8 by omega]; rfl)
      go_wp2
      go_ret
      exact ⟨by rw [← He.out]; rfl, rfl⟩
set_option maxRecDepth 100000 in
theorem sum_same (l : List UInt8) (w : World) (hl : l.length ≤ 16777216) :
    Calls Try.prog 66 #[.string (ofL l)] w fun e w' => e = .returned (.int .u32 (sum l).toNat) ∧ w = w' := by
  go_enter Try.func66, Try.ntmps66
  go_wp2_with fail
  go_loop [3, 7] (fun x i => ∃ k : Nat, k ≤ l.length ∧ i = .int .i64 k ∧ x = .int .u32 (run ones (l.take k)).toNat) (fun _ i => l.length - (intOf i).toNat)
  case atStart => exact ⟨0, by omega, rfl, by rw [ones_int]; rfl⟩
  case round =>
    obtain ⟨k, hk, rfl, rfl⟩ := hrel
    by_cases hlt : k < l.length
    · have Ht := Lib.hid (run_take l k hlt ones)
      go_wp2_with (go_at_call 73; with_reducible refine (step_same _ _ _).mono ?_; rintro e w1 ⟨rfl, rfl⟩)
      exact ⟨⟨k + 1, by omega, by go_num, by rw [Ht.out]⟩, by simp [intOf]; omega⟩
    · have Hc := Lib.hid (not_W (run ones (l.take k)))
      have He := Lib.hid (show ~~~ (run ones (l.take k)) = sum l by rw [List.take_of_length_le (by omega)]; rfl)
      go_wp2_with fail
      go_ret
      exact ⟨ret_int (by rw [← He.out]; exact Hc.out), rfl⟩
theorem same_ext {P : Program} {f : FuncId} {args : Array Value} {w : World} {v : Value} (h : Calls P f args w fun e w' => e = .returned v ∧ w = w') : Calls P f args w fun e w' => e = .returned v ∧ Ext w w' :=
  h.mono fun e w' ⟨he, hw⟩ => by subst hw; exact ⟨he, Ext.refl _⟩
theorem sum_any (l : List UInt8) (w : World) (hl : l.length ≤ 16777216) :
    Calls Try.prog 66 #[.string (ofL l)] w fun e w' => e = .returned (.int .u32 (sum l).toNat) ∧ Ext w w' := same_ext (sum_same l w hl)
/-! ### the document's Sum -/
theorem bit_int (x y j : Nat) : ((x : Int) + (y : Int) / 2 ^ j) % 2 = (((x + y / 2 ^ j) % 2 : Nat) : Int) := by
  rw [Int.natCast_emod, Int.natCast_add, Int.natCast_ediv, Int.natCast_pow]; rfl
/-! ### Seal, Open -/
theorem put4 (x : W32) : put x.toNat 4 = (le4 x).reverse := by
  unfold put le4
  simp [List.range_succ_eq_map]
set_option maxRecDepth 100000 in
theorem seal_any (l : List UInt8) (w : World) (hl : l.length ≤ 16777000) :
    Calls Try.prog 51 #[.string (ofL l)] w fun e w' => e = .returned (.string (ofL (seal4 l))) ∧ Ext w w' := by
  have hE := Ext.refl w
  have S1 := Lib.hid (fun w' => sum_any l w' (by omega))
  have hx : (sum l).toNat ≤ 4294967295 := by have := W_lt (sum l); omega
  obtain ⟨x, hxx⟩ : ∃ x, sum l = x := ⟨_, rfl⟩
  rw [hxx] at S1 hx
  have P1 := Lib.hid (fun w' => put_at x.toNat 4 4 rfl w' (by omega) (by omega) (by omega))
  obtain ⟨b0, b1, b2, b3, hb⟩ : ∃ b0 b1 b2 b3, le4 x = [b0, b1, b2, b3] := ⟨_, _, _, _, rfl⟩
  rw [put4, hb, show [b0, b1, b2, b3].reverse = [b3, b2, b1, b0] from rfl] at P1
  have Hs := Lib.hid (show seal4 l = l ++ [b0, b1, b2, b3] by unfold seal4; rw [hxx, hb])
  clear hxx hb
  go_enter Try.func51, Try.ntmps51
  go_wp2_with (first | (go_at_call 66; with_reducible refine (S1.out _).ext hE (fun w1 hE => ?_)) | (go_at_call 52; with_reducible refine (P1.out _).ext hE (fun w1 hE => ?_)) | (with_reducible refine conv_bytes rfl 7 rfl rfl (fun cap w2 hz hx2 hlt => ?_)))
  have c0 := hz.cell 0 (by simp)
  have c1 := hz.cell 1 (by simp)
  have c2 := hz.cell 2 (by simp)
  have c3 := hz.cell 3 (by simp)
  simp only [List.getD_cons_zero, List.getD_cons_succ] at c0 c1 c2 c3
  have hE := hE.trans hx2
  clear hz hx2 S1 P1
  go_region
  all_goals
    go_wp2
    go_ret
    exact ⟨ret_str (by rw [Hs.out]; simp [byt_byte]), (hE.alloc _).drew⟩
theorem seal4_length (l : List UInt8) : (seal4 l).length = l.length + 4 := by unfold seal4 le4; simp
def openV (l : List UInt8) : Value := match openL l with | some t => .tuple #[.string (ofL t), .bool true] | none => .tuple #[.string (ofL []), .bool false]
theorem openV_none {l : List UInt8} (h : openL l = none) : openV l = .tuple #[.string (ofL []), .bool false] := by simp [openV, h]
theorem openV_some {l t : List UInt8} (h : openL l = some t) : openV l = .tuple #[.string (ofL t), .bool true] := by simp [openV, h]
set_option maxRecDepth 100000 in
theorem open_any (l : List UInt8) (w : World) (hl : l.length ≤ 16777000) :
    Calls Try.prog 86 #[.string (ofL l)] w fun e w' => e = .returned (openV l) ∧ Ext w w' := by
  have hE := Ext.refl w
  by_cases h4 : 4 ≤ l.length
  · have S1 := Lib.hid (fun w' => seal_any (l.take (l.length - 4)) w' (by simp; omega))
    by_cases hs : seal4 (l.take (l.length - 4)) = l
    · have Ho := Lib.hid (openV_some (show openL l = some (l.take (l.length - 4)) by unfold openL; rw [if_pos ⟨h4, hs⟩]))
      have hb : (seal4 (l.take (l.length - 4)) == l) = true := by simpa using hs
      clear hs
      go_enter Try.func86, Try.ntmps86
      go_wp2_with (go_at_call 51; with_reducible refine (S1.out _).ext hE (fun w1 hE => ?_))
      go_ret2
      exact ⟨by rw [Ho.out]; rfl, hE⟩
    · have Ho := Lib.hid (openV_none (show openL l = none by unfold openL; rw [if_neg (fun h => hs h.2)]))
      have hb : (seal4 (l.take (l.length - 4)) == l) = false := by simpa using hs
      clear hs
      go_enter Try.func86, Try.ntmps86
      go_wp2_with (go_at_call 51; with_reducible refine (S1.out _).ext hE (fun w1 hE => ?_))
      go_ret2
      exact ⟨by rw [Ho.out]; rfl, hE⟩
  · have Ho := Lib.hid (openV_none (show openL l = none by unfold openL; rw [if_neg (fun h => h4 h.1)]))
    go_enter Try.func86, Try.ntmps86
    go_wp2_with (fail)
    go_ret2
    exact ⟨by rw [Ho.out]; rfl, hE⟩
/-! ### the document's Seal, Open -/
theorem le4_byt (x : W32) (hx : x.toNat ≤ 4294967295) : le4 x = [byt ((x.toNat : Int) % 256), byt ((x.toNat : Int) / 256 % 256), byt ((x.toNat : Int) / 65536 % 256), byt ((x.toNat : Int) / 16777216)] := by
  unfold le4
  rw [byt256 x.toNat, byt256 (x.toNat / 256), byt256 (x.toNat / 65536), byt256 (x.toNat / 16777216)]
  have e1 : (((x.toNat / 256 : Nat) : Int)) % 256 = (x.toNat : Int) / 256 % 256 := by omega
  have e2 : (((x.toNat / 65536 : Nat) : Int)) % 256 = (x.toNat : Int) / 65536 % 256 := by omega
  have e3 : (((x.toNat / 16777216 : Nat) : Int)) % 256 = (x.toNat : Int) / 16777216 := by omega
  rw [e1, e2, e3]
end Go.Proofs.Ytajclcbclbppiaa
