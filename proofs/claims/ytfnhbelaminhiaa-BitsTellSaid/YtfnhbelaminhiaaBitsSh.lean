/-
  The chapter's examples of the layer bits: 'shifted' answers true.
-/
import Derived.Test.YtfnhbelaminhiaaBitsWk
namespace Go.Proofs.Ytfnhbelaminhiaa
open Go.RowKit Go.Bt

theorem var_at (i : Int) (n : Nat) (hi : i = n) (hn : n < 18446744073709551616) {l : List UInt8} (h : var n = l) (w : World) :
    Calls Try.prog 17 #[.int .u64 i] w fun e w' => e = .returned (.string (ofL l)) ∧ Ext w w' := by
  subst hi; have := var_any n w hn; rw [h] at this; exact this
theorem sign_at (i : Int) (k : Int) (h1 : -9223372036854775808 ≤ i) (h2 : i ≤ 9223372036854775807) (h : ((sign i : Nat) : Int) = k) (w : World) :
    Calls Try.prog 20 #[.int .i64 i] w fun e w' => e = .returned (.int .u64 k) ∧ Ext w w' := by
  have := sign_any i w h1 h2; rw [h] at this; exact this
theorem back_at (i : Int) (n : Nat) (hi : i = n) (hn : n < 18446744073709551616) (k : Int) (h : back n = k) (w : World) :
    Calls Try.prog 19 #[.int .u64 i] w fun e w' => e = .returned (.int .i64 k) ∧ Ext w w' := by
  subst hi; have := back_any n w hn; rw [h] at this; exact this
theorem no_any {l : List UInt8} (h : Bt.read l = none) (w : World) (hl : l.length ≤ 16777216) :
    Calls Try.prog 31 #[.string (ofL l)] w fun e w' => e = .returned (.bool true) ∧ Ext w w' := by
  have hE := Ext.refl w
  have Hr := Lib.hid h
  clear h
  go_enter Try.func31, Try.ntmps31
  go_wp2_with (go_at_call 15; refine (read_none Hr.out _ (by omega)).ext hE (fun w1 hE => ?_))
  go_ret
  exact ⟨rfl, hE⟩
set_option maxRecDepth 100000 in
theorem shifted_any (w : World) :
    Calls Try.prog 14 #[] w fun e w' => e = .returned (.bool true) ∧ Ext w w' := by
  have hE := Ext.refl w
  have r1 := Lib.hid (show Bt.read [172, 2, 120] = some (300, [120]) from by decide +kernel)
  have c1 := Lib.hid (show Bt.cut [2, 97, 98, 99] = some ([97, 98], [99]) from by decide +kernel)
  have c2 := Lib.hid (show Bt.cut [3, 97, 98] = none from by decide +kernel)
  have v1 := Lib.hid (show var 0 = [0] from by decide +kernel)
  have v2 := Lib.hid (show var 127 = [127] from by decide +kernel)
  have v3 := Lib.hid (show var 300 = [172, 2] from by decide +kernel)
  have n1 := Lib.hid (show Bt.read [128, 0] = none from by decide +kernel)
  have n2 := Lib.hid (show Bt.read [128] = none from by decide +kernel)
  have n3 := Lib.hid (show Bt.read [255, 255, 255, 255, 255, 255, 255, 255, 255, 255] = none from by decide +kernel)
  have n4 := Lib.hid (show Bt.read [] = none from by decide +kernel)
  have s1 := Lib.hid (show ((sign (-3) : Nat) : Int) = 5 from by decide +kernel)
  have b1 := Lib.hid (show back 5 = -3 from by decide +kernel)
  have b2 := Lib.hid (show back 4 = 2 from by decide +kernel)
  have t1 := Lib.hid (show text [97, 98] = [2, 97, 98] from by decide +kernel)
  have tx := fun w' : World => text_any [97, 98] w' (by decide)
  rw [t1.out] at tx
  have Tx := Lib.hid tx
  clear t1 tx
  go_enter Try.func14, Try.ntmps14
  go_wp2_with (first
    | (go_at_call 15; with_reducible refine (read_some r1.out _ (by decide)).ext hE (fun w1 hE => ?_))
    | (go_at_call 16; first | (with_reducible refine (cut_some c1.out _ (by decide)).ext hE (fun w1 hE => ?_)) | (with_reducible refine (cut_none c2.out _ (by decide)).ext hE (fun w1 hE => ?_)))
    | (go_at_call 17; first | (with_reducible refine (var_at 0 0 rfl (by decide) v1.out _).ext hE (fun w1 hE => ?_)) | (with_reducible refine (var_at 127 127 rfl (by decide) v2.out _).ext hE (fun w1 hE => ?_)) | (with_reducible refine (var_at 300 300 rfl (by decide) v3.out _).ext hE (fun w1 hE => ?_)))
    | (go_at_call 31; first | (with_reducible refine (no_any n1.out _ (by decide)).ext hE (fun w1 hE => ?_)) | (with_reducible refine (no_any n2.out _ (by decide)).ext hE (fun w1 hE => ?_)) | (with_reducible refine (no_any n3.out _ (by decide)).ext hE (fun w1 hE => ?_)) | (with_reducible refine (no_any n4.out _ (by decide)).ext hE (fun w1 hE => ?_)))
    | (go_at_call 20; with_reducible refine (sign_at (-3) 5 (by decide) (by decide) s1.out _).ext hE (fun w1 hE => ?_))
    | (go_at_call 19; first | (with_reducible refine (back_at 5 5 rfl (by decide) (-3) b1.out _).ext hE (fun w1 hE => ?_)) | (with_reducible refine (back_at 4 4 rfl (by decide) 2 b2.out _).ext hE (fun w1 hE => ?_)))
    | (go_at_call 18; with_reducible refine (Tx.out _).ext hE (fun w1 hE => ?_)))
  go_ret
  exact ⟨rfl, hE⟩
end Go.Proofs.Ytfnhbelaminhiaa
