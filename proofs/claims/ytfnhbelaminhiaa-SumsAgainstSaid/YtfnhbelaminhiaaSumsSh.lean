/-
  The examples of the layer sums: 'works' answers true.
-/
import Derived.Test.YtfnhbelaminhiaaSumsWk
namespace Go.Sm
theorem openL_seal4 (l : List UInt8) : openL (seal4 l) = some l := by
  have h1 : (seal4 l).length = l.length + 4 := by unfold seal4 le4; simp
  have h2 : (seal4 l).take ((seal4 l).length - 4) = l := by
    rw [h1, show l.length + 4 - 4 = l.length by omega]
    unfold seal4; rw [List.take_append_of_le_length (Nat.le_refl _), List.take_of_length_le (Nat.le_refl _)]
  unfold openL
  rw [h2, if_pos ⟨by omega, rfl⟩]
end Go.Sm
namespace Go.Proofs.Ytfnhbelaminhiaa
open Go.RowKit Go.Sm Go.Bt
theorem sum_at {l : List UInt8} {x : Int} (h : ((sum l).toNat : Int) = x) (w : World) (hl : l.length ≤ 16777216) :
    Calls Try.prog 33 #[.string (ofL l)] w fun e w' => e = .returned (.int .u32 x) ∧ Ext w w' := by
  have := sum_any l w hl; rw [h] at this; exact this
theorem seal_at {l m : List UInt8} (h : seal4 l = m) (w : World) (hl : l.length ≤ 16777000) :
    Calls Try.prog 32 #[.string (ofL l)] w fun e w' => e = .returned (.string (ofL m)) ∧ Ext w w' := by
  have := seal_any l w hl; rw [h] at this; exact this
theorem open_none {l : List UInt8} (h : openL l = none) (w : World) (hl : l.length ≤ 16777000) :
    Calls Try.prog 36 #[.string (ofL l)] w fun e w' => e = .returned (.tuple #[.string (ofL []), .bool false]) ∧ Ext w w' := by
  have := open_any l w hl; rw [openV_none h] at this; exact this
theorem open_some {l t : List UInt8} (h : openL l = some t) (w : World) (hl : l.length ≤ 16777000) :
    Calls Try.prog 36 #[.string (ofL l)] w fun e w' => e = .returned (.tuple #[.string (ofL t), .bool true]) ∧ Ext w w' := by
  have := open_any l w hl; rw [openV_some h] at this; exact this
set_option maxRecDepth 100000 in
theorem works_any (w : World) :
    Calls Try.prog 37 #[] w fun e w' => e = .returned (.bool true) ∧ Ext w w' := by
  have hE := Ext.refl w
  have s1 := Lib.hid (fun w' => sum_at (show ((sum [49, 50, 51, 52, 53, 54, 55, 56, 57]).toNat : Int) = 3808858755 from by decide +kernel) w' (by decide))
  have s2 := Lib.hid (fun w' => seal_at (show seal4 [] = [0, 0, 0, 0] from by decide +kernel) w' (by decide))
  have s3 := Lib.hid (fun w' => seal_any [111, 110, 101] w' (by decide))
  have o1 := Lib.hid (fun w' => open_some (openL_seal4 [111, 110, 101]) w' (by rw [seal4_length]; decide))
  have o2 := Lib.hid (fun w' => open_none (show openL [0, 0, 0] = none from by decide +kernel) w' (by decide))
  have o3 := Lib.hid (fun w' => open_some (show openL [0, 0, 0, 0] = some [] from by decide +kernel) w' (by decide))
  go_enter Try.func37, Try.ntmps37
  go_wp2_with (first
    | (go_at_call 33; with_reducible refine (s1.out _).ext hE (fun w1 hE => ?_))
    | (go_at_call 32; first | (with_reducible refine (s2.out _).ext hE (fun w1 hE => ?_)) | (with_reducible refine (s3.out _).ext hE (fun w1 hE => ?_)))
    | (go_at_call 36; first | (with_reducible refine (o1.out _).ext hE (fun w1 hE => ?_)) | (with_reducible refine (o2.out _).ext hE (fun w1 hE => ?_)) | (with_reducible refine (o3.out _).ext hE (fun w1 hE => ?_))))
  go_ret
  exact ⟨rfl, hE⟩
end Go.Proofs.Ytfnhbelaminhiaa
