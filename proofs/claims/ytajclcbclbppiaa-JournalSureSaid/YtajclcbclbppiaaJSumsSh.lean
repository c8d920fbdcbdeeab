/-
  The examples of the layer sums: 'works' answers true.
-/
import Derived.Test.YtajclcbclbppiaaJSumsWk
namespace Go.Sm
theorem openL_seal4 (l : List UInt8) : openL (seal4 l) = some l := by
  have h1 : (seal4 l).length = l.length + 4 := by unfold seal4 le4; simp
  have h2 : (seal4 l).take ((seal4 l).length - 4) = l := by
    rw [h1, show l.length + 4 - 4 = l.length by omega]
    unfold seal4; rw [List.take_append_of_le_length (Nat.le_refl _), List.take_of_length_le (Nat.le_refl _)]
  unfold openL
  rw [h2, if_pos ⟨by omega, rfl⟩]
end Go.Sm
namespace Go.Proofs.Ytajclcbclbppiaa
open Go.RowKit Go.Sm Go.Bt
theorem sum_at {l : List UInt8} {x : Int} (h : ((sum l).toNat : Int) = x) (w : World) (hl : l.length ≤ 16777216) :
    Calls Try.prog 66 #[.string (ofL l)] w fun e w' => e = .returned (.int .u32 x) ∧ Ext w w' := by
  have := sum_any l w hl; rw [h] at this; exact this
theorem seal_at {l m : List UInt8} (h : seal4 l = m) (w : World) (hl : l.length ≤ 16777000) :
    Calls Try.prog 51 #[.string (ofL l)] w fun e w' => e = .returned (.string (ofL m)) ∧ Ext w w' := by
  have := seal_any l w hl; rw [h] at this; exact this
theorem open_none {l : List UInt8} (h : openL l = none) (w : World) (hl : l.length ≤ 16777000) :
    Calls Try.prog 86 #[.string (ofL l)] w fun e w' => e = .returned (.tuple #[.string (ofL []), .bool false]) ∧ Ext w w' := by
  have := open_any l w hl; rw [openV_none h] at this; exact this
theorem open_some {l t : List UInt8} (h : openL l = some t) (w : World) (hl : l.length ≤ 16777000) :
    Calls Try.prog 86 #[.string (ofL l)] w fun e w' => e = .returned (.tuple #[.string (ofL t), .bool true]) ∧ Ext w w' := by
  have := open_any l w hl; rw [openV_some h] at this; exact this
end Go.Proofs.Ytajclcbclbppiaa
