/-
  The walk of RecordsTell.
-/
import Derived.Test.YtkhfhfdfiapgmaaRecRd
import Derived.OpenShut
namespace Go.Proofs.Ytkhfhfdfiapgmaa
open Go.RowKit Go.Rc
set_option maxHeartbeats 1000000 in
set_option maxRecDepth 100000 in
theorem recordsTell_any (s : List UInt8) (i : Int) (hi : -9223372036854775808 ≤ i ∧ i ≤ 9223372036854775807) (w : World) (hs : s.length ≤ 9223372036854775807) :
    Calls Try.prog 3 #[.string (ofL s), .int .i64 i] w fun e w' => e = .returned (.bool true) ∧ Ext w w' := by
  have hE := Ext.refl w
  by_cases hl : s.length ≤ 3000
  · have P1 := Lib.hid (fun w' => rput_yes s w' (by omega))
    have P2 := Lib.hid (fun w' => refRput_yes s w' (by omega))
    have S1 := Lib.hid (fun w' => stands_any s i w' (by omega) hi)
    have S2 := Lib.hid (fun w' => stands_any (recL s) i w' (by rw [recL_length]; omega) hi)
    obtain ⟨r, hr⟩ : ∃ r, recL s = r := ⟨_, rfl⟩
    rw [hr] at P1 P2 S2
    clear hr hi
    go_enter Try.func3, Try.ntmps3
    go_wp2_with (first | (go_at_call 10; with_reducible refine (P1.out _).ext hE (fun w1 hE => ?_)) | (go_at_call 11; with_reducible refine (P2.out _).ext hE (fun w1 hE => ?_)) | (go_at_call 12; first | (with_reducible refine (S1.out _).ext hE (fun w1 hE => ?_)) | (with_reducible refine (S2.out _).ext hE (fun w1 hE => ?_))) | (go_at_call 9; with_reducible refine (recorded_any _).ext hE (fun w1 hE => ?_)))
    go_ret
    exact ⟨rfl, hE⟩
  · clear hi
    go_enter Try.func3, Try.ntmps3
    go_wp2_with (go_at_call 9; with_reducible refine (recorded_any _).ext hE (fun w1 hE => ?_))
    go_ret
    exact ⟨rfl, hE⟩
theorem recordsTell_walk (a0 : ByteArray) (w0 : a0.size ≤ maxLen) (a1 : Int) (w1 : (Lit.int .i64 a1).wf = true) (w : World) :
    Calls Try.prog 3 #[.string a0, .int .i64 a1] w fun e w' => e = .returned (.bool true) ∧ Ext w w' := by
  rw [← ofL_data a0]
  exact recordsTell_any a0.data.toList a1 (bounds_i64 w1) w (by unfold maxLen at w0; simpa using w0)
end Go.Proofs.Ytkhfhfdfiapgmaa
