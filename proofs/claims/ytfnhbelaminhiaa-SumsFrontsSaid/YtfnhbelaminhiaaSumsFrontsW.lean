/-
  SumsFronts: the walk.
-/
import Derived.Test.YtfnhbelaminhiaaSumsSh
import Derived.OpenShut
namespace Go.Proofs.Ytfnhbelaminhiaa
open Go.RowKit Go.Sm Go.Bt

set_option maxRecDepth 100000 in
set_option maxHeartbeats 1000000 in
theorem sumsFronts_any (l : List UInt8) (w : World) (hl : l.length ≤ 9223372036854775807) :
    Calls Try.prog 8 #[.string (ofL l)] w fun e w' => e = .returned (.bool true) ∧ Ext w w' := by
  by_cases h4 : l.length ≤ 400
  all_goals
    go_enter Try.func8, Try.ntmps8
    go_wp2_with fail
    go_loopw [3] (fun i wr => (i = .int .i64 (-1) ∨ ∃ k : Nat, k ≤ l.length ∧ k ≤ 400 ∧ i = .int .i64 k) ∧ Ext w wr) (fun i _ => (intOf i + 1).toNat)
    case atStart => first | exact ⟨.inr ⟨l.length, by omega, by omega, rfl⟩, Ext.refl _⟩ | exact ⟨.inr ⟨400, by omega, by omega, rfl⟩, Ext.refl _⟩
    case round =>
      obtain ⟨hi, hE⟩ := hrel
      rcases hi with rfl | ⟨k, hk, hk4, rfl⟩
      · go_wp2_with (go_at_call 37; with_reducible refine (works_any _).ext hE (fun w1 hE => ?_))
        go_ret
        exact ⟨rfl, hE⟩
      · have S1 := Lib.hid (fun w' => seal_any (l.take k) w' (by simp; omega))
        have S2 := Lib.hid (fun w' => refSeal_any (l.take k) w' (by simp; omega))
        have S3 := Lib.hid (fun w' => sum_any (l.take k) w' (by simp; omega))
        have S4 := Lib.hid (fun w' => refSum_any (l.take k) w' (by simp; omega))
        have S5 := Lib.hid (fun w' => open_some (openL_seal4 (l.take k)) w' (by rw [seal4_length]; simp; omega))
        go_wp2_with (first | (go_at_call 32; with_reducible refine (S1.out _).ext hE (fun w1 hE => ?_)) | (go_at_call 35; with_reducible refine (S2.out _).ext hE (fun w1 hE => ?_)) | (go_at_call 33; with_reducible refine (S3.out _).ext hE (fun w1 hE => ?_)) | (go_at_call 34; with_reducible refine (S4.out _).ext hE (fun w1 hE => ?_)) | (go_at_call 36; with_reducible refine (S5.out _).ext hE (fun w1 hE => ?_)))
        refine ⟨⟨?_, hE⟩, by simp [intOf]⟩
        cases k with
        | zero => exact .inl (by go_num)
        | succ k => exact .inr ⟨k, by omega, by omega, by go_num⟩
theorem sumsFronts_walk (a0 : ByteArray) (w0 : a0.size ≤ maxLen) (w : World) :
    Calls Try.prog 8 #[.string a0] w fun e w' => e = .returned (.bool true) ∧ Ext w w' := by
  rw [← ofL_data a0]
  exact sumsFronts_any _ w (by unfold maxLen at w0; exact w0)
end Go.Proofs.Ytfnhbelaminhiaa
