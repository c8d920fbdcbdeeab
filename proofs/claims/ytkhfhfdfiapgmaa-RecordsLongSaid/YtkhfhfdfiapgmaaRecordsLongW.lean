/-
  The walk of RecordsLong.
-/
import Derived.Test.YtkhfhfdfiapgmaaRecRd
import Derived.OpenShut
namespace Go.Proofs.Ytkhfhfdfiapgmaa
open Go.RowKit Go.Rc
set_option maxHeartbeats 1000000 in
set_option maxRecDepth 100000 in
theorem recordsLong_any (b : Int) (h1 : -128 ≤ b) (h2 : b ≤ 127) (w : World) :
    Calls Try.prog 5 #[.int .i8 b] w fun e w' => e = .returned (.bool true) ∧ Ext w w' := by
  have hE := Ext.refl w
  obtain ⟨n, hn⟩ : ∃ n : Nat, (65536 + b : Int) = n := ⟨(65536 + b).toNat, by omega⟩
  have hl : (List.replicate n (0 : UInt8)).length = n := by simp
  by_cases hb : 0 < b
  · have P1 := Lib.hid (fun w' => rput_no (List.replicate n 0) w' (by rw [hl]; omega) (by rw [hl]; omega))
    go_enter Try.func5, Try.ntmps5
    go_wp2_with (first | (refine make_bytes rfl 10 10 rfl (n := n) rfl rfl (by omega) (by omega) (by omega) (fun w1 hz hx hlt => ?_); have hcv := hz.string; rw [hl] at hcv; have Hx := Lib.hid hx; clear hz hx) | (rw [hcv]) | (go_at_call 10; with_reducible refine (P1.out _).ext Hx.out (fun w1 hE => ?_)) | (go_at_call 9; with_reducible refine (recorded_any _).ext hE (fun w1 hE => ?_)))
    go_ret
    exact ⟨rfl, hE⟩
  · have P1 := Lib.hid (fun w' => rput_yes (List.replicate n 0) w' (by rw [hl]; omega))
    have hrl : (recL (List.replicate n 0)).length = n + 8 := by rw [recL_length, hl]
    obtain ⟨r, hr⟩ : ∃ r, recL (List.replicate n 0) = r := ⟨_, rfl⟩
    rw [hr] at P1 hrl
    clear hr
    go_enter Try.func5, Try.ntmps5
    go_wp2_with (first | (refine make_bytes rfl 10 10 rfl (n := n) rfl rfl (by omega) (by omega) (by omega) (fun w1 hz hx hlt => ?_); have hcv := hz.string; rw [hl] at hcv; have Hx := Lib.hid hx; clear hz hx) | (rw [hcv]) | (go_at_call 10; with_reducible refine (P1.out _).ext Hx.out (fun w1 hE => ?_)) | (go_at_call 9; with_reducible refine (recorded_any _).ext hE (fun w1 hE => ?_)))
    go_ret
    exact ⟨rfl, hE⟩
theorem recordsLong_walk (a0 : Int) (w0 : (Lit.int .i8 a0).wf = true) (w : World) :
    Calls Try.prog 5 #[.int .i8 a0] w fun e w' => e = .returned (.bool true) ∧ Ext w w' :=
  recordsLong_any a0 (bounds_i8 w0).1 (bounds_i8 w0).2 w
end Go.Proofs.Ytkhfhfdfiapgmaa
