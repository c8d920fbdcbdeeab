/-
  BitsRead: the walk.
-/
import Derived.Test.YtfnhbelaminhiaaBitsRd
import Derived.Test.YtfnhbelaminhiaaBitsSh
import Derived.OpenShut
namespace Go.Proofs.Ytfnhbelaminhiaa
open Go.RowKit Go.Bt

set_option maxRecDepth 100000 in
set_option maxHeartbeats 2000000 in
theorem bitsRead_any (l : List UInt8) (w : World) :
    Calls Try.prog 5 #[.string (ofL l)] w fun e w' => e = .returned (.bool true) ∧ Ext w w' := by
  have hE := Ext.refl w
  by_cases hlen : 2000 < l.length
  · go_enter Try.func5, Try.ntmps5
    go_wp2_with (go_at_call 14; with_reducible refine (shifted_any _).ext hE (fun w1 hE => ?_))
    go_ret
    exact ⟨rfl, hE⟩
  · have hr : Bt.read l = none ∨ ∃ n r, Bt.read l = some (n, r) := by
      cases h : Bt.read l with
      | none => exact .inl rfl
      | some p => exact .inr ⟨p.1, p.2, rfl⟩
    have hc : Bt.cut l = none ∨ ∃ n r, Bt.cut l = some (n, r) := by
      cases h : Bt.cut l with
      | none => exact .inl rfl
      | some p => exact .inr ⟨p.1, p.2, rfl⟩
    have G1 := Lib.hid (fun w' => get_any l w' (by omega))
    have G2 := Lib.hid (fun w' => refGet_any l w' (by omega))
    have T1 := Lib.hid (fun w' => text_any l w' (by omega))
    have T2 := Lib.hid (fun w' => refText_any l w' (by omega))
    rcases hr with hr | ⟨n, r, hr⟩
    · have R1 := Lib.hid (fun w' => read_none hr w' (by omega))
      have R2 := Lib.hid (fun w' => refRead_none hr w' (by omega))
      rcases hc with hc | ⟨t, b, hc⟩
      · have C1 := Lib.hid (fun w' => cut_none hc w' (by omega))
        have C2 := Lib.hid (fun w' => refCut_none hc w' (by omega))
        clear hr hc
        go_enter Try.func5, Try.ntmps5
        go_wp2_with (first | (go_at_call 14; with_reducible refine (shifted_any _).ext hE (fun w1 hE => ?_)) | (go_at_call 15; with_reducible refine (R1.out _).ext hE (fun w1 hE => ?_)) | (go_at_call 21; with_reducible refine (R2.out _).ext hE (fun w1 hE => ?_)) | (go_at_call 16; with_reducible refine (C1.out _).ext hE (fun w1 hE => ?_)) | (go_at_call 22; with_reducible refine (C2.out _).ext hE (fun w1 hE => ?_)) | (go_at_call 23; with_reducible refine (G1.out _).ext hE (fun w1 hE => ?_)) | (go_at_call 24; with_reducible refine (G2.out _).ext hE (fun w1 hE => ?_)) | (go_at_call 18; with_reducible refine (T1.out _).ext hE (fun w1 hE => ?_)) | (go_at_call 25; with_reducible refine (T2.out _).ext hE (fun w1 hE => ?_)))
        go_ret
        exact ⟨rfl, hE⟩
      · simp [Bt.cut, hr] at hc
    · have R1 := Lib.hid (fun w' => read_some hr w' (by omega))
      have R2 := Lib.hid (fun w' => refRead_some hr w' (by omega))
      rcases hc with hc | ⟨t, b, hc⟩
      · have C1 := Lib.hid (fun w' => cut_none hc w' (by omega))
        have C2 := Lib.hid (fun w' => refCut_none hc w' (by omega))
        clear hr hc
        go_enter Try.func5, Try.ntmps5
        go_wp2_with (first | (go_at_call 14; with_reducible refine (shifted_any _).ext hE (fun w1 hE => ?_)) | (go_at_call 15; with_reducible refine (R1.out _).ext hE (fun w1 hE => ?_)) | (go_at_call 21; with_reducible refine (R2.out _).ext hE (fun w1 hE => ?_)) | (go_at_call 16; with_reducible refine (C1.out _).ext hE (fun w1 hE => ?_)) | (go_at_call 22; with_reducible refine (C2.out _).ext hE (fun w1 hE => ?_)) | (go_at_call 23; with_reducible refine (G1.out _).ext hE (fun w1 hE => ?_)) | (go_at_call 24; with_reducible refine (G2.out _).ext hE (fun w1 hE => ?_)) | (go_at_call 18; with_reducible refine (T1.out _).ext hE (fun w1 hE => ?_)) | (go_at_call 25; with_reducible refine (T2.out _).ext hE (fun w1 hE => ?_)))
        go_ret
        exact ⟨rfl, hE⟩
      · have C1 := Lib.hid (fun w' => cut_some hc w' (by omega))
        have C2 := Lib.hid (fun w' => refCut_some hc w' (by omega))
        clear hr hc
        go_enter Try.func5, Try.ntmps5
        go_wp2_with (first | (go_at_call 14; with_reducible refine (shifted_any _).ext hE (fun w1 hE => ?_)) | (go_at_call 15; with_reducible refine (R1.out _).ext hE (fun w1 hE => ?_)) | (go_at_call 21; with_reducible refine (R2.out _).ext hE (fun w1 hE => ?_)) | (go_at_call 16; with_reducible refine (C1.out _).ext hE (fun w1 hE => ?_)) | (go_at_call 22; with_reducible refine (C2.out _).ext hE (fun w1 hE => ?_)) | (go_at_call 23; with_reducible refine (G1.out _).ext hE (fun w1 hE => ?_)) | (go_at_call 24; with_reducible refine (G2.out _).ext hE (fun w1 hE => ?_)) | (go_at_call 18; with_reducible refine (T1.out _).ext hE (fun w1 hE => ?_)) | (go_at_call 25; with_reducible refine (T2.out _).ext hE (fun w1 hE => ?_)))
        go_ret
        exact ⟨rfl, hE⟩
theorem bitsRead_walk (a0 : ByteArray) (_w0 : a0.size ≤ maxLen) (w : World) :
    Calls Try.prog 5 #[.string a0] w fun e w' => e = .returned (.bool true) ∧ Ext w w' := by
  rw [← ofL_data a0]
  exact bitsRead_any _ w
end Go.Proofs.Ytfnhbelaminhiaa
