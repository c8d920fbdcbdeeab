/-
  The walk of RecordsBack.
-/
import Derived.Test.YtkhfhfdfiapgmaaRecRd
import Derived.OpenShut
namespace Go.Proofs.Ytkhfhfdfiapgmaa
open Go.RowKit Go.Rc
set_option maxHeartbeats 1000000 in
set_option maxRecDepth 100000 in
theorem recordsBack_any (p a b : List UInt8) (w : World) (h1 : p.length ≤ 9223372036854775807) (h2 : a.length ≤ 9223372036854775807) (h3 : b.length ≤ 9223372036854775807) :
    Calls Try.prog 7 #[.string (ofL p), .string (ofL a), .string (ofL b)] w fun e w' => e = .returned (.bool true) ∧ Ext w w' := by
  have hE := Ext.refl w
  by_cases hp : p.length ≤ 2000
  · by_cases ha : a.length ≤ 200
    · by_cases hb : b.length ≤ 200
      · have P1 := Lib.hid (fun w' => rput_yes p w' (by omega))
        have hg := getR_at a p b (by omega)
        have hrl : (recL p).length = p.length + 8 := recL_length p
        have G1 := Lib.hid (fun w' => rget_is hg (i := a.length) (bi := (a.length : Int) + ((p.length : Int) + 8)) rfl (by omega) w' (by simp only [List.length_append, hrl]; omega))
        obtain ⟨r, hr⟩ : ∃ r, recL p = r := ⟨_, rfl⟩
        rw [hr] at P1 G1 hrl
        rw [List.append_assoc] at G1
        clear hr hg
        go_enter Try.func7, Try.ntmps7
        go_wp2_with (first | (go_at_call 10; with_reducible refine (P1.out _).ext hE (fun w1 hE => ?_)) | (go_at_call 16; with_reducible refine (G1.out _).ext hE (fun w1 hE => ?_)) | (go_at_call 9; with_reducible refine (recorded_any _).ext hE (fun w1 hE => ?_)))
        go_ret
        exact ⟨rfl, hE⟩
      · go_enter Try.func7, Try.ntmps7
        go_wp2_with (go_at_call 9; with_reducible refine (recorded_any _).ext hE (fun w1 hE => ?_))
        go_ret
        exact ⟨rfl, hE⟩
    · go_enter Try.func7, Try.ntmps7
      go_wp2_with (go_at_call 9; with_reducible refine (recorded_any _).ext hE (fun w1 hE => ?_))
      go_ret
      exact ⟨rfl, hE⟩
  · go_enter Try.func7, Try.ntmps7
    go_wp2_with (go_at_call 9; with_reducible refine (recorded_any _).ext hE (fun w1 hE => ?_))
    go_ret
    exact ⟨rfl, hE⟩
theorem recordsBack_walk (a0 : ByteArray) (w0 : a0.size ≤ maxLen) (a1 : ByteArray) (w1 : a1.size ≤ maxLen) (a2 : ByteArray) (w2 : a2.size ≤ maxLen) (w : World) :
    Calls Try.prog 7 #[.string a0, .string a1, .string a2] w fun e w' => e = .returned (.bool true) ∧ Ext w w' := by
  rw [← ofL_data a0, ← ofL_data a1, ← ofL_data a2]
  unfold maxLen at w0 w1 w2
  exact recordsBack_any a0.data.toList a1.data.toList a2.data.toList w (by simpa using w0) (by simpa using w1) (by simpa using w2)
end Go.Proofs.Ytkhfhfdfiapgmaa
