/-
  BitsSign: the walk.
-/
import Derived.Test.YtfnhbelaminhiaaBitsSh
import Derived.OpenShut
namespace Go.Proofs.Ytfnhbelaminhiaa
open Go.RowKit Go.Bt

theorem sign_mod (n : Int) (h1 : -9223372036854775808 ≤ n) (h2 : n ≤ 9223372036854775807) : ((sign n : Nat) : Int) % 2 = IntKind.u64.wrap n / 9223372036854775808 := by
  rw [IntKind.wrap_u64]; unfold sign; split <;> omega
theorem sign_small (n : Int) (h1 : -64 ≤ n) (h2 : n ≤ 63) : (var (sign n)).length = 1 := by
  have : sign n < 128 := by unfold sign; split <;> omega
  unfold var
  rw [varF_lt this]
  rfl
set_option maxRecDepth 100000 in
set_option maxHeartbeats 1000000 in
theorem bitsSign_any (n : Int) (m : Nat) (w : World) (h1 : -9223372036854775808 ≤ n) (h2 : n ≤ 9223372036854775807) (hm : m < 18446744073709551616) :
    Calls Try.prog 4 #[.int .i64 n, .int .u64 m] w fun e w' => e = .returned (.bool true) ∧ Ext w w' := by
  have hE := Ext.refl w
  have Sn := Lib.hid (fun w' => sign_any n w' h1 h2)
  have Sm := Lib.hid (fun w' => sign_any (back m) w' (back_range m hm).1 (back_range m hm).2)
  have Bn := Lib.hid (fun w' => back_any (sign n) w' (sign_lt n h1 h2))
  have Bm := Lib.hid (fun w' => back_any m w' hm)
  have Vn := Lib.hid (fun w' => var_any (sign n) w' (sign_lt n h1 h2))
  have e1 : back (sign n) = n := back_sign n
  have e2 : ((sign (back m) : Nat) : Int) = (m : Int) := by rw [sign_back]
  have Hmod := Lib.hid (sign_mod n h1 h2)
  have Hsm := Lib.hid (sign_small n)
  have hone : n < -64 ∨ (¬ n < -64 ∧ 63 < n) ∨ (¬ n < -64 ∧ ¬ 63 < n ∧ (((var (sign n)).length : Int) == 1) = true) := by
    by_cases ha : n < -64
    · exact .inl ha
    · by_cases hb : 63 < n
      · exact .inr (.inl ⟨ha, hb⟩)
      · exact .inr (.inr ⟨ha, hb, by rw [Hsm.out (by omega) (by omega)]; rfl⟩)
  clear h1 h2 hm
  rcases hone with ha | ⟨ha, hb⟩ | ⟨ha, hb, hc⟩
  all_goals
    go_enter Try.func4, Try.ntmps4
    go_wp2_with (first | (go_at_call 14; with_reducible refine (shifted_any _).ext hE (fun w1 hE => ?_)) | (go_at_call 20; first | (with_reducible refine (Sn.out _).ext hE (fun w1 hE => ?_)) | (with_reducible refine (Sm.out _).ext hE (fun w1 hE => ?_))) | (go_at_call 19; first | (with_reducible refine (Bn.out _).ext hE (fun w1 hE => ?_)) | (with_reducible refine (Bm.out _).ext hE (fun w1 hE => ?_))) | (go_at_call 17; with_reducible refine (Vn.out _).ext hE (fun w1 hE => ?_)))
    go_ret
    exact ⟨rfl, hE⟩
theorem bitsSign_walk (a0 : Int) (w0 : (Lit.int .i64 a0).wf = true) (a1 : Int) (w1 : (Lit.int .u64 a1).wf = true) (w : World) :
    Calls Try.prog 4 #[.int .i64 a0, .int .u64 a1] w fun e w' => e = .returned (.bool true) ∧ Ext w w' := by
  obtain ⟨h1, h2⟩ := bounds_i64 w0
  obtain ⟨h3, h4⟩ := bounds_u64 w1
  obtain ⟨m, rfl⟩ := Int.eq_ofNat_of_zero_le h3
  exact bitsSign_any a0 m w h1 h2 (by omega)
end Go.Proofs.Ytfnhbelaminhiaa
