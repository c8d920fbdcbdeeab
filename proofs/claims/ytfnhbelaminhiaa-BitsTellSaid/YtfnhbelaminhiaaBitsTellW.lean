/-
  BitsTell: the walk.
-/
import Derived.Test.YtfnhbelaminhiaaBitsRf
import Derived.Test.YtfnhbelaminhiaaBitsSh
import Derived.OpenShut
namespace Go.Proofs.Ytfnhbelaminhiaa
open Go.RowKit Go.Bt

def putI (n : Nat) (i : Int) : List UInt8 := if i < 1 ∨ 8 < i then [] else put n i.toNat
theorem put_i (n : Nat) (i : Int) (w : World) (hn : n < 18446744073709551616) :
    Calls Try.prog 26 #[.int .u64 n, .int .i64 i] w fun e w' => e = .returned (.string (ofL (putI n i))) ∧ Ext w w' := by
  unfold putI
  split
  · exact put_no n i w ‹_›
  · exact put_at n i.toNat i (by omega) w hn (by omega) (by omega)
theorem refPut_i (n : Nat) (i : Int) (w : World) (hn : n < 18446744073709551616) :
    Calls Try.prog 27 #[.int .u64 n, .int .i64 i] w fun e w' => e = .returned (.string (ofL (putI n i))) ∧ Ext w w' := by
  unfold putI
  split
  · exact refPut_no n i w ‹_›
  · have := refPut_yes n i.toNat w hn (by omega) (by omega)
    rw [show ((i.toNat : Nat) : Int) = i by omega] at this
    exact this
set_option maxRecDepth 100000 in
set_option maxHeartbeats 2000000 in
theorem bitsTell_any (n : Nat) (m z : Int) (w : World) (hn : n < 18446744073709551616) (h1 : -9223372036854775808 ≤ m) (h2 : m ≤ 9223372036854775807) :
    Calls Try.prog 6 #[.int .u64 n, .int .i64 m, .int .i64 z] w fun e w' => e = .returned (.bool true) ∧ Ext w w' := by
  have P1 := Lib.hid (fun i w' => put_i n i w' hn)
  have P2 := Lib.hid (fun i w' => refPut_i n i w' hn)
  have V1 := Lib.hid (fun w' => var_any n w' hn)
  have V2 := Lib.hid (fun w' => refVar (n : Int) n rfl w' hn)
  have S1 := Lib.hid (fun w' => sign_any m w' h1 h2)
  have S2 := Lib.hid (fun w' => refSign_any m w' h1 h2)
  have B1 := Lib.hid (fun w' => back_any n w' hn)
  have B2 := Lib.hid (fun w' => refBack_any n w' hn)
  clear hn h1 h2
  go_enter Try.func6, Try.ntmps6
  go_wp2
  go_loopw [7] (fun i wr => ∃ k : Int, -1 ≤ k ∧ k ≤ 10 ∧ i = .int .i64 k ∧ Ext w wr) (fun i _ => (10 - intOf i).toNat)
  case atStart => exact ⟨-1, by omega, by omega, rfl, Ext.refl _⟩
  case round =>
    obtain ⟨k, hk, hk10, rfl, hE⟩ := hrel
    by_cases hlt : k < 10
    · go_wp2_with (first | (go_at_call 26; with_reducible refine (P1.out _ _).ext hE (fun w1 hE => ?_)) | (go_at_call 27; with_reducible refine (P2.out _ _).ext hE (fun w1 hE => ?_)))
      exact ⟨⟨k + 1, by omega, by omega, by go_num, hE⟩, by simp [intOf]; omega⟩
    · go_wp2_with (first | (go_at_call 26; with_reducible refine (P1.out _ _).ext hE (fun w1 hE => ?_)) | (go_at_call 27; with_reducible refine (P2.out _ _).ext hE (fun w1 hE => ?_)) | (go_at_call 17; with_reducible refine (V1.out _).ext hE (fun w1 hE => ?_)) | (go_at_call 28; with_reducible refine (V2.out _).ext hE (fun w1 hE => ?_)) | (go_at_call 20; with_reducible refine (S1.out _).ext hE (fun w1 hE => ?_)) | (go_at_call 29; with_reducible refine (S2.out _).ext hE (fun w1 hE => ?_)) | (go_at_call 19; with_reducible refine (B1.out _).ext hE (fun w1 hE => ?_)) | (go_at_call 30; with_reducible refine (B2.out _).ext hE (fun w1 hE => ?_)) | (go_at_call 14; with_reducible refine (shifted_any _).ext hE (fun w1 hE => ?_)))
      go_ret
      exact ⟨rfl, hE⟩
theorem bitsTell_walk (a0 : Int) (w0 : (Lit.int .u64 a0).wf = true) (a1 : Int) (w1 : (Lit.int .i64 a1).wf = true) (a2 : Int) (_w2 : (Lit.int .i64 a2).wf = true) (w : World) :
    Calls Try.prog 6 #[.int .u64 a0, .int .i64 a1, .int .i64 a2] w fun e w' => e = .returned (.bool true) ∧ Ext w w' := by
  obtain ⟨h3, h4⟩ := bounds_u64 w0
  obtain ⟨h1, h2⟩ := bounds_i64 w1
  obtain ⟨m, rfl⟩ := Int.eq_ofNat_of_zero_le h3
  exact bitsTell_any m a1 a2 w (by omega) h1 h2
end Go.Proofs.Ytfnhbelaminhiaa
