/-
  The walk of RecordsRow.
-/
import Derived.Test.YtkhfhfdfiapgmaaRecRow
namespace Go.Proofs.Ytkhfhfdfiapgmaa
open Go.RowKit Go.Rc
theorem mod_nat (a n : Nat) (hn : 0 < n) : ∃ k : Nat, k < n ∧ (a : Int) % (n : Int) = (k : Int) := ⟨a % n, Nat.mod_lt _ hn, by rw [Int.natCast_emod]⟩
set_option maxHeartbeats 1000000 in
set_option maxRecDepth 100000 in
theorem recordsRow_any (w : World) (v : Value) (L : List (List UInt8)) (hS : Strs w v L) (b : List UInt8) (hb : b.length ≤ 9223372036854775807) (pl : Nat) (hpl : pl < 65536) :
    Calls Try.prog 4 #[v, .string (ofL b), .int .u16 pl] w fun e w' => e = .returned (.bool true) ∧ Ext w w' := by
  by_cases hok : rowOk L
  · have R1 := Lib.hid (row_yes hS hok)
    have hn := hok.1
    have hrl := rowL_le L hok.2
    have hends : ∀ k, k ≤ L.length → (ends 0 L).getD k 0 = (((rowL (L.take k)).length : Nat) : Int) := fun k hk => by have := ends_get 0 L k hk; simpa using this
    have hle : ∀ k, (rowL (L.take k)).length ≤ 508 * 20 := fun k => by
      have := rowL_le (L.take k) (fun x hx => hok.2 x (List.mem_of_mem_take hx))
      have : (L.take k).length ≤ 20 := by rw [List.length_take]; omega
      omega
    obtain ⟨n, hnn⟩ : ∃ n, L.length = n := ⟨_, rfl⟩
    obtain ⟨R, hR⟩ : ∃ R, rowL L = R := ⟨_, rfl⟩
    obtain ⟨k, hk, hkk⟩ := mod_nat pl (n + 1) (by omega)
    obtain ⟨k2, hk2, hkk2⟩ := mod_nat pl (R.length + b.length + 1) (by omega)
    rw [hnn, hR] at R1
    rw [hnn] at hn
    rw [hR, hnn] at hrl
    have hRl : R.length ≤ 508 * 20 := by omega
    have hx := hends k (by omega)
    have hxl := hle k
    obtain ⟨x, hxx⟩ : ∃ x, (rowL (L.take k)).length = x := ⟨_, rfl⟩
    rw [hxx] at hx hxl
    have hel : (ends 0 L).length = n + 1 := by rw [ends_length, hnn]
    clear hends hle hrl hR hok hS hxx
    have hkk3 : (pl : Int) % ((n : Int) + 1) = (k : Int) := by rw [← hkk]; rfl
    have hkk4 : (pl : Int) % ((R.length : Int) + (b.length : Int) + 1) = (k2 : Int) := by rw [← hkk2]; rfl
    by_cases hb1 : b.length ≤ 100
    · have S1 := Lib.hid (fun w' => stands_any (R ++ b) x w' (by rw [List.length_append]; omega) (by omega))
      have S2 := Lib.hid (fun w' => stands_any (R ++ b) k2 w' (by rw [List.length_append]; omega) (by omega))
      clear hkk hkk2
      go_enter Try.func4, Try.ntmps4
      go_wp2_with (first | (go_at_call 13; with_reducible refine R1.out.mono ?_; rintro e w1 ⟨ao, cap, rfl, hr, hE⟩; obtain ⟨g, rfl, hg, hx1, hx2⟩ := hr.row (by omega); have c0 := hx1 k (by omega); rw [I64_get _ k (by omega), hx] at c0; clear hx1 hx2 hr) | (go_at_call 12; first | (with_reducible refine (S1.out _).ext hE (fun w2 hE => ?_)) | (with_reducible refine (S2.out _).ext hE (fun w2 hE => ?_))) | (go_at_call 9; with_reducible refine (recorded_any _).ext hE (fun w2 hE => ?_)))
      go_ret
      exact ⟨rfl, hE⟩
    · clear hkk hkk2
      go_enter Try.func4, Try.ntmps4
      go_wp2_with (first | (go_at_call 13; with_reducible refine R1.out.mono ?_; rintro e w1 ⟨ao, cap, rfl, hr, hE⟩; clear hr) | (go_at_call 9; with_reducible refine (recorded_any _).ext hE (fun w2 hE => ?_)))
      go_ret
      exact ⟨rfl, hE⟩
  · have R1 := Lib.hid (row_no hS hok)
    clear hS hok
    go_enter Try.func4, Try.ntmps4
    go_wp2_with (first | (go_at_call 13; with_reducible refine R1.out.mono ?_; rintro e w1 ⟨rfl, hE⟩) | (go_at_call 9; with_reducible refine (recorded_any _).ext hE (fun w2 hE => ?_)))
    go_ret
    exact ⟨rfl, hE⟩
theorem recordsRow_walk (w : World) (v : Value) (L : List (List UInt8)) (hS : Strs w v L) (a1 : ByteArray) (w1 : a1.size ≤ maxLen) (a2 : Int) (w2 : (Lit.int .u16 a2).wf = true) :
    Calls Try.prog 4 #[v, .string a1, .int .u16 a2] w fun e w' => e = .returned (.bool true) ∧ Ext w w' := by
  rw [← ofL_data a1]
  unfold maxLen at w1
  obtain ⟨h3, h4⟩ := bounds_u16 w2
  obtain ⟨m, rfl⟩ := Int.eq_ofNat_of_zero_le h3
  exact recordsRow_any w v L hS a1.data.toList (by simpa using w1) m (by omega)
end Go.Proofs.Ytkhfhfdfiapgmaa
