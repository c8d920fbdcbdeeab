/-
  The walk of NetFull.
-/
import Derived.Test.YtjalikjakoddoaaNetMl
namespace Go.Proofs.Ytjalikjakoddoaa
open Go.RowKit Go.Nt
/-- So many messages, each with its number. -/
def Q (n : Nat) : List Msg := (List.range n).map (fun (i : Nat) => ((0, 0, 0, [], (i : Int), 0, 0) : Msg))
theorem Q_length (n : Nat) : (Q n).length = n := by simp [Q]
theorem Q_succ (n : Nat) : Q (n + 1) = Q n ++ [(0, 0, 0, [], (n : Int), 0, 0)] := by simp [Q, List.range_succ]
theorem Q_get (n k : Nat) (h : k < (Q n).length) : (Q n)[k] = (0, 0, 0, [], (k : Int), 0, 0) := by simp [Q]
section
variable {W : World} {R : Nat → Prop} {p : Nat} {L : List Msg} {w : World}
theorem k_send_no' (h : Kp W R p L w) {to ord deed qty amt code : Int} {sku : List UInt8} (hl : 1000 ≤ L.length) :
    Calls Try.prog 14 #[.pointer (some ⟨p, 0, none⟩), .agg #[.int .i64 to, .int .i64 ord, .int .i64 deed, .string (ofL sku), .int .i64 qty, .int .i64 amt, .int .i64 code]] w fun e w' => e = .returned (.bool false) ∧ Kp W R p L w' := k_send_no h (to, ord, deed, sku, qty, amt, code) hl
end
set_option maxHeartbeats 2000000 in
set_option maxRecDepth 100000 in
theorem netFull_any (w : World) (n : Nat) (hn : n < 65536) : Calls Try.prog 4 #[.int .u16 n] w fun e w' => e = .returned (.bool true) ∧ Ext w w' := by
  go_enter Try.func4, Try.ntmps4
  go_wp2_with (go_at_call 8; with_reducible refine (k_new' w).mono ?_; rintro e w1 ⟨p, rfl, hK⟩; have HK := Lib.hid hK; clear hK)
  go_loopw [4] (fun i wr => ∃ k : Nat, k ≤ 1000 ∧ i = .int .i64 k ∧ Kp w (Old w) p (Q k) wr) (fun i _ => 1000 - (intOf i).toNat)
  case atStart => exact ⟨0, by omega, rfl, HK.out⟩
  case round =>
    obtain ⟨k, hk, rfl, hK⟩ := hrel
    have HK := Lib.hid hK
    clear hK
    by_cases hlt : k < 1000
    · have hQ := Lib.hid (Q_succ k)
      go_wp2_with (go_at_call 14; with_reducible refine (k_send' HK.out (by rw [Q_length]; omega) hQ.out).mono ?_; rintro e w2 ⟨rfl, hK⟩; have HK2 := Lib.hid hK; clear hK)
      exact ⟨⟨k + 1, by omega, by go_num, HK2.out⟩, by simp [intOf]; omega⟩
    · obtain rfl : k = 1000 := by omega
      obtain ⟨L, hL⟩ : ∃ L, Q 1000 = L := ⟨_, rfl⟩
      rw [hL] at HK
      have hLl : L.length = 1000 := by rw [← hL, Q_length]
      obtain ⟨k, hk2⟩ : ∃ k : Nat, k = n % 1000 := ⟨_, rfl⟩
      have hk3 : k < 1000 := by omega
      have hlk : k < L.length := by omega
      have hLk : (0, 0, 0, [], (k : Int), 0, 0) = L[k] := by subst hL; rw [Q_get]
      obtain ⟨E, hE⟩ : ∃ E, E = L.eraseIdx k := ⟨_, rfl⟩
      have hEl : E.length = 999 := by rw [hE, List.length_eraseIdx, if_pos hlk]; omega
      have HE := Lib.hid hE
      have HLk := Lib.hid hLk
      clear hE hLk hL
      have htm : (n : Int) % 1000 = (k : Int) := by omega
      clear hk2
      go_wp2_with (first | (go_at_call 14; with_reducible refine (k_send_no' HK.out (by omega)).mono ?_; rintro e w2 ⟨rfl, hK⟩; have HK2 := Lib.hid hK; clear hK) | (go_at_call 12; with_reducible refine (k_double_full HK2.out k k rfl hlk hLl).mono ?_; rintro e w3 ⟨rfl, hK⟩; have HK3 := Lib.hid hK; clear hK) | (go_at_call 9; with_reducible refine (k_mail HK3.out (n := 1000) hLl (by decide)).mono ?_; rintro e w4 ⟨g, rfl, hg, hr, hK, hx⟩; have HK4 := Lib.hid hK; clear hK hr hx) | (go_at_call 10; with_reducible refine (k_deliver' HK4.out k k rfl hlk (by omega) (M := E) HE.out HLk.out).mono ?_; rintro e w5 ⟨rfl, hK⟩; have HK5 := Lib.hid hK; clear hK; have HP := Lib.hid (HK5.out.plus (.cells #[.int .i64 0, .int .i64 0, .int .i64 0, .string (ofL []), .int .i64 k, .int .i64 0, .int .i64 0] 32)); have hx5 := HK5.out.all) | (go_at_call 12; with_reducible refine (k_double HP.out 0 0 rfl (by omega) (by omega) rfl).mono ?_; rintro e w6 ⟨rfl, hK⟩; have hc := Kp.cells hK.fr (heap_alloc_new _ _) (Plus.new _ _); have HK6 := Lib.hid hK; clear hK) | (go_at_call 14; with_reducible refine (k_send_no' HK6.out (by simp; omega)).mono ?_; rintro e w7 ⟨rfl, hK⟩; have HK7 := Lib.hid hK; clear hK) | (go_at_call 9; with_reducible refine (k_mail HK7.out (n := 1000) (by simp; omega) (by decide)).mono ?_; rintro e w8 ⟨g, rfl, hg, hr, hK, hx⟩; have hx8 := Plus.back (hx5.alloc _) hK.fr; clear hK hr hx) | (go_at_call 7; with_reducible refine (mailed_any _).ext hx8 (fun w9 hx9 => ?_)))
      go_ret
      exact ⟨rfl, hx9⟩
theorem netFull_walk (a0 : Int) (w0 : (Lit.int .u16 a0).wf = true) (w : World) :
    Calls Try.prog 4 #[.int .u16 a0] w fun e w' => e = .returned (.bool true) ∧ Ext w w' := by
  obtain ⟨h3, h4⟩ := bounds_u16 w0
  obtain ⟨m, rfl⟩ := Int.eq_ofNat_of_zero_le h3
  exact netFull_any w m (by omega)
end Go.Proofs.Ytjalikjakoddoaa
