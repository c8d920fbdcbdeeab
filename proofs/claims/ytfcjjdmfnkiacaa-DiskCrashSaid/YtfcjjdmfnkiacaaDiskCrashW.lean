/-
  The walk of DiskCrash.
-/
import Derived.Test.YtfcjjdmfnkiacaaDskIn
namespace Go.Dk
/-- The disk of one file, number 7. -/
def one7 (b : List UInt8) (s : Nat) (down : Bool) (z : Int) : St := ⟨3000, [⟨7, b, s⟩], down, z, none⟩
theorem c7_r0 : create ⟨3000, [], false, 0, none⟩ 7 = (one7 [] 0 false 0, 0) := rfl
theorem c7_r1 (s : List UInt8) (h : s.length ≤ 1000) : append (one7 [] 0 false 0) 7 s = (one7 s 0 false 0, 0) := by
  have e : ¬ ((3000 : Int) - 0 < s.length) := by omega
  simp [append, one7, get, tot, chg, upd]
  omega
theorem c7_r2 (s : List UInt8) : sync (one7 s 0 false 0) 7 = (one7 s s.length false 0, 0) := by
  simp [sync, one7, get, chg, upd]
theorem c7_r3 (s l : List UInt8) (h : s.length ≤ 1000) (h' : l.length ≤ 1000) : append (one7 s s.length false 0) 7 l = (one7 (s ++ l) s.length false 0, 0) := by
  have e : ¬ ((3000 : Int) - s.length < l.length) := by omega
  simp [append, one7, get, tot, chg, upd, e]
theorem c7_r4 {b want : List UInt8} {s : Nat} {keep z : Int} (h : cut keep ⟨7, b, s⟩ = ⟨7, want, want.length⟩) : crash (one7 b s false z) [keep] = (one7 want want.length true z, 0) := by
  simp [crash, one7, St.crash, cuts, h]
theorem c7_r5 (b : List UInt8) (s : Nat) (z : Int) (ks : List Int) : crash (one7 b s true z) ks = (one7 b s true z, 61) := rfl
theorem c7_r6 (b : List UInt8) (s : Nat) (z : Int) (x : List UInt8) : append (one7 b s true z) 7 x = (one7 b s true z, 61) := rfl
theorem c7_r7 (b : List UInt8) (s : Nat) (z : Int) : start (one7 b s true z) = (one7 b s false (IntKind.i64.wrap (z + 1)), 0) := rfl
theorem c7_r8 (b : List UInt8) (s : Nat) (z : Int) : read (one7 b s false z) 7 0 b.length = (b, 0) := by
  have e : ¬ ((b.length : Int) < 0) := by omega
  simp [read, one7, get, e]
theorem c7_r9 (b : List UInt8) (s : Nat) (z : Int) : Dk.size (one7 b s false z) 7 = ((b.length : Int), 0) := by simp [Dk.size, one7, get]
theorem c7_cut1 (s l : List UInt8) (keep : Int) : cut keep ⟨7, s ++ l, s.length⟩ = ⟨7, s ++ l.take (min (max keep 0) l.length).toNat, (s ++ l.take (min (max keep 0) l.length).toNat).length⟩ := by
  have e : (s ++ l).length - s.length = l.length := by rw [List.length_append]; omega
  simp only [cut, e]
  have e2 : (s ++ l).take (s.length + (min (max keep 0) (l.length : Int)).toNat) = s ++ l.take (min (max keep 0) (l.length : Int)).toNat := by
    rw [List.take_append, List.take_of_length_le (by omega)]
    congr 2
    omega
  rw [e2]
  congr 1
  rw [List.length_append, List.length_take]
  omega
theorem c7_cut2 (b : List UInt8) (keep : Int) : cut keep ⟨7, b, b.length⟩ = ⟨7, b, b.length⟩ := by
  simp [cut]
  exact ⟨List.take_of_length_le (by omega), by omega⟩
end Go.Dk
namespace Go.Proofs.Ytfcjjdmfnkiacaa
open Go.RowKit Go.Maps Go.Dk Go.Shelf
theorem k_crash_nil {W w : World} {O : Nat → Prop} {p : Nat} {S S' : St} {e : Int} (h : Dp W O p S w) (hr : Dk.crash S [] = (S', e)) :
    Calls Try.prog 22 #[.pointer (some ⟨p, 0, none⟩), .slice none 0 0] w fun x w' => x = .returned (.int .i64 e) ∧ Dp W O p S' w' :=
  k_crash_in h (m := 0) (ks := []) (G := fun _ => False) rfl (by decide) (.inl rfl) (fun _ h => h.elim) hr
theorem wf7 : (Lit.int .i64 7).wf = true := by decide
set_option maxHeartbeats 2000000 in
set_option maxRecDepth 100000 in
theorem diskCrash_any (sure lo : List UInt8) (keep : Int) (w : World) (hs : sure.length ≤ 9223372036854775807) (hl : lo.length ≤ 9223372036854775807) :
    Calls Try.prog 4 #[.string (ofL sure), .string (ofL lo), .int .i64 keep] w fun e w' => e = .returned (.bool true) ∧ Ext w w' := by
  by_cases h1 : 1000 < sure.length
  · go_enter Try.func4, Try.ntmps4
    go_wp2_with (go_at_call 20; (with_reducible refine (filed_true _).mono ?_); rintro e w2 ⟨rfl, hx2⟩)
    go_ret
    exact ⟨rfl, hx2⟩
  by_cases h2 : 1000 < lo.length
  · go_enter Try.func4, Try.ntmps4
    go_wp2_with (go_at_call 20; (with_reducible refine (filed_true _).mono ?_); rintro e w2 ⟨rfl, hx2⟩)
    go_ret
    exact ⟨rfl, hx2⟩
  have hN : Calls Try.prog 7 #[.int .i64 3000] w fun e w' => ∃ p, e = .returned (.tuple #[.pointer (some ⟨p, 0, none⟩), .int .i64 0]) ∧ Dp w (Old w) p ⟨3000, [], false, 0, none⟩ w' ∧ w.heap.size ≤ p := k_new w (Old w) (Old.under w) (c := 3000) (by omega)
  have N := Lib.hid hN
  have r1 := c7_r1 sure (by omega)
  have r3 := c7_r3 sure lo (by omega) (by omega)
  have hlo : loose (one7 (sure ++ lo) sure.length false 0).fs = [(lo.length : Int)] := by simp [loose, one7]; omega
  have hcut := c7_cut1 sure lo keep
  have hmin : 0 ≤ min (max keep 0) (lo.length : Int) ∧ min (max keep 0) (lo.length : Int) ≤ (lo.length : Int) := by omega
  have R1 := Lib.hid r1
  have R3 := Lib.hid r3
  have HL := Lib.hid hlo
  have HC := Lib.hid hcut
  clear hN r1 r3 hlo hcut
  go_enter Try.func4, Try.ntmps4
  go_wp2_with (first
    | (go_at_call 16; (with_reducible refine (ints_yes (l := [(lo.length : Int)]) ((KeepAt.row HR.out).up ((Ext.refl _).alloc _)) (KeepAt.one _ _ _) (by simp) (by decide)).mono ?_); rintro e w7 ⟨rfl, hx⟩; have K7 := Lib.hid ((K6.out.ext ((Ext.refl _).alloc _)).ext hx); clear hx)
    | (go_at_call 21; (with_reducible refine (k_loose K5.out (m := 1) (l := [(lo.length : Int)]) (by simp [one7]) HL.out).mono ?_); rintro e w6 ⟨ao, cap, rfl, hr, hx⟩; have HR := Lib.hid hr; have K6 := Lib.hid (K5.out.ext hx); clear hr hx)
    | (go_at_call 9; (with_reducible refine (k_append K4.out wf7 (s := lo) R3.out).mono ?_); rintro e w5 ⟨rfl, hK⟩; have K5 := Lib.hid hK; clear hK)
    | (go_at_call 10; (with_reducible refine (k_sync K3.out wf7 (c7_r2 sure)).mono ?_); rintro e w4 ⟨rfl, hK⟩; have K4 := Lib.hid hK; clear hK)
    | (go_at_call 9; (with_reducible refine (k_append K2.out wf7 (s := sure) R1.out).mono ?_); rintro e w3 ⟨rfl, hK⟩; have K3 := Lib.hid hK; clear hK)
    | (go_at_call 8; (with_reducible refine (k_create K1.out wf7 c7_r0).mono ?_); rintro e w2 ⟨rfl, hK⟩; have K2 := Lib.hid hK; clear hK)
    | (go_at_call 7; (with_reducible refine N.out.mono ?_); rintro e w1 ⟨p, rfl, hK, _⟩; have K1 := Lib.hid hK; clear hK))
  obtain ⟨want, hwant⟩ : ∃ want, sure ++ lo.take (min (max keep 0) (lo.length : Int)).toNat = want := ⟨_, rfl⟩
  have HC := HC.out
  rw [hwant] at HC ⊢
  have hwl : want.length ≤ 2000 := by rw [← hwant, List.length_append, List.length_take]; omega
  have HC := Lib.hid HC
  clear hwant
  go_loopw [10] (fun i wr => ∃ (k : Nat) (b : List UInt8) (s : Nat) (z : Int), k ≤ 2 ∧ i = .int .i64 k ∧ Dp w (Old w) p (one7 b s false z) wr ∧ cut keep ⟨7, b, s⟩ = ⟨7, want, want.length⟩) (fun i _ => 2 - (intOf i).toNat)
  case atStart => exact ⟨0, _, _, 0, by omega, rfl, K7.out, HC.out⟩
  case round =>
    obtain ⟨k, b, s, z, hk, rfl, hK0, hcut⟩ := hrel
    by_cases hlt : k < 2
    · have L0 := Lib.hid hK0
      have HC2 := Lib.hid hcut
      have hlz : loose (one7 want want.length false (IntKind.i64.wrap (z + 1))).fs = [0] := by simp [loose, one7]
      have HZ := Lib.hid hlz
      clear hK0 hcut hlz
      go_wp2_with (first
        | (go_at_call 16; (with_reducible refine (ints_yes (l := [0]) ((KeepAt.row HR2.out).up ((Ext.refl _).alloc _)) (KeepAt.one _ _ _) (by simp) (by decide)).mono ?_); rintro e v9 ⟨rfl, hx⟩; have L9 := Lib.hid ((L8.out.ext ((Ext.refl _).alloc _)).ext hx); clear hx)
        | (go_at_call 21; (with_reducible refine (k_loose L7.out (m := 1) (l := [0]) (by simp [one7]) HZ.out).mono ?_); rintro e v8 ⟨ao2, cap2, rfl, hr, hx⟩; have HR2 := Lib.hid hr; have L8 := Lib.hid (L7.out.ext hx); clear hr hx)
        | (go_at_call 19; (with_reducible refine (k_size L6.out wf7 (c7_r9 want want.length _)).mono ?_); rintro e v7 ⟨rfl, rfl⟩; have L7 := Lib.hid L6.out)
        | (go_at_call 18; (with_reducible refine (k_read L5.out wf7 (c7_r8 want want.length _)).mono ?_); rintro e v6 ⟨rfl, hx⟩; have L6 := Lib.hid (L5.out.ext hx); clear hx)
        | (go_at_call 15; (with_reducible refine (k_start L4.out (c7_r7 want want.length z)).mono ?_); rintro e v5 ⟨rfl, hK⟩; have L5 := Lib.hid hK; clear hK)
        | (go_at_call 9; (with_reducible refine (k_append L3.out wf7 (s := [120]) (c7_r6 want want.length z _)).mono ?_); rintro e v4 ⟨rfl, hK⟩; have L4 := Lib.hid hK; clear hK)
        | (go_at_call 22; (with_reducible refine (k_crash_nil L2.out (c7_r5 want want.length z _)).mono ?_); rintro e v3 ⟨rfl, hK⟩; have L3 := Lib.hid hK; clear hK)
        | (go_at_call 14; (with_reducible refine (k_up L1.out (b := false) (by simp [one7])).mono ?_); rintro e v2 ⟨rfl, rfl⟩; have L2 := Lib.hid L1.out)
        | (go_at_call 22; (with_reducible refine (k_crash L0.out ((Ext.refl _).alloc _) (ks := [keep]) (m := 1) (by simp) (by decide) (keep_one _ _ _) (c7_r4 HC2.out)).mono ?_); rintro e v1 ⟨rfl, hK⟩; have L1 := Lib.hid hK; clear hK))
      exact ⟨⟨k + 1, want, want.length, _, by omega, by go_num, L9.out, c7_cut2 want keep⟩, by simp [intOf]; omega⟩
    · obtain rfl : k = 2 := by omega
      go_wp2_with (first | (go_at_call 20; (with_reducible refine (filed_true _).mono ?_); rintro e w8 ⟨rfl, hx2⟩))
      go_ret
      exact ⟨rfl, hK0.all.trans hx2⟩
theorem diskCrash_walk (a0 : ByteArray) (w0 : a0.size ≤ maxLen) (a1 : ByteArray) (w1 : a1.size ≤ maxLen) (a2 : Int) (_ : (Lit.int .i64 a2).wf = true) (w : World) :
    Calls Try.prog 4 #[.string a0, .string a1, .int .i64 a2] w fun e w' => e = .returned (.bool true) ∧ Ext w w' := by
  rw [← ofL_data a0, ← ofL_data a1]
  exact diskCrash_any a0.data.toList a1.data.toList a2 w (by unfold maxLen at w0; exact w0) (by unfold maxLen at w1; exact w1)
end Go.Proofs.Ytfcjjdmfnkiacaa
