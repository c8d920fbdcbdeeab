/-
  The chapter's disk (filed): true.
-/
import Derived.Test.YtfcjjdmfnkiacaaDskDp
namespace Go.Proofs.Ytfcjjdmfnkiacaa
open Go.RowKit Go.Maps Go.Dk Go.Shelf
def fd1 : St := ⟨5, [], false, 0, none⟩
def fd2 : St := ⟨5, [⟨3, [], 0⟩], false, 0, none⟩
def fd3 : St := ⟨5, [⟨3, [120, 121, 122], 0⟩], false, 0, none⟩
def fd4 : St := ⟨5, [⟨3, [120, 121, 122], 3⟩], false, 0, none⟩
def fd5 : St := ⟨5, [⟨3, [120, 121, 122, 117, 118], 3⟩], false, 0, none⟩
def fd6 : St := ⟨5, [⟨3, [120, 121, 122, 117], 4⟩], true, 0, none⟩
def fd7 : St := ⟨5, [⟨3, [120, 121, 122, 117], 4⟩], false, 1, none⟩
def fd8 : St := ⟨5, [⟨3, [120, 121], 2⟩], false, 1, none⟩
def fd9 : St := ⟨5, [⟨3, [120, 121], 2⟩], false, 1, some (0, [1])⟩
def fd10 : St := ⟨5, [⟨3, [120, 121, 116], 3⟩], true, 1, none⟩
def fd11 : St := ⟨5, [⟨3, [120, 121, 116], 3⟩], false, 2, none⟩
theorem wf3 : (Lit.int .i64 3).wf = true := by decide
theorem wf4 : (Lit.int .i64 4).wf = true := by decide
theorem fd_r1 : Dk.create fd1 3 = (fd2, 0) := rfl
theorem fd_r2 : Dk.append fd2 3 [120, 121, 122] = (fd3, 0) := rfl
theorem fd_r3 : Dk.append fd3 3 [117, 118, 119] = (fd3, 60) := rfl
theorem fd_r4 : Dk.append fd3 4 [120] = (fd3, 4) := rfl
theorem fd_r5 : fd3.cap - tot fd3.fs = 2 := rfl
theorem fd_r6 : Dk.read fd3 3 1 2 = ([121, 122], 0) := rfl
theorem fd_r7 : Dk.read fd3 3 2 2 = ([], 2) := rfl
theorem fd_r8 : Dk.sync fd3 3 = (fd4, 0) := rfl
theorem fd_r9 : Dk.append fd4 3 [117, 118] = (fd5, 0) := rfl
theorem fd_r10 : Dk.crash fd5 [1] = (fd6, 0) := rfl
theorem fd_r11 : Dk.start fd6 = (fd7, 0) := rfl
theorem fd_r12 : Dk.size fd7 3 = (4, 0) := rfl
theorem fd_r13 : Dk.truncate fd7 3 5 = (fd7, 2) := rfl
theorem fd_r14 : Dk.truncate fd7 3 2 = (fd8, 0) := rfl
theorem fd_r15 : Dk.fail fd8 0 [1] = (fd9, 0) := rfl
theorem fd_r16 : Dk.append fd9 3 [116, 116] = (fd10, 61) := rfl
theorem fd_r17 : (!fd10.down) = false := rfl
theorem fd_r18 : Dk.start fd10 = (fd11, 0) := rfl
theorem fd_r19 : Dk.size fd11 3 = (3, 0) := rfl
/-- A list of one number, just made. -/
theorem keep_one (w : World) (x : Int) (t : TypeId) : KeepAt (w.alloc (.cells #[.int .i64 x] t)) (fun g => w.heap.size ≤ g ∧ g < (w.alloc (.cells #[.int .i64 x] t)).heap.size) (some ⟨w.heap.size, 0, none⟩) [x] := by
  refine .inr ⟨w.heap.size, 0, rfl, ⟨Nat.le_refl _, by simp⟩, fun j hj => ?_⟩
  obtain rfl : j = 0 := by simp at hj; omega
  simp
set_option maxHeartbeats 1000000 in
set_option maxRecDepth 100000 in
theorem filed_true (w : World) : Calls Try.prog 20 #[] w fun e w' => e = .returned (.bool true) ∧ Ext w w' := by
  have hN : Calls Try.prog 7 #[.int .i64 5] w fun e w' => ∃ p, e = .returned (.tuple #[.pointer (some ⟨p, 0, none⟩), .int .i64 0]) ∧ Dp w (Old w) p fd1 w' ∧ w.heap.size ≤ p := k_new w (Old w) (Old.under w) (c := 5) (by omega)
  have N := Lib.hid hN
  clear hN
  go_enter Try.func20, Try.ntmps20
  go_wp2_with (first
    | (go_at_call 7; (with_reducible refine N.out.mono ?_); rintro e w1 ⟨p, rfl, hK, _⟩; have K1 := Lib.hid hK; clear hK)
    | (go_at_call 19; (with_reducible refine (k_size K19.out wf3 fd_r19).mono ?_); rintro e w20 ⟨rfl, rfl⟩)
    | (go_at_call 15; (with_reducible refine (k_start K17.out fd_r18).mono ?_); rintro e w19 ⟨rfl, hK⟩; have K19 := Lib.hid hK; clear hK)
    | (go_at_call 14; (with_reducible refine (k_up K17.out fd_r17).mono ?_); rintro e w18 ⟨rfl, rfl⟩)
    | (go_at_call 9; (with_reducible refine (k_append K16.out wf3 (s := [116, 116]) fd_r16).mono ?_); rintro e w17 ⟨rfl, hK⟩; have K17 := Lib.hid hK; clear hK)
    | (go_at_call 11; (with_reducible refine (k_fail (K15.out.ext ((Ext.refl _).alloc _)) (by decide) (ks := [1]) (m := 1) (by simp) (by decide) (keep_one _ _ _) (fun _ hg => hg.2) fd_r15).mono ?_); rintro e w16 ⟨rfl, hK⟩; have K16 := Lib.hid hK; clear hK)
    | (go_at_call 13; (with_reducible refine (k_truncate K14.out wf3 fd_r14).mono ?_); rintro e w15 ⟨rfl, hK⟩; have K15 := Lib.hid hK; clear hK)
    | (go_at_call 13; (with_reducible refine (k_truncate K12.out wf3 fd_r13).mono ?_); rintro e w14 ⟨rfl, hK⟩; have K14 := Lib.hid hK; clear hK)
    | (go_at_call 19; (with_reducible refine (k_size K12.out wf3 fd_r12).mono ?_); rintro e w13 ⟨rfl, rfl⟩)
    | (go_at_call 15; (with_reducible refine (k_start K11.out fd_r11).mono ?_); rintro e w12 ⟨rfl, hK⟩; have K12 := Lib.hid hK; clear hK)
    | (go_at_call 22; (with_reducible refine (k_crash K10.out ((Ext.refl _).alloc _) (ks := [1]) (m := 1) (by simp) (by decide) (keep_one _ _ _) fd_r10).mono ?_); rintro e w11 ⟨rfl, hK⟩; have K11 := Lib.hid hK; clear hK)
    | (go_at_call 9; (with_reducible refine (k_append K9.out wf3 (s := [117, 118]) fd_r9).mono ?_); rintro e w10 ⟨rfl, hK⟩; have K10 := Lib.hid hK; clear hK)
    | (go_at_call 10; (with_reducible refine (k_sync K8.out wf3 fd_r8).mono ?_); rintro e w9 ⟨rfl, hK⟩; have K9 := Lib.hid hK; clear hK)
    | (go_at_call 18; (with_reducible refine (k_read K7.out wf3 fd_r7).mono ?_); rintro e w8 ⟨rfl, hx⟩; have K8 := Lib.hid (K7.out.ext hx); clear hx)
    | (go_at_call 18; (with_reducible refine (k_read K6.out wf3 fd_r6).mono ?_); rintro e w7 ⟨rfl, hx⟩; have K7 := Lib.hid (K6.out.ext hx); clear hx)
    | (go_at_call 28; (with_reducible refine (k_free K5.out fd_r5).mono ?_); rintro e w6 ⟨rfl, hx⟩; have K6 := Lib.hid (K5.out.ext hx); clear hx)
    | (go_at_call 9; (with_reducible refine (k_append K4.out wf4 (s := [120]) fd_r4).mono ?_); rintro e w5 ⟨rfl, hK⟩; have K5 := Lib.hid hK; clear hK)
    | (go_at_call 9; (with_reducible refine (k_append K3.out wf3 (s := [117, 118, 119]) fd_r3).mono ?_); rintro e w4 ⟨rfl, hK⟩; have K4 := Lib.hid hK; clear hK)
    | (go_at_call 9; (with_reducible refine (k_append K2.out wf3 (s := [120, 121, 122]) fd_r2).mono ?_); rintro e w3 ⟨rfl, hK⟩; have K3 := Lib.hid hK; clear hK)
    | (go_at_call 8; (with_reducible refine (k_create K1.out wf3 fd_r1).mono ?_); rintro e w2 ⟨rfl, hK⟩; have K2 := Lib.hid hK; clear hK))
  go_ret
  exact ⟨rfl, K19.out.all⟩
end Go.Proofs.Ytfcjjdmfnkiacaa
