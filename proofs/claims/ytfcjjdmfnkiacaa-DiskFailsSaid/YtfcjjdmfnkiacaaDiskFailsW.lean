/-
  The walk of DiskFails.
-/
import Derived.Test.YtfcjjdmfnkiacaaDskIn
namespace Go.Dk
/-- The disk of one file, number 1. -/
def one1 (b : List UInt8) (s : Nat) (down : Bool) (z : Int) (fail : Option (Int × List Int)) : St := ⟨3000, [⟨1, b, s⟩], down, z, fail⟩
theorem f1_r0 : create ⟨3000, [], false, 0, none⟩ 1 = (one1 [] 0 false 0 none, 0) := rfl
theorem f1_r1 : append (one1 [] 0 false 0 none) 1 [97, 98, 99] = (one1 [97, 98, 99] 0 false 0 none, 0) := rfl
theorem f1_r2 : sync (one1 [97, 98, 99] 0 false 0 none) 1 = (one1 [97, 98, 99] 3 false 0 none, 0) := rfl
theorem f1_r3 {k kp : Int} (h : 0 ≤ k) : fail (one1 [97, 98, 99] 3 false 0 none) k [kp] = (one1 [97, 98, 99] 3 false 0 (some (k, [kp])), 0) := by
  have e : ¬ k < 0 := by omega
  simp [fail, one1, e]
theorem f1_r4 {d : List UInt8} {s : Nat} {l kp : Int} (h : d.length ≤ 2000) (hl : l ≠ 0) : append (one1 d s false 0 (some (l, [kp]))) 1 [120] = (one1 (d ++ [120]) s false 0 (some (l - 1, [kp])), 0) := by
  simp [append, one1, get, tot, chg, upd, hl]
  omega
theorem f1_r5 {d : List UInt8} {s : Nat} {l kp : Int} (hl : l ≠ 0) : sync (one1 d s false 0 (some (l, [kp]))) 1 = (one1 d d.length false 0 (some (l - 1, [kp])), 0) := by
  simp [sync, one1, get, chg, upd, hl]
section
variable {d want : List UInt8} {s : Nat} {kp : Int}
theorem f1_c0 (h : cut kp ⟨1, d, s⟩ = ⟨1, want, want.length⟩) : create (one1 d s false 0 (some (0, [kp]))) 2 = (one1 want want.length true 0 none, 61) := by
  simp [create, one1, get, chg, St.crash, cuts, h]
theorem f1_c1 (h : cut kp ⟨1, d, s⟩ = ⟨1, want, want.length⟩) : delete (one1 d s false 0 (some (0, [kp]))) 1 = (one1 want want.length true 0 none, 61) := by
  simp [delete, one1, get, chg, St.crash, cuts, h]
theorem f1_c2 (h : cut kp ⟨1, d, s⟩ = ⟨1, want, want.length⟩) (hd : 1 ≤ d.length) : truncate (one1 d s false 0 (some (0, [kp]))) 1 1 = (one1 want want.length true 0 none, 61) := by
  have e : ¬ ((d.length : Int) < 1) := by omega
  simp [truncate, one1, get, e, chg, St.crash, cuts, h]
theorem f1_c3 (h : cut kp ⟨1, d, s⟩ = ⟨1, want, want.length⟩) : sync (one1 d s false 0 (some (0, [kp]))) 1 = (one1 want want.length true 0 none, 61) := by
  simp [sync, one1, get, chg, St.crash, cuts, h]
theorem f1_c4 (h : cut kp ⟨1, d ++ [121, 122], s⟩ = ⟨1, want, want.length⟩) (hd : d.length ≤ 2000) : append (one1 d s false 0 (some (0, [kp]))) 1 [121, 122] = (one1 want want.length true 0 none, 61) := by
  have e : ¬ ((3000 : Int) - d.length < 2) := by omega
  simp [append, one1, get, tot, chg, upd, St.crash, cuts, h]
  omega
theorem f1_cut (hs : s ≤ d.length) (hk : 0 ≤ kp) : cut kp ⟨1, d, s⟩ = ⟨1, d.take ((s : Int) + min kp ((d.length : Int) - s)).toNat, (d.take ((s : Int) + min kp ((d.length : Int) - s)).toNat).length⟩ := by
  have e : s + (min (max kp 0) ((d.length - s : Nat) : Int)).toNat = ((s : Int) + min kp ((d.length : Int) - s)).toNat := by omega
  simp only [cut, e]
  congr 1
  rw [List.length_take]
  omega
end
theorem f1_s (b : List UInt8) (s : Nat) : start (one1 b s true 0 none) = (one1 b s false 1 none, 0) := rfl
theorem f1_rd (b : List UInt8) (s : Nat) (z : Int) : read (one1 b s false z none) 1 0 b.length = (b, 0) := by
  have e : ¬ ((b.length : Int) < 0) := by omega
  simp [read, one1, get, e]
theorem f1_sz (b : List UInt8) (s : Nat) (z : Int) : Dk.size (one1 b s false z none) 1 = ((b.length : Int), 0) := by simp [Dk.size, one1, get]
end Go.Dk
namespace Go.Proofs.Ytfcjjdmfnkiacaa
open Go.RowKit Go.Maps Go.Dk Go.Shelf
theorem u8_bounds {a : Int} (h : (Lit.int .u8 a).wf = true) : 0 ≤ a ∧ a ≤ 255 := by
  have e : IntKind.u8.min = 0 := rfl
  have e2 : IntKind.u8.max = 255 := rfl
  simp [Lit.wf, e, e2] at h
  omega
theorem wf1 : (Lit.int .i64 1).wf = true := by decide
theorem wf2 : (Lit.int .i64 2).wf = true := by decide
set_option maxHeartbeats 2000000 in
set_option maxRecDepth 100000 in
theorem diskFails_any (n which kp : Int) (w : World) (hn : 0 ≤ n ∧ n ≤ 255) (hw : 0 ≤ which ∧ which ≤ 255) (hk : 0 ≤ kp ∧ kp ≤ 255) :
    Calls Try.prog 3 #[.int .u8 n, .int .u8 which, .int .u8 kp] w fun e w' => e = .returned (.bool true) ∧ Ext w w' := by
  have hN : Calls Try.prog 7 #[.int .i64 3000] w fun e w' => ∃ p, e = .returned (.tuple #[.pointer (some ⟨p, 0, none⟩), .int .i64 0]) ∧ Dp w (Old w) p ⟨3000, [], false, 0, none⟩ w' ∧ w.heap.size ≤ p := k_new w (Old w) (Old.under w) (c := 3000) (by omega)
  have N := Lib.hid hN
  obtain ⟨k, hk20⟩ : ∃ k : Nat, n % 20 = k := ⟨(n % 20).toNat, by omega⟩
  have hk19 : k ≤ 19 := by omega
  clear hN
  go_enter Try.func3, Try.ntmps3
  go_wp2_with (first
    | (go_at_call 11; (with_reducible refine (k_fail (K4.out.ext ((Ext.refl _).alloc _)) (by omega) (ks := [kp]) (m := 1) (by simp) (by decide) (keep_one _ _ _) (fun _ hg => hg.2) (f1_r3 (by omega))).mono ?_); rintro e w5 ⟨rfl, hK⟩; have K5 := Lib.hid hK; clear hK)
    | (go_at_call 10; (with_reducible refine (k_sync K3.out wf1 f1_r2).mono ?_); rintro e w4 ⟨rfl, hK⟩; have K4 := Lib.hid hK; clear hK)
    | (go_at_call 9; (with_reducible refine (k_append K2.out wf1 (s := [97, 98, 99]) f1_r1).mono ?_); rintro e w3 ⟨rfl, hK⟩; have K3 := Lib.hid hK; clear hK)
    | (go_at_call 8; (with_reducible refine (k_create K1.out wf1 f1_r0).mono ?_); rintro e w2 ⟨rfl, hK⟩; have K2 := Lib.hid hK; clear hK)
    | (go_at_call 7; (with_reducible refine N.out.mono ?_); rintro e w1 ⟨p, rfl, hK, _⟩; have K1 := Lib.hid hK; clear hK))
  go_loopw [10, 11, 12] (fun d s i wr => ∃ (j : Nat) (db : List UInt8) (sn : Nat), j ≤ k ∧ i = .int .i64 j ∧ d = .string (ofL db) ∧ s = .int .i64 sn ∧ 3 ≤ db.length ∧ db.length ≤ 3 + j ∧ sn ≤ db.length ∧ Dp w (Old w) p (one1 db sn false 0 (some ((k : Int) - j, [kp]))) wr) (fun _ _ i _ => k - (intOf i).toNat)
  case atStart => exact ⟨0, [97, 98, 99], 3, by omega, rfl, rfl, rfl, by decide, by decide, by decide, by simpa using K5.out⟩
  case round =>
    obtain ⟨j, db, sn, hj, rfl, rfl, rfl, hd3, hdj, hsn, hK⟩ := hrel
    have L0 := Lib.hid hK
    clear hK
    by_cases hlt : j < k
    · by_cases hp : (j : Int) % 2 = 0
      · go_wp2_with (go_at_call 9; (with_reducible refine (k_append L0.out wf1 (s := [120]) (f1_r4 (by omega) (by omega))).mono ?_); rintro e v1 ⟨rfl, hK⟩; have L1 := Lib.hid hK; clear hK)
        refine ⟨⟨j + 1, db ++ [120], sn, by omega, by go_num, rfl, rfl, by simp; omega, by simp; omega, by simp; omega, ?_⟩, by simp [intOf]; omega⟩
        rw [show (k : Int) - ((j + 1 : Nat) : Int) = (k : Int) - j - 1 by omega]
        exact L1.out
      · go_wp2_with (go_at_call 10; (with_reducible refine (k_sync L0.out wf1 (f1_r5 (by omega))).mono ?_); rintro e v1 ⟨rfl, hK⟩; have L1 := Lib.hid hK; clear hK)
        refine ⟨⟨j + 1, db, db.length, by omega, by go_num, rfl, rfl, hd3, by omega, Nat.le_refl _, ?_⟩, by simp [intOf]; omega⟩
        rw [show (k : Int) - ((j + 1 : Nat) : Int) = (k : Int) - j - 1 by omega]
        exact L1.out
    · obtain rfl : j = k := by omega
      have e0 : (j : Int) - j = 0 := by omega
      rw [e0] at L0
      have L0 := Lib.hid L0.out
      have hd20 : db.length ≤ 22 := by omega
      rcases (show which % 5 = 0 ∨ which % 5 = 1 ∨ which % 5 = 2 ∨ which % 5 = 3 ∨ which % 5 = 4 by omega) with h5 | h5 | h5 | h5 | h5
      · have hcut := f1_cut (d := db) (s := sn) (kp := kp) (by omega) hk.1
        obtain ⟨want, hwant⟩ : ∃ want, db.take ((sn : Int) + min kp ((db.length : Int) - sn)).toNat = want := ⟨_, rfl⟩
        rw [hwant] at hcut
        have hwl : want.length ≤ 50 := by rw [← hwant, List.length_take]; omega
        have HC := Lib.hid hcut
        clear hcut
        go_wp2_with (first
        | (go_at_call 20; (with_reducible refine (filed_true _).mono ?_); rintro e v9 ⟨rfl, hx⟩; have L9 := Lib.hid (L7.out.ext hx); clear hx)
        | (go_at_call 19; (with_reducible refine (k_size L6.out wf1 (f1_sz want want.length _)).mono ?_); rintro e v7 ⟨rfl, rfl⟩; have L7 := Lib.hid L6.out)
        | (go_at_call 18; (with_reducible refine (k_read L5.out wf1 (f1_rd want want.length _)).mono ?_); rintro e v6 ⟨rfl, hx⟩; have L6 := Lib.hid (L5.out.ext hx); clear hx)
        | (go_at_call 16; (with_reducible refine (ints_yes (l := [1]) ((KeepAt.row HR.out).up ((Ext.refl _).alloc _)) (KeepAt.one _ _ _) (by simp) (by decide)).mono ?_); rintro e v5 ⟨rfl, hx⟩; have L5 := Lib.hid ((L4.out.ext ((Ext.refl _).alloc _)).ext hx); clear hx)
        | (go_at_call 17; (with_reducible refine (k_files L3.out (m := 1) (l := [1]) (by simp [one1]) (by simp [one1])).mono ?_); rintro e v4 ⟨ao, cap, rfl, hr, hx⟩; have HR := Lib.hid hr; have L4 := Lib.hid (L3.out.ext hx); clear hr hx)
        | (go_at_call 15; (with_reducible refine (k_start L2.out (f1_s want want.length)).mono ?_); rintro e v3 ⟨rfl, hK⟩; have L3 := Lib.hid hK; clear hK)
        | (go_at_call 14; (with_reducible refine (k_up L1.out (b := false) (by simp [one1])).mono ?_); rintro e v2 ⟨rfl, rfl⟩; have L2 := Lib.hid L1.out)
        | (go_at_call 8; (with_reducible refine (k_create L0.out wf2 (f1_c0 HC.out)).mono ?_); rintro e v1 ⟨rfl, hK⟩; have L1 := Lib.hid hK; clear hK))
        go_ret
        exact ⟨rfl, L9.out.all⟩
      · have hcut := f1_cut (d := db) (s := sn) (kp := kp) (by omega) hk.1
        obtain ⟨want, hwant⟩ : ∃ want, db.take ((sn : Int) + min kp ((db.length : Int) - sn)).toNat = want := ⟨_, rfl⟩
        rw [hwant] at hcut
        have hwl : want.length ≤ 50 := by rw [← hwant, List.length_take]; omega
        have HC := Lib.hid hcut
        clear hcut
        go_wp2_with (first
        | (go_at_call 20; (with_reducible refine (filed_true _).mono ?_); rintro e v9 ⟨rfl, hx⟩; have L9 := Lib.hid (L7.out.ext hx); clear hx)
        | (go_at_call 19; (with_reducible refine (k_size L6.out wf1 (f1_sz want want.length _)).mono ?_); rintro e v7 ⟨rfl, rfl⟩; have L7 := Lib.hid L6.out)
        | (go_at_call 18; (with_reducible refine (k_read L5.out wf1 (f1_rd want want.length _)).mono ?_); rintro e v6 ⟨rfl, hx⟩; have L6 := Lib.hid (L5.out.ext hx); clear hx)
        | (go_at_call 16; (with_reducible refine (ints_yes (l := [1]) ((KeepAt.row HR.out).up ((Ext.refl _).alloc _)) (KeepAt.one _ _ _) (by simp) (by decide)).mono ?_); rintro e v5 ⟨rfl, hx⟩; have L5 := Lib.hid ((L4.out.ext ((Ext.refl _).alloc _)).ext hx); clear hx)
        | (go_at_call 17; (with_reducible refine (k_files L3.out (m := 1) (l := [1]) (by simp [one1]) (by simp [one1])).mono ?_); rintro e v4 ⟨ao, cap, rfl, hr, hx⟩; have HR := Lib.hid hr; have L4 := Lib.hid (L3.out.ext hx); clear hr hx)
        | (go_at_call 15; (with_reducible refine (k_start L2.out (f1_s want want.length)).mono ?_); rintro e v3 ⟨rfl, hK⟩; have L3 := Lib.hid hK; clear hK)
        | (go_at_call 14; (with_reducible refine (k_up L1.out (b := false) (by simp [one1])).mono ?_); rintro e v2 ⟨rfl, rfl⟩; have L2 := Lib.hid L1.out)
        | (go_at_call 12; (with_reducible refine (k_delete L0.out wf1 (f1_c1 HC.out)).mono ?_); rintro e v1 ⟨rfl, hK⟩; have L1 := Lib.hid hK; clear hK))
        go_ret
        exact ⟨rfl, L9.out.all⟩
      · have hcut := f1_cut (d := db) (s := sn) (kp := kp) (by omega) hk.1
        obtain ⟨want, hwant⟩ : ∃ want, db.take ((sn : Int) + min kp ((db.length : Int) - sn)).toNat = want := ⟨_, rfl⟩
        rw [hwant] at hcut
        have hwl : want.length ≤ 50 := by rw [← hwant, List.length_take]; omega
        have HC := Lib.hid hcut
        clear hcut
        go_wp2_with (first
        | (go_at_call 20; (with_reducible refine (filed_true _).mono ?_); rintro e v9 ⟨rfl, hx⟩; have L9 := Lib.hid (L7.out.ext hx); clear hx)
        | (go_at_call 19; (with_reducible refine (k_size L6.out wf1 (f1_sz want want.length _)).mono ?_); rintro e v7 ⟨rfl, rfl⟩; have L7 := Lib.hid L6.out)
        | (go_at_call 18; (with_reducible refine (k_read L5.out wf1 (f1_rd want want.length _)).mono ?_); rintro e v6 ⟨rfl, hx⟩; have L6 := Lib.hid (L5.out.ext hx); clear hx)
        | (go_at_call 16; (with_reducible refine (ints_yes (l := [1]) ((KeepAt.row HR.out).up ((Ext.refl _).alloc _)) (KeepAt.one _ _ _) (by simp) (by decide)).mono ?_); rintro e v5 ⟨rfl, hx⟩; have L5 := Lib.hid ((L4.out.ext ((Ext.refl _).alloc _)).ext hx); clear hx)
        | (go_at_call 17; (with_reducible refine (k_files L3.out (m := 1) (l := [1]) (by simp [one1]) (by simp [one1])).mono ?_); rintro e v4 ⟨ao, cap, rfl, hr, hx⟩; have HR := Lib.hid hr; have L4 := Lib.hid (L3.out.ext hx); clear hr hx)
        | (go_at_call 15; (with_reducible refine (k_start L2.out (f1_s want want.length)).mono ?_); rintro e v3 ⟨rfl, hK⟩; have L3 := Lib.hid hK; clear hK)
        | (go_at_call 14; (with_reducible refine (k_up L1.out (b := false) (by simp [one1])).mono ?_); rintro e v2 ⟨rfl, rfl⟩; have L2 := Lib.hid L1.out)
        | (go_at_call 13; (with_reducible refine (k_truncate L0.out wf1 (f1_c2 HC.out (by omega))).mono ?_); rintro e v1 ⟨rfl, hK⟩; have L1 := Lib.hid hK; clear hK))
        go_ret
        exact ⟨rfl, L9.out.all⟩
      · have hcut := f1_cut (d := db) (s := sn) (kp := kp) (by omega) hk.1
        obtain ⟨want, hwant⟩ : ∃ want, db.take ((sn : Int) + min kp ((db.length : Int) - sn)).toNat = want := ⟨_, rfl⟩
        rw [hwant] at hcut
        have hwl : want.length ≤ 50 := by rw [← hwant, List.length_take]; omega
        have HC := Lib.hid hcut
        clear hcut
        go_wp2_with (first
        | (go_at_call 20; (with_reducible refine (filed_true _).mono ?_); rintro e v9 ⟨rfl, hx⟩; have L9 := Lib.hid (L7.out.ext hx); clear hx)
        | (go_at_call 19; (with_reducible refine (k_size L6.out wf1 (f1_sz want want.length _)).mono ?_); rintro e v7 ⟨rfl, rfl⟩; have L7 := Lib.hid L6.out)
        | (go_at_call 18; (with_reducible refine (k_read L5.out wf1 (f1_rd want want.length _)).mono ?_); rintro e v6 ⟨rfl, hx⟩; have L6 := Lib.hid (L5.out.ext hx); clear hx)
        | (go_at_call 16; (with_reducible refine (ints_yes (l := [1]) ((KeepAt.row HR.out).up ((Ext.refl _).alloc _)) (KeepAt.one _ _ _) (by simp) (by decide)).mono ?_); rintro e v5 ⟨rfl, hx⟩; have L5 := Lib.hid ((L4.out.ext ((Ext.refl _).alloc _)).ext hx); clear hx)
        | (go_at_call 17; (with_reducible refine (k_files L3.out (m := 1) (l := [1]) (by simp [one1]) (by simp [one1])).mono ?_); rintro e v4 ⟨ao, cap, rfl, hr, hx⟩; have HR := Lib.hid hr; have L4 := Lib.hid (L3.out.ext hx); clear hr hx)
        | (go_at_call 15; (with_reducible refine (k_start L2.out (f1_s want want.length)).mono ?_); rintro e v3 ⟨rfl, hK⟩; have L3 := Lib.hid hK; clear hK)
        | (go_at_call 14; (with_reducible refine (k_up L1.out (b := false) (by simp [one1])).mono ?_); rintro e v2 ⟨rfl, rfl⟩; have L2 := Lib.hid L1.out)
        | (go_at_call 10; (with_reducible refine (k_sync L0.out wf1 (f1_c3 HC.out)).mono ?_); rintro e v1 ⟨rfl, hK⟩; have L1 := Lib.hid hK; clear hK))
        go_ret
        exact ⟨rfl, L9.out.all⟩
      · have hcut := f1_cut (d := (db ++ [121, 122])) (s := sn) (kp := kp) (by simp; omega) hk.1
        have hl2 : ((db ++ [121, 122] : List UInt8).length : Int) = (db.length : Int) + 2 := by simp
        rw [hl2] at hcut
        obtain ⟨want, hwant⟩ : ∃ want, (db ++ [121, 122]).take ((sn : Int) + min kp ((db.length : Int) + 2 - sn)).toNat = want := ⟨_, rfl⟩
        rw [hwant] at hcut
        have hwl : want.length ≤ 50 := by rw [← hwant, List.length_take]; simp; omega
        have HC := Lib.hid hcut
        clear hcut
        go_wp2_with (first
        | (go_at_call 20; (with_reducible refine (filed_true _).mono ?_); rintro e v9 ⟨rfl, hx⟩; have L9 := Lib.hid (L7.out.ext hx); clear hx)
        | (go_at_call 19; (with_reducible refine (k_size L6.out wf1 (f1_sz want want.length _)).mono ?_); rintro e v7 ⟨rfl, rfl⟩; have L7 := Lib.hid L6.out)
        | (go_at_call 18; (with_reducible refine (k_read L5.out wf1 (f1_rd want want.length _)).mono ?_); rintro e v6 ⟨rfl, hx⟩; have L6 := Lib.hid (L5.out.ext hx); clear hx)
        | (go_at_call 16; (with_reducible refine (ints_yes (l := [1]) ((KeepAt.row HR.out).up ((Ext.refl _).alloc _)) (KeepAt.one _ _ _) (by simp) (by decide)).mono ?_); rintro e v5 ⟨rfl, hx⟩; have L5 := Lib.hid ((L4.out.ext ((Ext.refl _).alloc _)).ext hx); clear hx)
        | (go_at_call 17; (with_reducible refine (k_files L3.out (m := 1) (l := [1]) (by simp [one1]) (by simp [one1])).mono ?_); rintro e v4 ⟨ao, cap, rfl, hr, hx⟩; have HR := Lib.hid hr; have L4 := Lib.hid (L3.out.ext hx); clear hr hx)
        | (go_at_call 15; (with_reducible refine (k_start L2.out (f1_s want want.length)).mono ?_); rintro e v3 ⟨rfl, hK⟩; have L3 := Lib.hid hK; clear hK)
        | (go_at_call 14; (with_reducible refine (k_up L1.out (b := false) (by simp [one1])).mono ?_); rintro e v2 ⟨rfl, rfl⟩; have L2 := Lib.hid L1.out)
        | (go_at_call 9; (with_reducible refine (k_append L0.out wf1 (s := [121, 122]) (f1_c4 HC.out (by omega))).mono ?_); rintro e v1 ⟨rfl, hK⟩; have L1 := Lib.hid hK; clear hK))
        go_ret
        exact ⟨rfl, L9.out.all⟩
theorem diskFails_walk (a0 : Int) (w0 : (Lit.int .u8 a0).wf = true) (a1 : Int) (w1 : (Lit.int .u8 a1).wf = true) (a2 : Int) (w2 : (Lit.int .u8 a2).wf = true) (w : World) :
    Calls Try.prog 3 #[.int .u8 a0, .int .u8 a1, .int .u8 a2] w fun e w' => e = .returned (.bool true) ∧ Ext w w' :=
  diskFails_any a0 a1 a2 w (u8_bounds w0) (u8_bounds w1) (u8_bounds w2)
end Go.Proofs.Ytfcjjdmfnkiacaa
