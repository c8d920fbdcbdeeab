/-
  The walk of DiskNone.
-/
import Derived.Test.YtfcjjdmfnkiacaaDskGr
import Derived.Test.YtfcjjdmfnkiacaaDskNn
import Derived.Test.YtfcjjdmfnkiacaaDskFd
namespace Go.Proofs.Ytfcjjdmfnkiacaa
open Go.RowKit Go.Maps Go.Dk Go.Shelf
open Classical in
set_option maxHeartbeats 2000000 in
set_option maxRecDepth 100000 in
theorem diskNone_any (a : Da) (w : World) (h : DaOk w a) :
    Calls Try.prog 6 #[.agg (Dc a).toArray] w fun e w' => e = .returned (.bool true) ∧ Ext w w' := by
  have HA := Lib.hid h
  clear h
  obtain ⟨kind, n, at_, size, s, ko, kc, ks⟩ := a
  simp only [Dc] at HA ⊢
  obtain ⟨W, hW⟩ : ∃ W, w.alloc (.cells #[.int .u8 kind, .int .i64 n, .int .i64 at_, .int .i64 size, .string (ofL s), .slice ko ks.length kc] 48) = W := ⟨_, rfl⟩
  have hE : Ext w W := by rw [← hW]; exact (Ext.refl w).alloc _
  have hA : ∀ w', Ext W w' → ∀ o, w'.cell? ⟨w.heap.size, o, none⟩ = (#[.int .u8 kind, .int .i64 n, .int .i64 at_, .int .i64 size, .string (ofL s), .slice ko ks.length kc] : Array Value)[o]? := fun w' hx => by
    have hb : W.heap[w.heap.size]? = some (.cells #[.int .u8 kind, .int .i64 n, .int .i64 at_, .int .i64 size, .string (ofL s), .slice ko ks.length kc] 48) := by rw [← hW]; exact heap_alloc_new _ _
    exact ((Fr.of_ext (F := fun _ => False) hx).cells hb (fun h => h)).1
  have a1 := hA W (Ext.refl W) 0
  have a2 := hA W (Ext.refl W) 1
  have a3 := hA W (Ext.refl W) 2
  have a4 := hA W (Ext.refl W) 3
  have a5 := hA W (Ext.refl W) 4
  have a6 := hA W (Ext.refl W) 5
  simp at a1 a2 a3 a4 a5 a6
  have HC := Lib.hid hA
  have HW := Lib.hid hW
  have HG := Lib.hid (great_any (acts_one (HA.out.ext hE) 48) rfl 1 1 rfl)
  simp only [Dc] at HG
  rw [← hW] at HG
  simp only [World.size_alloc] at HG
  have hxW : Ext W (w.alloc (.cells #[.int .u8 kind, .int .i64 n, .int .i64 at_, .int .i64 size, .string (ofL s), .slice ko ks.length kc] 48)) := by rw [hW]; exact Ext.refl W
  clear hA hW a1 a2 a3 a4 a5 a6
  go_enter Try.func6, Try.ntmps6
  by_cases hgr : Gr [⟨kind, n, at_, size, s, ko, kc, ks⟩] 1
  · simp only [hgr, decide_true] at HG
    go_wp2_with (first | (go_at_call 23; (with_reducible refine HG.out.mono ?_); rintro e w1 ⟨rfl, hx1⟩) | (go_at_call 20; (with_reducible refine (filed_true _).mono ?_); rintro e w2 ⟨rfl, hx2⟩))
    go_ret
    exact ⟨rfl, (hE.trans ((hxW.alloc _).trans hx1)).trans hx2⟩
  · simp only [hgr, decide_false] at HG
    go_wp2_with (first | (go_at_call 23; (with_reducible refine HG.out.mono ?_); rintro e w1 ⟨rfl, hx1⟩))
    have hW1 : Ext W w1 := (hxW.alloc _).trans hx1
    clear hx1
    go_loopw [3, 4] (fun v i wr => ∃ (k : Nat) (a : Option Addr), k ≤ 2 ∧ i = .int .i64 k ∧ v = .pointer a ∧ NoDisk wr a ∧ Ext W wr) (fun _ i _ => 2 - (intOf i).toNat)
    case atStart => exact ⟨0, none, by omega, rfl, rfl, .inl rfl, hW1⟩
    case round =>
      obtain ⟨k, a, hk, rfl, rfl, hN, hx⟩ := hrel
      by_cases hlt : k < 2
      · have N0 := Lib.hid hN
        have C0 := Lib.hid hx
        have a1 := HC.out _ hx 1
        have a2 := HC.out _ hx 2
        have a3 := HC.out _ hx 3
        have a4 := HC.out _ hx 4
        have a5 := HC.out _ hx 5
        simp at a1 a2 a3 a4 a5
        clear hN hx
        go_wp2_with (first | (go_at_call 11; (with_reducible refine (n_fail N14.out at_ _).mono ?_); rintro e w15 ⟨rfl, hx⟩; have N15 := Lib.hid (N14.out.ext hx); have C15 := Lib.hid (Ext.trans C14.out hx); have a1 := HC.out _ C15.out 1; have a2 := HC.out _ C15.out 2; have a3 := HC.out _ C15.out 3; have a4 := HC.out _ C15.out 4; have a5 := HC.out _ C15.out 5; simp at a1 a2 a3 a4 a5; clear hx) | (go_at_call 15; (with_reducible refine (n_start N13.out).mono ?_); rintro e w14 ⟨rfl, hx⟩; have N14 := Lib.hid (N13.out.ext hx); have C14 := Lib.hid (Ext.trans C13.out hx); have a1 := HC.out _ C14.out 1; have a2 := HC.out _ C14.out 2; have a3 := HC.out _ C14.out 3; have a4 := HC.out _ C14.out 4; have a5 := HC.out _ C14.out 5; simp at a1 a2 a3 a4 a5; clear hx) | (go_at_call 22; (with_reducible refine (n_crash N12.out _).mono ?_); rintro e w13 ⟨rfl, hx⟩; have N13 := Lib.hid (N12.out.ext hx); have C13 := Lib.hid (Ext.trans C12.out hx); have a1 := HC.out _ C13.out 1; have a2 := HC.out _ C13.out 2; have a3 := HC.out _ C13.out 3; have a4 := HC.out _ C13.out 4; have a5 := HC.out _ C13.out 5; simp at a1 a2 a3 a4 a5; clear hx) | (go_at_call 29; (with_reducible refine (n_starts N11.out).mono ?_); rintro e w12 ⟨rfl, hx⟩; have N12 := Lib.hid (N11.out.ext hx); have C12 := Lib.hid (Ext.trans C11.out hx); have a1 := HC.out _ C12.out 1; have a2 := HC.out _ C12.out 2; have a3 := HC.out _ C12.out 3; have a4 := HC.out _ C12.out 4; have a5 := HC.out _ C12.out 5; simp at a1 a2 a3 a4 a5; clear hx) | (go_at_call 14; (with_reducible refine (n_up N10.out).mono ?_); rintro e w11 ⟨rfl, hx⟩; have N11 := Lib.hid (N10.out.ext hx); have C11 := Lib.hid (Ext.trans C10.out hx); have a1 := HC.out _ C11.out 1; have a2 := HC.out _ C11.out 2; have a3 := HC.out _ C11.out 3; have a4 := HC.out _ C11.out 4; have a5 := HC.out _ C11.out 5; simp at a1 a2 a3 a4 a5; clear hx) | (go_at_call 28; (with_reducible refine (n_free N9.out).mono ?_); rintro e w10 ⟨rfl, hx⟩; have N10 := Lib.hid (N9.out.ext hx); have C10 := Lib.hid (Ext.trans C9.out hx); have a1 := HC.out _ C10.out 1; have a2 := HC.out _ C10.out 2; have a3 := HC.out _ C10.out 3; have a4 := HC.out _ C10.out 4; have a5 := HC.out _ C10.out 5; simp at a1 a2 a3 a4 a5; clear hx) | (go_at_call 21; (with_reducible refine (n_loose N8.out).mono ?_); rintro e w9 ⟨rfl, hx⟩; have N9 := Lib.hid (N8.out.ext hx); have C9 := Lib.hid (Ext.trans C8.out hx); have a1 := HC.out _ C9.out 1; have a2 := HC.out _ C9.out 2; have a3 := HC.out _ C9.out 3; have a4 := HC.out _ C9.out 4; have a5 := HC.out _ C9.out 5; simp at a1 a2 a3 a4 a5; clear hx) | (go_at_call 17; (with_reducible refine (n_files N7.out).mono ?_); rintro e w8 ⟨rfl, hx⟩; have N8 := Lib.hid (N7.out.ext hx); have C8 := Lib.hid (Ext.trans C7.out hx); have a1 := HC.out _ C8.out 1; have a2 := HC.out _ C8.out 2; have a3 := HC.out _ C8.out 3; have a4 := HC.out _ C8.out 4; have a5 := HC.out _ C8.out 5; simp at a1 a2 a3 a4 a5; clear hx) | (go_at_call 12; (with_reducible refine (n_delete N6.out n).mono ?_); rintro e w7 ⟨rfl, hx⟩; have N7 := Lib.hid (N6.out.ext hx); have C7 := Lib.hid (Ext.trans C6.out hx); have a1 := HC.out _ C7.out 1; have a2 := HC.out _ C7.out 2; have a3 := HC.out _ C7.out 3; have a4 := HC.out _ C7.out 4; have a5 := HC.out _ C7.out 5; simp at a1 a2 a3 a4 a5; clear hx) | (go_at_call 13; (with_reducible refine (n_truncate N5.out n size).mono ?_); rintro e w6 ⟨rfl, hx⟩; have N6 := Lib.hid (N5.out.ext hx); have C6 := Lib.hid (Ext.trans C5.out hx); have a1 := HC.out _ C6.out 1; have a2 := HC.out _ C6.out 2; have a3 := HC.out _ C6.out 3; have a4 := HC.out _ C6.out 4; have a5 := HC.out _ C6.out 5; simp at a1 a2 a3 a4 a5; clear hx) | (go_at_call 10; (with_reducible refine (n_sync N4.out n).mono ?_); rintro e w5 ⟨rfl, hx⟩; have N5 := Lib.hid (N4.out.ext hx); have C5 := Lib.hid (Ext.trans C4.out hx); have a1 := HC.out _ C5.out 1; have a2 := HC.out _ C5.out 2; have a3 := HC.out _ C5.out 3; have a4 := HC.out _ C5.out 4; have a5 := HC.out _ C5.out 5; simp at a1 a2 a3 a4 a5; clear hx) | (go_at_call 9; (with_reducible refine (n_append N3.out n s).mono ?_); rintro e w4 ⟨rfl, hx⟩; have N4 := Lib.hid (N3.out.ext hx); have C4 := Lib.hid (Ext.trans C3.out hx); have a1 := HC.out _ C4.out 1; have a2 := HC.out _ C4.out 2; have a3 := HC.out _ C4.out 3; have a4 := HC.out _ C4.out 4; have a5 := HC.out _ C4.out 5; simp at a1 a2 a3 a4 a5; clear hx) | (go_at_call 8; (with_reducible refine (n_create N2.out n).mono ?_); rintro e w3 ⟨rfl, hx⟩; have N3 := Lib.hid (N2.out.ext hx); have C3 := Lib.hid (Ext.trans C2.out hx); have a1 := HC.out _ C3.out 1; have a2 := HC.out _ C3.out 2; have a3 := HC.out _ C3.out 3; have a4 := HC.out _ C3.out 4; have a5 := HC.out _ C3.out 5; simp at a1 a2 a3 a4 a5; clear hx) | (go_at_call 19; (with_reducible refine (n_size N1.out n).mono ?_); rintro e w2 ⟨rfl, hx⟩; have N2 := Lib.hid (N1.out.ext hx); have C2 := Lib.hid (Ext.trans C1.out hx); have a1 := HC.out _ C2.out 1; have a2 := HC.out _ C2.out 2; have a3 := HC.out _ C2.out 3; have a4 := HC.out _ C2.out 4; have a5 := HC.out _ C2.out 5; simp at a1 a2 a3 a4 a5; clear hx) | (go_at_call 18; (with_reducible refine (n_read N0.out n at_ size).mono ?_); rintro e w1 ⟨rfl, hx⟩; have N1 := Lib.hid (N0.out.ext hx); have C1 := Lib.hid (Ext.trans C0.out hx); have a1 := HC.out _ C1.out 1; have a2 := HC.out _ C1.out 2; have a3 := HC.out _ C1.out 3; have a4 := HC.out _ C1.out 4; have a5 := HC.out _ C1.out 5; simp at a1 a2 a3 a4 a5; clear hx))
        exact ⟨⟨k + 1, some ⟨w15.heap.size, 0, none⟩, by omega, by go_num, rfl, .inr ⟨_, rfl, by simp, by simp⟩, C15.out.alloc _⟩, by simp [intOf]; omega⟩
      · obtain rfl : k = 2 := by omega
        go_wp2_with (first | (go_at_call 20; (with_reducible refine (filed_true _).mono ?_); rintro e w2 ⟨rfl, hx2⟩))
        go_ret
        exact ⟨rfl, (hE.trans hx).trans hx2⟩
end Go.Proofs.Ytfcjjdmfnkiacaa
