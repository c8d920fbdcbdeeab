/-
  The walks of what changes a disk: Create, Append, Sync, Truncate, Delete.
-/
import Derived.Test.YtajclcbclbppiaaDskCm
import Derived.Deep.RegionHeld3
namespace Go.Proofs.Ytajclcbclbppiaa
open Go.RowKit Go.Maps Go.Dk Go.Shelf
variable {w w' : World} {β : Roles} {p : Nat} {S S' S1 : St}
theorem new_not_bl (h : DiskAt w β p S) {k : Nat} (hk : w.heap.size ≤ k) : ¬ Bl β k := fun ⟨r, hr⟩ => by have := h.lt r k hr; omega
set_option maxHeartbeats 1000000 in
set_option maxRecDepth 100000 in
theorem sync_is (h : DiskAt w β p S) {n : Int} (hn : (Lit.int .i64 n).wf = true) :
    Calls Try.prog 39 #[.pointer (some ⟨p, 0, none⟩), .int .i64 n] w fun e w' => e = .returned (.int .i64 (Dk.sync S n).2) ∧ ∃ β', DiskAt w' β' p (Dk.sync S n).1 ∧ Tn (Bl β) (Bl β') w w' := by
  obtain ⟨v, e, hC, ht⟩ := get_at h hn
  have C := Lib.hid hC
  have H := Lib.hid h
  clear hC h hn
  rcases ht with ⟨hd, rfl, rfl⟩ | ⟨hd, hf, rfl, rfl⟩ | ⟨f, fb, ao, cap, hd, hf, hm, hfn, hfb, _, _, rfl, rfl⟩
  · rw [show Dk.sync S n = (S, 61) by simp [Dk.sync, hd]]
    clear hd
    go_enter Try.func39, Try.ntmps39
    go_wp2_with (go_at_call 42; (with_reducible refine C.out.mono ?_); rintro e w1 ⟨rfl, rfl⟩)
    go_ret
    exact ⟨rfl, β, H.out.ext ((Ext.refl w).alloc _), Tn.of_ext ((Ext.refl w).alloc _)⟩
  · rw [show Dk.sync S n = (S, 4) by simp [Dk.sync, hd, hf]]
    clear hd hf
    go_enter Try.func39, Try.ntmps39
    go_wp2_with (go_at_call 42; (with_reducible refine C.out.mono ?_); rintro e w1 ⟨rfl, rfl⟩)
    go_ret
    exact ⟨rfl, β, H.out.ext ((Ext.refl w).alloc _), Tn.of_ext ((Ext.refl w).alloc _)⟩
  · subst hfn
    rw [show Dk.sync S f.n = chg S { S with fs := upd ⟨f.n, f.b, f.b.length⟩ S.fs } false by simp [Dk.sync, hd, hf]]
    have hx := (Ext.refl w).alloc (.cells #[.pointer (some ⟨fb, 0, none⟩)] 73)
    have CH := Lib.hid (change_is (S1 := { S with fs := upd ⟨f.n, f.b, f.b.length⟩ S.fs }) (H.out.ext hx) hd rfl hd false (enters_of Try.func60 (by kernel_rfl) rfl) (sync1_is (H.out.ext hx) hm (b := w.heap.size) hfb (by simp) (new_not_bl H.out (Nat.le_refl _))))
    clear hd hf
    go_enter Try.func39, Try.ntmps39
    go_wp2_with (first | (go_at_call 42; (with_reducible refine C.out.mono ?_); rintro e w1 ⟨rfl, rfl⟩) | (go_at_call 57; (with_reducible refine CH.out.mono ?_); rintro e w2 ⟨rfl, β', hD, hT⟩; have HD := Lib.hid hD; have HT := Lib.hid hT; clear hD hT))
    go_ret
    exact ⟨rfl, β', HD.out, (Tn.of_ext hx).trans HT.out⟩
set_option maxHeartbeats 1000000 in
set_option maxRecDepth 100000 in
theorem truncate_is (h : DiskAt w β p S) {n : Int} (hn : (Lit.int .i64 n).wf = true) (size : Int) :
    Calls Try.prog 48 #[.pointer (some ⟨p, 0, none⟩), .int .i64 n, .int .i64 size] w fun e w' => e = .returned (.int .i64 (Dk.truncate S n size).2) ∧ ∃ β', DiskAt w' β' p (Dk.truncate S n size).1 ∧ Tn (Bl β) (Bl β') w w' := by
  have hx0 := (Ext.refl w).alloc (.cells #[.int .i64 size] 3)
  obtain ⟨v, e, hC, ht⟩ := get_at (h.ext hx0) hn
  have C := Lib.hid hC
  have H := Lib.hid h
  clear hC h hn
  rcases ht with ⟨hd, rfl, rfl⟩ | ⟨hd, hf, rfl, rfl⟩ | ⟨f, fb, ao, cap, hd, hf, hm, hfn, hfb, _, hF, rfl, rfl⟩
  · rw [show Dk.truncate S n size = (S, 61) by simp [Dk.truncate, hd]]
    clear hd hx0
    go_enter Try.func48, Try.ntmps48
    go_wp2_with (go_at_call 42; (with_reducible refine C.out.mono ?_); rintro e w1 ⟨rfl, rfl⟩)
    go_ret
    exact ⟨rfl, β, H.out.ext (((Ext.refl w).alloc _).alloc _), Tn.of_ext (((Ext.refl w).alloc _).alloc _)⟩
  · rw [show Dk.truncate S n size = (S, 4) by simp [Dk.truncate, hd, hf]]
    clear hd hf hx0
    go_enter Try.func48, Try.ntmps48
    go_wp2_with (go_at_call 42; (with_reducible refine C.out.mono ?_); rintro e w1 ⟨rfl, rfl⟩)
    go_ret
    exact ⟨rfl, β, H.out.ext (((Ext.refl w).alloc _).alloc _), Tn.of_ext (((Ext.refl w).alloc _).alloc _)⟩
  · subst hfn
    have hfl := (H.out.lt _ _ hfb)
    have b0 : w.cell? ⟨fb, 0, none⟩ = some (.slice ao f.b.length cap) := (hx0.cell (p := ⟨fb, 0, none⟩) hfl).symm.trans hF.c0
    clear hF
    by_cases hc : size < 0 ∨ (f.b.length : Int) < size
    · rw [show Dk.truncate S f.n size = (S, 2) by simp [Dk.truncate, hd, hf, hc]]
      clear hd hf hx0
      by_cases h0 : size < 0
      all_goals
        go_enter Try.func48, Try.ntmps48
        go_wp2_with (go_at_call 42; (with_reducible refine C.out.mono ?_); rintro e w1 ⟨rfl, rfl⟩)
        go_quiet (fail)
        all_goals
          go_wp2
          go_ret
          exact ⟨rfl, β, H.out.ext ((((Ext.refl w).alloc _).alloc _).drewN _), Tn.of_ext ((((Ext.refl w).alloc _).alloc _).drewN _)⟩
    · obtain ⟨z, rfl⟩ : ∃ z : Nat, size = z := ⟨size.toNat, by omega⟩
      rw [show Dk.truncate S f.n z = chg S { S with fs := upd ⟨f.n, f.b.take z, min f.s z⟩ S.fs } false by simp only [Dk.truncate, hd, hf, if_neg hc]; simp]
      have hz : z ≤ f.b.length := by omega
      have hx := hx0.alloc (.cells #[.pointer (some ⟨fb, 0, none⟩)] 73)
      have Hd := Lib.hid hd
      clear hf hc hd
      go_enter Try.func48, Try.ntmps48
      go_wp2_with (go_at_call 42; (with_reducible refine C.out.mono ?_); rintro e w1 ⟨rfl, rfl⟩)
      go_quiet (fail)
      all_goals
        have hxn := hx.drewN nq
        have CH := Lib.hid (change_is (S1 := { S with fs := upd ⟨f.n, f.b.take z, min f.s z⟩ S.fs }) (H.out.ext hxn) Hd.out rfl Hd.out false (enters_of Try.func65 (by kernel_rfl) rfl) (truncate1_is (b := w.heap.size + 1) (c := w.heap.size) (z := z) (H.out.ext hxn) hm hfb (by simp) (new_not_bl H.out (by omega)) (by simp) (new_not_bl H.out (by omega)) hz))
        go_wp2_with (go_at_call 57; (with_reducible refine CH.out.mono ?_); rintro e w2 ⟨rfl, β', hD, hT⟩; have HD := Lib.hid hD; have HT := Lib.hid hT; clear hD hT)
        go_ret
        exact ⟨rfl, β', HD.out, (Tn.of_ext hxn).trans HT.out⟩
set_option maxHeartbeats 1000000 in
set_option maxRecDepth 100000 in
theorem append_is (h : DiskAt w β p S) {n : Int} (hn : (Lit.int .i64 n).wf = true) (s : List UInt8) :
    Calls Try.prog 37 #[.pointer (some ⟨p, 0, none⟩), .int .i64 n, .string (ofL s)] w fun e w' => e = .returned (.int .i64 (Dk.append S n s).2) ∧ ∃ β', DiskAt w' β' p (Dk.append S n s).1 ∧ Tn (Bl β) (Bl β') w w' := by
  have hx0 := (Ext.refl w).alloc (.cells #[.string (ofL s)] 9)
  obtain ⟨v, e, hC, ht⟩ := get_at (h.ext hx0) hn
  have C := Lib.hid hC
  have H := Lib.hid h
  clear hC h hn
  rcases ht with ⟨hd, rfl, rfl⟩ | ⟨hd, hf, rfl, rfl⟩ | ⟨f, fb, ao, cap, hd, hf, hm, hfn, hfb, _, hF, rfl, rfl⟩
  · rw [show Dk.append S n s = (S, 61) by simp [Dk.append, hd]]
    clear hd hx0
    go_enter Try.func37, Try.ntmps37
    go_wp2_with (go_at_call 42; (with_reducible refine C.out.mono ?_); rintro e w1 ⟨rfl, rfl⟩)
    go_ret
    exact ⟨rfl, β, H.out.ext (((Ext.refl w).alloc _).alloc _), Tn.of_ext (((Ext.refl w).alloc _).alloc _)⟩
  · rw [show Dk.append S n s = (S, 4) by simp [Dk.append, hd, hf]]
    clear hd hf hx0
    go_enter Try.func37, Try.ntmps37
    go_wp2_with (go_at_call 42; (with_reducible refine C.out.mono ?_); rintro e w1 ⟨rfl, rfl⟩)
    go_ret
    exact ⟨rfl, β, H.out.ext (((Ext.refl w).alloc _).alloc _), Tn.of_ext (((Ext.refl w).alloc _).alloc _)⟩
  · subst hfn
    have hx := hx0.alloc (.cells #[.pointer (some ⟨fb, 0, none⟩)] 73)
    clear hF
    have hm2 := H.out.ok.tot
    have hm3 := H.out.ok.cap1
    have hm4 := H.out.ok.cap0
    have Hd := Lib.hid hd
    obtain ⟨W, hW⟩ : ∃ W, (w.alloc (.cells #[.string (ofL s)] 9)).alloc (.cells #[.pointer (some ⟨fb, 0, none⟩)] 73) = W := ⟨_, rfl⟩
    have hxW : Ext w W := hW ▸ hx
    have FR := Lib.hid (fun w' (hx' : Ext W w') => free_is (H.out.ext (hxW.trans hx')))
    have hb : ∀ w', Ext W w' → w'.cell? ⟨w.heap.size, 0, none⟩ = some (.string (ofL s)) := fun w' hx' => by
      rw [hx'.cell (p := ⟨w.heap.size, 0, none⟩) (by rw [← hW]; simp; omega), ← hW]; simp
    have hc : ∀ w', Ext W w' → w'.cell? ⟨w.heap.size + 1, 0, none⟩ = some (.pointer (some ⟨fb, 0, none⟩)) := fun w' hx' => by
      rw [hx'.cell (p := ⟨w.heap.size + 1, 0, none⟩) (by rw [← hW]; simp), ← hW]; simp
    have HB := Lib.hid hb
    have HC := Lib.hid hc
    have hsz : w.heap.size < W.heap.size := by rw [← hW]; simp; omega
    have HW := Lib.hid hW
    clear hb hc hx hx0 hW
    by_cases hfull : S.cap - tot S.fs < s.length
    · rw [show Dk.append S f.n s = (S, 60) by simp [Dk.append, hd, hf, hfull]]
      clear hd hf
      go_enter Try.func37, Try.ntmps37
      go_wp2_with (go_at_call 42; (with_reducible refine C.out.mono ?_); rintro e w1 ⟨rfl, rfl⟩)
      rw [HW.out]
      have hb := HB.out
      go_region_held3 (fun w' => Ext W w') (first | exact Ext.refl _ | exact (Ext.refl _).drew | assumption) (first | (go_at_call 20; (with_reducible refine (FR.out _ (Ext.refl _).drew).mono ?_); rintro e w2 ⟨rfl, hx2⟩; have hx3 := Ext.of_drew hx2))
      all_goals
        go_wp2
        go_ret
        have hxn := hxW.trans hx3
        exact ⟨rfl, β, H.out.ext hxn, Tn.of_ext hxn⟩
    · rw [show Dk.append S f.n s = chg S { S with fs := upd ⟨f.n, f.b ++ s, f.s⟩ S.fs } true by simp [Dk.append, hd, hf, hfull]]
      clear hd hf
      go_enter Try.func37, Try.ntmps37
      go_wp2_with (go_at_call 42; (with_reducible refine C.out.mono ?_); rintro e w1 ⟨rfl, rfl⟩)
      rw [HW.out]
      have hb := HB.out
      go_region_held3 (fun w' => Ext W w') (first | exact Ext.refl _ | exact (Ext.refl _).drew | assumption) (first | (go_at_call 20; (with_reducible refine (FR.out _ (Ext.refl _).drew).mono ?_); rintro e w2 ⟨rfl, hx2⟩; have hx3 := Ext.of_drew hx2))
      all_goals
        have hxn := hxW.trans hx3
        have CH := Lib.hid (change_is (S1 := { S with fs := upd ⟨f.n, f.b ++ s, f.s⟩ S.fs }) (H.out.ext hxn) Hd.out rfl Hd.out true (enters_of Try.func59 (by kernel_rfl) rfl) (append1_is (b := w.heap.size + 1) (c := w.heap.size) (s := s) (H.out.ext hxn) hm hfb (HC.out w2 hx3) (by have := hx3.size; rw [← HW.out] at this; simp at this; omega) (new_not_bl H.out (by omega)) (HB.out w2 hx3) (new_not_bl H.out (by omega)) (by omega)))
        go_wp2_with (go_at_call 57; (with_reducible refine CH.out.mono ?_); rintro e w3 ⟨rfl, β', hD, hT⟩; have HD := Lib.hid hD; have HT := Lib.hid hT; clear hD hT)
        go_ret
        exact ⟨rfl, β', HD.out, (Tn.of_ext hxn).trans HT.out⟩
set_option maxHeartbeats 1000000 in
set_option maxRecDepth 100000 in
theorem delete_is (h : DiskAt w β p S) {n : Int} (hn : (Lit.int .i64 n).wf = true) :
    Calls Try.prog 32 #[.pointer (some ⟨p, 0, none⟩), .int .i64 n] w fun e w' => e = .returned (.int .i64 (Dk.delete S n).2) ∧ ∃ β', DiskAt w' β' p (Dk.delete S n).1 ∧ Tn (Bl β) (Bl β') w w' := by
  have hx := ((Ext.refl w).alloc (.cells #[.pointer (some ⟨p, 0, none⟩)] 25)).alloc (.cells #[.int .i64 n] 3)
  obtain ⟨v, e, hC, ht⟩ := get_at (h.ext hx) hn
  have C := Lib.hid hC
  have H := Lib.hid h
  clear hC h
  rcases ht with ⟨hd, rfl, rfl⟩ | ⟨hd, hf, rfl, rfl⟩ | ⟨f, fb, ao, cap, hd, hf, hm, hfn, hfb, _, hF, rfl, rfl⟩
  · rw [show Dk.delete S n = (S, 61) by simp [Dk.delete, hd]]
    clear hd hx
    go_enter Try.func32, Try.ntmps32
    go_wp2_with (go_at_call 42; (with_reducible refine C.out.mono ?_); rintro e w1 ⟨rfl, rfl⟩)
    go_ret
    exact ⟨rfl, β, H.out.ext (((Ext.refl w).alloc _).alloc _), Tn.of_ext (((Ext.refl w).alloc _).alloc _)⟩
  · rw [show Dk.delete S n = (S, 4) by simp [Dk.delete, hd, hf]]
    clear hd hf hx
    go_enter Try.func32, Try.ntmps32
    go_wp2_with (go_at_call 42; (with_reducible refine C.out.mono ?_); rintro e w1 ⟨rfl, rfl⟩)
    go_ret
    exact ⟨rfl, β, H.out.ext (((Ext.refl w).alloc _).alloc _), Tn.of_ext (((Ext.refl w).alloc _).alloc _)⟩
  · rw [show Dk.delete S n = chg S { S with fs := del n S.fs } false by simp [Dk.delete, hd, hf]]
    have CH := Lib.hid (change_is (S1 := { S with fs := del n S.fs }) (H.out.ext hx) hd rfl hd false (enters_of Try.func58 (by kernel_rfl) rfl) (delete1_is (b := w.heap.size) (c := w.heap.size + 1) (H.out.ext hx) hn (by simp) (by simp)))
    clear hF hm hf hd
    go_enter Try.func32, Try.ntmps32
    go_wp2_with (first | (go_at_call 42; (with_reducible refine C.out.mono ?_); rintro e w1 ⟨rfl, rfl⟩) | (go_at_call 57; (with_reducible refine CH.out.mono ?_); rintro e w2 ⟨rfl, β', hD, hT⟩; have HD := Lib.hid hD; have HT := Lib.hid hT; clear hD hT))
    go_ret
    exact ⟨rfl, β', HD.out, (Tn.of_ext hx).trans HT.out⟩
set_option maxHeartbeats 1000000 in
set_option maxRecDepth 100000 in
theorem create_is (h : DiskAt w β p S) {n : Int} (hn : (Lit.int .i64 n).wf = true) :
    Calls Try.prog 54 #[.pointer (some ⟨p, 0, none⟩), .int .i64 n] w fun e w' => e = .returned (.int .i64 (Dk.create S n).2) ∧ ∃ β', DiskAt w' β' p (Dk.create S n).1 ∧ Tn (Bl β) (Bl β') w w' := by
  have hx := ((Ext.refl w).alloc (.cells #[.pointer (some ⟨p, 0, none⟩)] 25)).alloc (.cells #[.int .i64 n] 3)
  obtain ⟨v, e, hC, ht⟩ := get_at (h.ext hx) hn
  have C := Lib.hid hC
  have H := Lib.hid h
  have hn1 : n ≤ 9223372036854775807 := by
    have e : IntKind.i64.max = 9223372036854775807 := rfl
    simp [Lit.wf, e] at hn
    omega
  clear hC h hn
  rcases ht with ⟨hd, rfl, rfl⟩ | ⟨hd, hf, rfl, rfl⟩ | ⟨f, fb, ao, cap, hd, hf, hm, hfn, hfb, _, hF, rfl, rfl⟩
  · rw [show Dk.create S n = (S, 61) by simp [Dk.create, hd]]
    clear hd hx
    go_enter Try.func54, Try.ntmps54
    go_wp2_with (go_at_call 42; (with_reducible refine C.out.mono ?_); rintro e w1 ⟨rfl, rfl⟩)
    go_ret
    exact ⟨rfl, β, H.out.ext (((Ext.refl w).alloc _).alloc _), Tn.of_ext (((Ext.refl w).alloc _).alloc _)⟩
  · by_cases h0 : n < 0
    · rw [show Dk.create S n = (S, 2) by simp [Dk.create, hd, h0]]
      clear hd hx hf
      go_enter Try.func54, Try.ntmps54
      go_wp2_with (go_at_call 42; (with_reducible refine C.out.mono ?_); rintro e w1 ⟨rfl, rfl⟩)
      go_ret
      exact ⟨rfl, β, H.out.ext (((Ext.refl w).alloc _).alloc _), Tn.of_ext (((Ext.refl w).alloc _).alloc _)⟩
    · obtain ⟨m, fp, hmm, h2, hown, _⟩ := (H.out.ext hx).head
      have c0 := h2.c0
      have HO := Lib.hid hown
      clear h2 hown
      by_cases hl : 100 ≤ S.fs.length
      · rw [show Dk.create S n = (S, 60) by simp [Dk.create, hd, h0, hf, hl]]
        clear hd hx hf
        go_enter Try.func54, Try.ntmps54
        go_wp2_with (first | (go_at_call 42; (with_reducible refine C.out.mono ?_); rintro e w1 ⟨rfl, rfl⟩) | (at_len; refine wpList_len_own _ rfl _ 48 rfl 3 73 Try.underlying48 _ m _ _ rfl HO.out ?_; rw [dat_size]))
        go_ret
        exact ⟨rfl, β, H.out.ext (((Ext.refl w).alloc _).alloc _), Tn.of_ext (((Ext.refl w).alloc _).alloc _)⟩
      · rw [show Dk.create S n = chg S { S with fs := ins ⟨n, [], 0⟩ S.fs } false by simp [Dk.create, hd, h0, hf, hl]]
        have CH := Lib.hid (change_is (S1 := { S with fs := ins ⟨n, [], 0⟩ S.fs }) (H.out.ext hx) hd rfl hd false (enters_of Try.func67 (by kernel_rfl) rfl) (create1_is (b := w.heap.size) (c := w.heap.size + 1) (H.out.ext hx) ⟨by omega, hn1⟩ hf (by omega) (by simp; omega) (by simp) (by simp) (by simp)))
        clear hf hd
        go_enter Try.func54, Try.ntmps54
        go_wp2_with (first | (go_at_call 42; (with_reducible refine C.out.mono ?_); rintro e w1 ⟨rfl, rfl⟩) | (go_at_call 57; (with_reducible refine CH.out.mono ?_); rintro e w2 ⟨rfl, β', hD, hT⟩; have HD := Lib.hid hD; have HT := Lib.hid hT; clear hD hT) | (at_len; refine wpList_len_own _ rfl _ 48 rfl 3 73 Try.underlying48 _ m _ _ rfl HO.out ?_; rw [dat_size]))
        go_ret
        exact ⟨rfl, β', HD.out, (Tn.of_ext hx).trans HT.out⟩
  · have h0 : ¬ n < 0 := by have := H.out.ok.names f hm; omega
    rw [show Dk.create S n = (S, 62) by simp [Dk.create, hd, h0, hf]]
    clear hd hx hf hF hm
    go_enter Try.func54, Try.ntmps54
    go_wp2_with (go_at_call 42; (with_reducible refine C.out.mono ?_); rintro e w1 ⟨rfl, rfl⟩)
    go_ret
    exact ⟨rfl, β, H.out.ext (((Ext.refl w).alloc _).alloc _), Tn.of_ext (((Ext.refl w).alloc _).alloc _)⟩
end Go.Proofs.Ytajclcbclbppiaa
