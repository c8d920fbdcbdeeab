/-
  The walks of the document's disk: Read, Size, New, Start, fails, Fail.
-/
import Derived.Test.YtfcjjdmfnkiacaaDskRf
namespace Go.Proofs.Ytfcjjdmfnkiacaa
open Go.RowKit Go.Maps Go.Dk Go.Shelf
variable {w w' : World} {G G' : Nat → Prop} {q : Nat} {ao : Option Addr} {cap : Nat} {ko : Option Addr} {kc : Nat} {S S' : St} {F : Int} {K : List Int}
set_option maxHeartbeats 1000000 in
set_option maxRecDepth 100000 in
theorem rsize_is (h : RfAt w G q ao cap ko kc S F K) (n : Int) :
    Calls Try.prog 47 #[.pointer (some ⟨q, 0, none⟩), .int .i64 n] w fun e w' => e = .returned (.tuple #[.int .i64 (Dk.size S n).1, .int .i64 (Dk.size S n).2]) ∧ w = w' := by
  obtain ⟨v, hC, ht⟩ := find_at h n
  have C := Lib.hid hC
  have c2 := h.c2
  have c1 := h.c1
  have H := Lib.hid h
  clear hC h
  cases hd : S.down
  · rw [hd] at c2
    rcases ht with ⟨rfl, hf⟩ | ⟨i, hi, rfl, hn, hf⟩
    · rw [show Dk.size S n = (0, 4) by simp [Dk.size, hd, hf]]
      clear hd hf
      go_enter Try.func47, Try.ntmps47
      go_wp2_with (go_at_call 55; (with_reducible refine C.out.mono ?_); rintro e w1 ⟨rfl, rfl⟩)
      go_ret2
      exact ⟨rfl, rfl⟩
    · have hmany := H.out.ok.many
      obtain ⟨g, rfl, hg, _, _, _, d1, _⟩ := H.out.file hi
      rw [show Dk.size S n = ((S.fs[i].b.length : Int), 0) by simp [Dk.size, hd, hf]]
      obtain ⟨b, hb⟩ : ∃ b, S.fs[i].b = b := ⟨_, rfl⟩
      rw [hb] at d1 ⊢
      clear hd hf hb
      go_enter Try.func47, Try.ntmps47
      go_wp2_with (go_at_call 55; (with_reducible refine C.out.mono ?_); rintro e w1 ⟨rfl, rfl⟩)
      go_ret2
      exact ⟨rfl, rfl⟩
  · rw [hd] at c2
    rw [show Dk.size S n = (0, 61) by simp [Dk.size, hd]]
    clear hd ht
    go_enter Try.func47, Try.ntmps47
    go_wp2_with (go_at_call 55; (with_reducible refine C.out.mono ?_); rintro e w1 ⟨rfl, rfl⟩)
    go_ret2
    exact ⟨rfl, rfl⟩
set_option maxHeartbeats 1000000 in
set_option maxRecDepth 100000 in
theorem rread_is (h : RfAt w G q ao cap ko kc S F K) (n at_ size : Int) :
    Calls Try.prog 43 #[.pointer (some ⟨q, 0, none⟩), .int .i64 n, .int .i64 at_, .int .i64 size] w fun e w' => e = .returned (.tuple #[.string (ofL (Dk.read S n at_ size).1), .int .i64 (Dk.read S n at_ size).2]) ∧ w = w' := by
  obtain ⟨v, hC, ht⟩ := find_at h n
  have C := Lib.hid hC
  have c2 := h.c2
  have c1 := h.c1
  have H := Lib.hid h
  clear hC h
  cases hd : S.down
  · rw [hd] at c2
    rcases ht with ⟨rfl, hf⟩ | ⟨i, hi, rfl, hn, hf⟩
    · rw [show Dk.read S n at_ size = ([], 4) by simp [Dk.read, hd, hf]]
      clear hd hf
      go_enter Try.func43, Try.ntmps43
      go_wp2_with (go_at_call 55; (with_reducible refine C.out.mono ?_); rintro e w1 ⟨rfl, rfl⟩)
      go_ret2
      exact ⟨rfl, rfl⟩
    · have hmany := H.out.ok.many
      have hbl := tot_mem (List.getElem_mem hi)
      have htt := H.out.ok.tot
      have hcc := H.out.ok.cap1
      obtain ⟨g, rfl, hg, _, _, _, d1, _⟩ := H.out.file hi
      have hr : Dk.read S n at_ size = if at_ < 0 ∨ size < 0 ∨ (S.fs[i].b.length : Int) < size ∨ (S.fs[i].b.length : Int) - size < at_ then ([], 2) else ((S.fs[i].b.drop at_.toNat).take size.toNat, 0) := by simp [Dk.read, hd, hf]
      rw [hr]
      obtain ⟨b, hb⟩ : ∃ b, S.fs[i].b = b := ⟨_, rfl⟩
      rw [hb] at d1 hbl ⊢
      clear hd hf hb hr
      by_cases hc : at_ < 0 ∨ size < 0 ∨ (b.length : Int) < size ∨ (b.length : Int) - size < at_
      · rw [if_pos hc]
        by_cases ha : at_ < 0
        · clear hc
          go_enter Try.func43, Try.ntmps43
          go_wp2_with (go_at_call 55; (with_reducible refine C.out.mono ?_); rintro e w1 ⟨rfl, rfl⟩)
          go_ret2
          exact ⟨rfl, rfl⟩
        by_cases hz : size < 0
        · clear hc
          go_enter Try.func43, Try.ntmps43
          go_wp2_with (go_at_call 55; (with_reducible refine C.out.mono ?_); rintro e w1 ⟨rfl, rfl⟩)
          go_ret2
          exact ⟨rfl, rfl⟩
        by_cases hal : (b.length : Int) < at_
        · clear hc
          go_enter Try.func43, Try.ntmps43
          go_wp2_with (go_at_call 55; (with_reducible refine C.out.mono ?_); rintro e w1 ⟨rfl, rfl⟩)
          go_ret2
          exact ⟨rfl, rfl⟩
        · have hzl : (b.length : Int) - at_ < size := by omega
          clear hc
          go_enter Try.func43, Try.ntmps43
          go_wp2_with (go_at_call 55; (with_reducible refine C.out.mono ?_); rintro e w1 ⟨rfl, rfl⟩)
          go_ret2
          exact ⟨rfl, rfl⟩
      · rw [if_neg hc]
        obtain ⟨x, rfl⟩ : ∃ x : Nat, at_ = x := ⟨at_.toNat, by omega⟩
        obtain ⟨y, rfl⟩ : ∃ y : Nat, size = y := ⟨size.toNat, by omega⟩
        have hxy : x + y ≤ b.length := by omega
        have hin : (0 : Int) ≤ (x : Int) + (y : Int) ∧ (x : Int) + (y : Int) ≤ (b.length : Int) := by omega
        have hal : x ≤ b.length := by omega
        have hzl : (y : Int) ≤ (b.length : Int) - (x : Int) := by omega
        simp only [Int.toNat_natCast]
        have he : ofL ((b.drop x).take y) = (ofL b).extract x (x + y) := by rw [ofL_extract, Nat.add_sub_cancel_left]
        rw [he]
        clear hc
        go_enter Try.func43, Try.ntmps43
        go_wp2_with (go_at_call 55; (with_reducible refine C.out.mono ?_); rintro e w1 ⟨rfl, rfl⟩)
        go_ret2
        exact ⟨rfl, rfl⟩
  · rw [hd] at c2
    rw [show Dk.read S n at_ size = ([], 61) by simp [Dk.read, hd]]
    clear hd ht
    go_enter Try.func43, Try.ntmps43
    go_wp2_with (go_at_call 55; (with_reducible refine C.out.mono ?_); rintro e w1 ⟨rfl, rfl⟩)
    go_ret2
    exact ⟨rfl, rfl⟩
/-- Its head has turned, in some of the cells that follow the list. -/
theorem RfAt.head (h : RfAt w G q ao cap ko kc S F K) (hf : Fr (fun k => k = q) w w') {S' : St} {F' : Int} (hok : Ok S') (hfs : S'.fs = S.fs) (hc : S'.cap = S.cap)
    (c1 : w'.cell? ⟨q, 1, none⟩ = some (.slice ao S.fs.length cap)) (c0 : w'.cell? ⟨q, 0, none⟩ = some (.int .i64 S.cap)) (c2 : w'.cell? ⟨q, 2, none⟩ = some (.bool S'.down)) (c3 : w'.cell? ⟨q, 3, none⟩ = some (.int .i64 S'.starts)) (c4 : w'.cell? ⟨q, 4, none⟩ = some (.int .i64 F')) (c5 : w'.cell? ⟨q, 5, none⟩ = some (.slice ko K.length kc))
    (fz : ∀ j, j < 6 → w'.frozen? ⟨q, j, none⟩ = false) : RfAt w' G q ao cap ko kc S' F' K := by
  refine ⟨hok, h.under.mono hf.size, h.own, by rw [hc]; exact c0, by rw [hfs]; exact c1, c2, c3, c4, c5, fz, ?_, h.rowG, h.keep.kept (fun g hg => hf.block g (h.under g hg.1) hg.2), h.few⟩
  rw [hfs]
  exact h.row.kept hf.size (fun g hg => hf.block g (h.row.lt g hg) (h.rowG g hg).2)
theorem cell_ne (w : World) {q i j : Nat} (u : Value) (h : j ≠ i) : (w.setCell ⟨q, i, none⟩ u).cell? ⟨q, j, none⟩ = w.cell? ⟨q, j, none⟩ := World.cell?_setCell_other _ _ _ _ (by first | simp; done | (simp; exact h))
set_option maxRecDepth 100000 in
theorem rstart_is (h : RfAt w G q ao cap ko kc S F K) :
    Calls Try.prog 27 #[.pointer (some ⟨q, 0, none⟩)] w fun e w' => e = .returned (.int .i64 (Dk.start S).2) ∧ RfAt w' G q ao cap ko kc (Dk.start S).1 F K ∧ Fr (fun k => k = q) w w' := by
  have c2 := h.c2
  have c3 := h.c3
  have f2 := h.fz 2 (by omega)
  have f3 := h.fz 3 (by omega)
  have H := Lib.hid h
  clear h
  cases hd : S.down
  · rw [hd] at c2
    rw [show Dk.start S = (S, 2) by simp [Dk.start, hd]]
    clear hd
    go_enter Try.func27, Try.ntmps27
    go_wp2
    go_ret
    exact ⟨rfl, H.out, Fr.refl _ _⟩
  · rw [hd] at c2
    rw [show Dk.start S = ({ S with down := false, starts := wrap64 (S.starts + 1) }, 0) by simp [Dk.start, hd, IntWalk.i64_left]]
    clear hd
    go_enter Try.func27, Try.ntmps27
    go_wp2
    go_ret
    have hf : Fr (fun k => k = q) w ((w.setCell ⟨q, 2, none⟩ (.bool false)).setCell ⟨q, 3, none⟩ (.int .i64 (wrap64 (S.starts + 1)))) := ((Fr.refl _ w).setCell (p := ⟨q, 2, none⟩) (by intro _; rfl) _).setCell (p := ⟨q, 3, none⟩) (by intro _; rfl) _
    refine ⟨rfl, H.out.head hf (H.out.ok.withDown _ _) rfl rfl ?_ ?_ ?_ ?_ ?_ ?_ (fun j hj => by rw [World.frozen?_setCell, World.frozen?_setCell]; exact H.out.fz j hj), hf⟩
    · rw [cell_ne _ _ (by decide), cell_ne _ _ (by decide)]; exact H.out.c1
    · rw [cell_ne _ _ (by decide), cell_ne _ _ (by decide)]; exact H.out.c0
    · rw [cell_ne _ _ (by decide)]; exact World.cell?_setCell_same _ _ _ H.out.c2
    · exact World.cell?_setCell_same _ _ _ ((cell_ne _ _ (by decide)).trans H.out.c3)
    · rw [cell_ne _ _ (by decide), cell_ne _ _ (by decide)]; exact H.out.c4
    · rw [cell_ne _ _ (by decide), cell_ne _ _ (by decide)]; exact H.out.c5
theorem RfAt.setF (h : RfAt w G q ao cap ko kc S F K) (F' : Int) {x : Option (Int × List Int)} (hok : Ok { S with fail := x }) : RfAt (w.setCell ⟨q, 4, none⟩ (.int .i64 F')) G q ao cap ko kc { S with fail := x } F' K ∧ Fr (fun k => k = q) w (w.setCell ⟨q, 4, none⟩ (.int .i64 F')) := by
  have hf : Fr (fun k => k = q) w (w.setCell ⟨q, 4, none⟩ (.int .i64 F')) := (Fr.refl _ w).setCell (p := ⟨q, 4, none⟩) (by intro _; rfl) _
  exact ⟨h.head hf hok rfl rfl ((cell_ne _ _ (by decide)).trans h.c1) ((cell_ne _ _ (by decide)).trans h.c0) ((cell_ne _ _ (by decide)).trans h.c2) ((cell_ne _ _ (by decide)).trans h.c3) (World.cell?_setCell_same _ _ _ h.c4) ((cell_ne _ _ (by decide)).trans h.c5) (fun j hj => (World.frozen?_setCell _ _ _ _).trans (h.fz j hj)), hf⟩
set_option maxRecDepth 100000 in
theorem fails_zero (h : RfAt w G q ao cap ko kc S 0 K) :
    Calls Try.prog 56 #[.pointer (some ⟨q, 0, none⟩)] w fun e w' => e = .returned (.bool false) ∧ w = w' := by
  have c4 := h.c4
  clear h
  go_enter Try.func56, Try.ntmps56
  go_wp2
  go_ret
  exact ⟨rfl, rfl⟩
set_option maxRecDepth 100000 in
theorem fails_pos (h : RfAt w G q ao cap ko kc S F K) (h0 : 0 < F) (h1 : F ≤ 1099511627777) :
    Calls Try.prog 56 #[.pointer (some ⟨q, 0, none⟩)] w fun e w' => e = .returned (.bool (decide (F - 1 = 0))) ∧ w' = w.setCell ⟨q, 4, none⟩ (.int .i64 (F - 1)) := by
  have c4 := h.c4
  have f4 := h.fz 4 (by omega)
  have hne : F ≠ 0 := by omega
  have hw : IntKind.i64.wrap (F - 1) = F - 1 := IntWalk.i64_in _ ⟨by omega, by omega⟩
  clear h
  go_enter Try.func56, Try.ntmps56
  go_wp2
  go_ret
  exact ⟨rfl, rfl⟩
end Go.Proofs.Ytfcjjdmfnkiacaa
