/-
  The walks of Read, Start, Fail and New.
-/
import Derived.Test.YtajclcbclbppiaaDskFr
namespace Go.Proofs.Ytajclcbclbppiaa
open Go.RowKit Go.Maps Go.Dk
variable {w w' : World} {β : Roles} {p : Nat} {S S' : St}
theorem empty_string (w : World) (o : Option Addr) (c : Nat) : (convert 56 9 (.slice o 0 c)).run Try.prog w = .ok (.string (ofL [])) w := by
  rw [run_convert_bytes_string w _ _ 5 _ _ _ Try.underlying56 Try.underlying5 Try.underlying9]
  cases o with
  | none => rfl
  | some o =>
    first | rfl | (simp; rfl)
/-- Bytes of a row, as a string. -/
theorem row_string {g cap : Nat} {l : List UInt8} (h : Rw w 1 (some ⟨g, 0, none⟩) l.length cap (U8 l)) (x y : Nat) (hxy : x + y ≤ l.length) (o : Option Addr) (c : Nat) (ho : 0 < y → o = some ⟨g, x, none⟩) :
    (convert 56 9 (.slice o y c)).run Try.prog w = .ok (.string (ofL ((l.drop x).take y))) w := by
  have hl : ((l.drop x).take y).length = y := by rw [List.length_take, List.length_drop]; omega
  by_cases h0 : 0 < y
  · rw [ho h0]
    have := run_convert_bytes_back (P := Try.prog) w 56 9 5 ⟨g, x, none⟩ c ((l.drop x).take y) Try.underlying56 Try.underlying5 Try.underlying9 (fun j hj => by
      obtain ⟨g', e, _, h2, _⟩ := h.row (by omega)
      cases e
      have h3 : (⟨g, x, none⟩ : Addr).add j = ⟨g, x + j, none⟩ := by unfold Addr.add; split <;> simp_all
      rw [h3, h2 _ (by omega), U8_get l _ (by omega)]
      simp [List.getElem_take, List.getElem_drop, List.getD_eq_getElem?_getD, List.getElem?_eq_getElem (show x + j < l.length by omega)])
    rw [hl] at this
    exact this
  · obtain rfl : y = 0 := by omega
    exact empty_string w o c
set_option maxHeartbeats 1000000 in
set_option maxRecDepth 100000 in
theorem read_is (h : DiskAt w β p S) {n : Int} (hn : (Lit.int .i64 n).wf = true) (at_ size : Int) :
    Calls Try.prog 45 #[.pointer (some ⟨p, 0, none⟩), .int .i64 n, .int .i64 at_, .int .i64 size] w fun e w' => e = .returned (.tuple #[.string (ofL (Dk.read S n at_ size).1), .int .i64 (Dk.read S n at_ size).2]) ∧ Ext w w' := by
  obtain ⟨v, e, hC, ht⟩ := get_at h hn
  have C := Lib.hid hC
  have hcap := h.ok.tot
  have hcap1 := h.ok.cap1
  clear hC h hn
  rcases ht with ⟨hd, rfl, rfl⟩ | ⟨hd, hf, rfl, rfl⟩ | ⟨f, fb, ao, cap, hd, hf, hm, _, _, _, hF, rfl, rfl⟩
  · rw [show Dk.read S n at_ size = ([], 61) by simp [Dk.read, hd]]
    clear hd hcap hcap1
    go_enter Try.func45, Try.ntmps45
    go_wp2_with (go_at_call 42; with_reducible refine C.out.mono ?_; rintro e w1 ⟨rfl, rfl⟩)
    go_ret2
    exact ⟨rfl, Ext.refl _⟩
  · rw [show Dk.read S n at_ size = ([], 4) by simp [Dk.read, hd, hf]]
    clear hd hf hcap hcap1
    go_enter Try.func45, Try.ntmps45
    go_wp2_with (go_at_call 42; with_reducible refine C.out.mono ?_; rintro e w1 ⟨rfl, rfl⟩)
    go_ret2
    exact ⟨rfl, Ext.refl _⟩
  · have hb := tot_mem hm
    have h0 := hF.c0
    by_cases hc : at_ < 0 ∨ size < 0 ∨ (f.b.length : Int) < size ∨ (f.b.length : Int) - size < at_
    · rw [show Dk.read S n at_ size = ([], 2) by simp [Dk.read, hd, hf, hc]]
      clear hd hf hm
      go_enter Try.func45, Try.ntmps45
      go_wp2_with (go_at_call 42; with_reducible refine C.out.mono ?_; rintro e w1 ⟨rfl, rfl⟩)
      all_goals
        go_ret2
        exact ⟨rfl, Ext.refl _⟩
    · obtain ⟨x, rfl⟩ : ∃ x : Nat, at_ = x := ⟨at_.toNat, by omega⟩
      obtain ⟨y, rfl⟩ : ∃ y : Nat, size = y := ⟨size.toNat, by omega⟩
      have hxy : x + y ≤ f.b.length := by omega
      rw [show Dk.read S n x y = ((f.b.drop x).take y, 0) by simp only [Dk.read, hd, hf, if_neg hc]; simp]
      have hrow := hF.row
      have hle := hrow.le
      have hin : (0 : Int) ≤ (x : Int) + (y : Int) ∧ (x : Int) + (y : Int) ≤ (cap : Int) := by omega
      clear hd hf hm hc hF
      by_cases hcx : cap = x
      · have hcv := empty_string w ao 0
        obtain rfl : y = 0 := by omega
        simp only [List.take_zero]
        go_enter Try.func45, Try.ntmps45
        go_wp2_with (go_at_call 42; with_reducible refine C.out.mono ?_; rintro e w1 ⟨rfl, rfl⟩)
        go_ret2
        exact ⟨rfl, Ext.refl _⟩
      · obtain ⟨g, rfl⟩ : ∃ g, ao = some ⟨g, 0, none⟩ := by
          rcases hrow.at_ with ⟨_, h⟩ | ⟨g, h, _⟩
          · omega
          · exact ⟨g, h⟩
        have hcv := row_string hrow x y hxy (some ⟨g, x, none⟩) (cap - x) (fun _ => rfl)
        go_enter Try.func45, Try.ntmps45
        go_wp2_with (go_at_call 42; with_reducible refine C.out.mono ?_; rintro e w1 ⟨rfl, rfl⟩)
        go_ret2
        exact ⟨rfl, Ext.refl _⟩
theorem HeadAt.set2 {m : Nat} {cap : Int} {d : Bool} {s : Int} {fp : Option Addr} (h : HeadAt w p m cap d s fp) (v : Bool) : HeadAt (w.setCell ⟨p, 2, none⟩ (.bool v)) p m cap v s fp := by
  have k : ∀ o, o ≠ 2 → (w.setCell ⟨p, 2, none⟩ (.bool v)).cell? ⟨p, o, none⟩ = w.cell? ⟨p, o, none⟩ := fun o ho => World.cell?_setCell_other _ _ _ _ (by first | simp; done | (simp; exact ho))
  exact ⟨by show _ < (w.heap.modify _ _).size; rw [Array.size_modify]; exact h.lt, (k 0 (by decide)).trans h.c0, (k 1 (by decide)).trans h.c1, World.cell?_setCell_same _ _ _ h.c2, (k 3 (by decide)).trans h.c3, (k 4 (by decide)).trans h.c4, (World.frozen?_setCell _ _ _ _).trans h.f2, (World.frozen?_setCell _ _ _ _).trans h.f3, (World.frozen?_setCell _ _ _ _).trans h.f4⟩
theorem HeadAt.set3 {m : Nat} {cap : Int} {d : Bool} {s : Int} {fp : Option Addr} (h : HeadAt w p m cap d s fp) (v : Int) : HeadAt (w.setCell ⟨p, 3, none⟩ (.int .i64 v)) p m cap d v fp := by
  have k : ∀ o, o ≠ 3 → (w.setCell ⟨p, 3, none⟩ (.int .i64 v)).cell? ⟨p, o, none⟩ = w.cell? ⟨p, o, none⟩ := fun o ho => World.cell?_setCell_other _ _ _ _ (by first | simp; done | (simp; exact ho))
  exact ⟨by show _ < (w.heap.modify _ _).size; rw [Array.size_modify]; exact h.lt, (k 0 (by decide)).trans h.c0, (k 1 (by decide)).trans h.c1, (k 2 (by decide)).trans h.c2, World.cell?_setCell_same _ _ _ h.c3, (k 4 (by decide)).trans h.c4, (World.frozen?_setCell _ _ _ _).trans h.f2, (World.frozen?_setCell _ _ _ _).trans h.f3, (World.frozen?_setCell _ _ _ _).trans h.f4⟩
theorem HeadAt.set4 {m : Nat} {cap : Int} {d : Bool} {s : Int} {fp : Option Addr} (h : HeadAt w p m cap d s fp) (v : Option Addr) : HeadAt (w.setCell ⟨p, 4, none⟩ (.pointer v)) p m cap d s v := by
  have k : ∀ o, o ≠ 4 → (w.setCell ⟨p, 4, none⟩ (.pointer v)).cell? ⟨p, o, none⟩ = w.cell? ⟨p, o, none⟩ := fun o ho => World.cell?_setCell_other _ _ _ _ (by first | simp; done | (simp; exact ho))
  exact ⟨by show _ < (w.heap.modify _ _).size; rw [Array.size_modify]; exact h.lt, (k 0 (by decide)).trans h.c0, (k 1 (by decide)).trans h.c1, (k 2 (by decide)).trans h.c2, (k 3 (by decide)).trans h.c3, World.cell?_setCell_same _ _ _ h.c4, (World.frozen?_setCell _ _ _ _).trans h.f2, (World.frozen?_setCell _ _ _ _).trans h.f3, (World.frozen?_setCell _ _ _ _).trans h.f4⟩
theorem DiskAt.failKept (h : DiskAt w β p S) {fp : Option Addr} {x : Option (Int × List Int)} (hf : Fr (fun k => k = p) w w') (hx : FailAt w β fp x) : FailAt w' β fp x :=
  hx.kept (fun r k hr hk => hf.block k (h.lt r k hk) (fun e => by have := h.inj _ _ _ hk (e ▸ h.p0); rw [this] at hr; simp at hr))
set_option maxRecDepth 100000 in
theorem start_is (h : DiskAt w β p S) :
    Calls Try.prog 17 #[.pointer (some ⟨p, 0, none⟩)] w fun e w' => e = .returned (.int .i64 (Dk.start S).2) ∧ DiskAt w' β p (Dk.start S).1 ∧ Fr (fun k => k = p) w w' := by
  have N := Lib.hid (none_no h)
  have H := Lib.hid h
  obtain ⟨m, fp, hm, h2, _, h5⟩ := h.head
  have hlt := h2.lt
  have c2 := h2.c2
  have c3 := h2.c3
  have f2 := h2.f2
  have f3 := h2.f3
  have H2 := Lib.hid h2
  have H5 := Lib.hid h5
  clear h h2 h5
  cases hd : S.down
  · rw [hd] at c2
    rw [show Dk.start S = (S, 2) by simp [Dk.start, hd]]
    clear hd
    go_enter Try.func17, Try.ntmps17
    go_wp2_with (go_at_call 40; with_reducible refine N.out.mono ?_; rintro e w1 ⟨rfl, rfl⟩)
    go_ret
    exact ⟨rfl, H.out, Fr.refl _ _⟩
  · rw [hd] at c2
    rw [show Dk.start S = ({ S with down := false, starts := wrap64 (S.starts + 1) }, 0) by simp [Dk.start, hd, IntWalk.i64_left]]
    clear hd
    go_enter Try.func17, Try.ntmps17
    go_wp2_with (go_at_call 40; with_reducible refine N.out.mono ?_; rintro e w1 ⟨rfl, rfl⟩)
    go_ret
    have hh := (H2.out.set2 false).set3 (wrap64 (S.starts + 1))
    have hf : Fr (fun k => k = p) w ((w.setCell ⟨p, 2, none⟩ (.bool false)).setCell ⟨p, 3, none⟩ (.int .i64 (wrap64 (S.starts + 1)))) := ((Fr.refl _ w).setCell (p := ⟨p, 2, none⟩) (by intro _; rfl) _).setCell (p := ⟨p, 3, none⟩) (by intro _; rfl) _
    exact ⟨rfl, H.out.turnHead hf rfl (H.out.ok.withDown _ _) hm hh (H.out.failKept hf H5.out), hf⟩
end Go.Proofs.Ytajclcbclbppiaa
