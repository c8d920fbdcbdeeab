/-
  The walks of ready, note, Append, Compact, Size, Entries.
-/
import Derived.Test.YtajclcbclbppiaaJnOn
namespace Go.Proofs.Ytajclcbclbppiaa
open Go.RowKit Go.Maps Go.Dk Go.Rc Go.Jn Go.Shelf
variable {W w w' : World} {O O' F : Nat → Prop} {p q : Nat} {S S' : St} {J J' : Jo}
set_option maxHeartbeats 1000000 in
set_option maxRecDepth 100000 in
theorem jsize_is (h : Jp W O p q S J w) {z : Int} (hz : J.size = z) :
    Calls Try.prog 19 #[.pointer (some ⟨q, 0, none⟩)] w fun x w' => x = .returned (.int .i64 z) ∧ w = w' := by
  have c2 := h.j.c2
  rw [hz] at c2
  clear h
  go_enter Try.func19, Try.ntmps19
  go_wp2
  go_ret
  exact ⟨rfl, rfl⟩
set_option maxHeartbeats 1000000 in
set_option maxRecDepth 100000 in
theorem jentries_is (h : Jp W O p q S J w) {z : Int} (hz : J.many = z) :
    Calls Try.prog 16 #[.pointer (some ⟨q, 0, none⟩)] w fun x w' => x = .returned (.int .i64 z) ∧ w = w' := by
  have c3 := h.j.c3
  rw [hz] at c3
  clear h
  go_enter Try.func16, Try.ntmps16
  go_wp2
  go_ret
  exact ⟨rfl, rfl⟩
theorem JoAt.dead (h : JoAt w q p J) (b : Bool) : JoAt (w.setCell ⟨q, 5, none⟩ (.bool b)) q p { J with dead := b } where
  lt := by rw [setCell_size]; exact h.lt
  c0 := (World.cell?_setCell_other _ _ _ _ (by simp)).trans h.c0
  c1 := (World.cell?_setCell_other _ _ _ _ (by simp)).trans h.c1
  c2 := (World.cell?_setCell_other _ _ _ _ (by simp)).trans h.c2
  c3 := (World.cell?_setCell_other _ _ _ _ (by simp)).trans h.c3
  c4 := (World.cell?_setCell_other _ _ _ _ (by simp)).trans h.c4
  c5 := World.cell?_setCell_same _ _ _ h.c5
  fz := fun j => (World.frozen?_setCell _ _ _ _).trans (h.fz j)
theorem Jp.dead (h : Jp W O p q S J w) (b : Bool) : Jp W O p q S { J with dead := b } (w.setCell ⟨q, 5, none⟩ (.bool b)) :=
  h.set ((Fr.refl (fun k => k = q) w).setCell (p := ⟨q, 5, none⟩) (by intro _; rfl) _) (h.j.dead b)
set_option maxHeartbeats 1000000 in
set_option maxRecDepth 100000 in
theorem note_is (h : Jp W O p q S J w) (e : Int) :
    Calls Try.prog 31 #[.pointer (some ⟨q, 0, none⟩), .int .i64 e] w fun x w' => x = .returned (.int .i64 e) ∧ Jp W O p q S (told J e) w' := by
  have c5 := h.j.c5
  have f5 := h.j.fz 5
  have H := Lib.hid h
  clear h
  obtain ⟨d, hd⟩ : ∃ d, J.dead = d := ⟨_, rfl⟩
  rw [hd] at c5
  have ht : told J e = { J with dead := d || decide (e = 61) } := by unfold told; rw [hd]
  rw [ht]
  clear ht
  by_cases he : e = 61
  · subst he
    cases d
    all_goals
      go_enter Try.func31, Try.ntmps31
      go_wp2
      go_ret
      first | exact ⟨rfl, H.out.dead true⟩ | exact ⟨rfl, H.out.dead false⟩
  · have hb : decide (e = 61) = false := decide_eq_false he
    rw [hb]
    cases d
    all_goals
      go_enter Try.func31, Try.ntmps31
      go_wp2
      go_ret
      first | exact ⟨rfl, H.out.dead true⟩ | exact ⟨rfl, H.out.dead false⟩ | (rw [show (e == 61) = false from beq_false_of_ne he]; exact ⟨rfl, H.out.dead false⟩)
set_option maxHeartbeats 1000000 in
set_option maxRecDepth 100000 in
theorem ready_ok (h : Jp W O p q S J w) (hov : over S J = false) :
    Calls Try.prog 28 #[.pointer (some ⟨q, 0, none⟩)] w fun x w' => x = .returned (.int .i64 0) ∧ Ext w w' := by
  have c0 := h.j.c0
  have c4 := h.j.c4
  have c5 := h.j.c5
  simp only [over, Bool.or_eq_false_iff, decide_eq_false_iff_not, Decidable.not_not] at hov
  obtain ⟨⟨hd, hdn⟩, hst⟩ := hov
  rw [hd] at c5
  rw [← hst] at c4
  have U := Lib.hid (fun w' hx => k_up (h.d.ext hx) (b := true) (w := w') (by rw [hdn]; rfl))
  have T := Lib.hid (fun w' hx => k_starts (h.d.ext hx) (w := w') (z := S.starts) rfl)
  clear h hd hdn hst
  go_enter Try.func28, Try.ntmps28
  go_wp2_with fail
  go_quiet (first | (go_at_call 15; exact Calls.quiet_of_same ((U.out _ ((Ext.refl _).drewN _)).mono fun _ _ ⟨a, b⟩ => ⟨a, b.symm⟩)) | (go_at_call 26; exact Calls.quiet_of_same ((T.out _ ((Ext.refl _).drewN _)).mono fun _ _ ⟨a, b⟩ => ⟨a, b.symm⟩)))
  all_goals
    go_wp2
    go_ret
    exact ⟨rfl, (Ext.refl _).drewN _⟩
set_option maxHeartbeats 1000000 in
set_option maxRecDepth 100000 in
theorem ready_over (h : Jp W O p q S J w) (hov : over S J = true) :
    Calls Try.prog 28 #[.pointer (some ⟨q, 0, none⟩)] w fun x w' => x = .returned (.int .i64 61) ∧ Jp W O p q S { J with dead := true } w' := by
  have c0 := h.j.c0
  have c4 := h.j.c4
  have c5 := h.j.c5
  have f5 := h.j.fz 5
  have H := Lib.hid h
  cases hd : J.dead
  · rw [hd] at c5
    cases hdn : S.down
    · have hst : ¬ S.starts = J.starts := by
        simp only [over, hd, hdn, Bool.false_or, decide_eq_true_eq] at hov
        exact hov
      have U := Lib.hid (fun w' hx => k_up (h.d.ext hx) (b := true) (w := w') (by rw [hdn]; rfl))
      have T := Lib.hid (fun w' hx => k_starts (h.d.ext hx) (w := w') (z := S.starts) rfl)
      clear h hov hd hdn
      go_enter Try.func28, Try.ntmps28
      go_wp2_with fail
      go_quiet (first | (go_at_call 15; exact Calls.quiet_of_same ((U.out _ ((Ext.refl _).drewN _)).mono fun _ _ ⟨a, b⟩ => ⟨a, b.symm⟩)) | (go_at_call 26; exact Calls.quiet_of_same ((T.out _ ((Ext.refl _).drewN _)).mono fun _ _ ⟨a, b⟩ => ⟨a, b.symm⟩)))
      all_goals
        go_wp2
        go_ret
        exact ⟨rfl, (H.out.ext ((Ext.refl _).drewN nq)).dead true⟩
    · have U := Lib.hid (fun w' hx => k_up (h.d.ext hx) (b := false) (w := w') (by rw [hdn]; rfl))
      clear h hov hd hdn
      go_enter Try.func28, Try.ntmps28
      go_wp2_with fail
      go_quiet (first | (go_at_call 15; exact Calls.quiet_of_same ((U.out _ ((Ext.refl _).drewN _)).mono fun _ _ ⟨a, b⟩ => ⟨a, b.symm⟩)))
      all_goals
        go_wp2
        go_ret
        exact ⟨rfl, (H.out.ext ((Ext.refl _).drewN nq)).dead true⟩
  · rw [hd] at c5
    clear h hov hd
    go_enter Try.func28, Try.ntmps28
    go_wp2_with fail
    go_quiet (fail)
    all_goals
      go_wp2
      go_ret
      exact ⟨rfl, (H.out.ext ((Ext.refl _).drewN nq)).dead true⟩
end Go.Proofs.Ytajclcbclbppiaa
