/-
  The walks of ready, note, Append, Compact, Size, Entries.
  The walk of Append.
  The walk of Compact.
-/
import Derived.Test.YtajclcbclbppiaaGreatZ19
section
namespace Go.Proofs.YtajclcbclbppiaaGreat
open Go.RowKit Go.Maps Go.Dk Go.Rc Go.Jn Go.Shelf
variable {W w w' : World} {O O' F : Nat → Prop} {p q : Nat} {S S' : St} {J J' : Jo}
set_option maxHeartbeats 1000000 in
set_option maxRecDepth 100000 in
theorem jsize_is (h : Jp W O p q S J w) {z : Int} (hz : J.size = z) :
    Calls Tryz.prog 19 #[.pointer (some ⟨q, 0, none⟩)] w fun x w' => x = .returned (.int .i64 z) ∧ w = w' := by
  have c2 := h.j.c2
  rw [hz] at c2
  clear h
  go_enter Tryz.func19, Tryz.ntmps19
  go_wp2
  go_ret
  exact ⟨rfl, rfl⟩
set_option maxHeartbeats 1000000 in
set_option maxRecDepth 100000 in
theorem jentries_is (h : Jp W O p q S J w) {z : Int} (hz : J.many = z) :
    Calls Tryz.prog 20 #[.pointer (some ⟨q, 0, none⟩)] w fun x w' => x = .returned (.int .i64 z) ∧ w = w' := by
  have c3 := h.j.c3
  rw [hz] at c3
  clear h
  go_enter Tryz.func20, Tryz.ntmps20
  go_wp2
  go_ret
  exact ⟨rfl, rfl⟩
theorem JoAt.dead (h : JoAt w q p J) (b : Bool) : JoAt (w.setCell ⟨q, 5, none⟩ (.bool b)) q p { J with dead := b } where
  lt := by rw [setCell_size]; exact h.lt
  c0 := (World.cell?_setCell_other _ _ _ _ (by simp)).trans h.c0
  c1 := (World.cell?_setCell_other _ _ _ _ (by simp)).trans h.c1
  c2 := (World.cell?_setCell_other _ _ _ _ (by simp)).trans h.c2
  c3 := (World.cell?_setCell_other _ _ _ _ (by simp)).trans h.c3
  c4 := (World.cell?_setCell_other _ _ _ _ (by simp)).trans h.c4
  c5 := World.cell?_setCell_same _ _ _ h.c5
  fz := fun j => (World.frozen?_setCell _ _ _ _).trans (h.fz j)
theorem Jp.dead (h : Jp W O p q S J w) (b : Bool) : Jp W O p q S { J with dead := b } (w.setCell ⟨q, 5, none⟩ (.bool b)) :=
  h.set ((Fr.refl (fun k => k = q) w).setCell (p := ⟨q, 5, none⟩) (by intro _; rfl) _) (h.j.dead b)
set_option maxHeartbeats 1000000 in
set_option maxRecDepth 100000 in
theorem note_is (h : Jp W O p q S J w) (e : Int) :
    Calls Tryz.prog 52 #[.pointer (some ⟨q, 0, none⟩), .int .i64 e] w fun x w' => x = .returned (.int .i64 e) ∧ Jp W O p q S (told J e) w' := by
  have c5 := h.j.c5
  have f5 := h.j.fz 5
  have H := Lib.hid h
  clear h
  obtain ⟨d, hd⟩ : ∃ d, J.dead = d := ⟨_, rfl⟩
  rw [hd] at c5
  have ht : told J e = { J with dead := d || decide (e = 61) } := by unfold told; rw [hd]
  rw [ht]
  clear ht
  by_cases he : e = 61
  · subst he
    cases d
    all_goals
      go_enter Tryz.func52, Tryz.ntmps52
      go_wp2
      go_ret
      first | exact ⟨rfl, H.out.dead true⟩ | exact ⟨rfl, H.out.dead false⟩
  · have hb : decide (e = 61) = false := decide_eq_false he
    rw [hb]
    cases d
    all_goals
      go_enter Tryz.func52, Tryz.ntmps52
      go_wp2
      go_ret
      first | exact ⟨rfl, H.out.dead true⟩ | exact ⟨rfl, H.out.dead false⟩ | (rw [show (e == 61) = false from beq_false_of_ne he]; exact ⟨rfl, H.out.dead false⟩)
set_option maxHeartbeats 1000000 in
set_option maxRecDepth 100000 in
theorem ready_ok (h : Jp W O p q S J w) (hov : over S J = false) :
    Calls Tryz.prog 46 #[.pointer (some ⟨q, 0, none⟩)] w fun x w' => x = .returned (.int .i64 0) ∧ Ext w w' := by
  have c0 := h.j.c0
  have c4 := h.j.c4
  have c5 := h.j.c5
  simp only [over, Bool.or_eq_false_iff, decide_eq_false_iff_not, Decidable.not_not] at hov
  obtain ⟨⟨hd, hdn⟩, hst⟩ := hov
  rw [hd] at c5
  rw [← hst] at c4
  have U := Lib.hid (fun w' hx => k_up (h.d.ext hx) (b := true) (w := w') (by rw [hdn]; rfl))
  have T := Lib.hid (fun w' hx => k_starts (h.d.ext hx) (w := w') (z := S.starts) rfl)
  clear h hd hdn hst
  go_enter Tryz.func46, Tryz.ntmps46
  go_wp2_with fail
  go_quiet (first | (go_at_call 32; exact Calls.quiet_of_same ((U.out _ ((Ext.refl _).drewN _)).mono fun _ _ ⟨a, b⟩ => ⟨a, b.symm⟩)) | (go_at_call 37; exact Calls.quiet_of_same ((T.out _ ((Ext.refl _).drewN _)).mono fun _ _ ⟨a, b⟩ => ⟨a, b.symm⟩)))
  all_goals
    go_wp2
    go_ret
    exact ⟨rfl, (Ext.refl _).drewN _⟩
set_option maxHeartbeats 1000000 in
set_option maxRecDepth 100000 in
theorem ready_over (h : Jp W O p q S J w) (hov : over S J = true) :
    Calls Tryz.prog 46 #[.pointer (some ⟨q, 0, none⟩)] w fun x w' => x = .returned (.int .i64 61) ∧ Jp W O p q S { J with dead := true } w' := by
  have c0 := h.j.c0
  have c4 := h.j.c4
  have c5 := h.j.c5
  have f5 := h.j.fz 5
  have H := Lib.hid h
  cases hd : J.dead
  · rw [hd] at c5
    cases hdn : S.down
    · have hst : ¬ S.starts = J.starts := by
        simp only [over, hd, hdn, Bool.false_or, decide_eq_true_eq] at hov
        exact hov
      have U := Lib.hid (fun w' hx => k_up (h.d.ext hx) (b := true) (w := w') (by rw [hdn]; rfl))
      have T := Lib.hid (fun w' hx => k_starts (h.d.ext hx) (w := w') (z := S.starts) rfl)
      clear h hov hd hdn
      go_enter Tryz.func46, Tryz.ntmps46
      go_wp2_with fail
      go_quiet (first | (go_at_call 32; exact Calls.quiet_of_same ((U.out _ ((Ext.refl _).drewN _)).mono fun _ _ ⟨a, b⟩ => ⟨a, b.symm⟩)) | (go_at_call 37; exact Calls.quiet_of_same ((T.out _ ((Ext.refl _).drewN _)).mono fun _ _ ⟨a, b⟩ => ⟨a, b.symm⟩)))
      all_goals
        go_wp2
        go_ret
        exact ⟨rfl, (H.out.ext ((Ext.refl _).drewN nq)).dead true⟩
    · have U := Lib.hid (fun w' hx => k_up (h.d.ext hx) (b := false) (w := w') (by rw [hdn]; rfl))
      clear h hov hd hdn
      go_enter Tryz.func46, Tryz.ntmps46
      go_wp2_with fail
      go_quiet (first | (go_at_call 32; exact Calls.quiet_of_same ((U.out _ ((Ext.refl _).drewN _)).mono fun _ _ ⟨a, b⟩ => ⟨a, b.symm⟩)))
      all_goals
        go_wp2
        go_ret
        exact ⟨rfl, (H.out.ext ((Ext.refl _).drewN nq)).dead true⟩
  · rw [hd] at c5
    clear h hov hd
    go_enter Tryz.func46, Tryz.ntmps46
    go_wp2_with fail
    go_quiet (fail)
    all_goals
      go_wp2
      go_ret
      exact ⟨rfl, (H.out.ext ((Ext.refl _).drewN nq)).dead true⟩
end Go.Proofs.YtajclcbclbppiaaGreat
end
section
namespace Go.Proofs.YtajclcbclbppiaaGreat
open Go.RowKit Go.Maps Go.Dk Go.Rc Go.Jn Go.Shelf
variable {W w w' : World} {O O' F : Nat → Prop} {p q : Nat} {S S' : St} {J J' : Jo}
/-- A journal's numbers, so small that nothing wraps. -/
structure Small (J : Jo) : Prop where
  n0 : 0 ≤ J.n
  n1 : J.n ≤ 9223372036854775807
  s0 : 0 ≤ J.size
  s1 : J.size ≤ 4611686018427387904
  m0 : 0 ≤ J.many
  m1 : J.many ≤ 4611686018427387904
theorem Small.wf (h : Small J) : (Lit.int .i64 J.n).wf = true := wf_of ⟨h.n0, by have := h.n1; omega⟩
theorem JoAt.sized (h : JoAt w q p J) (z m : Int) : JoAt ((w.setCell ⟨q, 2, none⟩ (.int .i64 z)).setCell ⟨q, 3, none⟩ (.int .i64 m)) q p { J with size := z, many := m } where
  lt := by rw [setCell_size, setCell_size]; exact h.lt
  c0 := (World.cell?_setCell_other _ _ _ _ (by simp)).trans ((World.cell?_setCell_other _ _ _ _ (by simp)).trans h.c0)
  c1 := (World.cell?_setCell_other _ _ _ _ (by simp)).trans ((World.cell?_setCell_other _ _ _ _ (by simp)).trans h.c1)
  c2 := (World.cell?_setCell_other _ _ _ _ (by simp)).trans (World.cell?_setCell_same _ _ _ h.c2)
  c3 := World.cell?_setCell_same _ _ _ ((World.cell?_setCell_other _ _ _ _ (by simp)).trans h.c3)
  c4 := (World.cell?_setCell_other _ _ _ _ (by simp)).trans ((World.cell?_setCell_other _ _ _ _ (by simp)).trans h.c4)
  c5 := (World.cell?_setCell_other _ _ _ _ (by simp)).trans ((World.cell?_setCell_other _ _ _ _ (by simp)).trans h.c5)
  fz := fun j => (World.frozen?_setCell _ _ _ _).trans ((World.frozen?_setCell _ _ _ _).trans (h.fz j))
theorem Jp.sized (h : Jp W O p q S J w) (z m : Int) : Jp W O p q S { J with size := z, many := m } ((w.setCell ⟨q, 2, none⟩ (.int .i64 z)).setCell ⟨q, 3, none⟩ (.int .i64 m)) :=
  h.set (((Fr.refl (fun k => k = q) w).setCell (p := ⟨q, 2, none⟩) (by intro _; rfl) _).setCell (p := ⟨q, 3, none⟩) (by intro _; rfl) _) (h.j.sized z m)
set_option maxHeartbeats 1000000 in
set_option maxRecDepth 100000 in
theorem append_over (h : Jp W O p q S J w) (hov : over S J = true) (x : List UInt8) :
    Calls Tryz.prog 15 #[.pointer (some ⟨q, 0, none⟩), .string (ofL x)] w fun r w' => r = .returned (.int .i64 61) ∧ Jp W O p q S { J with dead := true } w' := by
  have R := Lib.hid (ready_over (h.ext ((Ext.refl w).alloc (.cells #[.pointer (some ⟨q, 0, none⟩)] 35))) hov)
  clear h hov
  go_enter Tryz.func15, Tryz.ntmps15
  go_wp2_with (go_at_call 46; (with_reducible refine R.out.mono ?_); rintro r w1 ⟨rfl, hJ⟩; have HJ := Lib.hid hJ; clear hJ)
  go_ret
  exact ⟨rfl, HJ.out⟩
set_option maxHeartbeats 1000000 in
set_option maxRecDepth 100000 in
theorem append_long (h : Jp W O p q S J w) (hov : over S J = false) {x : List UInt8} (h1 : 65536 < x.length) (h2 : x.length ≤ 16777216) :
    Calls Tryz.prog 15 #[.pointer (some ⟨q, 0, none⟩), .string (ofL x)] w fun r w' => r = .returned (.int .i64 3) ∧ Jp W O p q S J w' := by
  have R := Lib.hid (ready_ok (h.ext ((Ext.refl w).alloc (.cells #[.pointer (some ⟨q, 0, none⟩)] 35))) hov)
  have H := Lib.hid h
  have P := Lib.hid (fun w' => rput_no x w' h1 h2)
  clear h hov
  go_enter Tryz.func15, Tryz.ntmps15
  go_wp2_with (first | (go_at_call 46; (with_reducible refine R.out.mono ?_); rintro r w1 ⟨rfl, hx1⟩; have HX1 := Lib.hid hx1; clear hx1) | (go_at_call 47; (with_reducible refine (P.out _).mono ?_); rintro r w2 ⟨rfl, hx2⟩; have HX2 := Lib.hid hx2; clear hx2))
  go_ret
  exact ⟨rfl, H.out.ext (((((Ext.refl w).alloc _).trans HX1.out).trans HX2.out).alloc _)⟩
set_option maxHeartbeats 1000000 in
set_option maxRecDepth 100000 in
theorem append_full (h : Jp W O p q S J w) (hov : over S J = false) {x : List UInt8} (h1 : x.length ≤ 65536) (hf : S.cap - tot S.fs - (x.length + 8) < 70000) :
    Calls Tryz.prog 15 #[.pointer (some ⟨q, 0, none⟩), .string (ofL x)] w fun r w' => r = .returned (.int .i64 60) ∧ Jp W O p q S J w' := by
  have R := Lib.hid (ready_ok (h.ext ((Ext.refl w).alloc (.cells #[.pointer (some ⟨q, 0, none⟩)] 35))) hov)
  have H := Lib.hid h
  have P := Lib.hid (fun w' => rput_yes x w' h1)
  have hl : (recL x).length = x.length + 8 := recL_length x
  obtain ⟨X, hX⟩ : ∃ X, recL x = X := ⟨_, rfl⟩
  rw [hX] at P hl
  obtain ⟨z, hz⟩ : ∃ z : Int, S.cap - tot S.fs = z := ⟨_, rfl⟩
  have hb1 := h.ok.cap1
  have hb2 := h.ok.tot
  have hb3 := h.ok.cap0
  obtain ⟨xl, hxl⟩ : ∃ xl : Nat, X.length = xl := ⟨_, rfl⟩
  have hxb : xl ≤ 65544 := by omega
  have hw : IntKind.i64.wrap (z - (xl : Int)) = z - (xl : Int) := IntWalk.i64_in _ (by omega)
  have hlt : z - (xl : Int) < 70000 := by omega
  have FR := Lib.hid (fun w' hx => k_free (h.d.ext hx) (w := w') hz)
  have q0 := h.j.c0
  have hq := h.j.lt
  clear h hov hf hX hb1 hb2 hb3 hl
  go_enter Tryz.func15, Tryz.ntmps15
  go_wp2_with (first | (go_at_call 46; (with_reducible refine R.out.mono ?_); rintro r w1 ⟨rfl, hx1⟩; have HX1 := Lib.hid hx1; clear hx1) | (go_at_call 47; (with_reducible refine (P.out _).mono ?_); rintro r w2 ⟨rfl, hx2⟩; have HX2 := Lib.hid hx2; clear hx2))
  have hxw2 := (((Ext.refl w).alloc (.cells #[.pointer (some ⟨q, 0, none⟩)] 35)).trans HX1.out).trans HX2.out
  obtain ⟨V, hV⟩ : ∃ V, V = w2.alloc (.cells #[.string (ofL X)] 9) := ⟨_, rfl⟩
  have hx2V : Ext w2 V := by rw [hV]; exact (Ext.refl _).alloc _
  have hwV : Ext w V := hxw2.trans hx2V
  have hs2 : w.heap.size < w2.heap.size := by have := (HX1.out.trans HX2.out).size; simp at this; omega
  have hsV : V.heap.size = w2.heap.size + 1 := by rw [hV]; simp
  have d0 : ∀ w', Ext V w' → w'.cell? ⟨w.heap.size, 0, none⟩ = some (.pointer (some ⟨q, 0, none⟩)) := fun w' hx => (((HX1.out.trans HX2.out).trans hx2V).trans hx |>.cell (p := ⟨w.heap.size, 0, none⟩) (by simp)).trans (by simp)
  have d1 : ∀ w', Ext V w' → w'.cell? ⟨w2.heap.size, 0, none⟩ = some (.string (ofL X)) := fun w' hx => (hx.cell (p := ⟨w2.heap.size, 0, none⟩) (show w2.heap.size < V.heap.size by omega)).trans (by rw [hV]; simp)
  have d2 : ∀ w', Ext V w' → w'.cell? ⟨q, 0, none⟩ = some (.pointer (some ⟨p, 0, none⟩)) := fun w' hx => ((hwV.trans hx).cell (p := ⟨q, 0, none⟩) hq).trans q0
  rw [← hV]
  have FR1 := Lib.hid (FR.out V.drew (hwV.trans (Ext.refl _).drew))
  have HWV := Lib.hid hwV
  clear hV hwV hx2V hxw2
  go_region_held3 (fun w' => Ext V w') (first | exact Ext.drew (Ext.refl _) | assumption) (first | (go_at_call 28; (with_reducible refine FR1.out.mono ?_); rintro r w3 ⟨rfl, hx3⟩; have hx4 := ((Ext.refl V).drew).trans hx3; clear hx3))
  all_goals
    go_wp2_with fail
    go_ret
    exact ⟨rfl, H.out.ext (HWV.out.trans hx4)⟩
set_option maxHeartbeats 1000000 in
set_option maxRecDepth 100000 in
theorem append_yes (h : Jp W O p q S J w) (hsm : Small J) (hov : over S J = false) {x : List UInt8} (h1 : x.length ≤ 65536) (hf : ¬ S.cap - tot S.fs - (x.length + 8) < 70000) {e : Int} (hx : runs [fun S => append S J.n (recL x), fun S => sync S J.n] S = (S', e)) :
    Calls Tryz.prog 15 #[.pointer (some ⟨q, 0, none⟩), .string (ofL x)] w fun r w' => r = .returned (.int .i64 e) ∧ Jp W O p q S' (told (if e = 0 then { J with size := J.size + (x.length + 8), many := J.many + 1 } else J) e) w' := by
  have R := Lib.hid (ready_ok (h.ext ((Ext.refl w).alloc (.cells #[.pointer (some ⟨q, 0, none⟩)] 35))) hov)
  have H := Lib.hid h
  have P := Lib.hid (fun w' => rput_yes x w' h1)
  have hl : (recL x).length = x.length + 8 := recL_length x
  obtain ⟨X, hX⟩ : ∃ X, recL x = X := ⟨_, rfl⟩
  rw [hX] at P hl
  obtain ⟨z, hz⟩ : ∃ z : Int, S.cap - tot S.fs = z := ⟨_, rfl⟩
  have hb1 := h.ok.cap1
  have hb2 := h.ok.tot
  have hb3 := h.ok.cap0
  obtain ⟨xl, hxl⟩ : ∃ xl : Nat, X.length = xl := ⟨_, rfl⟩
  have hxb : xl ≤ 65544 := by omega
  have hw : IntKind.i64.wrap (z - (xl : Int)) = z - (xl : Int) := IntWalk.i64_in _ (by omega)
  have hlt : ¬ z - (xl : Int) < 70000 := by omega
  rw [show (x.length : Int) + 8 = (xl : Int) by omega]
  rw [hX] at hx
  have FR := Lib.hid (fun w' hx => k_free (h.d.ext hx) (w := w') hz)
  have q0 := h.j.c0
  have hq := h.j.lt
  clear h hov hf hX hb1 hb2 hb3 hl
  go_enter Tryz.func15, Tryz.ntmps15
  go_wp2_with (first | (go_at_call 46; (with_reducible refine R.out.mono ?_); rintro r w1 ⟨rfl, hx1⟩; have HX1 := Lib.hid hx1; clear hx1) | (go_at_call 47; (with_reducible refine (P.out _).mono ?_); rintro r w2 ⟨rfl, hx2⟩; have HX2 := Lib.hid hx2; clear hx2))
  have hxw2 := (((Ext.refl w).alloc (.cells #[.pointer (some ⟨q, 0, none⟩)] 35)).trans HX1.out).trans HX2.out
  obtain ⟨V, hV⟩ : ∃ V, V = w2.alloc (.cells #[.string (ofL X)] 9) := ⟨_, rfl⟩
  have hx2V : Ext w2 V := by rw [hV]; exact (Ext.refl _).alloc _
  have hwV : Ext w V := hxw2.trans hx2V
  have hs2 : w.heap.size < w2.heap.size := by have := (HX1.out.trans HX2.out).size; simp at this; omega
  have hsV : V.heap.size = w2.heap.size + 1 := by rw [hV]; simp
  have d0 : ∀ w', Ext V w' → w'.cell? ⟨w.heap.size, 0, none⟩ = some (.pointer (some ⟨q, 0, none⟩)) := fun w' hx => (((HX1.out.trans HX2.out).trans hx2V).trans hx |>.cell (p := ⟨w.heap.size, 0, none⟩) (by simp)).trans (by simp)
  have d1 : ∀ w', Ext V w' → w'.cell? ⟨w2.heap.size, 0, none⟩ = some (.string (ofL X)) := fun w' hx => (hx.cell (p := ⟨w2.heap.size, 0, none⟩) (show w2.heap.size < V.heap.size by omega)).trans (by rw [hV]; simp)
  have d2 : ∀ w', Ext V w' → w'.cell? ⟨q, 0, none⟩ = some (.pointer (some ⟨p, 0, none⟩)) := fun w' hx => ((hwV.trans hx).cell (p := ⟨q, 0, none⟩) hq).trans q0
  rw [← hV]
  have FR1 := Lib.hid (FR.out V.drew (hwV.trans (Ext.refl _).drew))
  have HWV := Lib.hid hwV
  clear hV hwV hx2V hxw2
  go_region_held3 (fun w' => Ext V w') (first | exact Ext.drew (Ext.refl _) | assumption) (first | (go_at_call 28; (with_reducible refine FR1.out.mono ?_); rintro r w3 ⟨rfl, hx3⟩; have hx4 := ((Ext.refl V).drew).trans hx3; clear hx3))
  all_goals
    obtain ⟨V2, hV2⟩ : ∃ V2, V2 = w3.alloc (.cells #[.func (.func 49) #[] #[.pointer (some ⟨w.heap.size, 0, none⟩), .pointer (some ⟨w2.heap.size, 0, none⟩)], .func (.func 50) #[] #[.pointer (some ⟨w.heap.size, 0, none⟩)]] 67) := ⟨_, rfl⟩
    have hVV : Ext V V2 := by rw [hV2]; exact hx4.alloc _
    have hwV2 : Ext w V2 := HWV.out.trans hVV
    have hs3 := hx4.size
    have hs4 : V2.heap.size = w3.heap.size + 1 := by rw [hV2]; simp
    have hD := H.out.d.news hwV2
    have hU := hD.under
    have o2 : New (WithO O q) w V2 w.heap.size := .inr ⟨Nat.le_refl _, by omega⟩
    have o6 : New (WithO O q) w V2 w2.heap.size := .inr ⟨by omega, by omega⟩
    have o7 : New (WithO O q) w V2 w3.heap.size := .inr ⟨by omega, by omega⟩
    have oq : New (WithO O q) w V2 q := .inl (.inr rfl)
    have q1 := (hwV2.cell (p := ⟨q, 1, none⟩) hq).trans H.out.j.c1
    have A := Lib.hid (all_is (ao := some ⟨w3.heap.size, 0, none⟩) (n := 2) (cap := 2) (Steps.cons (japp1_step hU o2 o6 oq (d0 _ hVV) (d1 _ hVV) (d2 _ hVV) q1 hsm.wf) (Steps.cons (japp2_step hU o2 oq (d0 _ hVV) (d2 _ hVV) q1 hsm.wf) (Steps.nil V2 (New (WithO O q) w V2) p))) rfl (lit_row (t := 67) _ 2 rfl (by omega) (by rw [hV2]; exact heap_alloc_new _ _)) (fun g hg => by cases hg; exact o7) (by omega) hD hx)
    have e2 := d0 _ hVV
    have e6 := d1 _ hVV
    clear hD hU d0 d1 d2 q1 q0 hx4 hVV
    subst hV2
    have hw2 : IntKind.i64.wrap (J.size + (xl : Int)) = J.size + (xl : Int) := IntWalk.i64_in _ (by have := hsm.s0; have := hsm.s1; omega)
    have hw3 : IntKind.i64.wrap (J.many + 1) = J.many + 1 := IntWalk.i64_in _ (by have := hsm.m0; have := hsm.m1; omega)
    by_cases he : e = 0
    · subst he
      go_wp2_with (go_at_call 48; (with_reducible refine A.out.mono ?_); rintro r w4 ⟨rfl, hD4⟩; have HJ4 := Lib.hid (H.out.disk (H.out.d.back hwV2 hD4 (fun k hk => .inl hk))); have g2 := (hD4.fr.cell (p := ⟨w.heap.size, 0, none⟩) (by simp; omega) (fun h => h o2)).trans e2; have g6 := (hD4.fr.cell (p := ⟨w2.heap.size, 0, none⟩) (by simp; omega) (fun h => h o6)).trans e6; have q2 := HJ4.out.j.c2; have q3 := HJ4.out.j.c3; have qf2 := HJ4.out.j.fz 2; have qf3 := HJ4.out.j.fz 3; clear hD4 e2 e6)
      go_region
      all_goals
        go_wp2_with (go_at_call 52; (with_reducible refine (note_is ((HJ4.out.sized (J.size + xl) (J.many + 1)).ext (Ext.refl _).drew) 0).mono ?_); rintro r w5 ⟨rfl, hJ5⟩; have HJ5 := Lib.hid hJ5; clear hJ5)
        go_ret
        exact ⟨rfl, HJ5.out⟩
    · go_wp2_with (first | (go_at_call 48; (with_reducible refine A.out.mono ?_); rintro r w4 ⟨rfl, hD4⟩; have HJ4 := Lib.hid (H.out.disk (H.out.d.back hwV2 hD4 (fun k hk => .inl hk))); have g2 := (hD4.fr.cell (p := ⟨w.heap.size, 0, none⟩) (by simp; omega) (fun h => h o2)).trans e2; clear hD4 e2 e6) | (go_at_call 52; (with_reducible refine (note_is HJ4.out e).mono ?_); rintro r w5 ⟨rfl, hJ5⟩; have HJ5 := Lib.hid hJ5; clear hJ5))
      go_ret
      exact ⟨rfl, HJ5.out⟩
/-- Append. -/
theorem append_j (h : Jp W O p q S J w) (hsm : Small J) {x : List UInt8} (hx : x.length ≤ 16777216) {e : Int} (hr : appendJ S J x = (S', J', e)) :
    Calls Tryz.prog 15 #[.pointer (some ⟨q, 0, none⟩), .string (ofL x)] w fun r w' => r = .returned (.int .i64 e) ∧ Jp W O p q S' J' w' := by
  unfold appendJ at hr
  cases hov : over S J
  · rw [hov] at hr
    rw [if_neg (by decide)] at hr
    by_cases h1 : 65536 < x.length
    · rw [if_pos h1] at hr
      cases hr
      exact append_long h hov h1 hx
    · rw [if_neg h1] at hr
      by_cases hf : S.cap - tot S.fs - (x.length + 8) < 70000
      · rw [if_pos hf] at hr
        cases hr
        exact append_full h hov (by omega) hf
      · rw [if_neg hf] at hr
        obtain ⟨S1, e1, hx1⟩ : ∃ S1 e1, runs [fun S => append S J.n (recL x), fun S => sync S J.n] S = (S1, e1) := ⟨_, _, rfl⟩
        rw [hx1] at hr
        cases hr
        exact append_yes h hsm hov (by omega) hf hx1
  · rw [hov] at hr
    rw [if_pos rfl] at hr
    cases hr
    exact append_over h hov x
end Go.Proofs.YtajclcbclbppiaaGreat
end
section
namespace Go.Jn
open Go.Dk Go.Rc
/-- Compact, where the file that is next is told. -/
def compactN (S : St) (J : Jo) (x : List UInt8) (t : Int) : St × Jo × Int :=
  if over S J then (S, { J with dead := true }, 61) else if 65536 < x.length then (S, J, 3) else if S.cap - tot S.fs < x.length + 8 then (S, J, 60) else
    let y := runs (lays t (recL x)) S
    if y.2 ≠ 0 then (y.1, told J y.2, y.2) else
      let z := delete y.1 J.n
      (z.1, told { J with n := t, size := x.length + 8, many := 0 } z.2, z.2)
theorem compactN_next (S : St) (J : Jo) (x : List UInt8) : compactN S J x (J.n + 1) = compactJ S J x := rfl
end Go.Jn
namespace Go.Proofs.YtajclcbclbppiaaGreat
open Go.RowKit Go.Maps Go.Dk Go.Rc Go.Jn Go.Shelf
variable {W w w' : World} {O O' F : Nat → Prop} {p q : Nat} {S S' S1 : St} {J J' : Jo}
theorem JoAt.moved (h : JoAt w q p J) (n z m : Int) : JoAt (((w.setCell ⟨q, 1, none⟩ (.int .i64 n)).setCell ⟨q, 2, none⟩ (.int .i64 z)).setCell ⟨q, 3, none⟩ (.int .i64 m)) q p { J with n := n, size := z, many := m } where
  lt := by rw [setCell_size, setCell_size, setCell_size]; exact h.lt
  c0 := (World.cell?_setCell_other _ _ _ _ (by simp)).trans ((World.cell?_setCell_other _ _ _ _ (by simp)).trans ((World.cell?_setCell_other _ _ _ _ (by simp)).trans h.c0))
  c1 := (World.cell?_setCell_other _ _ _ _ (by simp)).trans ((World.cell?_setCell_other _ _ _ _ (by simp)).trans (World.cell?_setCell_same _ _ _ h.c1))
  c2 := (World.cell?_setCell_other _ _ _ _ (by simp)).trans (World.cell?_setCell_same _ _ _ ((World.cell?_setCell_other _ _ _ _ (by simp)).trans h.c2))
  c3 := World.cell?_setCell_same _ _ _ ((World.cell?_setCell_other _ _ _ _ (by simp)).trans ((World.cell?_setCell_other _ _ _ _ (by simp)).trans h.c3))
  c4 := (World.cell?_setCell_other _ _ _ _ (by simp)).trans ((World.cell?_setCell_other _ _ _ _ (by simp)).trans ((World.cell?_setCell_other _ _ _ _ (by simp)).trans h.c4))
  c5 := (World.cell?_setCell_other _ _ _ _ (by simp)).trans ((World.cell?_setCell_other _ _ _ _ (by simp)).trans ((World.cell?_setCell_other _ _ _ _ (by simp)).trans h.c5))
  fz := fun j => (World.frozen?_setCell _ _ _ _).trans ((World.frozen?_setCell _ _ _ _).trans ((World.frozen?_setCell _ _ _ _).trans (h.fz j)))
theorem Jp.moved (h : Jp W O p q S J w) (n z m : Int) : Jp W O p q S { J with n := n, size := z, many := m } (((w.setCell ⟨q, 1, none⟩ (.int .i64 n)).setCell ⟨q, 2, none⟩ (.int .i64 z)).setCell ⟨q, 3, none⟩ (.int .i64 m)) :=
  h.set ((((Fr.refl (fun k => k = q) w).setCell (p := ⟨q, 1, none⟩) (by intro _; rfl) _).setCell (p := ⟨q, 2, none⟩) (by intro _; rfl) _).setCell (p := ⟨q, 3, none⟩) (by intro _; rfl) _) (h.j.moved n z m)
set_option maxHeartbeats 1000000 in
set_option maxRecDepth 100000 in
theorem compact_over (h : Jp W O p q S J w) (hov : over S J = true) (x : List UInt8) :
    Calls Tryz.prog 17 #[.pointer (some ⟨q, 0, none⟩), .string (ofL x)] w fun r w' => r = .returned (.int .i64 61) ∧ Jp W O p q S { J with dead := true } w' := by
  have R := Lib.hid (ready_over h hov)
  clear h hov
  go_enter Tryz.func17, Tryz.ntmps17
  go_wp2_with (go_at_call 46; (with_reducible refine R.out.mono ?_); rintro r w1 ⟨rfl, hJ⟩; have HJ := Lib.hid hJ; clear hJ)
  go_ret
  exact ⟨rfl, HJ.out⟩
set_option maxHeartbeats 1000000 in
set_option maxRecDepth 100000 in
theorem compact_long (h : Jp W O p q S J w) (hov : over S J = false) {x : List UInt8} (h1 : 65536 < x.length) (h2 : x.length ≤ 16777216) :
    Calls Tryz.prog 17 #[.pointer (some ⟨q, 0, none⟩), .string (ofL x)] w fun r w' => r = .returned (.int .i64 3) ∧ Jp W O p q S J w' := by
  have R := Lib.hid (ready_ok h hov)
  have H := Lib.hid h
  have P := Lib.hid (fun w' => rput_no x w' h1 h2)
  clear h hov
  go_enter Tryz.func17, Tryz.ntmps17
  go_wp2_with (first | (go_at_call 46; (with_reducible refine R.out.mono ?_); rintro r w1 ⟨rfl, hx1⟩; have HX1 := Lib.hid hx1; clear hx1) | (go_at_call 47; (with_reducible refine (P.out _).mono ?_); rintro r w2 ⟨rfl, hx2⟩; have HX2 := Lib.hid hx2; clear hx2))
  go_ret
  exact ⟨rfl, H.out.ext (HX1.out.trans HX2.out)⟩
set_option maxHeartbeats 1000000 in
set_option maxRecDepth 100000 in
theorem compact_full (h : Jp W O p q S J w) (hov : over S J = false) {x : List UInt8} (h1 : x.length ≤ 65536) (hf : S.cap - tot S.fs < x.length + 8) :
    Calls Tryz.prog 17 #[.pointer (some ⟨q, 0, none⟩), .string (ofL x)] w fun r w' => r = .returned (.int .i64 60) ∧ Jp W O p q S J w' := by
  have R := Lib.hid (ready_ok h hov)
  have H := Lib.hid h
  have P := Lib.hid (fun w' => rput_yes x w' h1)
  have hl : (recL x).length = x.length + 8 := recL_length x
  obtain ⟨X, hX⟩ : ∃ X, recL x = X := ⟨_, rfl⟩
  rw [hX] at P hl
  obtain ⟨z, hz⟩ : ∃ z : Int, S.cap - tot S.fs = z := ⟨_, rfl⟩
  obtain ⟨xl, hxl⟩ : ∃ xl : Nat, X.length = xl := ⟨_, rfl⟩
  have hlt : z < (xl : Int) := by omega
  have FR := Lib.hid (fun w' hx => k_free (h.d.ext hx) (w := w') hz)
  have q0 := fun w' (hx : Ext w w') => (hx.cell (p := ⟨q, 0, none⟩) h.j.lt).trans h.j.c0
  clear h hov hf hX hl
  go_enter Tryz.func17, Tryz.ntmps17
  go_wp2_with (first | (go_at_call 46; (with_reducible refine R.out.mono ?_); rintro r w1 ⟨rfl, hx1⟩; have HX1 := Lib.hid hx1; clear hx1) | (go_at_call 47; (with_reducible refine (P.out _).mono ?_); rintro r w2 ⟨rfl, hx2⟩; have g0 := q0 _ (HX1.out.trans hx2); have HX2 := Lib.hid (HX1.out.trans hx2); clear hx2 q0) | (go_at_call 28; (with_reducible refine (FR.out _ HX2.out).mono ?_); rintro r w3 ⟨rfl, hx3⟩; have HX3 := Lib.hid (HX2.out.trans hx3); clear hx3))
  go_ret
  exact ⟨rfl, H.out.ext HX3.out⟩
section
variable {x : List UInt8} {e t : Int}
set_option maxHeartbeats 1000000 in
set_option maxRecDepth 100000 in
theorem compact_yes (h : Jp W O p q S J w) (hsm : Small J) (hwn : IntKind.i64.wrap (J.n + 1) = t) (hwf : (Lit.int .i64 t).wf = true) (hov : over S J = false) (h1 : x.length ≤ 65536) (hf : ¬ S.cap - tot S.fs < x.length + 8) (hx : runs (lays t (recL x)) S = (S1, e)) :
    Calls Tryz.prog 17 #[.pointer (some ⟨q, 0, none⟩), .string (ofL x)] w fun r w' => (e ≠ 0 ∧ r = .returned (.int .i64 e) ∧ Jp W O p q S1 (told J e) w') ∨ (e = 0 ∧ r = .returned (.int .i64 (delete S1 J.n).2) ∧ Jp W O p q (delete S1 J.n).1 (told { J with n := t, size := x.length + 8, many := 0 } (delete S1 J.n).2) w') := by
  have R := Lib.hid (ready_ok h hov)
  have H := Lib.hid h
  have P := Lib.hid (fun w' => rput_yes x w' h1)
  have hl : (recL x).length = x.length + 8 := recL_length x
  obtain ⟨X, hX⟩ : ∃ X, recL x = X := ⟨_, rfl⟩
  rw [hX] at P hl hx
  obtain ⟨z, hz⟩ : ∃ z : Int, S.cap - tot S.fs = z := ⟨_, rfl⟩
  obtain ⟨xl, hxl⟩ : ∃ xl : Nat, X.length = xl := ⟨_, rfl⟩
  have hlt : ¬ z < (xl : Int) := by omega
  rw [show (x.length : Int) + 8 = (xl : Int) by omega]
  have hwf0 := hsm.wf
  have FR := Lib.hid (fun w' hx => k_free (h.d.ext hx) (w := w') hz)
  have q0 := fun w' (hx : Ext w w') => (hx.cell (p := ⟨q, 0, none⟩) h.j.lt).trans h.j.c0
  have hq := h.j.lt
  obtain ⟨S2, e2, hdel⟩ : ∃ S2 e2, delete S1 J.n = (S2, e2) := ⟨_, _, rfl⟩
  rw [hdel]
  clear h hov hf hX hl
  go_enter Tryz.func17, Tryz.ntmps17
  go_wp2_with (first | (go_at_call 46; (with_reducible refine R.out.mono ?_); rintro r w1 ⟨rfl, hx1⟩; have HX1 := Lib.hid hx1; clear hx1) | (go_at_call 47; (with_reducible refine (P.out _).mono ?_); rintro r w2 ⟨rfl, hx2⟩; have g0 := q0 _ (HX1.out.trans hx2); have HX2 := Lib.hid (HX1.out.trans hx2); clear hx2 q0) | (go_at_call 28; (with_reducible refine (FR.out _ HX2.out).mono ?_); rintro r w3 ⟨rfl, hx3⟩; have HJ3 := Lib.hid (H.out.ext (HX2.out.trans hx3)); clear hx3))
  have hJ3 := HJ3.out
  have d0 : ∀ w', Fr (fun k => ¬ WithO O q k) w3 w' → w'.cell? ⟨q, 0, none⟩ = some (.pointer (some ⟨p, 0, none⟩)) := fun w' hf => (hf.cell (p := ⟨q, 0, none⟩) hJ3.j.lt (fun h => h (.inr rfl))).trans hJ3.j.c0
  have d1 : ∀ w', Fr (fun k => ¬ WithO O q k) w3 w' → w'.cell? ⟨q, 1, none⟩ = some (.int .i64 J.n) := fun w' hf => (hf.cell (p := ⟨q, 1, none⟩) hJ3.j.lt (fun h => h (.inr rfl))).trans hJ3.j.c1
  have L := Lib.hid (lay_is (hJ3.d.ext (Ext.refl _).drew) hwf hx)
  clear hJ3
  go_region_held3 (fun w' => Fr (fun k => ¬ WithO O q k) w3 w') (first | exact Fr.drew (Fr.refl _ _) | assumption) (first | (go_at_call 56; (with_reducible refine L.out.mono ?_); rintro r w4 ⟨rfl, hD4⟩; have hF4 := hD4.fr; have HJ4 := Lib.hid (HJ3.out.disk hD4); clear hD4))
  all_goals
    have q1 := HJ4.out.j.c1
    have q2 := HJ4.out.j.c2
    have q3 := HJ4.out.j.c3
    have f1 := HJ4.out.j.fz 1
    have f2 := HJ4.out.j.fz 2
    have f3 := HJ4.out.j.fz 3
    have k0 := HJ4.out.j.c0
    clear d0 d1
    by_cases he : e = 0
    · subst he
      go_wp2_with (first | (go_at_call 57; (with_reducible refine (k_delete (HJ4.out.moved t xl 0).d hwf0 hdel).mono ?_); rintro r w5 ⟨rfl, hD5⟩; have HJ5 := Lib.hid ((HJ4.out.moved t xl 0).disk hD5); clear hD5) | (go_at_call 52; (with_reducible refine (note_is HJ5.out e2).mono ?_); rintro r w6 ⟨rfl, hJ6⟩; have HJ6 := Lib.hid hJ6; clear hJ6))
      go_ret
      exact ⟨rfl, HJ6.out⟩
    · go_wp2_with (go_at_call 52; (with_reducible refine (note_is HJ4.out e).mono ?_); rintro r w6 ⟨rfl, hJ6⟩; have HJ6 := Lib.hid hJ6; clear hJ6)
      go_ret
      exact .inl ⟨he, rfl, HJ6.out⟩
/-- Compact. -/
theorem compact_n (h : Jp W O p q S J w) (hsm : Small J) (hwn : IntKind.i64.wrap (J.n + 1) = t) (hwf : (Lit.int .i64 t).wf = true) (hx : x.length ≤ 16777216) (hr : compactN S J x t = (S', J', e)) :
    Calls Tryz.prog 17 #[.pointer (some ⟨q, 0, none⟩), .string (ofL x)] w fun r w' => r = .returned (.int .i64 e) ∧ Jp W O p q S' J' w' := by
  unfold compactN at hr
  cases hov : over S J
  · rw [hov] at hr
    rw [if_neg (by decide)] at hr
    by_cases h1 : 65536 < x.length
    · rw [if_pos h1] at hr
      cases hr
      exact compact_long h hov h1 hx
    · rw [if_neg h1] at hr
      by_cases hf : S.cap - tot S.fs < x.length + 8
      · rw [if_pos hf] at hr
        cases hr
        exact compact_full h hov (by omega) hf
      · rw [if_neg hf] at hr
        obtain ⟨S1, e1, hx1⟩ : ∃ S1 e1, runs (lays t (recL x)) S = (S1, e1) := ⟨_, _, rfl⟩
        rw [hx1] at hr
        refine (compact_yes h hsm hwn hwf hov (by omega) hf hx1).mono fun r w' hq => ?_
        by_cases he : e1 = 0
        · subst he
          rcases hq with ⟨h0, _⟩ | ⟨_, rfl, h3⟩
          · exact absurd rfl h0
          · rw [if_neg (by simp)] at hr
            cases hr
            exact ⟨rfl, h3⟩
        · rcases hq with ⟨_, rfl, h3⟩ | ⟨h0, _⟩
          · rw [if_pos he] at hr
            cases hr
            exact ⟨rfl, h3⟩
          · exact absurd h0 he
  · rw [hov] at hr
    rw [if_pos rfl] at hr
    cases hr
    exact compact_over h hov x
theorem compact_j (h : Jp W O p q S J w) (hsm : Small J) (hn : J.n ≤ 4611686018427387904) (hx : x.length ≤ 16777216) (hr : compactJ S J x = (S', J', e)) :
    Calls Tryz.prog 17 #[.pointer (some ⟨q, 0, none⟩), .string (ofL x)] w fun r w' => r = .returned (.int .i64 e) ∧ Jp W O p q S' J' w' :=
  compact_n h hsm (IntWalk.i64_in _ (by have := hsm.n0; omega)) (wf_of (n := J.n + 1) ⟨by have := hsm.n0; omega, by omega⟩) hx ((compactN_next S J x).trans hr)
end
end Go.Proofs.YtajclcbclbppiaaGreat
end
