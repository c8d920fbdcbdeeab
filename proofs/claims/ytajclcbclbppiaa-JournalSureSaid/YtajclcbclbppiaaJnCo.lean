/-
  The walk of Compact.
-/
import Derived.Test.YtajclcbclbppiaaJnAp
namespace Go.Proofs.Ytajclcbclbppiaa
open Go.RowKit Go.Maps Go.Dk Go.Rc Go.Jn Go.Shelf
variable {W w w' : World} {O O' F : Nat → Prop} {p q : Nat} {S S' S1 : St} {J J' : Jo}
theorem JoAt.moved (h : JoAt w q p J) (n z m : Int) : JoAt (((w.setCell ⟨q, 1, none⟩ (.int .i64 n)).setCell ⟨q, 2, none⟩ (.int .i64 z)).setCell ⟨q, 3, none⟩ (.int .i64 m)) q p { J with n := n, size := z, many := m } where
  lt := by rw [setCell_size, setCell_size, setCell_size]; exact h.lt
  c0 := (World.cell?_setCell_other _ _ _ _ (by simp)).trans ((World.cell?_setCell_other _ _ _ _ (by simp)).trans ((World.cell?_setCell_other _ _ _ _ (by simp)).trans h.c0))
  c1 := (World.cell?_setCell_other _ _ _ _ (by simp)).trans ((World.cell?_setCell_other _ _ _ _ (by simp)).trans (World.cell?_setCell_same _ _ _ h.c1))
  c2 := (World.cell?_setCell_other _ _ _ _ (by simp)).trans (World.cell?_setCell_same _ _ _ ((World.cell?_setCell_other _ _ _ _ (by simp)).trans h.c2))
  c3 := World.cell?_setCell_same _ _ _ ((World.cell?_setCell_other _ _ _ _ (by simp)).trans ((World.cell?_setCell_other _ _ _ _ (by simp)).trans h.c3))
  c4 := (World.cell?_setCell_other _ _ _ _ (by simp)).trans ((World.cell?_setCell_other _ _ _ _ (by simp)).trans ((World.cell?_setCell_other _ _ _ _ (by simp)).trans h.c4))
  c5 := (World.cell?_setCell_other _ _ _ _ (by simp)).trans ((World.cell?_setCell_other _ _ _ _ (by simp)).trans ((World.cell?_setCell_other _ _ _ _ (by simp)).trans h.c5))
  fz := fun j => (World.frozen?_setCell _ _ _ _).trans ((World.frozen?_setCell _ _ _ _).trans ((World.frozen?_setCell _ _ _ _).trans (h.fz j)))
theorem Jp.moved (h : Jp W O p q S J w) (n z m : Int) : Jp W O p q S { J with n := n, size := z, many := m } (((w.setCell ⟨q, 1, none⟩ (.int .i64 n)).setCell ⟨q, 2, none⟩ (.int .i64 z)).setCell ⟨q, 3, none⟩ (.int .i64 m)) :=
  h.set ((((Fr.refl (fun k => k = q) w).setCell (p := ⟨q, 1, none⟩) (by intro _; rfl) _).setCell (p := ⟨q, 2, none⟩) (by intro _; rfl) _).setCell (p := ⟨q, 3, none⟩) (by intro _; rfl) _) (h.j.moved n z m)
set_option maxHeartbeats 1000000 in
set_option maxRecDepth 100000 in
theorem compact_over (h : Jp W O p q S J w) (hov : over S J = true) (x : List UInt8) :
    Calls Try.prog 10 #[.pointer (some ⟨q, 0, none⟩), .string (ofL x)] w fun r w' => r = .returned (.int .i64 61) ∧ Jp W O p q S { J with dead := true } w' := by
  have R := Lib.hid (ready_over h hov)
  clear h hov
  go_enter Try.func10, Try.ntmps10
  go_wp2_with (go_at_call 28; (with_reducible refine R.out.mono ?_); rintro r w1 ⟨rfl, hJ⟩; have HJ := Lib.hid hJ; clear hJ)
  go_ret
  exact ⟨rfl, HJ.out⟩
set_option maxHeartbeats 1000000 in
set_option maxRecDepth 100000 in
theorem compact_long (h : Jp W O p q S J w) (hov : over S J = false) {x : List UInt8} (h1 : 65536 < x.length) (h2 : x.length ≤ 16777216) :
    Calls Try.prog 10 #[.pointer (some ⟨q, 0, none⟩), .string (ofL x)] w fun r w' => r = .returned (.int .i64 3) ∧ Jp W O p q S J w' := by
  have R := Lib.hid (ready_ok h hov)
  have H := Lib.hid h
  have P := Lib.hid (fun w' => rput_no x w' h1 h2)
  clear h hov
  go_enter Try.func10, Try.ntmps10
  go_wp2_with (first | (go_at_call 28; (with_reducible refine R.out.mono ?_); rintro r w1 ⟨rfl, hx1⟩; have HX1 := Lib.hid hx1; clear hx1) | (go_at_call 29; (with_reducible refine (P.out _).mono ?_); rintro r w2 ⟨rfl, hx2⟩; have HX2 := Lib.hid hx2; clear hx2))
  go_ret
  exact ⟨rfl, H.out.ext (HX1.out.trans HX2.out)⟩
set_option maxHeartbeats 1000000 in
set_option maxRecDepth 100000 in
theorem compact_full (h : Jp W O p q S J w) (hov : over S J = false) {x : List UInt8} (h1 : x.length ≤ 65536) (hf : S.cap - tot S.fs < x.length + 8) :
    Calls Try.prog 10 #[.pointer (some ⟨q, 0, none⟩), .string (ofL x)] w fun r w' => r = .returned (.int .i64 60) ∧ Jp W O p q S J w' := by
  have R := Lib.hid (ready_ok h hov)
  have H := Lib.hid h
  have P := Lib.hid (fun w' => rput_yes x w' h1)
  have hl : (recL x).length = x.length + 8 := recL_length x
  obtain ⟨X, hX⟩ : ∃ X, recL x = X := ⟨_, rfl⟩
  rw [hX] at P hl
  obtain ⟨z, hz⟩ : ∃ z : Int, S.cap - tot S.fs = z := ⟨_, rfl⟩
  obtain ⟨xl, hxl⟩ : ∃ xl : Nat, X.length = xl := ⟨_, rfl⟩
  have hlt : z < (xl : Int) := by omega
  have FR := Lib.hid (fun w' hx => k_free (h.d.ext hx) (w := w') hz)
  have q0 := fun w' (hx : Ext w w') => (hx.cell (p := ⟨q, 0, none⟩) h.j.lt).trans h.j.c0
  clear h hov hf hX hl
  go_enter Try.func10, Try.ntmps10
  go_wp2_with (first | (go_at_call 28; (with_reducible refine R.out.mono ?_); rintro r w1 ⟨rfl, hx1⟩; have HX1 := Lib.hid hx1; clear hx1) | (go_at_call 29; (with_reducible refine (P.out _).mono ?_); rintro r w2 ⟨rfl, hx2⟩; have g0 := q0 _ (HX1.out.trans hx2); have HX2 := Lib.hid (HX1.out.trans hx2); clear hx2 q0) | (go_at_call 20; (with_reducible refine (FR.out _ HX2.out).mono ?_); rintro r w3 ⟨rfl, hx3⟩; have HX3 := Lib.hid (HX2.out.trans hx3); clear hx3))
  go_ret
  exact ⟨rfl, H.out.ext HX3.out⟩
section
variable {x : List UInt8} {e : Int}
set_option maxHeartbeats 1000000 in
set_option maxRecDepth 100000 in
theorem compact_yes (h : Jp W O p q S J w) (hsm : Small J) (hov : over S J = false) (h1 : x.length ≤ 65536) (hf : ¬ S.cap - tot S.fs < x.length + 8) (hx : runs (lays (J.n + 1) (recL x)) S = (S1, e)) :
    Calls Try.prog 10 #[.pointer (some ⟨q, 0, none⟩), .string (ofL x)] w fun r w' => (e ≠ 0 ∧ r = .returned (.int .i64 e) ∧ Jp W O p q S1 (told J e) w') ∨ (e = 0 ∧ r = .returned (.int .i64 (delete S1 J.n).2) ∧ Jp W O p q (delete S1 J.n).1 (told { J with n := J.n + 1, size := x.length + 8, many := 0 } (delete S1 J.n).2) w') := by
  have R := Lib.hid (ready_ok h hov)
  have H := Lib.hid h
  have P := Lib.hid (fun w' => rput_yes x w' h1)
  have hl : (recL x).length = x.length + 8 := recL_length x
  obtain ⟨X, hX⟩ : ∃ X, recL x = X := ⟨_, rfl⟩
  rw [hX] at P hl hx
  obtain ⟨z, hz⟩ : ∃ z : Int, S.cap - tot S.fs = z := ⟨_, rfl⟩
  obtain ⟨xl, hxl⟩ : ∃ xl : Nat, X.length = xl := ⟨_, rfl⟩
  have hlt : ¬ z < (xl : Int) := by omega
  rw [show (x.length : Int) + 8 = (xl : Int) by omega]
  have hwn : IntKind.i64.wrap (J.n + 1) = J.n + 1 := IntWalk.i64_in _ (by have := hsm.n0; have := hsm.n1; omega)
  have hwf := wf_of (n := J.n + 1) ⟨by have := hsm.n0; omega, by have := hsm.n1; omega⟩
  have hwf0 := hsm.wf
  have FR := Lib.hid (fun w' hx => k_free (h.d.ext hx) (w := w') hz)
  have q0 := fun w' (hx : Ext w w') => (hx.cell (p := ⟨q, 0, none⟩) h.j.lt).trans h.j.c0
  have hq := h.j.lt
  obtain ⟨S2, e2, hdel⟩ : ∃ S2 e2, delete S1 J.n = (S2, e2) := ⟨_, _, rfl⟩
  rw [hdel]
  clear h hov hf hX hl
  go_enter Try.func10, Try.ntmps10
  go_wp2_with (first | (go_at_call 28; (with_reducible refine R.out.mono ?_); rintro r w1 ⟨rfl, hx1⟩; have HX1 := Lib.hid hx1; clear hx1) | (go_at_call 29; (with_reducible refine (P.out _).mono ?_); rintro r w2 ⟨rfl, hx2⟩; have g0 := q0 _ (HX1.out.trans hx2); have HX2 := Lib.hid (HX1.out.trans hx2); clear hx2 q0) | (go_at_call 20; (with_reducible refine (FR.out _ HX2.out).mono ?_); rintro r w3 ⟨rfl, hx3⟩; have HJ3 := Lib.hid (H.out.ext (HX2.out.trans hx3)); clear hx3))
  have hJ3 := HJ3.out
  have d0 : ∀ w', Fr (fun k => ¬ WithO O q k) w3 w' → w'.cell? ⟨q, 0, none⟩ = some (.pointer (some ⟨p, 0, none⟩)) := fun w' hf => (hf.cell (p := ⟨q, 0, none⟩) hJ3.j.lt (fun h => h (.inr rfl))).trans hJ3.j.c0
  have d1 : ∀ w', Fr (fun k => ¬ WithO O q k) w3 w' → w'.cell? ⟨q, 1, none⟩ = some (.int .i64 J.n) := fun w' hf => (hf.cell (p := ⟨q, 1, none⟩) hJ3.j.lt (fun h => h (.inr rfl))).trans hJ3.j.c1
  have L := Lib.hid (lay_is (hJ3.d.ext (Ext.refl _).drew) hwf hx)
  clear hJ3
  go_region_held3 (fun w' => Fr (fun k => ¬ WithO O q k) w3 w') (first | exact Fr.drew (Fr.refl _ _) | assumption) (first | (go_at_call 30; (with_reducible refine L.out.mono ?_); rintro r w4 ⟨rfl, hD4⟩; have hF4 := hD4.fr; have HJ4 := Lib.hid (HJ3.out.disk hD4); clear hD4))
  all_goals
    have q1 := HJ4.out.j.c1
    have q2 := HJ4.out.j.c2
    have q3 := HJ4.out.j.c3
    have f1 := HJ4.out.j.fz 1
    have f2 := HJ4.out.j.fz 2
    have f3 := HJ4.out.j.fz 3
    have k0 := HJ4.out.j.c0
    clear d0 d1
    by_cases he : e = 0
    · subst he
      go_wp2_with (first | (go_at_call 32; (with_reducible refine (k_delete (HJ4.out.moved (J.n + 1) xl 0).d hwf0 hdel).mono ?_); rintro r w5 ⟨rfl, hD5⟩; have HJ5 := Lib.hid ((HJ4.out.moved (J.n + 1) xl 0).disk hD5); clear hD5) | (go_at_call 31; (with_reducible refine (note_is HJ5.out e2).mono ?_); rintro r w6 ⟨rfl, hJ6⟩; have HJ6 := Lib.hid hJ6; clear hJ6))
      go_ret
      exact ⟨rfl, HJ6.out⟩
    · go_wp2_with (go_at_call 31; (with_reducible refine (note_is HJ4.out e).mono ?_); rintro r w6 ⟨rfl, hJ6⟩; have HJ6 := Lib.hid hJ6; clear hJ6)
      go_ret
      exact .inl ⟨he, rfl, HJ6.out⟩
/-- Compact. -/
theorem compact_j (h : Jp W O p q S J w) (hsm : Small J) (hx : x.length ≤ 16777216) (hr : compactJ S J x = (S', J', e)) :
    Calls Try.prog 10 #[.pointer (some ⟨q, 0, none⟩), .string (ofL x)] w fun r w' => r = .returned (.int .i64 e) ∧ Jp W O p q S' J' w' := by
  unfold compactJ at hr
  cases hov : over S J
  · rw [hov] at hr
    rw [if_neg (by decide)] at hr
    by_cases h1 : 65536 < x.length
    · rw [if_pos h1] at hr
      cases hr
      exact compact_long h hov h1 hx
    · rw [if_neg h1] at hr
      by_cases hf : S.cap - tot S.fs < x.length + 8
      · rw [if_pos hf] at hr
        cases hr
        exact compact_full h hov (by omega) hf
      · rw [if_neg hf] at hr
        obtain ⟨S1, e1, hx1⟩ : ∃ S1 e1, runs (lays (J.n + 1) (recL x)) S = (S1, e1) := ⟨_, _, rfl⟩
        rw [hx1] at hr
        refine (compact_yes h hsm hov (by omega) hf hx1).mono fun r w' hq => ?_
        by_cases he : e1 = 0
        · subst he
          rcases hq with ⟨h0, _⟩ | ⟨_, rfl, h3⟩
          · exact absurd rfl h0
          · rw [if_neg (by simp)] at hr
            cases hr
            exact ⟨rfl, h3⟩
        · rcases hq with ⟨_, rfl, h3⟩ | ⟨h0, _⟩
          · rw [if_pos he] at hr
            cases hr
            exact ⟨rfl, h3⟩
          · exact absurd h0 he
  · rw [hov] at hr
    rw [if_pos rfl] at hr
    cases hr
    exact compact_over h hov x
end
end Go.Proofs.Ytajclcbclbppiaa
