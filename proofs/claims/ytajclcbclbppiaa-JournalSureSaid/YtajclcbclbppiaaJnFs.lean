/-
  The walk of fresh: a journal where none is.
-/
import Derived.Test.YtajclcbclbppiaaJnJo
namespace Go.Proofs.Ytajclcbclbppiaa
open Go.RowKit Go.Maps Go.Dk Go.Rc Go.Jn Go.Shelf
variable {W w w' : World} {O O' F : Nat → Prop} {p q : Nat} {S S' : St} {J J' : Jo}
/-- What fresh answers. -/
def FreshTo (W : World) (O : Nat → Prop) (p : Nat) (S' : St) (e : Int) (w : World) (x : Ending) (w' : World) : Prop :=
  (e ≠ 0 ∧ x = .returned (.tuple #[.pointer none, .int .i64 e]) ∧ Dp W O p S' w') ∨
    (e = 0 ∧ ∃ q, x = .returned (.tuple #[.pointer (some ⟨q, 0, none⟩), .int .i64 0]) ∧ Jp W O p q S' ⟨0, 8, 0, S'.starts, false⟩ w' ∧ w.heap.size ≤ q)
set_option maxHeartbeats 1000000 in
set_option maxRecDepth 100000 in
theorem fresh_is (h : Dp W O p S w) {fo : Option Addr} {m fc : Nat} (hm : S.fs.length = m) {e : Int} (hx : fresh S = (S', e)) :
    Calls Try.prog 27 #[.pointer (some ⟨p, 0, none⟩), .slice fo m fc] w (FreshTo W O p S' e w) := by
  have hl8 : (recL []).length = 8 := recL_length []
  have P := Lib.hid (fun w' => rput_yes [] w' (by decide))
  unfold fresh at hx
  obtain ⟨X, hX⟩ : ∃ X, recL [] = X := ⟨_, rfl⟩
  rw [hX] at hx hl8 P
  clear hX
  have wf0 : (Lit.int .i64 0).wf = true := by decide
  have H := Lib.hid h.now
  have H0 := Lib.hid h
  by_cases h0 : m = 0
  · subst h0
    rw [if_pos (List.length_eq_zero_iff.1 hm), List.nil_append] at hx
    clear h hm
    by_cases he : e = 0
    · subst he
      go_enter Try.func27, Try.ntmps27
      go_wp2_with (first | (go_at_call 29; (with_reducible refine (P.out _).mono ?_); rintro x w1 ⟨rfl, hx1⟩; have Hx1 := Lib.hid hx1; clear hx1) | (go_at_call 30; (with_reducible refine (lay_is (H.out.ext Hx1.out) wf0 hx).mono ?_); rintro x w2 ⟨rfl, hD⟩; have HD := Lib.hid hD; clear hD) | (go_at_call 26; (with_reducible refine (k_starts HD.out rfl).mono ?_); rintro x w3 ⟨rfl, rfl⟩))
      go_ret2
      exact .inr ⟨rfl, _, rfl, (Jp.made HD.out ((Ext.refl _).alloc _) (Nat.le_refl _) (JoAt.made (heap_alloc_new _ _))).since H0.out.fr H0.out.under, HD.out.fr.size⟩
    · go_enter Try.func27, Try.ntmps27
      go_wp2_with (first | (go_at_call 29; (with_reducible refine (P.out _).mono ?_); rintro x w1 ⟨rfl, hx1⟩; have Hx1 := Lib.hid hx1; clear hx1) | (go_at_call 30; (with_reducible refine (lay_is (H.out.ext Hx1.out) wf0 hx).mono ?_); rintro x w2 ⟨rfl, hD⟩; have HD := Lib.hid hD; clear hD) | (go_at_call 26; (with_reducible refine (k_starts HD.out rfl).mono ?_); rintro x w3 ⟨rfl, rfl⟩))
      go_ret2
      exact .inl ⟨he, rfl, H0.out.since HD.out⟩
  · have hne : ¬ S.fs = [] := fun e => h0 (by rw [← hm, e]; rfl)
    have hm0 : (0 : Int) < m := by omega
    rw [if_neg hne, List.singleton_append, runs_cons] at hx
    obtain ⟨S1, e1, hd⟩ : ∃ S1 e1, delete S 0 = (S1, e1) := ⟨_, _, rfl⟩
    rw [hd] at hx
    clear h hm hne
    by_cases h1 : e1 = 0
    · subst h1
      rw [if_pos rfl] at hx
      by_cases he : e = 0
      · subst he
        go_enter Try.func27, Try.ntmps27
        go_wp2_with (first | (go_at_call 32; (with_reducible refine (k_delete H.out wf0 hd).mono ?_); rintro x w4 ⟨rfl, hD⟩; have HE := Lib.hid hD; clear hD) | (go_at_call 29; (with_reducible refine (P.out _).mono ?_); rintro x w1 ⟨rfl, hx1⟩; have Hx1 := Lib.hid hx1; clear hx1) | (go_at_call 30; (with_reducible refine (lay_is (HE.out.ext Hx1.out) wf0 hx).mono ?_); rintro x w2 ⟨rfl, hD⟩; have HD := Lib.hid hD; clear hD) | (go_at_call 26; (with_reducible refine (k_starts HD.out rfl).mono ?_); rintro x w3 ⟨rfl, rfl⟩))
        go_ret2
        exact .inr ⟨rfl, _, rfl, (Jp.made HD.out ((Ext.refl _).alloc _) (Nat.le_refl _) (JoAt.made (heap_alloc_new _ _))).since H0.out.fr H0.out.under, HD.out.fr.size⟩
      · go_enter Try.func27, Try.ntmps27
        go_wp2_with (first | (go_at_call 32; (with_reducible refine (k_delete H.out wf0 hd).mono ?_); rintro x w4 ⟨rfl, hD⟩; have HE := Lib.hid hD; clear hD) | (go_at_call 29; (with_reducible refine (P.out _).mono ?_); rintro x w1 ⟨rfl, hx1⟩; have Hx1 := Lib.hid hx1; clear hx1) | (go_at_call 30; (with_reducible refine (lay_is (HE.out.ext Hx1.out) wf0 hx).mono ?_); rintro x w2 ⟨rfl, hD⟩; have HD := Lib.hid hD; clear hD) | (go_at_call 26; (with_reducible refine (k_starts HD.out rfl).mono ?_); rintro x w3 ⟨rfl, rfl⟩))
        go_ret2
        exact .inl ⟨he, rfl, H0.out.since HD.out⟩
    · rw [if_neg h1] at hx
      obtain ⟨rfl, rfl⟩ := Prod.mk.inj hx
      go_enter Try.func27, Try.ntmps27
      go_wp2_with ((go_at_call 32; (with_reducible refine (k_delete H.out wf0 hd).mono ?_); rintro x w4 ⟨rfl, hD⟩; have HD := Lib.hid hD; clear hD))
      go_ret2
      exact .inl ⟨h1, rfl, H0.out.since HD.out⟩
end Go.Proofs.Ytajclcbclbppiaa
