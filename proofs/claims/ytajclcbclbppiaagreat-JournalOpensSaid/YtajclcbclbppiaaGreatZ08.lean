/-
  The walk of change, and those of what the changes do.
-/
import Derived.Test.YtajclcbclbppiaaGreatZ07
import Derived.Shelf.Abstract
namespace Go.Proofs.YtajclcbclbppiaaGreat
open Go.RowKit Go.Maps Go.Dk Go.Shelf
variable {w w' : World} {β : Roles} {p : Nat} {S S' S1 : St}
/-- A failure comes nearer. -/
theorem DiskAt.tick (h : DiskAt w β p S) {l : Int} {ks : List Int} (hx : S.fail = some (l, ks)) (hl : 0 < l) {b : Nat} (hb : β (2, 0) = some b) : DiskAt (w.setCell ⟨b, 0, none⟩ (.int .i64 (l - 1))) β p { S with fail := some (l - 1, ks) } := by
  obtain ⟨m, fp, h1, h2, h3, h4⟩ := h.head
  rw [hx] at h4
  obtain ⟨b', ko, kc, rfl, hb', c0, f0, c1, hk⟩ := h4
  obtain rfl : b' = b := Option.some.inj (hb'.symm.trans hb)
  have hbk : ∀ r k, r ≠ (2, 0) → β r = some k → (w.setCell ⟨b', 0, none⟩ (.int .i64 (l - 1))).heap[k]? = w.heap[k]? := fun r k hr hk => setCell_other _ _ _ (fun e => hr (h.inj _ _ _ hk (by rw [hb]; exact congrArg some e.symm)))
  have hs : w.heap.size ≤ (w.setCell ⟨b', 0, none⟩ (.int .i64 (l - 1))).heap.size := by rw [setCell_size]; exact Nat.le_refl _
  have hok := h.ok.fail l ks hx
  refine ⟨h.ok.withFail (fun l' ks' e => by cases e; exact ⟨by omega, by omega, hok.2.2⟩), h.inj, fun r k hr => Nat.lt_of_lt_of_le (h.lt r k hr) hs, h.p0, ⟨m, _, h1, h2.kept hs (hbk _ _ (by simp) h.p0), ownsMap_block h3 (hbk _ _ (by simp) h1), ⟨b', ko, kc, rfl, hb, World.cell?_setCell_same _ _ _ c0, (World.frozen?_setCell _ _ _ _).trans f0, (World.cell?_setCell_other _ _ _ _ (by simp)).trans c1, hk.kept (fun g hg => hbk _ _ (by simp) hg)⟩⟩, fun f hf => ?_⟩
  obtain ⟨fb, ao, cap, k1, k2, k3⟩ := h.file f hf
  exact ⟨fb, ao, cap, k1, k2, k3.kept hs (hbk _ _ (by simp) k1) (fun g hg => hbk _ _ (by simp) (k2 g hg))⟩
theorem DiskAt.keepApart (h : DiskAt w β p S) : ∀ g, β (3, 0) = some g → g < w.heap.size ∧ g ≠ p ∧ ¬ Fbs β g :=
  fun g hg => ⟨h.lt _ _ hg, fun e => by have := h.inj _ _ _ hg (e ▸ h.p0); simp at this, fun ⟨_, hn⟩ => by have := h.inj _ _ _ hg hn; simp at this⟩
theorem fbs_bl {k : Nat} (h : DiskAt w β p S) : (k = p ∨ Fbs β k) → Bl β k := fun hk => hk.elim (fun e => ⟨_, e ▸ h.p0⟩) (fun ⟨_, hn⟩ => ⟨_, hn⟩)
/-- Crash, of a disk that has a failure. -/
theorem crash_kept (h : DiskAt w β p S) (hd : S.down = false) {ko : Option Addr} {kc : Nat} {ks : List Int} (hk : ks.length ≤ 16777216) (hkeep : KeepAt w (fun g => β (3, 0) = some g) ko ks) :
    Calls Tryz.prog 60 #[.pointer (some ⟨p, 0, none⟩), .slice ko ks.length kc] w fun e w' => e = .returned (.int .i64 0) ∧ DiskAt w' β p (S.crash ks) ∧ Tn (Bl β) (Bl β) w w' :=
  (crash_is (kc := kc) h hd hk hkeep h.keepApart).mono fun _ _ ⟨h1, h2, h3⟩ => ⟨h1, h2, Tn.same h3 (fun _ => fbs_bl h)⟩
section
variable {N : FuncId} {lb : Array Value}
set_option maxHeartbeats 1000000 in
set_option maxRecDepth 100000 in
theorem change_none (h : DiskAt w β p S) (hx : S.fail = none) (hx1 : S1.fail = none) (early : Bool) (eN : ∀ args w, (callFunc N args).run Tryz.prog w = .ok (.enter N args) w)
    (hdo : Calls Tryz.prog N lb w fun e w' => e = .returned (.tuple #[]) ∧ ∃ β', DiskAt w' β' p S1 ∧ Tn (Bl β) (Bl β') w w') :
    Calls Tryz.prog 23 #[.pointer (some ⟨p, 0, none⟩), .bool early, .func (.func N) #[] lb] w fun e w' => e = .returned (.int .i64 0) ∧ ∃ β', DiskAt w' β' p S1 ∧ Tn (Bl β) (Bl β') w w' := by
  have D := Lib.hid hdo
  obtain ⟨m, fp, hm, h2, _, h4⟩ := h.head
  rw [hx] at h4
  obtain rfl := (show fp = none from h4)
  have c4 := h2.c4
  clear h h2 hdo hx
  go_enter Tryz.func23, Tryz.ntmps23
  cases early
  all_goals
    go_wp2_with (go_at_fn N; (refine D.out.mono ?_); rintro e w1 ⟨rfl, β1, hD1, hT1⟩; obtain ⟨m1, fp1, _, hH1, _, hF1⟩ := hD1.head; rw [hx1] at hF1; obtain rfl := (show fp1 = none from hF1); have d4 := hH1.c4; have HD1 := Lib.hid hD1; have HT1 := Lib.hid hT1; clear hD1 hT1 hH1)
    go_ret
    exact ⟨rfl, β1, HD1.out, HT1.out⟩
set_option maxHeartbeats 1000000 in
set_option maxRecDepth 100000 in
theorem change_tick (h : DiskAt w β p S) {l : Int} {ks : List Int} (hx : S.fail = some (l, ks)) (hl : 0 < l) (hx1 : S1.fail = some (l, ks)) (early : Bool) (eN : ∀ args w, (callFunc N args).run Tryz.prog w = .ok (.enter N args) w)
    (hdo : Calls Tryz.prog N lb w fun e w' => e = .returned (.tuple #[]) ∧ ∃ β', DiskAt w' β' p S1 ∧ Tn (Bl β) (Bl β') w w') :
    Calls Tryz.prog 23 #[.pointer (some ⟨p, 0, none⟩), .bool early, .func (.func N) #[] lb] w fun e w' => e = .returned (.int .i64 0) ∧ ∃ β', DiskAt w' β' p { S1 with fail := some (l - 1, ks) } ∧ Tn (Bl β) (Bl β') w w' := by
  have D := Lib.hid hdo
  have hl2 := (h.ok.fail l ks hx).2.1
  have hw : IntKind.i64.wrap (l - 1) = l - 1 := IntWalk.i64_in _ ⟨by omega, by omega⟩
  have hl0 : l ≠ 0 := by omega
  obtain ⟨m, fp, hm, h2, _, h4⟩ := h.head
  rw [hx] at h4
  obtain ⟨b, ko, kc, rfl, hb', c0, f0, c1, hk⟩ := h4
  have c4 := h2.c4
  clear h h2 hdo hx hk c1 f0
  go_enter Tryz.func23, Tryz.ntmps23
  cases early
  all_goals
    go_wp2_with (go_at_fn N; (refine D.out.mono ?_); rintro e w1 ⟨rfl, β1, hD1, hT1⟩; obtain ⟨m1, fp1, _, hH1, _, hF1⟩ := hD1.head; rw [hx1] at hF1; obtain ⟨b1, ko1, kc1, rfl, hb1, d0, g0, d1, hk1⟩ := hF1; have d4 := hH1.c4; have HD1 := Lib.hid hD1; have HT1 := Lib.hid hT1; clear hD1 hT1 hH1 d1 hk1)
    go_ret
    have hfr : Fr (fun k => k = b1) w1 (w1.setCell ⟨b1, 0, none⟩ (.int .i64 (l - 1))) := (Fr.refl _ w1).setCell (p := ⟨b1, 0, none⟩) (by intro _; rfl) _
    exact ⟨rfl, β1, HD1.out.tick hx1 hl hb1, HT1.out.trans (Tn.same hfr (fun k e => ⟨(2, 0), by rw [e]; exact hb1⟩))⟩
set_option maxHeartbeats 1000000 in
set_option maxRecDepth 100000 in
theorem change_early (h : DiskAt w β p S) {ks : List Int} (hx : S.fail = some (0, ks)) (hx1 : S1.fail = some (0, ks)) (hd1 : S1.down = false) (eN : ∀ args w, (callFunc N args).run Tryz.prog w = .ok (.enter N args) w)
    (hdo : Calls Tryz.prog N lb w fun e w' => e = .returned (.tuple #[]) ∧ ∃ β', DiskAt w' β' p S1 ∧ Tn (Bl β) (Bl β') w w') :
    Calls Tryz.prog 23 #[.pointer (some ⟨p, 0, none⟩), .bool true, .func (.func N) #[] lb] w fun e w' => e = .returned (.int .i64 61) ∧ ∃ β', DiskAt w' β' p (S1.crash ks) ∧ Tn (Bl β) (Bl β') w w' := by
  have D := Lib.hid hdo
  have hks := (h.ok.fail 0 ks hx).2.2
  obtain ⟨m, fp, hm, h2, _, h4⟩ := h.head
  rw [hx] at h4
  obtain ⟨b, ko, kc, rfl, hb', c0, f0, c1, hk⟩ := h4
  have c4 := h2.c4
  clear h h2 hdo hx hk c1 f0
  go_enter Tryz.func23, Tryz.ntmps23
  go_wp2_with (first | (go_at_fn N; (refine D.out.mono ?_); rintro e w1 ⟨rfl, β1, hD1, hT1⟩; obtain ⟨m1, fp1, _, hH1, _, hF1⟩ := hD1.head; rw [hx1] at hF1; obtain ⟨b1, ko1, kc1, rfl, hb1, d0, g0, d1, hk1⟩ := hF1; have d4 := hH1.c4; have C := Lib.hid (crash_kept (kc := kc1) hD1 hd1 hks hk1); have HT1 := Lib.hid hT1; clear hD1 hT1 hH1 hk1) | (go_at_call 60; (with_reducible refine C.out.mono ?_); rintro e w2 ⟨rfl, hD2, hT2⟩; have HD2 := Lib.hid hD2; have HT2 := Lib.hid hT2; clear hD2 hT2))
  go_ret
  exact ⟨rfl, β1, HD2.out, HT1.out.trans HT2.out⟩
end
set_option maxHeartbeats 1000000 in
set_option maxRecDepth 100000 in
theorem change_late (h : DiskAt w β p S) (hd : S.down = false) {ks : List Int} (hx : S.fail = some (0, ks)) (v : Value) :
    Calls Tryz.prog 23 #[.pointer (some ⟨p, 0, none⟩), .bool false, v] w fun e w' => e = .returned (.int .i64 61) ∧ ∃ β', DiskAt w' β' p (S.crash ks) ∧ Tn (Bl β) (Bl β') w w' := by
  have hks := (h.ok.fail 0 ks hx).2.2
  obtain ⟨m, fp, hm, h2, _, h4⟩ := h.head
  rw [hx] at h4
  obtain ⟨b, ko, kc, rfl, hb', c0, f0, c1, hk⟩ := h4
  have c4 := h2.c4
  have C := Lib.hid (crash_kept (kc := kc) h hd hks hk)
  clear h h2 hx hk f0
  go_enter Tryz.func23, Tryz.ntmps23
  go_wp2_with (go_at_call 60; (with_reducible refine C.out.mono ?_); rintro e w2 ⟨rfl, hD2, hT2⟩; have HD2 := Lib.hid hD2; have HT2 := Lib.hid hT2; clear hD2 hT2)
  go_ret
  exact ⟨rfl, β, HD2.out, HT2.out⟩
/-- change. -/
theorem change_is {N : FuncId} {lb : Array Value} (h : DiskAt w β p S) (hd : S.down = false) (hx1 : S1.fail = S.fail) (hd1 : S1.down = false) (early : Bool) (eN : ∀ args w, (callFunc N args).run Tryz.prog w = .ok (.enter N args) w)
    (hdo : Calls Tryz.prog N lb w fun e w' => e = .returned (.tuple #[]) ∧ ∃ β', DiskAt w' β' p S1 ∧ Tn (Bl β) (Bl β') w w') :
    Calls Tryz.prog 23 #[.pointer (some ⟨p, 0, none⟩), .bool early, .func (.func N) #[] lb] w fun e w' => e = .returned (.int .i64 (chg S S1 early).2) ∧ ∃ β', DiskAt w' β' p (chg S S1 early).1 ∧ Tn (Bl β) (Bl β') w w' := by
  cases hx : S.fail with
  | none =>
    rw [show chg S S1 early = (S1, 0) by simp [chg, hx]]
    exact change_none h hx (hx1.trans hx) early eN hdo
  | some y =>
    obtain ⟨l, ks⟩ := y
    by_cases hl : l = 0
    · subst hl
      cases early
      · rw [show chg S S1 false = (S.crash ks, 61) by simp [chg, hx]]
        exact change_late h hd hx _
      · rw [show chg S S1 true = (S1.crash ks, 61) by simp [chg, hx]]
        exact change_early h hx (hx1.trans hx) hd1 eN hdo
    · rw [show chg S S1 early = ({ S1 with fail := some (l - 1, ks) }, 0) by simp [chg, hx, hl]]
      exact change_tick h hx (by have := (h.ok.fail l ks hx).1; omega) (hx1.trans hx) early eN hdo
end Go.Proofs.YtajclcbclbppiaaGreat
