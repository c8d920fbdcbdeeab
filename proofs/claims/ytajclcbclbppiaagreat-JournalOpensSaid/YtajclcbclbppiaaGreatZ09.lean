/-
  The walks of what the changes do: the closures.
-/
import Derived.Test.YtajclcbclbppiaaGreatZ08
namespace Go.Proofs.YtajclcbclbppiaaGreat
open Go.RowKit Go.Maps Go.Dk Go.Shelf
variable {w w' : World} {β : Roles} {p : Nat} {S S' S1 : St}
theorem DiskAt.syncTo (h : DiskAt w β p S) {f : Fl} (hf : f ∈ S.fs) {fb cap : Nat} {ao : Option Addr} (k1 : β (4, f.n) = some fb) (k2 : ∀ g, ob ao = some g → β (5, f.n) = some g) (k3 : FileAt w fb ao cap f) {F : World} (hfr : Fr (fun k => k = fb) w F)
    (hF : F.heap = (w.setCell ⟨fb, 1, none⟩ (.int .i64 f.b.length)).heap) : ∃ β', DiskAt F β' p { S with fs := upd ⟨f.n, f.b, f.b.length⟩ S.fs } ∧ Tn (Bl β) (Bl β') w F := by
  have hok : Ok { S with fs := upd ⟨f.n, f.b, f.b.length⟩ S.fs } := h.ok.upd hf rfl (Nat.le_refl _) (by have := h.ok.tot; show (tot S.fs : Int) + (f.b.length : Int) ≤ _; omega)
  have hne : ∀ g, ob ao = some g → g ≠ fb := fun g hg e => by have := h.inj _ _ _ (k2 g hg) (e ▸ k1); simp at this
  have hA : FileAt F fb ao cap ⟨f.n, f.b, f.b.length⟩ := by
    refine FileAt.kept (w := w.setCell ⟨fb, 1, none⟩ (.int .i64 f.b.length)) ⟨(World.cell?_setCell_other _ _ _ _ (by simp)).trans k3.c0, World.cell?_setCell_same _ _ _ k3.c1, (World.frozen?_setCell _ _ _ _).trans k3.f0, (World.frozen?_setCell _ _ _ _).trans k3.f1, ?_⟩ (by rw [hF]; exact Nat.le_refl _) (by rw [hF]) (fun _ _ => by rw [hF])
    exact k3.row.kept (by rw [setCell_size]; exact Nat.le_refl _) (fun g hg => setCell_other _ _ _ (hne g hg))
  obtain ⟨β', hD, hT, _⟩ := h.turnFile (f' := ⟨f.n, f.b, f.b.length⟩) (f := f) rfl k1 (hfr.mono (fun _ _ e => .inl e)) (fun g hg => .inl (k2 g hg)) hA hok
  exact ⟨β', hD, hT⟩
theorem DiskAt.cutFile (h : DiskAt w β p S) {f : Fl} (hf : f ∈ S.fs) {fb cap : Nat} {ao : Option Addr} (k1 : β (4, f.n) = some fb) (k2 : ∀ g, ob ao = some g → β (5, f.n) = some g) (k3 : FileAt w fb ao cap f) {z : Nat} (hz : z ≤ f.b.length) {F : World} (hfr : Fr (fun k => k = fb) w F)
    (hF : F.heap = ((w.setCell ⟨fb, 0, none⟩ (.slice ao z cap)).setCell ⟨fb, 1, none⟩ (.int .i64 (min (f.s : Int) z))).heap) : ∃ β', DiskAt F β' p { S with fs := upd ⟨f.n, f.b.take z, min f.s z⟩ S.fs } ∧ Tn (Bl β) (Bl β') w F := by
  have hl : (f.b.take z).length = z := by rw [List.length_take]; omega
  have hok : Ok { S with fs := upd ⟨f.n, f.b.take z, min f.s z⟩ S.fs } := h.ok.upd hf rfl (by show min f.s z ≤ (f.b.take z).length; omega) (by have := h.ok.tot; show (tot S.fs : Int) + ((f.b.take z).length : Int) ≤ _; omega)
  have hne : ∀ g, ob ao = some g → g ≠ fb := fun g hg e => by have := h.inj _ _ _ (k2 g hg) (e ▸ k1); simp at this
  have hA : FileAt F fb ao cap ⟨f.n, f.b.take z, min f.s z⟩ := by
    refine FileAt.kept (w := (w.setCell ⟨fb, 0, none⟩ (.slice ao z cap)).setCell ⟨fb, 1, none⟩ (.int .i64 (min (f.s : Int) z))) ⟨?_, ?_, ?_, ?_, ?_⟩ (by rw [hF]; exact Nat.le_refl _) (by rw [hF]) (fun _ _ => by rw [hF])
    · rw [World.cell?_setCell_other _ _ _ _ (by simp), World.cell?_setCell_same _ _ _ k3.c0, hl]
    · rw [show ((min f.s z : Nat) : Int) = min (f.s : Int) z by omega]
      exact World.cell?_setCell_same _ _ _ ((World.cell?_setCell_other _ _ _ _ (by simp)).trans k3.c1)
    · rw [World.frozen?_setCell, World.frozen?_setCell]; exact k3.f0
    · rw [World.frozen?_setCell, World.frozen?_setCell]; exact k3.f1
    · show Rw _ 1 ao (f.b.take z).length cap (U8 (f.b.take z))
      refine Rw.kept (w := w) ?_ (by rw [setCell_size, setCell_size]; exact Nat.le_refl _) (fun g hg => by rw [setCell_other _ _ _ (hne g hg), setCell_other _ _ _ (hne g hg)])
      rw [hl]
      have hle := k3.row.le
      by_cases h0 : 0 < f.b.length
      · have := k3.row.front z cap (by omega) (Nat.le_refl _) hz h0
        rw [U8, List.map_take]
        rwa [Nat.mul_one] at this
      · obtain rfl : z = 0 := by omega
        have e1 : f.b = [] := List.length_eq_zero_iff.1 (by omega)
        have := k3.row
        rw [e1] at this
        rw [e1]
        exact this
  obtain ⟨β', hD, hT, _⟩ := h.turnFile (f' := ⟨f.n, f.b.take z, min f.s z⟩) (f := f) rfl k1 (hfr.mono (fun _ _ e => .inl e)) (fun g hg => .inl (k2 g hg)) hA hok
  exact ⟨β', hD, hT⟩
set_option maxHeartbeats 1000000 in
set_option maxRecDepth 100000 in
theorem sync1_is (h : DiskAt w β p S) {f : Fl} (hf : f ∈ S.fs) {fb b : Nat} (hfb : β (4, f.n) = some fb) (hb : w.cell? ⟨b, 0, none⟩ = some (.pointer (some ⟨fb, 0, none⟩))) (hbn : ¬ Bl β b) :
    Calls Tryz.prog 73 #[.pointer (some ⟨b, 0, none⟩)] w fun e w' => e = .returned (.tuple #[]) ∧ ∃ β', DiskAt w' β' p { S with fs := upd ⟨f.n, f.b, f.b.length⟩ S.fs } ∧ Tn (Bl β) (Bl β') w w' := by
  obtain ⟨fb', ao, cap, k1, k2, k3⟩ := h.file f hf
  obtain rfl : fb' = fb := Option.some.inj (k1.symm.trans hfb)
  have hne : b ≠ fb' := fun e => hbn ⟨_, e ▸ k1⟩
  have b0 := k3.c0
  have b1 := k3.c1
  have bf1 := k3.f1
  have H := Lib.hid h
  have K3 := Lib.hid k3
  clear h k3 hbn
  go_enter Tryz.func73, Tryz.ntmps73
  go_wp2
  go_region
  all_goals
    go_wp2
    go_end0
    have hfr : Fr (fun k => k = fb') w (w.setCell ⟨fb', 1, none⟩ (.int .i64 f.b.length)) := (Fr.refl _ w).setCell (p := ⟨fb', 1, none⟩) (by intro _; rfl) _
    exact ⟨rfl, H.out.syncTo hf k1 k2 K3.out hfr.drew rfl⟩
set_option maxHeartbeats 1000000 in
set_option maxRecDepth 100000 in
theorem truncate1_is (h : DiskAt w β p S) {f : Fl} (hf : f ∈ S.fs) {fb b c : Nat} (hfb : β (4, f.n) = some fb) (hb : w.cell? ⟨b, 0, none⟩ = some (.pointer (some ⟨fb, 0, none⟩))) (hbn : ¬ Bl β b) {z : Nat} (hc : w.cell? ⟨c, 0, none⟩ = some (.int .i64 z)) (hcn : ¬ Bl β c) (hz : z ≤ f.b.length) :
    Calls Tryz.prog 84 #[.pointer (some ⟨b, 0, none⟩), .pointer (some ⟨c, 0, none⟩)] w fun e w' => e = .returned (.tuple #[]) ∧ ∃ β', DiskAt w' β' p { S with fs := upd ⟨f.n, f.b.take z, min f.s z⟩ S.fs } ∧ Tn (Bl β) (Bl β') w w' := by
  obtain ⟨fb', ao, cap, k1, k2, k3⟩ := h.file f hf
  obtain rfl : fb' = fb := Option.some.inj (k1.symm.trans hfb)
  have hne : b ≠ fb' := fun e => hbn ⟨_, e ▸ k1⟩
  have hne2 : c ≠ fb' := fun e => hcn ⟨_, e ▸ k1⟩
  have b0 := k3.c0
  have b1 := k3.c1
  have bf0 := k3.f0
  have bf1 := k3.f1
  have hcap := k3.row.le
  have hzc : z ≤ cap := by omega
  have H := Lib.hid h
  have K3 := Lib.hid k3
  clear h k3 hbn hcn
  go_enter Tryz.func84, Tryz.ntmps84
  go_wp2
  go_region
  all_goals
    go_wp2
    go_end0
    have hfr : Fr (fun k => k = fb') w ((w.setCell ⟨fb', 0, none⟩ (.slice ao z cap)).setCell ⟨fb', 1, none⟩ (.int .i64 (min (f.s : Int) z))) := ((Fr.refl _ w).setCell (p := ⟨fb', 0, none⟩) (by intro _; rfl) _).setCell (p := ⟨fb', 1, none⟩) (by intro _; rfl) _
    exact ⟨rfl, H.out.cutFile hf k1 k2 K3.out hz hfr.drew rfl⟩
end Go.Proofs.YtajclcbclbppiaaGreat
