/-
  Both disks: apart from each other, and from O; of O nothing has turned since W.
-/
import Derived.Test.YtfcjjdmfnkiacaaDskRq
import Derived.Test.YtfcjjdmfnkiacaaDskDp
import Derived.Test.YtfcjjdmfnkiacaaDskGr
namespace Go.Proofs.Ytfcjjdmfnkiacaa
open Go.RowKit Go.Maps Go.Dk Go.Shelf
variable {W w w' V : World} {O G G' : Nat → Prop} {p q m m' : Nat} {S S' T T' : St}
/-- Both disks: the one's state is S, the document's T. -/
def Td (W : World) (O : Nat → Prop) (p q : Nat) (S T : St) (m : Nat) (w : World) : Prop :=
  ∃ β G, DiskAt w β p S ∧ RP w G q T m ∧ Fr (fun k => ¬ O k) W w ∧ Apart O (Bl β) ∧ Apart O G ∧ Apart (Bl β) G ∧ Under O W
theorem RP.under (h : RP w G q S m) : Under G w := by
  obtain ⟨_, _, _, _, _, _, h, _⟩ := h
  exact h.under
theorem RP.fr {F : Nat → Prop} (h : RP w G q S m) (hf : Fr F w w') (ha : ∀ k, G k → ¬ F k) : RP w' G q S m := by
  obtain ⟨ao, cap, ko, kc, F', K, h1, h2⟩ := h
  exact ⟨ao, cap, ko, kc, F', K, h1.kept hf.size (fun k hk => hf.block k (h1.under k hk) (ha k hk)), h2⟩
theorem Td.fr (h : Td W O p q S T m w) : Fr (fun k => ¬ O k) W w := by obtain ⟨_, _, _, _, h, _⟩ := h; exact h
theorem Td.ok (h : Td W O p q S T m w) : Ok S := by obtain ⟨_, _, h, _⟩ := h; exact h.ok
theorem Td.ext (h : Td W O p q S T m w) (hx : Ext w w') : Td W O p q S T m w' := by
  obtain ⟨β, G, h1, h2, h3, h4, h5, h6, h7⟩ := h
  exact ⟨β, G, h1.ext hx, h2.ext hx, h3.trans (Fr.of_ext (F := fun _ => False) hx) (fun _ _ hf => hf.elim), h4, h5, h6, h7⟩
theorem Td.less (h : Td W O p q S T m w) (hm : m' ≤ m) : Td W O p q S T m' w := by
  obtain ⟨β, G, h1, h2, h3⟩ := h
  exact ⟨β, G, h1, h2.less hm, h3⟩
section
variable {f : FuncId} {args : Array Value} {v : Value}
theorem Td.left (h : Td W O p q S T m w) (hc : ∀ β, DiskAt w β p S → Calls Try.prog f args w fun x w' => x = .returned v ∧ ∃ β', DiskAt w' β' p S' ∧ Tn (Bl β) (Bl β') w w') :
    Calls Try.prog f args w fun x w' => x = .returned v ∧ Td W O p q S' T m w' := by
  obtain ⟨β, G, h1, h2, h3, h4, h5, h6, h7⟩ := h
  exact (hc β h1).mono fun _ _ ⟨hx, β', hD, hT⟩ => ⟨hx, β', G, hD, h2.fr hT.fr (fun k hk hb => h6 k hb hk), h3.trans hT.fr (fun k _ hk ho => h4 k ho hk), (h4.symm.turn (h7.mono h3.size) hT).symm, h5, h6.turn h2.under hT, h7⟩
theorem Td.right (h : Td W O p q S T m w) (hc : ∀ G, RP w G q T m → Calls Try.prog f args w fun x w' => x = .returned v ∧ ∃ G', RP w' G' q T' m' ∧ Tn G G' w w') :
    Calls Try.prog f args w fun x w' => x = .returned v ∧ Td W O p q S T' m' w' := by
  obtain ⟨β, G, h1, h2, h3, h4, h5, h6, h7⟩ := h
  exact (hc G h2).mono fun _ _ ⟨hx, G', hD, hT⟩ => ⟨hx, β, G', h1.fr hT.fr (fun k hk hg => h6 k hk hg), hD, h3.trans hT.fr (fun k _ hk ho => h5 k ho hk), h4, (h5.symm.turn (h7.mono h3.size) hT).symm, (h6.symm.turn h1.under hT).symm, h7⟩
theorem Td.seeL (h : Td W O p q S T m w) (hc : ∀ β, DiskAt w β p S → Calls Try.prog f args w fun x w' => x = .returned v ∧ Ext w w') :
    Calls Try.prog f args w fun x w' => x = .returned v ∧ Td W O p q S T m w' := by
  obtain ⟨β, G, h1, h2⟩ := id h
  exact (hc β h1).mono fun _ _ ⟨hx, hE⟩ => ⟨hx, h.ext hE⟩
theorem Td.seeR (h : Td W O p q S T m w) (hc : ∀ G, RP w G q T m → Calls Try.prog f args w fun x w' => x = .returned v ∧ w = w') :
    Calls Try.prog f args w fun x w' => x = .returned v ∧ Td W O p q S T m w' := by
  obtain ⟨β, G, h1, h2, _⟩ := id h
  exact (hc G h2).mono fun _ _ ⟨hx, hE⟩ => ⟨hx, hE ▸ h⟩
end
/-- O, and one block more. -/
def With (O : Nat → Prop) (b : Nat) : Nat → Prop := fun k => O k ∨ k = b
theorem With.new (O : Nat → Prop) (b : Nat) : With O b b := Or.inr rfl
theorem Td.plus (h : Td W O p q S T m w) (o : Obj) : Td (w.alloc o) (With O w.heap.size) p q S T m (w.alloc o) := by
  obtain ⟨β, G, h1, h2, h3, h4, h5, h6, h7⟩ := h
  refine ⟨β, G, h1.ext ((Ext.refl _).alloc _), h2.ext ((Ext.refl _).alloc _), Fr.refl _ _, fun k hk hb => ?_, fun k hk hb => ?_, h6, fun k hk => ?_⟩
  · rcases hk with hk | rfl
    · exact h4 k hk hb
    · exact absurd (h1.under _ hb) (by omega)
  · rcases hk with hk | rfl
    · exact h5 k hk hb
    · exact absurd (h2.under _ hb) (by omega)
  · rw [World.size_alloc]
    rcases hk with hk | rfl
    · have := h7 k hk; have := h3.size; omega
    · omega
theorem Td.back (h : Td W O p q S T m w) (hx : Ext w V) {b : Nat} (h' : Td V (With O b) p q S' T' m' w') : Td W O p q S' T' m' w' := by
  obtain ⟨_, _, _, _, h3, _, _, _, h7⟩ := h
  obtain ⟨β, G, k1, k2, k3, k4, k5, k6, _⟩ := h'
  exact ⟨β, G, k1, k2, (h3.trans (Fr.of_ext (F := fun _ => False) hx) (fun _ _ hf => hf.elim)).trans k3 (fun _ _ hk ho => hk (.inl ho)), fun k hk => k4 k (.inl hk), fun k hk => k5 k (.inl hk), k6, h7⟩
/-- What is read of O. -/
theorem Td.cells {A : Nat → Prop} {w0 w1 : World} (h : Fr (fun k => ¬ A k) w0 w1) {g : Nat} {a : Array Value} {t : TypeId} (hb : w0.heap[g]? = some (.cells a t)) (hn : A g) : ∀ o, w1.cell? ⟨g, o, none⟩ = a[o]? := (h.cells hb (fun h => h hn)).1
end Go.Proofs.Ytfcjjdmfnkiacaa
