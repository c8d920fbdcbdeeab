/-
  Objects that turn: their blocks ('Tn'), and two of them apart.
-/
import Derived.Test.YtajclcbclbppiaaOwn
namespace Go
open Go.RowKit
/-- What an object has become: F' are its blocks now; of old blocks only its own have turned. -/
structure Tn (F F' : Nat → Prop) (w w' : World) : Prop where
  fr : Fr F w w'
  new : ∀ k, F' k → F k ∨ w.heap.size ≤ k
/-- No block in common. -/
def Apart (F G : Nat → Prop) : Prop := ∀ k, F k → ¬ G k
/-- Blocks that there are. -/
def Under (F : Nat → Prop) (w : World) : Prop := ∀ k, F k → k < w.heap.size
/-- The blocks of two. -/
def Both (F G : Nat → Prop) : Nat → Prop := fun k => F k ∨ G k
theorem Tn.refl (F : Nat → Prop) (w : World) : Tn F F w w := ⟨Fr.refl F w, fun _ h => .inl h⟩
theorem Tn.trans {F F' F'' : Nat → Prop} {a b c : World} (h : Tn F F' a b) (k : Tn F' F'' b c) : Tn F F'' a c :=
  ⟨h.fr.trans k.fr (fun i hi hf => (h.new i hf).resolve_right (by omega)), fun i hi => (k.new i hi).elim (h.new i) (fun hb => .inr (Nat.le_trans h.fr.size hb))⟩
theorem Tn.of_ext {F : Nat → Prop} {w w' : World} (h : Ext w w') : Tn F F w w' := ⟨Fr.of_ext h, fun _ h => .inl h⟩
theorem Tn.ext {F F' : Nat → Prop} {a b c : World} (h : Tn F F' a b) (k : Ext b c) : Tn F F' a c := h.trans (Tn.of_ext k)
theorem Tn.drew {F F' : Nat → Prop} {a b : World} (h : Tn F F' a b) : Tn F F' a b.drew := h.ext (Ext.refl b).drew
theorem Under.mono {F : Nat → Prop} {w w' : World} (h : Under F w) (hs : w.heap.size ≤ w'.heap.size) : Under F w' := fun k hk => Nat.lt_of_lt_of_le (h k hk) hs
theorem Apart.symm {F G : Nat → Prop} (h : Apart F G) : Apart G F := fun k hk hf => h k hf hk
theorem Apart.turn {F F' G : Nat → Prop} {w w' : World} (h : Apart F G) (hG : Under G w) (t : Tn F F' w w') : Apart F' G :=
  fun k hk hg => (t.new k hk).elim (fun h1 => h k h1 hg) (fun h1 => by have := hG k hg; omega)
theorem Apart.turn' {F G G' : Nat → Prop} {w w' : World} (h : Apart F G) (hF : Under F w) (t : Tn G G' w w') : Apart F G' := (h.symm.turn hF t).symm
/-- An object that is new is apart from all that there was. -/
theorem Apart.fresh {F G : Nat → Prop} {w : World} (hF : Under F w) (hG : ∀ k, G k → w.heap.size ≤ k) : Apart F G := fun k hk hg => by have := hF k hk; have := hG k hg; omega
theorem Apart.both {F G H : Nat → Prop} (h : Apart F H) (k : Apart G H) : Apart (Both F G) H := fun i hi hh => hi.elim (fun hf => h i hf hh) (fun hg => k i hg hh)
theorem Apart.of_both {F G H : Nat → Prop} (h : Apart (Both F G) H) : Apart F H ∧ Apart G H := ⟨fun i hi => h i (.inl hi), fun i hi => h i (.inr hi)⟩
theorem Under.both {F G : Nat → Prop} {w : World} (h : Under F w) (k : Under G w) : Under (Both F G) w := fun i hi => hi.elim (h i) (k i)
theorem Tn.left {F F' G : Nat → Prop} {w w' : World} (h : Tn F F' w w') : Tn (Both F G) (Both F' G) w w' :=
  ⟨h.fr.mono (fun _ _ hf => .inl hf), fun i hi => hi.elim (fun hf => (h.new i hf).elim (fun a => .inl (.inl a)) .inr) (fun hg => .inl (.inr hg))⟩
theorem Tn.right {F G G' : Nat → Prop} {w w' : World} (h : Tn G G' w w') : Tn (Both F G) (Both F G') w w' :=
  ⟨h.fr.mono (fun _ _ hf => .inr hf), fun i hi => hi.elim (fun hf => .inl (.inl hf)) (fun hg => (h.new i hg).elim (fun a => .inl (.inr a)) .inr)⟩
/-- An object that is new, and turned since, is new. -/
theorem Tn.fresh {F F' : Nat → Prop} {a w w' : World} (h : Tn F F' w w') (hs : a.heap.size ≤ w.heap.size) (hF : ∀ k, F k → a.heap.size ≤ k) : ∀ k, F' k → a.heap.size ≤ k :=
  fun k hk => (h.new k hk).elim (hF k) (fun h1 => Nat.le_trans hs h1)
/-- Only what is new has turned. -/
theorem Tn.grown {F F' : Nat → Prop} {a w w' : World} (hx : Ext a w) (h : Tn F F' w w') (hF : ∀ k, F k → a.heap.size ≤ k) : Ext a w' :=
  have f := Fr.ext hx h.fr hF
  ⟨f.os, f.tape, f.output, f.size, fun k hk => f.block k hk⟩
/-- The cells of a block that has not turned. -/
theorem Fr.cells {F : Nat → Prop} {w w' : World} (h : Fr F w w') {g : Nat} {a : Array Value} {t : TypeId} (hb : w.heap[g]? = some (.cells a t)) (hn : ¬ F g) : (∀ o, w'.cell? ⟨g, o, none⟩ = a[o]?) ∧ ∀ o, w'.frozen? ⟨g, o, none⟩ = false := by
  have hg : g < w.heap.size := by
    rcases Nat.lt_or_ge g w.heap.size with h | h
    · exact h
    · rw [Array.getElem?_eq_none h] at hb; cases hb
  have h1 := (h.block g hg hn).trans hb
  exact ⟨fun o => by simp only [World.cell?, h1]; simp, fun o => by simp only [World.frozen?, h1]; simp⟩
/-- Only one block has turned, that is new since a. -/
theorem Fr.grownFrom {F : Nat → Prop} {a w w' : World} (h : Fr F w w') (hx : Ext a w) (hF : ∀ k, F k → a.heap.size ≤ k) : Ext a w' := Tn.grown hx (⟨h, fun _ h => .inl h⟩ : Tn F F w w') hF
/-- Seven cells that have been set. -/
theorem seven_cells (W : World) (b : Nat) (a0 a1 a2 a3 a4 a5 a6 : Value) (h : ∀ j, j < 7 → (W.cell? ⟨b, j, none⟩).isSome = true) {F : World}
    (hF : F = ((((((W.setCell ⟨b, 0, none⟩ a0).setCell ⟨b, 1, none⟩ a1).setCell ⟨b, 2, none⟩ a2).setCell ⟨b, 3, none⟩ a3).setCell ⟨b, 4, none⟩ a4).setCell ⟨b, 5, none⟩ a5).setCell ⟨b, 6, none⟩ a6) :
    F.cell? ⟨b, 0, none⟩ = some a0 ∧ F.cell? ⟨b, 1, none⟩ = some a1 ∧ F.cell? ⟨b, 2, none⟩ = some a2 ∧ F.cell? ⟨b, 3, none⟩ = some a3 ∧ F.cell? ⟨b, 4, none⟩ = some a4 ∧ F.cell? ⟨b, 5, none⟩ = some a5 ∧ F.cell? ⟨b, 6, none⟩ = some a6 := by
  have k := World.cell?_setCells_in b [a0, a1, a2, a3, a4, a5, a6] 0 W (fun j hj => by rw [Nat.zero_add]; exact h j (by simpa using hj))
  subst hF
  exact ⟨k 0 (by simp), k 1 (by simp), k 2 (by simp), k 3 (by simp), k 4 (by simp), k 5 (by simp), k 6 (by simp)⟩
theorem heap_two_first (w : World) (a b : Obj) : ((w.alloc a).alloc b).drew.heap[w.heap.size]? = some a := by
  show ((w.alloc a).alloc b).heap[w.heap.size]? = _
  rw [Below.heap_alloc _ _ _ (by simp)]
  exact heap_alloc_new w a
theorem heap_two_second (w : World) (a b : Obj) : ((w.alloc a).alloc b).drew.heap[w.heap.size + 1]? = some b := by
  have h := heap_alloc_new (w.alloc a) b
  rw [show (w.alloc a).heap.size = w.heap.size + 1 by simp] at h
  exact h
end Go
