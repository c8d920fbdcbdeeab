/-
  Messages, and lists of them as cells.
-/
import Derived.Test.YtjalikjakoddoaaOwn
namespace Go.Nt
/-- A message: to, order, deed, name, quantity, amount, code. -/
abbrev Msg := Int × Int × Int × List UInt8 × Int × Int × Int
def Mc (m : Msg) : List Value := [.int .i64 m.1, .int .i64 m.2.1, .int .i64 m.2.2.1, .string (ofL m.2.2.2.1), .int .i64 m.2.2.2.2.1, .int .i64 m.2.2.2.2.2.1, .int .i64 m.2.2.2.2.2.2]
def Mv (m : Msg) : Value := .agg #[.int .i64 m.1, .int .i64 m.2.1, .int .i64 m.2.2.1, .string (ofL m.2.2.2.1), .int .i64 m.2.2.2.2.1, .int .i64 m.2.2.2.2.2.1, .int .i64 m.2.2.2.2.2.2]
def Ml (L : List Msg) : List Value := L.flatMap Mc
theorem Mc_length (m : Msg) : (Mc m).length = 7 := rfl
theorem Ml_length (L : List Msg) : (Ml L).length = L.length * 7 := by
  induction L with
  | nil => rfl
  | cons m L ih => simp only [Ml, List.flatMap_cons, List.length_append, Mc_length, List.length_cons] at ih ⊢; omega
theorem Ml_append (A B : List Msg) : Ml (A ++ B) = Ml A ++ Ml B := by simp [Ml]
theorem Ml_take (L : List Msg) (k : Nat) : Ml (L.take k) = (Ml L).take (k * 7) := by
  induction L generalizing k with
  | nil => simp [Ml]
  | cons m L ih => cases k with
    | zero => simp [Ml]
    | succ k =>
      show Mc m ++ Ml (L.take k) = (Mc m ++ Ml L).take ((k + 1) * 7)
      rw [List.take_append, List.take_of_length_le (l := Mc m) (by rw [Mc_length]; omega), Mc_length, ih, show (k + 1) * 7 - 7 = k * 7 by omega]
theorem Ml_drop (L : List Msg) (k : Nat) : Ml (L.drop k) = (Ml L).drop (k * 7) := by
  induction L generalizing k with
  | nil => simp [Ml]
  | cons m L ih => cases k with
    | zero => simp [Ml]
    | succ k =>
      show Ml (L.drop k) = (Mc m ++ Ml L).drop ((k + 1) * 7)
      rw [List.drop_append, List.drop_of_length_le (l := Mc m) (by rw [Mc_length]; omega), Mc_length, ih, show (k + 1) * 7 - 7 = k * 7 by omega]
      simp
theorem Ml_get (L : List Msg) (k j : Nat) (hk : k < L.length) (hj : j < 7) : (Ml L)[k * 7 + j]? = (Mc (L[k]))[j]? := by
  have h1 : (Ml L)[k * 7 + j]? = ((Ml L).drop (k * 7))[j]? := by rw [List.getElem?_drop]
  rw [h1, ← Ml_drop, List.drop_eq_getElem_cons hk]
  show (Mc (L[k]) ++ Ml (L.drop (k + 1)))[j]? = _
  rw [List.getElem?_append_left (by rw [Mc_length]; exact hj)]
theorem Ml_one (L : List Msg) : ∀ u ∈ Ml L, u.oneCell' = true := by
  intro u hu
  simp only [Ml, List.mem_flatMap] at hu
  obtain ⟨m, _, hm⟩ := hu
  simp only [Mc, List.mem_cons, List.not_mem_nil, or_false] at hm
  rcases hm with rfl | rfl | rfl | rfl | rfl | rfl | rfl <;> rfl
/-- The cells of one message of a row. -/
structure MAt (w : World) (g o : Nat) (m : Msg) : Prop where
  c0 : w.cell? ⟨g, o, none⟩ = some (.int .i64 m.1)
  c1 : w.cell? ⟨g, o + 1, none⟩ = some (.int .i64 m.2.1)
  c2 : w.cell? ⟨g, o + 2, none⟩ = some (.int .i64 m.2.2.1)
  c3 : w.cell? ⟨g, o + 3, none⟩ = some (.string (ofL m.2.2.2.1))
  c4 : w.cell? ⟨g, o + 4, none⟩ = some (.int .i64 m.2.2.2.2.1)
  c5 : w.cell? ⟨g, o + 5, none⟩ = some (.int .i64 m.2.2.2.2.2.1)
  c6 : w.cell? ⟨g, o + 6, none⟩ = some (.int .i64 m.2.2.2.2.2.2)
theorem MAt.of {w : World} {g o : Nat} {m : Msg} (h : ∀ j, j < 7 → w.cell? ⟨g, o + j, none⟩ = (Mc m)[j]?) : MAt w g o m :=
  ⟨h 0 (by omega), h 1 (by omega), h 2 (by omega), h 3 (by omega), h 4 (by omega), h 5 (by omega), h 6 (by omega)⟩
theorem _root_.Go.Rw.msg {w : World} {g n cap : Nat} {L : List Msg} (h : Rw w 7 (some ⟨g, 0, none⟩) n cap (Ml L)) (k : Nat) (hk : k < L.length) : MAt w g (k * 7) (L[k]) := by
  have hl := h.len
  rw [Ml_length] at hl
  obtain ⟨g', e, _, h2, _⟩ := h.row (by omega)
  cases e
  exact MAt.of fun j hj => by rw [h2 _ (by omega), Ml_get L k j hk hj]
end Go.Nt
namespace Go.Proofs.Ytjalikjakoddoaa
open Go.RowKit Go.Nt
/-- A net, made, at block p, its messages in a row at ao. -/
structure NetAt (w : World) (p : Nat) (ao : Option Addr) (cap : Nat) (L : List Msg) : Prop where
  lt : p < w.heap.size
  made : w.cell? ⟨p, 0, none⟩ = some (.bool true)
  list : w.cell? ⟨p, 1, none⟩ = some (.slice ao L.length cap)
  free : w.frozen? ⟨p, 1, none⟩ = false
  row : Rw w 7 ao L.length cap (Ml L)
  apart : ob ao ≠ some p
theorem NetAt.kept {w w' : World} {p : Nat} {ao : Option Addr} {cap : Nat} {L : List Msg} (h : NetAt w p ao cap L) (hs : w.heap.size ≤ w'.heap.size) (hp : w'.heap[p]? = w.heap[p]?) (hb : ∀ g, ob ao = some g → w'.heap[g]? = w.heap[g]?) : NetAt w' p ao cap L :=
  ⟨Nat.lt_of_lt_of_le h.lt hs, (World.cell?_of_block (a := ⟨p, 0, none⟩) hp).trans h.made, (World.cell?_of_block (a := ⟨p, 1, none⟩) hp).trans h.list, (World.frozen?_of_block (a := ⟨p, 1, none⟩) hp).trans h.free, h.row.kept hs hb, h.apart⟩
theorem NetAt.ext {w w' : World} {p : Nat} {ao : Option Addr} {cap : Nat} {L : List Msg} (h : NetAt w p ao cap L) (hx : Ext w w') : NetAt w' p ao cap L :=
  h.kept hx.size (Below.block hx p h.lt) (fun g hg => Below.block hx g (h.row.lt g hg))
/-- What an object has become: its row is at ao' now; of old blocks only its own have turned. -/
def Turned (w w' : World) (p : Nat) (ao ao' : Option Addr) : Prop := Fr (fun k => k = p ∨ ob ao = some k) w w' ∧ (ao' = ao ∨ ∃ g, ao' = some ⟨g, 0, none⟩ ∧ w.heap.size ≤ g)
theorem NetAt.put {w w1 w2 : World} {p : Nat} {ao ao' : Option Addr} {cap cap' n : Nat} {L M : List Msg} (H : NetAt w p ao cap L) (hx : Ext w w1) (hn : M.length = n)
    (hr : Rw w2 7 ao' M.length cap' (Ml M)) (hf : Fr (fun k => ob ao = some k) w1 w2) (ha : ao' = ao ∨ ∃ g, ao' = some ⟨g, 0, none⟩ ∧ w1.heap.size ≤ g) :
    w2.cell? ⟨p, 1, none⟩ = some (.slice ao L.length cap) ∧ w2.frozen? ⟨p, 1, none⟩ = false ∧
      NetAt (w2.setCell ⟨p, 1, none⟩ (.slice ao' n cap')) p ao' cap' M ∧ Turned w (w2.setCell ⟨p, 1, none⟩ (.slice ao' n cap')) p ao ao' := by
  subst hn
  have hp1 : p < w1.heap.size := Nat.lt_of_lt_of_le H.lt hx.size
  have hne : ob ao' ≠ some p := by
    rcases ha with rfl | ⟨g, rfl, hg⟩
    · exact H.apart
    · intro h
      have : g = p := by simpa [ob] using h
      omega
  have hf0 : Fr (fun k => ob ao = some k) w w2 := (Fr.of_ext (F := fun k => ob ao = some k) hx).trans hf (fun _ _ h => h)
  have h1 : w2.cell? ⟨p, 1, none⟩ = some (.slice ao L.length cap) := (hf0.cell H.lt H.apart).trans H.list
  have hsz : (w2.setCell ⟨p, 1, none⟩ (.slice ao' M.length cap')).heap.size = w2.heap.size := by show (w2.heap.modify _ _).size = _; rw [Array.size_modify]
  refine ⟨h1, (hf0.frozen H.lt H.apart).trans H.free, ⟨by rw [hsz]; exact Nat.lt_of_lt_of_le H.lt hf0.size, ?_, World.cell?_setCell_same _ _ _ h1, ?_, ?_, hne⟩, ?_, ?_⟩
  · rw [World.cell?_setCell_other _ _ _ _ (by simp)]
    exact (hf0.cell (p := ⟨p, 0, none⟩) H.lt H.apart).trans H.made
  · rw [World.frozen?_setCell]; exact (hf0.frozen H.lt H.apart).trans H.free
  · refine hr.kept (Nat.le_of_eq hsz.symm) (fun g hg => ?_)
    have hgp : g ≠ p := fun h => hne (h ▸ hg)
    show (w2.heap.modify p _)[g]? = _
    rw [Array.getElem?_modify, if_neg (fun h => hgp h.symm)]
  · exact (hf0.mono (fun _ _ h => .inr h)).setCell (fun _ => .inl rfl) _
  · rcases ha with h | ⟨g, h, hg⟩
    · exact .inl h
    · exact .inr ⟨g, h, Nat.le_trans hx.size hg⟩
theorem Turned.drew {w w' : World} {p : Nat} {ao ao' : Option Addr} (h : Turned w w' p ao ao') : Turned w w'.drew p ao ao' := ⟨h.1.drew, h.2⟩
theorem NetAt.drew {w : World} {p : Nat} {ao : Option Addr} {cap : Nat} {L : List Msg} (h : NetAt w p ao cap L) : NetAt w.drew p ao cap L := h.ext (Ext.refl w).drew
end Go.Proofs.Ytjalikjakoddoaa
