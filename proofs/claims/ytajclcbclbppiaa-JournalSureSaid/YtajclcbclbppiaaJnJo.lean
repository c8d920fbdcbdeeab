/-
  The journal as an object ('JoAt', 'Jp'); a journal made where none is.
-/
import Derived.Test.YtajclcbclbppiaaJnMe
namespace Go.Proofs.Ytajclcbclbppiaa
open Go.RowKit Go.Maps Go.Dk Go.Rc Go.Jn Go.Shelf
variable {W w w' : World} {O O' F : Nat → Prop} {p q : Nat} {S S' : St} {J J' : Jo}
/-- A journal's object. -/
structure JoAt (w : World) (q p : Nat) (J : Jo) : Prop where
  lt : q < w.heap.size
  c0 : w.cell? ⟨q, 0, none⟩ = some (.pointer (some ⟨p, 0, none⟩))
  c1 : w.cell? ⟨q, 1, none⟩ = some (.int .i64 J.n)
  c2 : w.cell? ⟨q, 2, none⟩ = some (.int .i64 J.size)
  c3 : w.cell? ⟨q, 3, none⟩ = some (.int .i64 J.many)
  c4 : w.cell? ⟨q, 4, none⟩ = some (.int .i64 J.starts)
  c5 : w.cell? ⟨q, 5, none⟩ = some (.bool J.dead)
  fz : ∀ j, w.frozen? ⟨q, j, none⟩ = false
theorem JoAt.kept (h : JoAt w q p J) (hs : w.heap.size ≤ w'.heap.size) (hb : w'.heap[q]? = w.heap[q]?) : JoAt w' q p J :=
  ⟨Nat.lt_of_lt_of_le h.lt hs, cell_kept hb h.c0, cell_kept hb h.c1, cell_kept hb h.c2, cell_kept hb h.c3, cell_kept hb h.c4, cell_kept hb h.c5, fun j => (World.frozen?_of_block (a := ⟨q, j, none⟩) hb).trans (h.fz j)⟩
theorem JoAt.fr (h : JoAt w q p J) (hf : Fr F w w') (hn : ¬ F q) : JoAt w' q p J := h.kept hf.size (hf.block q h.lt hn)
theorem JoAt.ext (h : JoAt w q p J) (hx : Ext w w') : JoAt w' q p J := h.kept hx.size (Below.block hx q h.lt)
theorem JoAt.made {t : TypeId} (hb : w.heap[q]? = some (.cells #[.pointer (some ⟨p, 0, none⟩), .int .i64 J.n, .int .i64 J.size, .int .i64 J.many, .int .i64 J.starts, .bool J.dead] t)) : JoAt w q p J := by
  have hg : q < w.heap.size := by
    rcases Nat.lt_or_ge q w.heap.size with h | h
    · exact h
    · rw [Array.getElem?_eq_none h] at hb; cases hb
  refine ⟨hg, ?_, ?_, ?_, ?_, ?_, ?_, fun j => ?_⟩
  all_goals first | (simp only [World.cell?, hb]; rfl) | (simp only [World.frozen?, hb]; simp)
def WithO (O : Nat → Prop) (b : Nat) : Nat → Prop := fun k => O k ∨ k = b
/-- A journal and its disk, apart from O; of O nothing has turned since W. -/
structure Jp (W : World) (O : Nat → Prop) (p q : Nat) (S : St) (J : Jo) (w : World) : Prop where
  d : Dp w (WithO O q) p S w
  j : JoAt w q p J
  out : ¬ O q
  fr : Fr (fun k => ¬ O k) W w
  under : Under O W
theorem Dp.under (h : Dp W O p S w) : Under O W := by obtain ⟨_, _, _, _, h⟩ := h; exact h
theorem Jp.ok (h : Jp W O p q S J w) : Ok S := h.d.ok
theorem Jp.made (h : Dp W O p S w) (hx : Ext w w') (hq : w.heap.size ≤ q) (hj : JoAt w' q p J) : Jp W O p q S J w' := by
  have hs := h.fr.size
  refine ⟨h.base (fun k hk => ?_) hx (fun k hk => hk.imp (fun h => h) (fun e => by omega)), hj, fun ho => ?_, h.fr.trans (Fr.of_ext (F := fun _ => False) hx) (fun _ _ hf => hf.elim), h.under⟩
  · rcases hk with hk | rfl
    · have := h.under k hk; have := hx.size; omega
    · exact hj.lt
  · have := h.under q ho; omega
theorem Jp.ext (h : Jp W O p q S J w) (hx : Ext w w') : Jp W O p q S J w' :=
  ⟨h.d.base (fun k hk => Nat.lt_of_lt_of_le (h.d.under k hk) hx.size) hx (fun _ hk => .inl hk), h.j.ext hx, h.out, h.fr.trans (Fr.of_ext (F := fun _ => False) hx) (fun _ _ hf => hf.elim), h.under⟩
/-- Rebased. -/
theorem Dp.now (h : Dp W O p S w) : Dp w O p S w := by
  obtain ⟨β, h1, h3, h4, h7⟩ := h
  exact ⟨β, h1, Fr.refl _ _, h4, h7.mono h3.size⟩
/-- The disk has turned. -/
theorem Jp.disk (h : Jp W O p q S J w) (h' : Dp w (WithO O q) p S' w') : Jp W O p q S' J w' :=
  ⟨h'.now, h.j.fr h'.fr (fun h => h (.inr rfl)), h.out, h.fr.trans h'.fr (fun _ _ hk ho => hk (.inl ho)), h.under⟩
/-- The journal's own cells have turned. -/
theorem Jp.set (h : Jp W O p q S J w) (hf : Fr (fun k => k = q) w w') (hj : JoAt w' q p J') : Jp W O p q S J' w' := by
  obtain ⟨β, h1, h3, h4, h7⟩ := h.d
  refine ⟨⟨β, h1.fr hf (fun k hk e => h4 k (.inr e) hk), Fr.refl _ _, h4, h7.mono hf.size⟩, hj, h.out, h.fr.trans hf (fun k _ e ho => h.out (e ▸ ho)), h.under⟩
theorem Jp.now (h : Jp W O p q S J w) : Jp w O p q S J w := ⟨h.d, h.j, h.out, Fr.refl _ _, h.under.mono h.fr.size⟩
/-- Other things beside. -/
theorem Jp.base (h : Jp W O p q S J w) (hx : Ext w w') (hO : Under O' w') (h' : ∀ k, O' k → O k ∨ w.heap.size ≤ k) : Jp w' O' p q S J w' := by
  have hj := h.j.lt
  refine ⟨h.d.base (fun k hk => ?_) hx (fun k hk => ?_), h.j.ext hx, fun ho => ?_, Fr.refl _ _, hO⟩
  · rcases hk with hk | rfl
    · exact hO k hk
    · exact Nat.lt_of_lt_of_le hj hx.size
  · rcases hk with hk | rfl
    · exact (h' k hk).imp .inl (fun h => h)
    · exact .inl (.inr rfl)
  · rcases h' q ho with hq | hq
    · exact h.out hq
    · omega
theorem Dp.since (h : Dp W O p S w) (h' : Dp w O p S' w') : Dp W O p S' w' := h.back (Ext.refl w) h' (fun _ h => h)
theorem Jp.since (hf : Fr (fun k => ¬ O k) W w) (hu : Under O W) (h : Jp w O p q S J w') : Jp W O p q S J w' := ⟨h.d, h.j, h.out, hf.trans h.fr (fun _ _ hk => hk), hu⟩
end Go.Proofs.Ytajclcbclbppiaa
