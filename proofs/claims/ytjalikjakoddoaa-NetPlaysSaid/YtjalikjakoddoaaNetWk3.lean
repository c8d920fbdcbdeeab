/-
  The walks of the net: Turn, Mail, Copy, New; a net that is none.
-/
import Derived.Test.YtjalikjakoddoaaNetWk2
namespace Go.Proofs.Ytjalikjakoddoaa
open Go.RowKit Go.Nt
theorem Ml_set (b : Msg) : ∀ (L : List Msg) (i : Nat), i < L.length → Ml (L.set i b) =
    (((((((Ml L).set (i * 7) (.int .i64 b.1)).set (i * 7 + 1) (.int .i64 b.2.1)).set (i * 7 + 2) (.int .i64 b.2.2.1)).set (i * 7 + 3) (.string (ofL b.2.2.2.1))).set (i * 7 + 4) (.int .i64 b.2.2.2.2.1)).set (i * 7 + 5) (.int .i64 b.2.2.2.2.2.1)).set (i * 7 + 6) (.int .i64 b.2.2.2.2.2.2)
  | [], i, h => absurd h (by simp)
  | m :: L, 0, _ => rfl
  | m :: L, i + 1, h => by
    have ih := Ml_set b L i (by simpa using h)
    show Mc m ++ Ml (L.set i b) = _
    rw [ih, show (i + 1) * 7 = i * 7 + 7 by omega, show i * 7 + 7 + 1 = i * 7 + 1 + 7 by omega, show i * 7 + 7 + 2 = i * 7 + 2 + 7 by omega, show i * 7 + 7 + 3 = i * 7 + 3 + 7 by omega, show i * 7 + 7 + 4 = i * 7 + 4 + 7 by omega, show i * 7 + 7 + 5 = i * 7 + 5 + 7 by omega, show i * 7 + 7 + 6 = i * 7 + 6 + 7 by omega]
    rfl
theorem _root_.Go.Rw.setMsg {w : World} {g n cap : Nat} {L : List Msg} (h : Rw w 7 (some ⟨g, 0, none⟩) n cap (Ml L)) (i : Nat) (hi : i < L.length) (b : Msg) : Rw (w.setCells g (i * 7) (Mc b)) 7 (some ⟨g, 0, none⟩) n cap (Ml (L.set i b)) := by
  have hl := h.len
  rw [Ml_length] at hl
  rw [Ml_set b L i hi]
  exact ((((((h.set (i * 7) (by omega) _).set (i * 7 + 1) (by omega) _).set (i * 7 + 2) (by omega) _).set (i * 7 + 3) (by omega) _).set (i * 7 + 4) (by omega) _).set (i * 7 + 5) (by omega) _).set (i * 7 + 6) (by omega) _
theorem Turned.trans {a b c : World} {p : Nat} {ao ao' ao'' : Option Addr} (h : Turned a b p ao ao') (k : Turned b c p ao' ao'') (hlt : ∀ g, ob ao' = some g → ob ao = some g ∨ a.heap.size ≤ g) : Turned a c p ao ao'' := by
  refine ⟨h.1.trans k.1 (fun i hi hf => hf.elim .inl (fun h => (hlt i h).elim .inr (fun h => by omega))), ?_⟩
  rcases k.2 with rfl | ⟨g, rfl, hg⟩
  · exact h.2
  · exact .inr ⟨g, rfl, Nat.le_trans h.1.size hg⟩
theorem NetAt.setMsg {w : World} {p g cap : Nat} {L : List Msg} (h : NetAt w p (some ⟨g, 0, none⟩) cap L) (i : Nat) (hi : i < L.length) (b : Msg) :
    NetAt (w.setCells g (i * 7) (Mc b)) p (some ⟨g, 0, none⟩) cap (L.set i b) ∧ Turned w (w.setCells g (i * 7) (Mc b)) p (some ⟨g, 0, none⟩) (some ⟨g, 0, none⟩) := by
  have hf : Fr (fun k => k = g) w (w.setCells g (i * 7) (Mc b)) := Fr.setCells (by intro _; rfl) _ _ _ (Fr.refl _ _)
  have hne : ¬ p = g := fun e => h.apart (by rw [e]; rfl)
  have hr := h.row.setMsg i hi b
  refine ⟨⟨Nat.lt_of_lt_of_le h.lt hf.size, (hf.cell (p := ⟨p, 0, none⟩) h.lt hne).trans h.made, ?_, (hf.frozen (p := ⟨p, 1, none⟩) h.lt hne).trans h.free, ?_, h.apart⟩, hf.mono (fun k _ e => .inr (by rw [e]; rfl)), .inl rfl⟩
  · rw [List.length_set]; exact (hf.cell (p := ⟨p, 1, none⟩) h.lt hne).trans h.list
  · rw [List.length_set]; exact hr
/-- Two places, set one after the other. -/
theorem NetAt.setTwo {w : World} {p g cap : Nat} {L : List Msg} (h : NetAt w p (some ⟨g, 0, none⟩) cap L) (i k : Nat) (hi : i < L.length) (hk : k < L.length) (a b : Msg) {F : World} (hF : F = ((w.setCells g (i * 7) (Mc b)).setCells g (k * 7) (Mc a)).drew) :
    NetAt F p (some ⟨g, 0, none⟩) cap ((L.set i b).set k a) ∧ Turned w F p (some ⟨g, 0, none⟩) (some ⟨g, 0, none⟩) := by
  subst hF
  have h1 := h.setMsg i hi b
  have h2 := h1.1.setMsg k (by rw [List.length_set]; exact hk) a
  exact ⟨h2.1.drew, (h1.2.trans h2.2 (fun _ h => .inl h)).drew⟩
set_option maxHeartbeats 1000000 in
set_option maxRecDepth 100000 in
theorem turn_two {w : World} {p : Nat} {ao : Option Addr} {cap : Nat} {L : List Msg} (h : NetAt w p ao cap L) (i k : Nat) (hi : i < L.length) (hk : k < L.length) (hik : i ≠ k) (hl : L.length ≤ 1000) :
    Calls Try.prog 13 #[.pointer (some ⟨p, 0, none⟩), .int .i64 i, .int .i64 k] w fun e w' => e = .returned (.bool true) ∧
      ∃ ao' cap', NetAt w' p ao' cap' ((L.set i (L[k])).set k (L[i])) ∧ Turned w w' p ao ao' := by
  have H := Lib.hid h
  have h1 := h.list
  have hlt := h.lt
  have A := Lib.hid (fun w' hx => at_yes (h.ext (w' := w') hx) i hi)
  have B := Lib.hid (fun w' hx => at_yes (h.ext (w' := w') hx) k hk)
  obtain ⟨g, rfl, hg, hx1, hx2⟩ := h.row.row (by omega)
  obtain ⟨c0, c1, c2, c3, c4, c5, c6⟩ := h.row.msg i hi
  obtain ⟨d0, d1, d2, d3, d4, d5, d6⟩ := h.row.msg k hk
  have f0 := hx2 (i * 7) (by omega)
  have f1 := hx2 (i * 7 + 1) (by omega)
  have f2 := hx2 (i * 7 + 2) (by omega)
  have f3 := hx2 (i * 7 + 3) (by omega)
  have f4 := hx2 (i * 7 + 4) (by omega)
  have f5 := hx2 (i * 7 + 5) (by omega)
  have f6 := hx2 (i * 7 + 6) (by omega)
  have g0 := hx2 (k * 7) (by omega)
  have g1 := hx2 (k * 7 + 1) (by omega)
  have g2 := hx2 (k * 7 + 2) (by omega)
  have g3 := hx2 (k * 7 + 3) (by omega)
  have g4 := hx2 (k * 7 + 4) (by omega)
  have g5 := hx2 (k * 7 + 5) (by omega)
  have g6 := hx2 (k * 7 + 6) (by omega)
  clear hx1 hx2 h
  obtain ⟨a, haa⟩ : ∃ a, a = L[i] := ⟨_, rfl⟩
  obtain ⟨b, hbb⟩ : ∃ b, b = L[k] := ⟨_, rfl⟩
  rw [← haa] at c0 c1 c2 c3 c4 c5 c6
  rw [← hbb] at d0 d1 d2 d3 d4 d5 d6 
  have haa := Lib.hid haa
  have hbb := Lib.hid hbb
  go_enter Try.func13, Try.ntmps13
  go_wp2_with (go_at_call 21; first | (with_reducible refine (A.out _ (Ext.refl _)).mono ?_; rintro e w1 ⟨rfl, rfl⟩) | (with_reducible refine (B.out _ (Ext.refl _)).mono ?_; rintro e w1 ⟨rfl, rfl⟩))
  go_region
  all_goals
    go_wp2
    go_ret
    rw [← haa.out, ← hbb.out]
    exact ⟨rfl, _, _, H.out.setTwo i k hi hk a b rfl⟩
set_option maxHeartbeats 1000000 in
set_option maxRecDepth 100000 in
theorem turn_same {w : World} {p : Nat} {ao : Option Addr} {cap : Nat} {L : List Msg} (h : NetAt w p ao cap L) (i : Nat) (hi : i < L.length) (hl : L.length ≤ 1000) :
    Calls Try.prog 13 #[.pointer (some ⟨p, 0, none⟩), .int .i64 i, .int .i64 i] w fun e w' => e = .returned (.bool true) ∧
      ∃ ao' cap', NetAt w' p ao' cap' ((L.set i (L[i])).set i (L[i])) ∧ Turned w w' p ao ao' := by
  have H := Lib.hid h
  have h1 := h.list
  have hlt := h.lt
  have A := Lib.hid (fun w' hx => at_yes (h.ext (w' := w') hx) i hi)
  obtain ⟨g, rfl, hg, hx1, hx2⟩ := h.row.row (by omega)
  obtain ⟨c0, c1, c2, c3, c4, c5, c6⟩ := h.row.msg i hi
  have f0 := hx2 (i * 7) (by omega)
  have f1 := hx2 (i * 7 + 1) (by omega)
  have f2 := hx2 (i * 7 + 2) (by omega)
  have f3 := hx2 (i * 7 + 3) (by omega)
  have f4 := hx2 (i * 7 + 4) (by omega)
  have f5 := hx2 (i * 7 + 5) (by omega)
  have f6 := hx2 (i * 7 + 6) (by omega)
  clear hx1 hx2 h
  obtain ⟨a, haa⟩ : ∃ a, a = L[i] := ⟨_, rfl⟩
  rw [← haa] at c0 c1 c2 c3 c4 c5 c6

  have haa := Lib.hid haa
  go_enter Try.func13, Try.ntmps13
  go_wp2_with (go_at_call 21; first | (with_reducible refine (A.out _ (Ext.refl _)).mono ?_; rintro e w1 ⟨rfl, rfl⟩))
  go_region
  all_goals
    go_wp2
    go_ret
    rw [← haa.out]
    exact ⟨rfl, _, _, H.out.setTwo i i hi hi a a rfl⟩
end Go.Proofs.Ytjalikjakoddoaa
