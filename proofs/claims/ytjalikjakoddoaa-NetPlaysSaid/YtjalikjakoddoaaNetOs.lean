/-
  NetOnce: its state (a net, two counts), and the counting.
-/
import Derived.Test.YtjalikjakoddoaaNetFullW
import Derived.Test.YtjalikjakoddoaaNetOp
namespace Go.Nt
/-- A message with a number. -/
def qm (q : Nat) : Msg := (0, 0, 0, [], (q : Int), 0, 0)
def I64 (l : List Int) : List Value := l.map (fun x => .int .i64 x)
/-- What is counted: what was wanted is what was got and what is on its way. -/
def Cnt (n i : Nat) (qs : List Nat) (Wt Gt : List Int) : Prop :=
  qs.length ≤ i ∧ (∀ q ∈ qs, q < n) ∧ Wt.length = n ∧ Gt.length = n ∧ ∀ j, j < n → Wt.getD j 0 = Gt.getD j 0 + qs.count j ∧ 0 ≤ Gt.getD j 0 ∧ Gt.getD j 0 ≤ i
theorem getD_set (l : List Int) (q j : Nat) (v : Int) (hq : q < l.length) : (l.set q v).getD j 0 = if q = j then v else l.getD j 0 := by
  simp only [List.getD_eq_getElem?_getD, List.getElem?_set]
  by_cases h : q = j
  · subst h; rw [if_pos rfl, if_pos rfl, if_pos hq]; rfl
  · rw [if_neg h, if_neg h]
theorem count_erase (qs : List Nat) (k : Nat) (hk : k < qs.length) (j : Nat) : (qs.count j : Int) = (qs.eraseIdx k).count j + if qs[k] = j then 1 else 0 := by
  have h : qs = qs.take k ++ qs[k] :: qs.drop (k + 1) := by rw [← List.drop_eq_getElem_cons hk, List.take_append_drop]
  rw [List.eraseIdx_eq_take_drop_succ]
  have : qs.count j = (qs.take k ++ qs[k] :: qs.drop (k + 1)).count j := by rw [← h]
  rw [this]
  simp only [List.count_append, List.count_cons]
  by_cases h : qs[k] = j <;> simp [h] <;> omega
section
variable {n i : Nat} {qs : List Nat} {Wt Gt : List Int}
theorem Cnt.step (h : Cnt n i qs Wt Gt) : Cnt n (i + 1) qs Wt Gt :=
  ⟨by have := h.1; omega, h.2.1, h.2.2.1, h.2.2.2.1, fun j hj => by have := h.2.2.2.2 j hj; omega⟩
theorem Cnt.send (h : Cnt n i qs Wt Gt) (q : Nat) (hq : q < n) : Cnt n (i + 1) (qs ++ [q]) (Wt.set q (Wt.getD q 0 + 1)) Gt := by
  obtain ⟨h1, h2, h3, h4, h5⟩ := h
  refine ⟨by simp; omega, fun x hx => ?_, by simp [h3], h4, fun j hj => ?_⟩
  · rcases List.mem_append.1 hx with hx | hx
    · exact h2 x hx
    · simp at hx; omega
  · have := h5 j hj
    rw [getD_set _ _ _ _ (by omega), List.count_append]
    by_cases e : q = j
    · subst e; rw [if_pos rfl, List.count_singleton_self]; omega
    · rw [if_neg e, List.count_singleton, if_neg (by simpa using e)]; omega
theorem Cnt.got (h : Cnt n i qs Wt Gt) (k : Nat) (hk : k < qs.length) : Cnt n (i + 1) (qs.eraseIdx k) Wt (Gt.set (qs[k]) (Gt.getD (qs[k]) 0 + 1)) := by
  obtain ⟨h1, h2, h3, h4, h5⟩ := h
  refine ⟨by rw [List.length_eraseIdx]; split <;> omega, fun x hx => h2 x (List.mem_of_mem_eraseIdx hx), h3, by simp [h4], fun j hj => ?_⟩
  have a := h5 j hj
  have b := count_erase qs k hk j
  rw [getD_set _ _ _ _ (by rw [h4]; exact h2 _ (List.getElem_mem hk))]
  by_cases e : qs[k] = j
  · rw [if_pos e] at b ⊢; rw [e]; omega
  · rw [if_neg e] at b ⊢; omega
theorem Cnt.drop (h : Cnt n i qs Wt Gt) (k : Nat) (hk : k < qs.length) : Cnt n (i + 1) (qs.eraseIdx k) (Wt.set (qs[k]) (Wt.getD (qs[k]) 0 - 1)) Gt := by
  obtain ⟨h1, h2, h3, h4, h5⟩ := h
  refine ⟨by rw [List.length_eraseIdx]; split <;> omega, fun x hx => h2 x (List.mem_of_mem_eraseIdx hx), by simp [h3], h4, fun j hj => ?_⟩
  have a := h5 j hj
  have b := count_erase qs k hk j
  rw [getD_set _ _ _ _ (by rw [h3]; exact h2 _ (List.getElem_mem hk))]
  by_cases e : qs[k] = j
  · rw [if_pos e] at b ⊢; rw [e]; omega
  · rw [if_neg e] at b ⊢; omega
theorem Cnt.turn (h : Cnt n i qs Wt Gt) (a b : Nat) (ha : a < qs.length) (hb : b < qs.length) : Cnt n (i + 1) ((qs.set a (qs[b])).set b (qs[a])) Wt Gt := by
  have hp := List.set_set_perm ha hb
  obtain ⟨h1, h2, h3, h4, h5⟩ := h
  refine ⟨by simp; omega, fun x hx => h2 x (hp.mem_iff.1 hx), h3, h4, fun j hj => ?_⟩
  rw [hp.count_eq]
  have := h5 j hj
  omega
end
end Go.Nt
namespace Go.Proofs.Ytjalikjakoddoaa
open Go.RowKit Go.Nt
/-- Blocks kept, and one more. -/
def With (R : Nat → Prop) (g : Nat) : Nat → Prop := fun k => R k ∨ k = g
theorem k_mail2 {W : World} {R : Nat → Prop} {p : Nat} {L : List Msg} {w : World} (h : Kp W R p L w) {n : Nat} (hn : L.length = n) (hl : n ≤ 1000) :
    Calls Try.prog 9 #[.pointer (some ⟨p, 0, none⟩)] w fun e w' => ∃ g, e = .returned (.slice (some ⟨g, 0, none⟩) n n) ∧
      Rw w' 7 (some ⟨g, 0, none⟩) n n (Ml L) ∧ Kp w' (With R g) p L w' ∧ Ext w w' := by
  subst hn
  obtain ⟨ao, cap, h1, h2, h3, h4⟩ := h
  refine (mail_any h1 hl).mono fun e w' ⟨g, k1, k2, k3, k4⟩ => ⟨g, k1, k3, ⟨ao, cap, h1.ext k4, Fr.refl _ _, fun k hk ho => ?_, fun k hk => ?_⟩, k4⟩
  · rcases hk with hk | rfl
    · exact h3 k hk ho
    · rcases ho with ho | ho
      · exact absurd h1.lt (by omega)
      · exact absurd (h1.row.lt _ ho) (by omega)
  · rcases hk with hk | rfl
    · exact Nat.lt_of_lt_of_le (h4 k hk) (Nat.le_trans h2.size k4.size)
    · exact k3.lt _ rfl
/-- The base is moved up; less is kept. -/
theorem Kp.less {W : World} {R R' : Nat → Prop} {p : Nat} {L : List Msg} {w : World} (h : Kp W R p L w) (hR : ∀ k, R' k → R k) : Kp w R' p L w := by
  obtain ⟨ao, cap, h1, h2, h3, h4⟩ := h
  exact ⟨ao, cap, h1, Fr.refl _ _, fun k hk => h3 k (hR k hk), fun k hk => Nat.lt_of_lt_of_le (h4 k (hR k hk)) h2.size⟩
/-- A write to what is kept lets the net be. -/
theorem Kp.set {W : World} {R : Nat → Prop} {p : Nat} {L : List Msg} {w : World} (h : Kp W R p L w) {g : Nat} (hg : R g) (j : Nat) (v : Value) : Kp (w.setCell ⟨g, j, none⟩ v) R p L (w.setCell ⟨g, j, none⟩ v) := by
  obtain ⟨ao, cap, h1, h2, h3, h4⟩ := h
  have hf : Fr (fun k => k = g) w (w.setCell ⟨g, j, none⟩ v) := (Fr.refl _ _).setCell (by intro _; rfl) v
  exact ⟨ao, cap, h1.kept hf.size (hf.block p h1.lt (fun e => h3 g hg (.inl e.symm))) (fun k hk => hf.block k (h1.row.lt k hk) (fun e => h3 g hg (.inr (e ▸ hk)))), Fr.refl _ _, h3, fun k hk => Nat.lt_of_lt_of_le (h4 k hk) (Nat.le_trans h2.size hf.size)⟩
/-- The kept: all that there was, and two blocks. -/
def Tri (w : World) (gw gg : Nat) : Nat → Prop := fun k => k < w.heap.size ∨ k = gw ∨ k = gg
/-- The state of NetOnce. -/
structure St (w : World) (p gw gg n : Nat) (L : List Msg) (Wt Gt : List Int) (wr : World) : Prop where
  net : Kp wr (Tri w gw gg) p L wr
  want : Rw wr 1 (some ⟨gw, 0, none⟩) n n (I64 Wt)
  got : Rw wr 1 (some ⟨gg, 0, none⟩) n n (I64 Gt)
  ext : Ext w wr
  ne : gw ≠ gg
  w_new : w.heap.size ≤ gw
  g_new : w.heap.size ≤ gg
section
variable {w wr : World} {p gw gg n : Nat} {L : List Msg} {Wt Gt : List Int}
/-- The net has turned. -/
theorem St.turn (h : St w p gw gg n L Wt Gt wr) {R : Nat → Prop} (hR : ∀ k, Tri w gw gg k → R k) {V w' : World} (hx : Ext wr V) {M : List Msg} (hK : Kp V R p M w') : St w p gw gg n M Wt Gt w' := by
  have hf : Fr (fun k => ¬ Tri w gw gg k) wr w' := Fr.trans (Fr.of_ext (F := fun k => ¬ Tri w gw gg k) hx) (hK.fr.mono (fun k _ hk ht => hk (hR k ht))) (fun _ _ h => h)
  exact ⟨hK.less hR, h.want.fr hf (fun g hg => by cases hg; exact fun h => h (.inr (.inl rfl))), h.got.fr hf (fun g hg => by cases hg; exact fun h => h (.inr (.inr rfl))),
    Fr.grownFrom hf h.ext (fun k hk => by
      rcases Nat.lt_or_ge k w.heap.size with h | h
      · exact absurd (.inl h) hk
      · exact h), h.ne, h.w_new, h.g_new⟩
theorem St.later (h : St w p gw gg n L Wt Gt wr) {w' : World} (hx : Ext wr w') : St w p gw gg n L Wt Gt w' :=
  h.turn (R := Tri w gw gg) (fun _ h => h) (Ext.refl wr) (h.net.ext hx)
theorem I64_get (l : List Int) (j : Nat) (hj : j < l.length) : (I64 l)[j]? = some (.int .i64 (l.getD j 0)) := by
  simp [I64, List.getElem?_eq_getElem hj]
theorem St.cw (h : St w p gw gg n L Wt Gt wr) (j : Nat) (hj : j < n) : wr.cell? ⟨gw, j, none⟩ = some (.int .i64 (Wt.getD j 0)) ∧ wr.frozen? ⟨gw, j, none⟩ = false := by
  obtain ⟨g, e, _, h1, h2⟩ := h.want.row (by omega)
  cases e
  have hl := h.want.len
  simp only [I64, List.length_map, Nat.mul_one] at hl
  exact ⟨by rw [h1 j (by omega), I64_get Wt j (by omega)], h2 j (by omega)⟩
theorem St.cg (h : St w p gw gg n L Wt Gt wr) (j : Nat) (hj : j < n) : wr.cell? ⟨gg, j, none⟩ = some (.int .i64 (Gt.getD j 0)) ∧ wr.frozen? ⟨gg, j, none⟩ = false := by
  obtain ⟨g, e, _, h1, h2⟩ := h.got.row (by omega)
  cases e
  have hl := h.got.len
  simp only [I64, List.length_map, Nat.mul_one] at hl
  exact ⟨by rw [h1 j (by omega), I64_get Gt j (by omega)], h2 j (by omega)⟩
theorem I64_set (l : List Int) (j : Nat) (v : Int) : I64 (l.set j v) = (I64 l).set j (.int .i64 v) := by simp [I64, List.map_set]
theorem St.setW (h : St w p gw gg n L Wt Gt wr) (j : Nat) (hj : j < n) (v : Int) : St w p gw gg n L (Wt.set j v) Gt (wr.setCell ⟨gw, j, none⟩ (.int .i64 v)) := by
  have hf : Fr (fun k => k = gw) wr (wr.setCell ⟨gw, j, none⟩ (.int .i64 v)) := (Fr.refl _ _).setCell (by intro _; rfl) _
  exact ⟨h.net.set (.inr (.inl rfl)) j _, by rw [I64_set]; exact h.want.set j (by omega) _, h.got.fr hf (fun g hg => by cases hg; exact fun e => h.ne e.symm), h.ext.setCell h.w_new _, h.ne, h.w_new, h.g_new⟩
theorem St.setG (h : St w p gw gg n L Wt Gt wr) (j : Nat) (hj : j < n) (v : Int) : St w p gw gg n L Wt (Gt.set j v) (wr.setCell ⟨gg, j, none⟩ (.int .i64 v)) := by
  have hf : Fr (fun k => k = gg) wr (wr.setCell ⟨gg, j, none⟩ (.int .i64 v)) := (Fr.refl _ _).setCell (by intro _; rfl) _
  exact ⟨h.net.set (.inr (.inr rfl)) j _, h.want.fr hf (fun g hg => by cases hg; exact fun e => h.ne e), by rw [I64_set]; exact h.got.set j (by omega) _, h.ext.setCell h.g_new _, h.ne, h.w_new, h.g_new⟩
end
end Go.Proofs.Ytjalikjakoddoaa
