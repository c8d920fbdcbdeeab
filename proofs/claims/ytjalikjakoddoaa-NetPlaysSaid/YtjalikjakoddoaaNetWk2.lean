/-
  The walks of the net: Send's no, Deliver, Drop, Double.
-/
import Derived.Test.YtjalikjakoddoaaNetWk
import Derived.Test.YtjalikjakoddoaaTn
import Derived.Handy
namespace Go.Proofs.Ytjalikjakoddoaa
open Go.RowKit Go.Nt
set_option maxRecDepth 100000 in
theorem send_no {w : World} {p : Nat} {ao : Option Addr} {cap : Nat} {L : List Msg} (h : NetAt w p ao cap L) (m : Msg) (hl : 1000 ≤ L.length) :
    Calls Try.prog 14 #[.pointer (some ⟨p, 0, none⟩), Mv m] w fun e w' => e = .returned (.bool false) ∧ Ext w w' := by
  have h1 := h.list
  have hlt := h.lt
  have N := Lib.hid (fun w' hx => none_same (h.ext (w' := w') hx))
  clear h
  obtain ⟨to, ord, deed, sku, qty, amt, code⟩ := m
  simp only [Mv]
  go_enter Try.func14, Try.ntmps14
  go_wp2_with (go_at_call 20; with_reducible refine (N.out _ ((Ext.refl _).alloc _)).mono ?_; rintro e w1 ⟨rfl, rfl⟩)
  go_returns
  exact ⟨rfl, (Ext.refl _).alloc _⟩
theorem row_of_front' {w : World} {ao : Option Addr} {cap : Nat} {L : List Msg} (h : Rw w 7 ao L.length cap (Ml L)) (k : Nat) (hk : k < L.length) : Rw w 7 ao k k (Ml (L.take k)) := by
  rw [Ml_take]
  exact h.front k k (Nat.le_refl _) (Nat.le_trans (Nat.le_of_lt hk) h.le) (Nat.le_of_lt hk) (by omega)
theorem erase_parts (L : List Msg) (k : Nat) : L.take k ++ L.drop (k + 1) = L.eraseIdx k := (List.eraseIdx_eq_take_drop_succ L k).symm
/-- What is written to a block of its own, behind, lets a net be. -/
theorem NetAt.later {w W F : World} {p cap' : Nat} {ao ao' : Option Addr} {M : List Msg} (hN : NetAt W p ao' cap' M) (hT : Turned w W p ao ao') (hf : Fr (fun k => k = w.heap.size) W F) (hlt : p < w.heap.size) (hne : ob ao' ≠ some w.heap.size) :
    NetAt F p ao' cap' M ∧ Turned w F p ao ao' :=
  ⟨hN.kept hf.size (hf.block p hN.lt (by omega)) (fun g hg => hf.block g (hN.row.lt g hg) (fun h => hne (h ▸ hg))), hT.1.trans hf (fun k hk h => by omega), hT.2⟩
theorem new_ne {w W : World} {g : Nat} {ao' : Option Addr} (hg : g < w.heap.size) (hs : w.heap.size < W.heap.size) (h : ao' = some ⟨g, 0, none⟩ ∨ ∃ k, ao' = some ⟨k, 0, none⟩ ∧ W.heap.size ≤ k) : ob ao' ≠ some w.heap.size := by
  rcases h with rfl | ⟨k, rfl, hk⟩
  · simp [ob]; omega
  · simp [ob]; omega
theorem Turned.ext {w w' w2 : World} {p : Nat} {ao ao' : Option Addr} (h : Turned w w' p ao ao') (hx : Ext w' w2) : Turned w w2 p ao ao' := ⟨h.1.trans (Fr.of_ext (F := fun _ => False) hx) (fun _ _ hf => hf.elim), h.2⟩
theorem src_tail {w : World} {g cap : Nat} {L : List Msg} (h : Rw w 7 (some ⟨g, 0, none⟩) L.length cap (Ml L)) (k : Nat) (hk : k < L.length) :
    Src Try.prog 7 27 (.slice (if cap = k + 1 then some ⟨g, 0, none⟩ else some ⟨g, (k + 1) * 7, none⟩) (L.length - (k + 1)) (cap - (k + 1))) (L.length - (k + 1)) (Ml (L.drop (k + 1))) w := by
  have hle := h.le
  rw [Ml_drop]
  split
  · exact h.src (e' := 32) Try.underlying27 (Ml_one L) (k + 1) _ _ (by omega) (fun h0 => by omega)
  · exact h.src (e' := 32) Try.underlying27 (Ml_one L) (k + 1) _ _ (by omega) (fun _ => rfl)
set_option maxHeartbeats 1000000 in
set_option maxRecDepth 100000 in
theorem deliver_yes {w : World} {p : Nat} {ao : Option Addr} {cap : Nat} {L : List Msg} (h : NetAt w p ao cap L) (k : Nat) (hk : k < L.length) (hl : L.length ≤ 1000) :
    Calls Try.prog 10 #[.pointer (some ⟨p, 0, none⟩), .int .i64 k] w fun e w' => e = .returned (.tuple #[Mv (L[k]), .bool true]) ∧
      ∃ ao' cap', NetAt w' p ao' cap' (L.eraseIdx k) ∧ Turned w w' p ao ao' := by
  have H := Lib.hid h
  have h1 := h.list
  have h2 := h.free
  have hlt := h.lt
  have A := Lib.hid (fun w' hx => at_yes (h.ext (w' := w') hx) k hk)
  obtain ⟨g, rfl, hg, hx1, hx2⟩ := h.row.row (by omega)
  clear hx1 hx2
  have hm := h.row.msg k hk
  obtain ⟨c0, c1, c2, c3, c4, c5, c6⟩ := hm
  have hcap := h.row.le
  have hkc : k ≤ cap := by omega
  have hk1 : k + 1 ≤ L.length := by omega
  have hw : IntKind.i64.wrap ((k : Int) + 1) = (k : Int) + 1 := IntWalk.i64_in _ (by omega)
  have hin : (0 : Int) ≤ (k : Int) + 1 ∧ (k : Int) + 1 ≤ (L.length : Int) := by omega
  clear h
  obtain ⟨m, hmm⟩ : ∃ m, m = L[k] := ⟨_, rfl⟩
  rw [← hmm] at c0 c1 c2 c3 c4 c5 c6 ⊢
  obtain ⟨to, ord, deed, sku, qty, amt, code⟩ := m
  simp only [Mv]
  go_enter Try.func10, Try.ntmps10
  go_wp2_with (go_at_call 21; with_reducible refine (A.out _ ((Ext.refl _).alloc _)).mono ?_; rintro e w1 ⟨rfl, rfl⟩)
  go_region_law (refine step_append_rw rfl (.tmp 26) (.tmp 33) _ _ rfl rfl rfl (append_msgs (n := k) (L := L.take k) (N := L.drop (k + 1)) (m := L.length - (k + 1)) (row_of_front' (H.out.row.ext (by repeat (first | exact Ext.refl _ | apply Ext.alloc | apply Ext.drew))) k hk) (by rw [List.length_take]; omega) (by rw [List.length_drop]) (src_tail (H.out.row.ext (by repeat (first | exact Ext.refl _ | apply Ext.alloc | apply Ext.drew))) k hk) (by omega) _) (fun ao' cap' w2 hR => ?_); obtain ⟨hr1, hr2, hr3⟩ := hR; obtain ⟨k1, k2, hN, hT⟩ := H.out.put (n := k + (L.length - (k + 1))) (by repeat (first | exact Ext.refl _ | apply Ext.alloc | apply Ext.drew)) (by rw [List.length_append, List.length_take, List.length_drop]; omega) hr1 hr2 hr3; have ⟨e0, e1⟩ := hr2.cells (g := w.heap.size) (heap_two_first _ _ _) (by simp [ob]; omega); have ⟨e2, e3⟩ := hr2.cells (g := w.heap.size + 1) (heap_two_second _ _ _) (by simp [ob]; omega); have hne := new_ne (w := w) hg (by simp <;> omega) hr3; clear hr1 hr2 hr3)
  all_goals go_wp2
  all_goals
    have ⟨x0, x1, x2, x3, x4, x5, x6⟩ := seven_cells (w2.setCell ⟨p, 1, none⟩ (.slice ao' (k + (L.length - (k + 1))) cap')) w.heap.size (.int .i64 to) (.int .i64 ord) (.int .i64 deed) (.string (ofL sku)) (.int .i64 qty) (.int .i64 amt) (.int .i64 code) (fun j hj => by rw [World.cell?_setCell_other _ _ _ _ (by simp <;> omega), e0, Array.getElem?_eq_getElem (by simpa using hj)] <;> rfl) rfl
    refine bodyPost_ret (by simp only [results, Try.results10]; simp [go_sem, x0, x1, x2, x3, x4, x5, x6]; rfl) rfl ?_
    rw [← erase_parts]
    refine ⟨rfl, _, ⟨_, (hN.later hT ?_ hlt hne).1⟩, (hN.later hT ?_ hlt hne).2⟩
    all_goals
      iterate 7 refine Fr.setCell ?_ (by intro _; rfl) _
      exact Fr.refl _ _
set_option maxRecDepth 100000 in
theorem deliver_no {w : World} {p : Nat} {ao : Option Addr} {cap : Nat} {L : List Msg} (h : NetAt w p ao cap L) (i : Int) (hi : ¬ (0 ≤ i ∧ i < L.length)) :
    Calls Try.prog 10 #[.pointer (some ⟨p, 0, none⟩), .int .i64 i] w fun e w' => e = .returned (.tuple #[Mv (0, 0, 0, [], 0, 0, 0), .bool false]) ∧ Ext w w' := by
  have hlt := h.lt
  have A := Lib.hid (fun w' hx => at_no (h.ext (w' := w') hx) i hi)
  clear h hi
  simp only [Mv]
  go_enter Try.func10, Try.ntmps10
  go_wp2_with (go_at_call 21; with_reducible refine (A.out _ ((Ext.refl _).alloc _)).mono ?_; rintro e w1 ⟨rfl, rfl⟩)
  go_returns
  refine ⟨rfl, ?_⟩
  repeat (first | (with_reducible refine Ext.setCell ?_ (Nat.le_refl _) _) | with_reducible exact (Ext.refl _).alloc _)
set_option maxRecDepth 100000 in
theorem drop_yes {w : World} {p : Nat} {ao : Option Addr} {cap : Nat} {L : List Msg} (h : NetAt w p ao cap L) (k : Nat) (hk : k < L.length) (hl : L.length ≤ 1000) :
    Calls Try.prog 11 #[.pointer (some ⟨p, 0, none⟩), .int .i64 k] w fun e w' => e = .returned (.bool true) ∧
      ∃ ao' cap', NetAt w' p ao' cap' (L.eraseIdx k) ∧ Turned w w' p ao ao' := by
  have D := Lib.hid (deliver_yes h k hk hl)
  clear h
  obtain ⟨m, hmm⟩ : ∃ m, m = L[k] := ⟨_, rfl⟩
  rw [← hmm] at D
  clear hmm
  obtain ⟨to, ord, deed, sku, qty, amt, code⟩ := m
  simp only [Mv] at D
  go_enter Try.func11, Try.ntmps11
  go_wp2_with (go_at_call 10; with_reducible refine D.out.mono ?_; rintro e w1 ⟨rfl, hR⟩; have HR := Lib.hid hR; clear hR)
  go_ret
  obtain ⟨ao', cap', h1, h2⟩ := HR.out
  have hx : ∀ w', Ext w1 w' → NetAt w' p ao' cap' (L.eraseIdx k) ∧ Turned w w' p ao ao' := fun w' hx => ⟨h1.ext hx, h2.ext hx⟩
  refine ⟨rfl, ao', cap', hx _ ?_⟩
  repeat (first | (with_reducible refine Ext.setCell ?_ (Nat.le_refl _) _) | with_reducible exact (Ext.refl _).alloc _)
set_option maxRecDepth 100000 in
theorem drop_no {w : World} {p : Nat} {ao : Option Addr} {cap : Nat} {L : List Msg} (h : NetAt w p ao cap L) (i : Int) (hi : ¬ (0 ≤ i ∧ i < L.length)) :
    Calls Try.prog 11 #[.pointer (some ⟨p, 0, none⟩), .int .i64 i] w fun e w' => e = .returned (.bool false) ∧ Ext w w' := by
  have D := Lib.hid (deliver_no h i hi)
  clear h
  simp only [Mv] at D
  go_enter Try.func11, Try.ntmps11
  go_wp2_with (go_at_call 10; with_reducible refine D.out.mono ?_; rintro e w1 ⟨rfl, hR⟩)
  go_ret
  refine ⟨rfl, hR.trans ?_⟩
  repeat (first | (with_reducible refine Ext.setCell ?_ (Nat.le_refl _) _) | with_reducible exact (Ext.refl _).alloc _)
set_option maxRecDepth 100000 in
theorem double_no {w : World} {p : Nat} {ao : Option Addr} {cap : Nat} {L : List Msg} (h : NetAt w p ao cap L) (i : Int) (hi : ¬ (0 ≤ i ∧ i < L.length)) :
    Calls Try.prog 12 #[.pointer (some ⟨p, 0, none⟩), .int .i64 i] w fun e w' => e = .returned (.bool false) ∧ Ext w w' := by
  have A := Lib.hid (at_no h i hi)
  clear h hi
  go_enter Try.func12, Try.ntmps12
  go_wp2_with (go_at_call 21; with_reducible refine A.out.mono ?_; rintro e w1 ⟨rfl, rfl⟩)
  go_returns
  exact ⟨rfl, Ext.refl _⟩
set_option maxRecDepth 100000 in
theorem double_yes {w : World} {p : Nat} {ao : Option Addr} {cap : Nat} {L : List Msg} (h : NetAt w p ao cap L) (k : Nat) (hk : k < L.length) (hl : L.length ≤ 999) :
    Calls Try.prog 12 #[.pointer (some ⟨p, 0, none⟩), .int .i64 k] w fun e w' => e = .returned (.bool true) ∧
      ∃ ao' cap', NetAt w' p ao' cap' (L ++ [L[k]]) ∧ Turned w w' p ao ao' := by
  have A := Lib.hid (at_yes h k hk)
  have h1 := h.list
  obtain ⟨g, rfl, hg, hx1, hx2⟩ := h.row.row (by omega)
  clear hx1 hx2
  obtain ⟨c0, c1, c2, c3, c4, c5, c6⟩ := h.row.msg k hk
  obtain ⟨m, hmm⟩ : ∃ m, m = L[k] := ⟨_, rfl⟩
  rw [← hmm] at c0 c1 c2 c3 c4 c5 c6 ⊢
  clear hmm
  have S := Lib.hid (send_yes h m hl)
  clear h
  obtain ⟨to, ord, deed, sku, qty, amt, code⟩ := m
  simp only [Mv] at S
  go_enter Try.func12, Try.ntmps12
  go_wp2_with (first | (go_at_call 21; with_reducible refine A.out.mono ?_; rintro e w1 ⟨rfl, rfl⟩) | (go_at_call 14; with_reducible refine S.out.mono ?_; rintro e w1 ⟨rfl, hR⟩; have HR := Lib.hid hR; clear hR))
  go_returns
  exact ⟨rfl, HR.out⟩
set_option maxRecDepth 100000 in
theorem double_full {w : World} {p : Nat} {ao : Option Addr} {cap : Nat} {L : List Msg} (h : NetAt w p ao cap L) (k : Nat) (hk : k < L.length) (hl : 1000 ≤ L.length) (hl2 : L.length ≤ 1000) :
    Calls Try.prog 12 #[.pointer (some ⟨p, 0, none⟩), .int .i64 k] w fun e w' => e = .returned (.bool false) ∧ Ext w w' := by
  have A := Lib.hid (at_yes h k hk)
  have h1 := h.list
  obtain ⟨g, rfl, hg, hx1, hx2⟩ := h.row.row (by omega)
  clear hx1 hx2
  obtain ⟨c0, c1, c2, c3, c4, c5, c6⟩ := h.row.msg k hk
  obtain ⟨m, hmm⟩ : ∃ m, m = L[k] := ⟨_, rfl⟩
  rw [← hmm] at c0 c1 c2 c3 c4 c5 c6
  clear hmm
  have S := Lib.hid (send_no h m hl)
  clear h
  obtain ⟨to, ord, deed, sku, qty, amt, code⟩ := m
  simp only [Mv] at S
  go_enter Try.func12, Try.ntmps12
  go_wp2_with (first | (go_at_call 21; with_reducible refine A.out.mono ?_; rintro e w1 ⟨rfl, rfl⟩) | (go_at_call 14; with_reducible refine S.out.mono ?_; rintro e w1 ⟨rfl, hR⟩))
  go_returns
  exact ⟨rfl, hR⟩
end Go.Proofs.Ytjalikjakoddoaa
