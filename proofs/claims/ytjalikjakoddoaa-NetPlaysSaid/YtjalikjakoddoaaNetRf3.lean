/-
  The walks of the document's net: Deliver, Drop.
-/
import Derived.Test.YtjalikjakoddoaaNetRf2
import Derived.Handy
namespace Go.Proofs.Ytjalikjakoddoaa
open Go.RowKit Go.Nt
theorem take_erase_same (L : List Msg) (i : Nat) (hi : i < L.length) : (L.take (i + 1)).eraseIdx i = (L.take i).eraseIdx i := by
  rw [List.take_succ_eq_append_getElem hi, List.eraseIdx_append_of_length_le (by simp; omega), List.eraseIdx_of_length_le (l := L.take i) (by simp; omega)]
  simp [List.length_take, Nat.min_eq_left (Nat.le_of_lt hi)]
theorem take_erase_other (L : List Msg) (i j : Nat) (hj : j < L.length) (hne : j ≠ i) : (L.take (j + 1)).eraseIdx i = (L.take j).eraseIdx i ++ [L[j]] := by
  rw [List.take_succ_eq_append_getElem hj]
  rcases Nat.lt_or_ge i j with h | h
  · rw [List.eraseIdx_append_of_lt_length (by simp; omega)]
  · rw [List.eraseIdx_of_length_le (l := L.take j) (by simp; omega), List.eraseIdx_of_length_le (by simp; omega)]
theorem at_third {w w' : World} {a b : Obj} (hx : Ext ((w.alloc a).alloc b) w') : w'.heap[w.heap.size]? = some a ∧ w'.heap[w.heap.size + 1]? = some b :=
  ⟨(Below.block hx _ (by simp <;> omega)).trans (heap_two_first w a b), (Below.block hx _ (by simp)).trans (heap_two_second w a b)⟩
/-- What is written to one block that is not its own lets it be. -/
theorem RefAt.later {W F : World} {p b cap : Nat} {ao : Option Addr} {L : List Msg} (h : RefAt W p ao cap L) (hf : Fr (fun k => k = b) W F) (hp : p < b) (hne : ob ao ≠ some b) : RefAt F p ao cap L :=
  h.kept hf.size (hf.block p h.lt (by omega)) (fun g hg => hf.block g (h.row.lt g hg) (fun e => hne (e ▸ hg)))
theorem Tn.behind {F F' : Nat → Prop} {w W W2 : World} (h : Tn F F' w W) (hf : Fr (fun k => k = w.heap.size) W W2) : Tn F F' w W2 :=
  ⟨h.fr.trans hf (fun k hk e => by omega), h.new⟩
section
variable {w : World} {p : Nat} {ao : Option Addr} {cap : Nat} {L : List Msg}
set_option maxRecDepth 100000 in
theorem rdeliver_no (h : RefAt w p ao cap L) (i : Int) (hi : ¬ (0 ≤ i ∧ i < L.length)) :
    Calls Try.prog 22 #[.pointer (some ⟨p, 0, none⟩), .int .i64 i] w fun e w' => e = .returned (.tuple #[Mv (0, 0, 0, [], 0, 0, 0), .bool false]) ∧ Ext w w' := by
  have A := Lib.hid (fun w' hx => is_no (h.ext (w' := w') hx) i hi)
  clear h hi
  simp only [Mv]
  go_enter Try.func22, Try.ntmps22
  go_wp2_with (go_at_call 27; with_reducible refine (A.out _ ((Ext.refl _).alloc _)).mono ?_; rintro e w1 ⟨rfl, rfl⟩)
  go_returns
  refine ⟨rfl, ?_⟩
  repeat (first | (with_reducible refine Ext.setCell ?_ (Nat.le_refl _) _) | with_reducible exact (Ext.refl _).alloc _)
set_option maxHeartbeats 1000000 in
set_option maxRecDepth 100000 in
theorem rdeliver_yes (h : RefAt w p ao cap L) (i : Nat) (hi : i < L.length) (hl : L.length ≤ 1000) :
    Calls Try.prog 22 #[.pointer (some ⟨p, 0, none⟩), .int .i64 i] w fun e w' => e = .returned (.tuple #[Mv (L[i]), .bool true]) ∧
      ∃ ao' cap', RefAt w' p ao' cap' (L.eraseIdx i) ∧ Tn (own p ao) (own p ao') w w' := by
  have H := Lib.hid h
  have h1 := h.list
  have hlt := h.lt
  have A := Lib.hid (fun w' hx => is_yes (h.ext (w' := w') hx) i hi)
  obtain ⟨g, rfl, hg, hx1, hx2⟩ := h.row.row (by omega)
  clear hx1 hx2
  obtain ⟨c0, c1, c2, c3, c4, c5, c6⟩ := h.row.msg i hi
  clear h
  obtain ⟨m, hmm⟩ : ∃ m, m = L[i] := ⟨_, rfl⟩
  rw [← hmm] at c0 c1 c2 c3 c4 c5 c6 ⊢
  clear hmm
  obtain ⟨to, ord, deed, sku, qty, amt, code⟩ := m
  simp only [Mv]
  go_enter Try.func22, Try.ntmps22
  go_wp2_with (go_at_call 27; with_reducible refine (A.out _ ((Ext.refl _).alloc _)).mono ?_; rintro e w1 ⟨rfl, rfl⟩)
  obtain ⟨W, hW⟩ : ∃ W, W = (w.alloc (.cells #[.int .i64 0, .int .i64 0, .int .i64 0, .string (ofL []), .int .i64 0, .int .i64 0, .int .i64 0] 32)).alloc (.cells #[.int .i64 to, .int .i64 ord, .int .i64 deed, .string (ofL sku), .int .i64 qty, .int .i64 amt, .int .i64 code] 32) := ⟨_, rfl⟩
  rw [← hW]
  have hE : Ext w W := by rw [hW]; exact ((Ext.refl w).alloc _).alloc _
  have HC := Lib.hid (fun (w' : World) (hx : Ext W w') => at_third (w := w) (w' := w') (hW ▸ hx))
  have HS2 := Lib.hid (show w.heap.size + 2 ≤ W.heap.size by rw [hW]; simp)
  clear hW
  go_loopw [7, 8] (fun l k wr => ∃ (j : Nat) (a1 : Option Addr) (c1 : Nat), j ≤ L.length ∧ k = .int .i64 j ∧ l = .slice a1 ((L.take j).eraseIdx i).length c1 ∧ Rw wr 7 a1 ((L.take j).eraseIdx i).length c1 (Ml ((L.take j).eraseIdx i)) ∧ (∀ g, ob a1 = some g → W.heap.size ≤ g) ∧ Ext W wr) (fun _ k _ => L.length - (intOf k).toNat)
  case atStart => exact ⟨0, none, 0, by omega, rfl, by simp, Rw.nil W 7, (fun g hg => by cases hg), Ext.refl W⟩
  case round =>
    obtain ⟨j, a1, n1, hj, rfl, rfl, hr, hf, hx⟩ := hrel
    have Hr := Lib.hid hr
    have Hf := Lib.hid hf
    have e1 := (H.out.ext (hE.trans hx)).list
    have e2 := (H.out.ext (hE.trans hx)).free
    clear hr hf h1
    by_cases hlt2 : j < L.length
    · have hdl : ((L.take j).eraseIdx i).length ≤ 1000 := by rw [List.length_eraseIdx, List.length_take]; split <;> omega
      by_cases hji : j = i
      · subst hji
        go_wp2_with fail
        refine ⟨⟨j + 1, a1, n1, by omega, by go_num, by rw [take_erase_same L j hlt2], by rw [take_erase_same L j hlt2]; exact Hr.out, Hf.out, hx⟩, by simp [intOf]; omega⟩
      · obtain ⟨d0, d1, d2, d3, d4, d5, d6⟩ := (H.out.ext (hE.trans hx)).row.msg j hlt2
        obtain ⟨x, hxx⟩ : ∃ x, x = L[j] := ⟨_, rfl⟩
        rw [← hxx] at d0 d1 d2 d3 d4 d5 d6
        have Hxx := Lib.hid hxx
        clear hxx
        obtain ⟨xto, xord, xdeed, xsku, xqty, xamt, xcode⟩ := x
        go_wp2_with (at_builtin; refine wpList_append_rw rfl (.tmp 33) (.tmp 41) _ _ rfl rfl rfl (append_msgs (N := [(xto, xord, xdeed, xsku, xqty, xamt, xcode)]) (m := 1) (Hr.out.ext ((Ext.refl _).alloc _)) rfl rfl (new_msg_at (xto, xord, xdeed, xsku, xqty, xamt, xcode) _ (heap_alloc_new _ _)) (by omega) _) (fun ao' cap' w4 hR => ?_); have HR := Lib.hid hR; clear hR)
        obtain ⟨hr1, hr2, hr3⟩ := HR.out
        have hte := take_erase_other L i j hlt2 hji
        rw [← Hxx.out] at hte
        rw [← hte] at hr1
        refine ⟨⟨j + 1, ao', cap', by omega, by go_num, by rw [hte, List.length_append]; rfl, hr1, fun g hg => ?_, Fr.grownFrom hr2 (hx.alloc _) (fun k hk => ?_)⟩, by simp [intOf]; omega⟩
        · rcases hr3 with rfl | ⟨k, rfl, hk⟩
          · exact Hf.out g hg
          · obtain rfl : k = g := by simpa [ob] using hg
            have := hx.size; simp at hk; omega
        · exact Hf.out k hk
    · obtain rfl : j = L.length := by omega
      rw [List.take_length] at Hr ⊢
      obtain ⟨b0, b1⟩ := HC.out wr hx
      obtain ⟨z0, z1⟩ := (Fr.refl (fun _ => False) wr).cells b0 (fun h => h)
      obtain ⟨m0, m1⟩ := (Fr.refl (fun _ => False) wr).cells b1 (fun h => h)
      have hsz : w.heap.size + 2 ≤ W.heap.size := HS2.out
      have hput := Lib.hid (H.out.put (hE.trans hx) rfl Hr.out (fun g hg => Nat.le_trans hE.size (Hf.out g hg))).2.2
      clear b0 b1
      go_wp2_with fail
      have ⟨x0, x1, x2, x3, x4, x5, x6⟩ := seven_cells (wr.setCell ⟨p, 0, none⟩ (.slice a1 (L.eraseIdx i).length n1)) w.heap.size (.int .i64 to) (.int .i64 ord) (.int .i64 deed) (.string (ofL sku)) (.int .i64 qty) (.int .i64 amt) (.int .i64 code) (fun j hj => by rw [World.cell?_setCell_other _ _ _ _ (by simp <;> omega), z0, Array.getElem?_eq_getElem (by simpa using hj)] <;> rfl) rfl
      refine bodyPost_ret (by simp only [results, Try.results22]; simp [go_sem, x0, x1, x2, x3, x4, x5, x6]; rfl) rfl ?_
      refine ⟨rfl, _, _, (hput.out.1.later ?_ hlt (fun h => by have := Hf.out _ h; omega)), ?_⟩
      · iterate 7 refine Fr.setCell ?_ (by intro _; rfl) _
        exact Fr.refl _ _
      · refine Tn.behind hput.out.2 ?_
        iterate 7 refine Fr.setCell ?_ (by intro _; rfl) _
        exact Fr.refl _ _
set_option maxRecDepth 100000 in
theorem rdrop_yes (h : RefAt w p ao cap L) (k : Nat) (hk : k < L.length) (hl : L.length ≤ 1000) :
    Calls Try.prog 23 #[.pointer (some ⟨p, 0, none⟩), .int .i64 k] w fun e w' => e = .returned (.bool true) ∧
      ∃ ao' cap', RefAt w' p ao' cap' (L.eraseIdx k) ∧ Tn (own p ao) (own p ao') w w' := by
  have D := Lib.hid (rdeliver_yes h k hk hl)
  clear h
  obtain ⟨m, hmm⟩ : ∃ m, m = L[k] := ⟨_, rfl⟩
  rw [← hmm] at D
  clear hmm
  obtain ⟨to, ord, deed, sku, qty, amt, code⟩ := m
  simp only [Mv] at D
  go_enter Try.func23, Try.ntmps23
  go_wp2_with (go_at_call 22; with_reducible refine D.out.mono ?_; rintro e w1 ⟨rfl, hR⟩; have HR := Lib.hid hR; clear hR)
  go_ret
  obtain ⟨ao', cap', h1, h2⟩ := HR.out
  have hx : ∀ w', Ext w1 w' → RefAt w' p ao' cap' (L.eraseIdx k) ∧ Tn (own p ao) (own p ao') w w' := fun w' hx => ⟨h1.ext hx, h2.ext hx⟩
  refine ⟨rfl, ao', cap', hx _ ?_⟩
  repeat (first | (with_reducible refine Ext.setCell ?_ (Nat.le_refl _) _) | with_reducible exact (Ext.refl _).alloc _)
set_option maxRecDepth 100000 in
theorem rdrop_no (h : RefAt w p ao cap L) (i : Int) (hi : ¬ (0 ≤ i ∧ i < L.length)) :
    Calls Try.prog 23 #[.pointer (some ⟨p, 0, none⟩), .int .i64 i] w fun e w' => e = .returned (.bool false) ∧ Ext w w' := by
  have D := Lib.hid (rdeliver_no h i hi)
  clear h
  simp only [Mv] at D
  go_enter Try.func23, Try.ntmps23
  go_wp2_with (go_at_call 22; with_reducible refine D.out.mono ?_; rintro e w1 ⟨rfl, hR⟩)
  go_ret
  refine ⟨rfl, hR.trans ?_⟩
  repeat (first | (with_reducible refine Ext.setCell ?_ (Nat.le_refl _) _) | with_reducible exact (Ext.refl _).alloc _)
end
end Go.Proofs.Ytjalikjakoddoaa
