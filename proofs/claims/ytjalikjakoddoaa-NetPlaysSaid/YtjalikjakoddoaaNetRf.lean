/-
  The walks of the document's net.
-/
import Derived.Test.YtjalikjakoddoaaNetLw
import Derived.Deep.RegionLaw
import Derived.BigRegion
namespace Go.Proofs.Ytjalikjakoddoaa
open Go.RowKit Go.Nt
/-- The document's net at block p: one cell, the list. -/
structure RefAt (w : World) (p : Nat) (ao : Option Addr) (cap : Nat) (L : List Msg) : Prop where
  lt : p < w.heap.size
  list : w.cell? ⟨p, 0, none⟩ = some (.slice ao L.length cap)
  free : w.frozen? ⟨p, 0, none⟩ = false
  row : Rw w 7 ao L.length cap (Ml L)
  apart : ob ao ≠ some p
theorem RefAt.kept {w w' : World} {p : Nat} {ao : Option Addr} {cap : Nat} {L : List Msg} (h : RefAt w p ao cap L) (hs : w.heap.size ≤ w'.heap.size) (hp : w'.heap[p]? = w.heap[p]?) (hb : ∀ g, ob ao = some g → w'.heap[g]? = w.heap[g]?) : RefAt w' p ao cap L :=
  ⟨Nat.lt_of_lt_of_le h.lt hs, (World.cell?_of_block (a := ⟨p, 0, none⟩) hp).trans h.list, (World.frozen?_of_block (a := ⟨p, 0, none⟩) hp).trans h.free, h.row.kept hs hb, h.apart⟩
theorem RefAt.ext {w w' : World} {p : Nat} {ao : Option Addr} {cap : Nat} {L : List Msg} (h : RefAt w p ao cap L) (hx : Ext w w') : RefAt w' p ao cap L :=
  h.kept hx.size (Below.block hx p h.lt) (fun g hg => Below.block hx g (h.row.lt g hg))
/-- Its list is a new one. -/
theorem RefAt.put {w w2 : World} {p : Nat} {ao ao' : Option Addr} {cap cap' n : Nat} {L M : List Msg} (H : RefAt w p ao cap L) (hx : Ext w w2) (hn : M.length = n)
    (hr : Rw w2 7 ao' n cap' (Ml M)) (ha : ∀ g, ob ao' = some g → w.heap.size ≤ g) :
    w2.cell? ⟨p, 0, none⟩ = some (.slice ao L.length cap) ∧ w2.frozen? ⟨p, 0, none⟩ = false ∧
      RefAt (w2.setCell ⟨p, 0, none⟩ (.slice ao' n cap')) p ao' cap' M ∧ Tn (own p ao) (own p ao') w (w2.setCell ⟨p, 0, none⟩ (.slice ao' n cap')) := by
  subst hn
  have hlt := H.lt
  have h0 := H.ext hx
  have h1 := h0.list
  have hne : ob ao' ≠ some p := fun h => by have := ha p h; omega
  have hf : Fr (fun k => k = p) w2 (w2.setCell ⟨p, 0, none⟩ (.slice ao' M.length cap')) := (Fr.refl _ _).setCell (by intro _; rfl) _
  have hF : Fr (own p ao) w (w2.setCell ⟨p, 0, none⟩ (.slice ao' M.length cap')) := Fr.trans (Fr.of_ext (F := own p ao) hx) hf (fun k _ h => .inl h)
  refine ⟨h1, h0.free, ⟨Nat.lt_of_lt_of_le h0.lt hf.size, World.cell?_setCell_same _ _ _ h1, by rw [World.frozen?_setCell]; exact h0.free, hr.fr hf (fun g hg e => hne (e ▸ hg)), hne⟩, hF, fun k hk => ?_⟩
  rcases hk with hk | hk
  · exact .inl (.inl hk)
  · exact .inr (ha k hk)
theorem RefAt.put2 {w W3 w4 : World} {p : Nat} {ao ao' a1 : Option Addr} {cap cap' n : Nat} {L M : List Msg} (H : RefAt w p ao cap L) (hx : Ext w W3) (hf1 : ∀ g, ob a1 = some g → w.heap.size ≤ g) (hn : M.length = n)
    (hr : Rw w4 7 ao' M.length cap' (Ml M)) (hF : Fr (fun k => ob a1 = some k) W3 w4) (ha : ao' = a1 ∨ ∃ g, ao' = some ⟨g, 0, none⟩ ∧ W3.heap.size ≤ g) :
    w4.cell? ⟨p, 0, none⟩ = some (.slice ao L.length cap) ∧ w4.frozen? ⟨p, 0, none⟩ = false ∧
      RefAt (w4.setCell ⟨p, 0, none⟩ (.slice ao' n cap')) p ao' cap' M ∧ Tn (own p ao) (own p ao') w (w4.setCell ⟨p, 0, none⟩ (.slice ao' n cap')) := by
  subst hn
  refine H.put (hF.grownFrom hx (fun k hk => hf1 k hk)) rfl hr (fun g hg => ?_)
  rcases ha with rfl | ⟨k, rfl, hk⟩
  · exact hf1 g hg
  · cases hg; exact Nat.le_trans hx.size hk
theorem at_second {w w' : World} {a b : Obj} (hx : Ext ((w.alloc a).alloc b).drew w') : w'.heap[w.heap.size + 1]? = some b := (Below.block hx _ (by simp)).trans (heap_two_second w a b)
theorem append_new {w : World} {ao : Option Addr} {n cap : Nat} {L : List Msg} (h : Rw w 7 ao n cap (Ml L)) (hn : L.length = n) (hl : n ≤ 16777216) (ty : TypeId) :
    ∃ ao' cap' w', (Builtin.append_ #[27, 27] ty #[.slice none 0 0, .slice ao n cap]).run Try.prog w = .ok (.slice ao' n cap') w' ∧
      (Rw w' 7 ao' n cap' (Ml L) ∧ Ext w w' ∧ ∀ g, ob ao' = some g → w.heap.size ≤ g) := by
  have hsrc : Src Try.prog 7 27 (.slice ao n cap) n (Ml L) w := by
    rcases h.at_ with ⟨rfl, h0⟩ | ⟨g, rfl, hg, _, _⟩
    · have := h.le
      obtain rfl : n = 0 := by omega
      obtain rfl : L = [] := List.length_eq_zero_iff.1 hn
      exact Src.ofNil w (e' := 32) Try.underlying27 cap
    · have := h.src (e' := 32) Try.underlying27 (Ml_one L) 0 n cap (by omega) (ad := ⟨g, 0, none⟩) (fun _ => by rw [Nat.zero_mul])
      simpa using this
  obtain ⟨ao', cap', w', h1, h2, h3, h4⟩ := append_msgs (n := 0) (L := []) (Rw.nil w 7) rfl hn hsrc (by omega) ty
  simp only [List.nil_append, Nat.zero_add] at h1 h2
  rw [hn] at h2
  refine ⟨ao', cap', w', h1, h2, Fr.grownFrom h3 (Ext.refl w) (fun k hk => by cases hk), fun g hg => ?_⟩
  rcases h4 with rfl | ⟨k, rfl, hk⟩
  · cases hg
  · cases hg; exact hk
section
variable {w : World} {p : Nat} {ao : Option Addr} {cap : Nat} {L : List Msg}
set_option maxRecDepth 100000 in
theorem is_yes (h : RefAt w p ao cap L) (k : Nat) (hk : k < L.length) :
    Calls Try.prog 27 #[.pointer (some ⟨p, 0, none⟩), .int .i64 k] w fun e w' => e = .returned (.bool true) ∧ w = w' := by
  have h1 := h.list
  clear h
  go_enter Try.func27, Try.ntmps27
  go_wp2
  go_ret
  exact ⟨rfl, rfl⟩
set_option maxRecDepth 100000 in
theorem is_no (h : RefAt w p ao cap L) (i : Int) (hi : ¬ (0 ≤ i ∧ i < L.length)) :
    Calls Try.prog 27 #[.pointer (some ⟨p, 0, none⟩), .int .i64 i] w fun e w' => e = .returned (.bool false) ∧ w = w' := by
  have h1 := h.list
  clear h
  by_cases h0 : 0 ≤ i
  · have h2 : (L.length : Int) ≤ i := by omega
    clear hi
    go_enter Try.func27, Try.ntmps27
    go_wp2
    go_ret
    exact ⟨by simp; omega, rfl⟩
  · clear hi
    go_enter Try.func27, Try.ntmps27
    go_wp2
    go_ret
    exact ⟨rfl, rfl⟩
set_option maxRecDepth 100000 in
theorem rsend_no (h : RefAt w p ao cap L) (m : Msg) (hl : 1000 ≤ L.length) :
    Calls Try.prog 26 #[.pointer (some ⟨p, 0, none⟩), Mv m] w fun e w' => e = .returned (.bool false) ∧ Ext w w' := by
  have hlt := h.lt
  have h1 := (h.ext ((Ext.refl w).alloc (.cells (Mc m).toArray 32))).list
  clear h
  obtain ⟨to, ord, deed, sku, qty, amt, code⟩ := m
  simp only [Mv, Mc] at h1 ⊢
  go_enter Try.func26, Try.ntmps26
  go_wp2
  go_ret
  exact ⟨rfl, (Ext.refl _).alloc _⟩
set_option maxHeartbeats 1000000 in
set_option maxRecDepth 100000 in
theorem rsend_yes (h : RefAt w p ao cap L) (m : Msg) (hl : L.length ≤ 999) :
    Calls Try.prog 26 #[.pointer (some ⟨p, 0, none⟩), Mv m] w fun e w' => e = .returned (.bool true) ∧
      ∃ ao' cap', RefAt w' p ao' cap' (L ++ [m]) ∧ Tn (own p ao) (own p ao') w w' := by
  have H := Lib.hid h
  have hlt := h.lt
  have hX : Ext w (w.alloc (.cells (Mc m).toArray 32)) := (Ext.refl w).alloc _
  have h1 := (h.ext hX).list
  clear h
  obtain ⟨to, ord, deed, sku, qty, amt, code⟩ := m
  have hM : ∀ w', Ext (w.alloc (.cells (Mc (to, ord, deed, sku, qty, amt, code)).toArray 32)) w' → ∀ o, w'.cell? ⟨w.heap.size, o, none⟩ = (Mc (to, ord, deed, sku, qty, amt, code)).toArray[o]? := fun w' hx => ((Fr.of_ext (F := fun _ => False) hx).cells (heap_alloc_new w _) (fun h => h)).1
  simp only [Mc] at hM
  have HM := Lib.hid hM
  clear hM
  simp only [Mv, Mc] at h1 hX ⊢
  go_enter Try.func26, Try.ntmps26
  go_wp2_with fail
  go_region_law (first | (refine step_append_rw rfl (.const (.slice none 0 0)) (.tmp 15) _ _ rfl rfl rfl (append_new (H.out.row.ext (by repeat (first | exact Ext.refl _ | apply Ext.alloc | apply Ext.drew))) rfl (by omega) _) (fun a1 c1 w2 hR => ?_); obtain ⟨hr1, hx1, hf1⟩ := hR; have hc := HM.out w2 (Ext.trans (by repeat (first | exact Ext.refl _ | apply Ext.alloc | apply Ext.drew)) hx1); have Hr1 := Lib.hid hr1; have Hx1 := Lib.hid hx1; have Hf0 := Lib.hid (fun g hg => Nat.le_trans (show w.heap.size ≤ _ by simp <;> omega) (hf1 g hg)); clear hr1 hx1 hf1) | (refine step_append_rw rfl (.tmp 16) (.tmp 18) _ _ rfl rfl rfl (append_msgs (n := L.length) (L := L) (N := [(to, ord, deed, sku, qty, amt, code)]) (m := 1) (Hr1.out.ext (by first | exact Ext.refl _ | exact (Ext.refl _).alloc _)) rfl rfl (new_msg_at (to, ord, deed, sku, qty, amt, code) _ (by first | exact heap_alloc_new _ _ | exact at_second Hx1.out)) (by omega) _) (fun ao' cap' w4 hR => ?_); obtain ⟨hr1, hr2, hr3⟩ := hR; have ⟨k1, k2, hN, hT⟩ := H.out.put2 (Ext.trans (Ext.trans (by repeat (first | exact Ext.refl _ | apply Ext.alloc | apply Ext.drew)) Hx1.out) (by first | exact Ext.refl _ | exact (Ext.refl _).alloc _)) Hf0.out (List.length_append) hr1 hr2 hr3; clear hr1 hr2 hr3))
  all_goals
    go_wp2
    go_ret
    exact ⟨rfl, _, _, hN, hT⟩
end
end Go.Proofs.Ytjalikjakoddoaa
