/-
  The walks of the net: none, at, Send, Deliver ..
-/
import Derived.Test.YtjalikjakoddoaaNetPl
import Derived.Test.YtjalikjakoddoaaRows
import Derived.Deep.RegionLaw
import Derived.BigRegion
namespace Go.Proofs.Ytjalikjakoddoaa
open Go.RowKit Go.Nt
set_option maxRecDepth 100000 in
theorem none_same {w : World} {p : Nat} {ao : Option Addr} {cap : Nat} {L : List Msg} (h : NetAt w p ao cap L) :
    Calls Try.prog 20 #[.pointer (some ⟨p, 0, none⟩)] w fun e w' => e = .returned (.bool false) ∧ w = w' := by
  have h1 := h.made
  clear h
  go_enter Try.func20, Try.ntmps20
  go_wp2
  go_ret
  exact ⟨rfl, rfl⟩
set_option maxRecDepth 100000 in
theorem at_yes {w : World} {p : Nat} {ao : Option Addr} {cap : Nat} {L : List Msg} (h : NetAt w p ao cap L) (k : Nat) (hk : k < L.length) :
    Calls Try.prog 21 #[.pointer (some ⟨p, 0, none⟩), .int .i64 k] w fun e w' => e = .returned (.bool true) ∧ w = w' := by
  have h1 := h.list
  have N := Lib.hid (none_same h)
  clear h
  go_enter Try.func21, Try.ntmps21
  go_wp2_with (go_at_call 20; with_reducible refine N.out.mono ?_; rintro e w1 ⟨rfl, rfl⟩)
  go_ret
  exact ⟨rfl, rfl⟩
set_option maxRecDepth 100000 in
theorem at_no {w : World} {p : Nat} {ao : Option Addr} {cap : Nat} {L : List Msg} (h : NetAt w p ao cap L) (i : Int) (hi : ¬ (0 ≤ i ∧ i < L.length)) :
    Calls Try.prog 21 #[.pointer (some ⟨p, 0, none⟩), .int .i64 i] w fun e w' => e = .returned (.bool false) ∧ w = w' := by
  have h1 := h.list
  have N := Lib.hid (none_same h)
  clear h
  by_cases h0 : 0 ≤ i
  · have h2 : (L.length : Int) ≤ i := by omega
    clear hi
    go_enter Try.func21, Try.ntmps21
    go_wp2_with (go_at_call 20; with_reducible refine N.out.mono ?_; rintro e w1 ⟨rfl, rfl⟩)
    go_ret
    exact ⟨by simp; omega, rfl⟩
  · clear hi
    go_enter Try.func21, Try.ntmps21
    go_wp2_with (go_at_call 20; with_reducible refine N.out.mono ?_; rintro e w1 ⟨rfl, rfl⟩)
    go_ret
    exact ⟨rfl, rfl⟩
theorem infoMsg : (Try.prog.info? 32).map (fun i => (i.zero, i.size, i.bytes)) = some (some (Mv (0, 0, 0, [], 0, 0, 0)), 7, 64) := by kernel_rfl
/-- append of messages onto a row. -/
theorem append_msgs {w : World} {ao : Option Addr} {n cap : Nat} {L : List Msg} (h : Rw w 7 ao n cap (Ml L)) (hn : L.length = n) {x : Value} {m : Nat} {N : List Msg} (hm : N.length = m) (hs : Src Try.prog 7 27 x m (Ml N) w) (hl : n + m ≤ 16777216) (ty : TypeId) :
    ∃ ao' cap' w', (Builtin.append_ #[27, 27] ty #[.slice ao n cap, x]).run Try.prog w = .ok (.slice ao' (n + m) cap') w' ∧
      (Rw w' 7 ao' (L ++ N).length cap' (Ml (L ++ N)) ∧ Fr (fun k => ob ao = some k) w w' ∧ (ao' = ao ∨ ∃ g, ao' = some ⟨g, 0, none⟩ ∧ w.heap.size ≤ g)) := by
  subst hn
  obtain ⟨ti, hti, hz, hsz, hby⟩ := info_parts infoMsg
  obtain ⟨ao', cap', w', h1, h2, h3⟩ := h.append 27 27 ty 32 ti _ 64 Try.underlying27 hti hz hsz hby rfl x m (Ml N) hs (by unfold maxLen; omega) (by omega)
  refine ⟨ao', cap', w', h1, ?_, h3⟩
  rw [Ml_append, List.length_append, hm]
  exact h2
/-- The one new message of 'append(l, m)'. -/
theorem new_msg_at {W : World} (m : Msg) (g : Nat) (hb : W.heap[g]? = some (.cells (Mc m).toArray 32)) : Src Try.prog 7 27 (.slice (some ⟨g, 0, none⟩) 1 1) 1 (Ml [m]) W := by
  refine Src.ofSlice _ (e' := 32) Try.underlying27 _ 1 1 (Ml [m]) (Ml_length [m]) (fun j u hj => ?_) (Ml_one [m])
  have hj' : (Mc m)[j]? = some u := by simpa [Ml] using hj
  have : (⟨g, 0, none⟩ : Addr).add j = ⟨g, j, none⟩ := by unfold Addr.add; split <;> simp_all
  rw [this]
  simp only [World.cell?, hb]
  simpa using hj'
theorem new_msg (W : World) (m : Msg) (g : Nat) (hg : g = W.heap.size) : Src Try.prog 7 27 (.slice (some ⟨g, 0, none⟩) 1 1) 1 (Ml [m]) (W.alloc (.cells (Mc m).toArray 32)) := by
  subst hg; exact new_msg_at m _ (heap_alloc_new W _)
theorem new_msg_drew (W : World) (m : Msg) (g : Nat) (hg : g = W.heap.size) : Src Try.prog 7 27 (.slice (some ⟨g, 0, none⟩) 1 1) 1 (Ml [m]) (W.alloc (.cells (Mc m).toArray 32)).drew := by
  subst hg; exact new_msg_at m _ (heap_alloc_new W _)
set_option maxRecDepth 100000 in
theorem send_yes {w : World} {p : Nat} {ao : Option Addr} {cap : Nat} {L : List Msg} (h : NetAt w p ao cap L) (m : Msg) (hl : L.length ≤ 999) :
    Calls Try.prog 14 #[.pointer (some ⟨p, 0, none⟩), Mv m] w fun e w' => e = .returned (.bool true) ∧
      ∃ ao' cap', NetAt w' p ao' cap' (L ++ [m]) ∧ Turned w w' p ao ao' := by
  have H := Lib.hid h
  have h1 := h.list
  have h2 := h.free
  have hlt := h.lt
  have N := Lib.hid (fun w' hx => none_same (h.ext (w' := w') hx))
  clear h
  obtain ⟨to, ord, deed, sku, qty, amt, code⟩ := m
  simp only [Mv]
  go_enter Try.func14, Try.ntmps14
  go_wp2_with (go_at_call 20; with_reducible refine (N.out _ ((Ext.refl _).alloc _)).mono ?_; rintro e w1 ⟨rfl, rfl⟩)
  go_region_law (refine step_append_rw rfl (.tmp 19) (.tmp 21) _ _ rfl rfl rfl (append_msgs (N := [(to, ord, deed, sku, qty, amt, code)]) (m := 1) (H.out.row.ext (by repeat (first | exact Ext.refl _ | apply Ext.alloc | apply Ext.drew))) rfl rfl (new_msg_drew _ (to, ord, deed, sku, qty, amt, code) _ (by simp)) (by omega) _) (fun ao' cap' w2 hR => ?_); obtain ⟨hr1, hr2, hr3⟩ := hR; obtain ⟨k1, k2, hN, hT⟩ := H.out.put (by repeat (first | exact Ext.refl _ | apply Ext.alloc | apply Ext.drew)) (List.length_append) hr1 hr2 hr3)
  all_goals
    go_wp2
    go_ret
    exact ⟨rfl, _, _, hN, hT⟩
end Go.Proofs.Ytjalikjakoddoaa
