/-
  The walks of the net: Turn's no, Mail, Copy, New; a net that is none.
-/
import Derived.Test.YtjalikjakoddoaaNetWk3
import Derived.Test.YtjalikjakoddoaaGen
namespace Go.Proofs.Ytjalikjakoddoaa
open Go.RowKit Go.Nt
set_option maxRecDepth 100000 in
theorem turn_no1 {w : World} {p : Nat} {ao : Option Addr} {cap : Nat} {L : List Msg} (h : NetAt w p ao cap L) (i k : Int) (hi : ¬ (0 ≤ i ∧ i < L.length)) :
    Calls Try.prog 13 #[.pointer (some ⟨p, 0, none⟩), .int .i64 i, .int .i64 k] w fun e w' => e = .returned (.bool false) ∧ w' = w := by
  have A := Lib.hid (at_no h i hi)
  clear h hi
  go_enter Try.func13, Try.ntmps13
  go_wp2_with (go_at_call 21; with_reducible refine A.out.mono ?_; rintro e w1 ⟨rfl, rfl⟩)
  go_ret
  exact ⟨rfl, rfl⟩
set_option maxRecDepth 100000 in
theorem turn_no2 {w : World} {p : Nat} {ao : Option Addr} {cap : Nat} {L : List Msg} (h : NetAt w p ao cap L) (i : Nat) (k : Int) (hi : i < L.length) (hk : ¬ (0 ≤ k ∧ k < L.length)) :
    Calls Try.prog 13 #[.pointer (some ⟨p, 0, none⟩), .int .i64 i, .int .i64 k] w fun e w' => e = .returned (.bool false) ∧ w' = w := by
  have A := Lib.hid (at_yes h i hi)
  have B := Lib.hid (at_no h k hk)
  clear h hi hk
  go_enter Try.func13, Try.ntmps13
  go_wp2_with (go_at_call 21; first | (with_reducible refine A.out.mono ?_; rintro e w1 ⟨rfl, rfl⟩) | (with_reducible refine B.out.mono ?_; rintro e w1 ⟨rfl, rfl⟩))
  go_ret
  exact ⟨rfl, rfl⟩
set_option maxRecDepth 100000 in
theorem mail_any {w : World} {p : Nat} {ao : Option Addr} {cap : Nat} {L : List Msg} (h : NetAt w p ao cap L) (hl : L.length ≤ 1000) :
    Calls Try.prog 9 #[.pointer (some ⟨p, 0, none⟩)] w fun e w' => ∃ g, e = .returned (.slice (some ⟨g, 0, none⟩) L.length L.length) ∧ w.heap.size ≤ g ∧
      Rw w' 7 (some ⟨g, 0, none⟩) L.length L.length (Ml L) ∧ Ext w w' := by
  have H := Lib.hid h
  have h1 := h.list
  have hlt := h.lt
  have N := Lib.hid (none_same h)
  clear h
  obtain ⟨ti, hti, hz, hsz, hby⟩ := info_parts infoMsg
  have HT := Lib.hid (show Try.prog.info? 32 = some ti ∧ ti.zero = some (Mv (0, 0, 0, [], 0, 0, 0)) ∧ ti.size = 7 ∧ ti.bytes = 64 from ⟨hti, hz, hsz, hby⟩)
  clear hti hz hsz hby
  go_enter Try.func9, Try.ntmps9
  go_wp2_with (first | (go_at_call 20; with_reducible refine N.out.mono ?_; rintro e w1 ⟨rfl, rfl⟩) | (refine wpList_make_rw _ rfl (.tmp 10) (.tmp 10) _ rfl 32 ti _ 7 Try.underlying27 HT.out.1 HT.out.2.1 HT.out.2.2.1 .i64 .i64 L.length L.length L.length rfl rfl rfl rfl (by rw [HT.out.2.2.2]; omega) (by unfold maxLen; omega) (fun w2 hr hx hlt2 => ?_); have e1 := (hx.cell (p := ⟨p, 1, none⟩) hlt).trans h1; have Hr := Lib.hid hr; clear hr; have Hx := Lib.hid hx; clear hx) | (refine wpList_copy_rw rfl (.tmp 12) (.tmp 16) _ _ rfl rfl rfl (Rw.copied Hr.out (H.out.row.ext Hx.out) (Ml_one L) _ _ _ 32 ti Try.underlying27 HT.out.1 HT.out.2.2.1) (fun w3 hR => ?_); have HR := Lib.hid hR; clear hR))


  go_ret
  exact ⟨_, rfl, Nat.le_refl _, HR.out.1, HR.out.2.grownFrom Hx.out (fun k hk => Nat.le_of_eq hk.symm)⟩
/-- A net that is built anew of a row of its own. -/
theorem NetAt.build {w w1 : World} {ao : Option Addr} {cap : Nat} {L : List Msg} (hx : Ext w w1) (hr : Rw w1 7 ao L.length cap (Ml L)) (t : TypeId) {W : World} (hW : W = w1.alloc (.cells #[.bool true, .slice ao L.length cap] t)) :
    NetAt W w1.heap.size ao cap L ∧ Ext w W := by
  subst hW
  have hb := heap_alloc_new w1 (.cells #[.bool true, .slice ao L.length cap] t)
  refine ⟨⟨by simp, ?_, ?_, ?_, hr.ext ((Ext.refl w1).alloc _), fun h => ?_⟩, hx.alloc _⟩
  · simp only [World.cell?, hb]; rfl
  · simp only [World.cell?, hb]; rfl
  · simp only [World.frozen?, hb]; simp
  · exact absurd (hr.lt _ h) (by omega)
set_option maxRecDepth 100000 in
theorem net_new (w : World) :
    Calls Try.prog 8 #[] w fun e w' => e = .returned (.pointer (some ⟨w.heap.size, 0, none⟩)) ∧ NetAt w' w.heap.size none 0 [] ∧ Ext w w' := by
  go_enter Try.func8, Try.ntmps8
  go_wp2
  go_ret
  exact ⟨rfl, NetAt.build (Ext.refl w) (Rw.nil w 7) _ rfl⟩
set_option maxRecDepth 100000 in
theorem net_copy {w : World} {p : Nat} {ao : Option Addr} {cap : Nat} {L : List Msg} (h : NetAt w p ao cap L) (hl : L.length ≤ 1000) :
    Calls Try.prog 16 #[.pointer (some ⟨p, 0, none⟩)] w fun e w' => ∃ q g, e = .returned (.pointer (some ⟨q, 0, none⟩)) ∧ w.heap.size ≤ q ∧ w.heap.size ≤ g ∧
      NetAt w' q (some ⟨g, 0, none⟩) L.length L ∧ Ext w w' := by
  have N := Lib.hid (none_same h)
  have M := Lib.hid (mail_any h hl)
  clear h
  go_enter Try.func16, Try.ntmps16
  go_wp2_with (first | (go_at_call 20; with_reducible refine N.out.mono ?_; rintro e w1 ⟨rfl, rfl⟩) | (go_at_call 9; with_reducible refine M.out.mono ?_; rintro e w1 ⟨g, rfl, hR⟩; have HR := Lib.hid hR; clear hR))
  go_ret
  obtain ⟨hg, hr, hx⟩ := HR.out
  have hb := NetAt.build hx hr 51 rfl
  exact ⟨_, g, rfl, hx.size, hg, hb⟩
/-- A net that is none: nil, or one that is not made. -/
def Non (w : World) (v : Value) : Prop := v = .pointer none ∨ ∃ p, v = .pointer (some ⟨p, 0, none⟩) ∧ p < w.heap.size ∧ w.cell? ⟨p, 0, none⟩ = some (.bool false)
theorem Non.ext {w w' : World} {v : Value} (h : Non w v) (hx : Ext w w') : Non w' v := by
  rcases h with h | ⟨p, h, hlt, hc⟩
  · exact .inl h
  · exact .inr ⟨p, h, Nat.lt_of_lt_of_le hlt hx.size, (hx.cell (p := ⟨p, 0, none⟩) hlt).trans hc⟩
set_option maxRecDepth 100000 in
theorem none_true {w : World} {v : Value} (h : Non w v) :
    Calls Try.prog 20 #[v] w fun e w' => e = .returned (.bool true) ∧ w = w' := by
  rcases h with rfl | ⟨p, rfl, hlt, hc⟩
  · go_enter Try.func20, Try.ntmps20
    go_wp2
    go_ret
    exact ⟨rfl, rfl⟩
  · go_enter Try.func20, Try.ntmps20
    go_wp2
    go_ret
    exact ⟨rfl, rfl⟩
set_option maxRecDepth 100000 in
theorem at_non {w : World} {v : Value} (h : Non w v) (i : Int) :
    Calls Try.prog 21 #[v, .int .i64 i] w fun e w' => e = .returned (.bool false) ∧ w = w' := by
  have N := Lib.hid (none_true h)
  clear h
  go_enter Try.func21, Try.ntmps21
  go_wp2_with (go_at_call 20; with_reducible refine N.out.mono ?_; rintro e w1 ⟨rfl, rfl⟩)
  go_ret
  exact ⟨rfl, rfl⟩
set_option maxRecDepth 100000 in
theorem send_non {w : World} {v : Value} (h : Non w v) (m : Msg) :
    Calls Try.prog 14 #[v, Mv m] w fun e w' => e = .returned (.bool false) ∧ Ext w w' := by
  have N := Lib.hid (fun w' hx => none_true (h.ext (w' := w') hx))
  clear h
  obtain ⟨to, ord, deed, sku, qty, amt, code⟩ := m
  simp only [Mv]
  go_enter Try.func14, Try.ntmps14
  go_wp2_with (go_at_call 20; with_reducible refine (N.out _ ((Ext.refl _).alloc _)).mono ?_; rintro e w1 ⟨rfl, rfl⟩)
  go_ret
  exact ⟨rfl, (Ext.refl _).alloc _⟩
set_option maxRecDepth 100000 in
theorem mail_non {w : World} {v : Value} (h : Non w v) :
    Calls Try.prog 9 #[v] w fun e w' => e = .returned (.slice none 0 0) ∧ w = w' := by
  have N := Lib.hid (none_true h)
  clear h
  go_enter Try.func9, Try.ntmps9
  go_wp2_with (go_at_call 20; with_reducible refine N.out.mono ?_; rintro e w1 ⟨rfl, rfl⟩)
  go_ret
  exact ⟨rfl, rfl⟩
set_option maxRecDepth 100000 in
theorem copy_non {w : World} {v : Value} (h : Non w v) :
    Calls Try.prog 16 #[v] w fun e w' => e = .returned (.pointer none) ∧ w = w' := by
  have N := Lib.hid (none_true h)
  clear h
  go_enter Try.func16, Try.ntmps16
  go_wp2_with (go_at_call 20; with_reducible refine N.out.mono ?_; rintro e w1 ⟨rfl, rfl⟩)
  go_ret
  exact ⟨rfl, rfl⟩
set_option maxRecDepth 100000 in
theorem deliver_non {w : World} {v : Value} (h : Non w v) (i : Int) :
    Calls Try.prog 10 #[v, .int .i64 i] w fun e w' => e = .returned (.tuple #[Mv (0, 0, 0, [], 0, 0, 0), .bool false]) ∧ Ext w w' := by
  have A := Lib.hid (fun w' hx => at_non (h.ext (w' := w') hx) i)
  clear h
  simp only [Mv]
  go_enter Try.func10, Try.ntmps10
  go_wp2_with (go_at_call 21; with_reducible refine (A.out _ ((Ext.refl _).alloc _)).mono ?_; rintro e w1 ⟨rfl, rfl⟩)
  go_returns
  refine ⟨rfl, ?_⟩
  repeat (first | (with_reducible refine Ext.setCell ?_ (Nat.le_refl _) _) | with_reducible exact (Ext.refl _).alloc _)
set_option maxRecDepth 100000 in
theorem drop_non {w : World} {v : Value} (h : Non w v) (i : Int) :
    Calls Try.prog 11 #[v, .int .i64 i] w fun e w' => e = .returned (.bool false) ∧ Ext w w' := by
  have D := Lib.hid (deliver_non h i)
  clear h
  simp only [Mv] at D
  go_enter Try.func11, Try.ntmps11
  go_wp2_with (go_at_call 10; with_reducible refine D.out.mono ?_; rintro e w1 ⟨rfl, hR⟩)
  go_ret
  refine ⟨rfl, hR.trans ?_⟩
  repeat (first | (with_reducible refine Ext.setCell ?_ (Nat.le_refl _) _) | with_reducible exact (Ext.refl _).alloc _)
set_option maxRecDepth 100000 in
theorem double_non {w : World} {v : Value} (h : Non w v) (i : Int) :
    Calls Try.prog 12 #[v, .int .i64 i] w fun e w' => e = .returned (.bool false) ∧ w = w' := by
  have A := Lib.hid (at_non h i)
  clear h
  go_enter Try.func12, Try.ntmps12
  go_wp2_with (go_at_call 21; with_reducible refine A.out.mono ?_; rintro e w1 ⟨rfl, rfl⟩)
  go_ret
  exact ⟨rfl, rfl⟩
set_option maxRecDepth 100000 in
theorem turn_non {w : World} {v : Value} (h : Non w v) (i k : Int) :
    Calls Try.prog 13 #[v, .int .i64 i, .int .i64 k] w fun e w' => e = .returned (.bool false) ∧ w = w' := by
  have A := Lib.hid (at_non h i)
  clear h
  go_enter Try.func13, Try.ntmps13
  go_wp2_with (go_at_call 21; with_reducible refine A.out.mono ?_; rintro e w1 ⟨rfl, rfl⟩)
  go_ret
  exact ⟨rfl, rfl⟩
end Go.Proofs.Ytjalikjakoddoaa
