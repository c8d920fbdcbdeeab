/-
  The walks of the document's net: Turn, Double, Copy, Deliver, Drop.
-/
import Derived.Test.YtjalikjakoddoaaNetRf
namespace Go.Proofs.Ytjalikjakoddoaa
open Go.RowKit Go.Nt
section
variable {w : World} {p : Nat} {ao : Option Addr} {cap : Nat} {L : List Msg}
set_option maxHeartbeats 1000000 in
set_option maxRecDepth 100000 in
theorem rturn_two (h : RefAt w p ao cap L) (i k : Nat) (hi : i < L.length) (hk : k < L.length) (hik : i ≠ k) (hl : L.length ≤ 1000) :
    Calls Try.prog 25 #[.pointer (some ⟨p, 0, none⟩), .int .i64 i, .int .i64 k] w fun e w' => e = .returned (.bool true) ∧
      ∃ ao' cap', RefAt w' p ao' cap' ((L.set i (L[k])).set k (L[i])) ∧ Tn (own p ao) (own p ao') w w' := by
  have H := Lib.hid h
  have h1 := h.list
  have hlt := h.lt
  have A := Lib.hid (is_yes h i hi)
  have B := Lib.hid (is_yes h k hk)
  clear h
  obtain ⟨a, haa⟩ : ∃ a, a = L[i] := ⟨_, rfl⟩
  obtain ⟨b, hbb⟩ : ∃ b, b = L[k] := ⟨_, rfl⟩
  have Haa := Lib.hid haa
  clear haa
  have Hbb := Lib.hid hbb
  clear hbb
  go_enter Try.func25, Try.ntmps25
  go_wp2_with (first | (go_at_call 27; first | (with_reducible refine A.out.mono ?_; rintro e w1 ⟨rfl, rfl⟩) | (with_reducible refine B.out.mono ?_; rintro e w1 ⟨rfl, rfl⟩)) | (at_builtin; refine wpList_append_rw rfl (.const (.slice none 0 0)) (.tmp 21) _ _ rfl rfl rfl (append_new H.out.row rfl (by omega) _) (fun a1 c1 w2 hR => ?_); have HR := Lib.hid hR; clear hR))
  obtain ⟨hr1, hx1, hf1⟩ := HR.out
  obtain ⟨g, rfl, hg, hx2, hx3⟩ := hr1.row (by omega)
  have hgp : w.heap.size ≤ g := hf1 g rfl
  have hpg : p ≠ g := by omega
  have HF := Lib.hid hx3
  clear hx2 hx3
  have k1 := (H.out.ext hx1).list
  have k2 := (H.out.ext hx1).free
  have hrb := (H.out.ext hx1).row
  obtain ⟨g0, rfl, hg0, hx2, hx3⟩ := hrb.row (by omega)
  obtain ⟨c0, c1', c2, c3, c4, c5, c6⟩ := hrb.msg i hi
  obtain ⟨d0, d1, d2, d3, d4, d5, d6⟩ := hrb.msg k hk
  clear hx2 hx3 hrb h1
  rw [← Haa.out] at c0 c1' c2 c3 c4 c5 c6
  rw [← Hbb.out] at d0 d1 d2 d3 d4 d5 d6
  obtain ⟨m0, m1, m2, m3, m4, m5, m6⟩ := hr1.msg i hi
  obtain ⟨n0, n1, n2, n3, n4, n5, n6⟩ := hr1.msg k hk
  rw [← Haa.out] at m0 m1 m2 m3 m4 m5 m6
  rw [← Hbb.out] at n0 n1 n2 n3 n4 n5 n6
  have hx2 := HF.out
  have f0 := hx2 (i * 7) (by omega)
  have f1 := hx2 (i * 7 + 1) (by omega)
  have f2 := hx2 (i * 7 + 2) (by omega)
  have f3 := hx2 (i * 7 + 3) (by omega)
  have f4 := hx2 (i * 7 + 4) (by omega)
  have f5 := hx2 (i * 7 + 5) (by omega)
  have f6 := hx2 (i * 7 + 6) (by omega)
  have e0 := hx2 (k * 7) (by omega)
  have e1 := hx2 (k * 7 + 1) (by omega)
  have e2 := hx2 (k * 7 + 2) (by omega)
  have e3 := hx2 (k * 7 + 3) (by omega)
  have e4 := hx2 (k * 7 + 4) (by omega)
  have e5 := hx2 (k * 7 + 5) (by omega)
  have e6 := hx2 (k * 7 + 6) (by omega)

  clear hx2 hr1 hx1 hf1
  go_region
  all_goals
    go_wp2
    go_ret
    obtain ⟨hr1, hx1, hf1⟩ := HR.out
    have hrs := ((hr1.setMsg i hi b).setMsg k (by rw [List.length_set]; exact hk) a)
    have hfs : Fr (fun k => k = g) w2 ((w2.setCells g (i * 7) (Mc b)).setCells g (k * 7) (Mc a)) := Fr.setCells (by intro _; rfl) _ _ _ (Fr.setCells (by intro _; rfl) _ _ _ (Fr.refl _ _))
    rw [← Haa.out, ← Hbb.out]
    have hput := (H.out.put (n := L.length) (hfs.grownFrom hx1 (fun k hk => by subst hk; exact hgp)) (by rw [List.length_set, List.length_set]) hrs hf1).2.2
    exact ⟨rfl, _, _, hput.1.ext (Ext.refl _).drew, hput.2.drew⟩
set_option maxHeartbeats 1000000 in
set_option maxRecDepth 100000 in
theorem rturn_same (h : RefAt w p ao cap L) (i : Nat) (hi : i < L.length) (hl : L.length ≤ 1000) :
    Calls Try.prog 25 #[.pointer (some ⟨p, 0, none⟩), .int .i64 i, .int .i64 i] w fun e w' => e = .returned (.bool true) ∧
      ∃ ao' cap', RefAt w' p ao' cap' ((L.set i (L[i])).set i (L[i])) ∧ Tn (own p ao) (own p ao') w w' := by
  have H := Lib.hid h
  have h1 := h.list
  have hlt := h.lt
  have A := Lib.hid (is_yes h i hi)
  clear h
  obtain ⟨a, haa⟩ : ∃ a, a = L[i] := ⟨_, rfl⟩
  have Haa := Lib.hid haa
  clear haa
  go_enter Try.func25, Try.ntmps25
  go_wp2_with (first | (go_at_call 27; with_reducible refine A.out.mono ?_; rintro e w1 ⟨rfl, rfl⟩) | (at_builtin; refine wpList_append_rw rfl (.const (.slice none 0 0)) (.tmp 21) _ _ rfl rfl rfl (append_new H.out.row rfl (by omega) _) (fun a1 c1 w2 hR => ?_); have HR := Lib.hid hR; clear hR))
  obtain ⟨hr1, hx1, hf1⟩ := HR.out
  obtain ⟨g, rfl, hg, hx2, hx3⟩ := hr1.row (by omega)
  have hgp : w.heap.size ≤ g := hf1 g rfl
  have hpg : p ≠ g := by omega
  have HF := Lib.hid hx3
  clear hx2 hx3
  have k1 := (H.out.ext hx1).list
  have k2 := (H.out.ext hx1).free
  have hrb := (H.out.ext hx1).row
  obtain ⟨g0, rfl, hg0, hx2, hx3⟩ := hrb.row (by omega)
  obtain ⟨c0, c1', c2, c3, c4, c5, c6⟩ := hrb.msg i hi
  clear hx2 hx3 hrb h1
  rw [← Haa.out] at c0 c1' c2 c3 c4 c5 c6
  obtain ⟨m0, m1, m2, m3, m4, m5, m6⟩ := hr1.msg i hi
  rw [← Haa.out] at m0 m1 m2 m3 m4 m5 m6
  have hx2 := HF.out
  have f0 := hx2 (i * 7) (by omega)
  have f1 := hx2 (i * 7 + 1) (by omega)
  have f2 := hx2 (i * 7 + 2) (by omega)
  have f3 := hx2 (i * 7 + 3) (by omega)
  have f4 := hx2 (i * 7 + 4) (by omega)
  have f5 := hx2 (i * 7 + 5) (by omega)
  have f6 := hx2 (i * 7 + 6) (by omega)

  clear hx2 hr1 hx1 hf1
  go_region
  all_goals
    go_wp2
    go_ret
    obtain ⟨hr1, hx1, hf1⟩ := HR.out
    have hrs := ((hr1.setMsg i hi a).setMsg i (by rw [List.length_set]; exact hi) a)
    have hfs : Fr (fun k => k = g) w2 ((w2.setCells g (i * 7) (Mc a)).setCells g (i * 7) (Mc a)) := Fr.setCells (by intro _; rfl) _ _ _ (Fr.setCells (by intro _; rfl) _ _ _ (Fr.refl _ _))
    rw [← Haa.out]
    have hput := (H.out.put (n := L.length) (hfs.grownFrom hx1 (fun k hk => by subst hk; exact hgp)) (by rw [List.length_set, List.length_set]) hrs hf1).2.2
    exact ⟨rfl, _, _, hput.1.ext (Ext.refl _).drew, hput.2.drew⟩
set_option maxRecDepth 100000 in
theorem rturn_no1 (h : RefAt w p ao cap L) (i k : Int) (hi : ¬ (0 ≤ i ∧ i < L.length)) :
    Calls Try.prog 25 #[.pointer (some ⟨p, 0, none⟩), .int .i64 i, .int .i64 k] w fun e w' => e = .returned (.bool false) ∧ w' = w := by
  have A := Lib.hid (is_no h i hi)
  clear h hi
  go_enter Try.func25, Try.ntmps25
  go_wp2_with (go_at_call 27; with_reducible refine A.out.mono ?_; rintro e w1 ⟨rfl, rfl⟩)
  go_ret
  exact ⟨rfl, rfl⟩
set_option maxRecDepth 100000 in
theorem rturn_no2 (h : RefAt w p ao cap L) (i : Nat) (k : Int) (hi : i < L.length) (hk : ¬ (0 ≤ k ∧ k < L.length)) :
    Calls Try.prog 25 #[.pointer (some ⟨p, 0, none⟩), .int .i64 i, .int .i64 k] w fun e w' => e = .returned (.bool false) ∧ w' = w := by
  have A := Lib.hid (is_yes h i hi)
  have B := Lib.hid (is_no h k hk)
  clear h hi hk
  go_enter Try.func25, Try.ntmps25
  go_wp2_with (go_at_call 27; first | (with_reducible refine A.out.mono ?_; rintro e w1 ⟨rfl, rfl⟩) | (with_reducible refine B.out.mono ?_; rintro e w1 ⟨rfl, rfl⟩))
  go_ret
  exact ⟨rfl, rfl⟩
set_option maxRecDepth 100000 in
theorem rdouble_no (h : RefAt w p ao cap L) (i : Int) (hi : ¬ (0 ≤ i ∧ i < L.length)) :
    Calls Try.prog 24 #[.pointer (some ⟨p, 0, none⟩), .int .i64 i] w fun e w' => e = .returned (.bool false) ∧ w' = w := by
  have A := Lib.hid (is_no h i hi)
  clear h hi
  go_enter Try.func24, Try.ntmps24
  go_wp2_with (go_at_call 27; with_reducible refine A.out.mono ?_; rintro e w1 ⟨rfl, rfl⟩)
  go_ret
  exact ⟨rfl, rfl⟩
set_option maxRecDepth 100000 in
theorem rdouble_yes (h : RefAt w p ao cap L) (k : Nat) (hk : k < L.length) (hl : L.length ≤ 999) :
    Calls Try.prog 24 #[.pointer (some ⟨p, 0, none⟩), .int .i64 k] w fun e w' => e = .returned (.bool true) ∧
      ∃ ao' cap', RefAt w' p ao' cap' (L ++ [L[k]]) ∧ Tn (own p ao) (own p ao') w w' := by
  have A := Lib.hid (is_yes h k hk)
  have h1 := h.list
  obtain ⟨g, rfl, hg, hx1, hx2⟩ := h.row.row (by omega)
  clear hx1 hx2
  obtain ⟨c0, c1, c2, c3, c4, c5, c6⟩ := h.row.msg k hk
  obtain ⟨m, hmm⟩ : ∃ m, m = L[k] := ⟨_, rfl⟩
  rw [← hmm] at c0 c1 c2 c3 c4 c5 c6 ⊢
  clear hmm
  have S := Lib.hid (rsend_yes h m hl)
  clear h
  obtain ⟨to, ord, deed, sku, qty, amt, code⟩ := m
  simp only [Mv] at S
  go_enter Try.func24, Try.ntmps24
  go_wp2_with (first | (go_at_call 27; with_reducible refine A.out.mono ?_; rintro e w1 ⟨rfl, rfl⟩) | (go_at_call 26; with_reducible refine S.out.mono ?_; rintro e w1 ⟨rfl, hR⟩; have HR := Lib.hid hR; clear hR))
  go_ret
  exact ⟨rfl, HR.out⟩
set_option maxRecDepth 100000 in
theorem rdouble_full (h : RefAt w p ao cap L) (k : Nat) (hk : k < L.length) (hl : 1000 ≤ L.length) (hl2 : L.length ≤ 1000) :
    Calls Try.prog 24 #[.pointer (some ⟨p, 0, none⟩), .int .i64 k] w fun e w' => e = .returned (.bool false) ∧ Ext w w' := by
  have A := Lib.hid (is_yes h k hk)
  have h1 := h.list
  obtain ⟨g, rfl, hg, hx1, hx2⟩ := h.row.row (by omega)
  clear hx1 hx2
  obtain ⟨c0, c1, c2, c3, c4, c5, c6⟩ := h.row.msg k hk
  obtain ⟨m, hmm⟩ : ∃ m, m = L[k] := ⟨_, rfl⟩
  rw [← hmm] at c0 c1 c2 c3 c4 c5 c6
  clear hmm
  have S := Lib.hid (rsend_no h m hl)
  clear h
  obtain ⟨to, ord, deed, sku, qty, amt, code⟩ := m
  simp only [Mv] at S
  go_enter Try.func24, Try.ntmps24
  go_wp2_with (first | (go_at_call 27; with_reducible refine A.out.mono ?_; rintro e w1 ⟨rfl, rfl⟩) | (go_at_call 26; with_reducible refine S.out.mono ?_; rintro e w1 ⟨rfl, hR⟩))
  go_ret
  exact ⟨rfl, hR⟩
theorem RefAt.build {w1 : World} {a1 : Option Addr} {c1 : Nat} (hr : Rw w1 7 a1 L.length c1 (Ml L)) (t : TypeId) : RefAt (w1.alloc (.cells #[.slice a1 L.length c1] t)) w1.heap.size a1 c1 L := by
  have hb := heap_alloc_new w1 (.cells #[.slice a1 L.length c1] t)
  refine ⟨by simp, ?_, ?_, hr.ext ((Ext.refl w1).alloc _), fun h => absurd (hr.lt _ h) (by omega)⟩
  · simp only [World.cell?, hb]; rfl
  · simp only [World.frozen?, hb]; simp
set_option maxRecDepth 100000 in
theorem rcopy (h : RefAt w p ao cap L) (hl : L.length ≤ 1000) :
    Calls Try.prog 17 #[.pointer (some ⟨p, 0, none⟩)] w fun e w' => ∃ q a1 c1, e = .returned (.pointer (some ⟨q, 0, none⟩)) ∧
      RefAt w' q a1 c1 L ∧ Ext w w' ∧ ∀ k, own q a1 k → w.heap.size ≤ k := by
  have H := Lib.hid h
  have h1 := h.list
  clear h
  go_enter Try.func17, Try.ntmps17
  go_wp2_with (at_builtin; refine wpList_append_rw rfl (.const (.slice none 0 0)) (.tmp 6) _ _ rfl rfl rfl (append_new H.out.row rfl (by omega) _) (fun a1 c1 w2 hR => ?_); have HR := Lib.hid hR; clear hR)
  go_ret
  obtain ⟨hr1, hx1, hf1⟩ := HR.out
  exact ⟨_, a1, c1, rfl, RefAt.build hr1 46, hx1.alloc _, fun k hk => hk.elim (fun e => by rw [e]; exact hx1.size) (hf1 k)⟩
end
end Go.Proofs.Ytjalikjakoddoaa
