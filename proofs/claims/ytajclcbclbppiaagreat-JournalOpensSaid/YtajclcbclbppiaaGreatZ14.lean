/-
  The walks of the document's disk: its changes.
-/
import Derived.Test.YtajclcbclbppiaaGreatZ13
import Derived.Test.YtajclcbclbppiaaGreatZ10
namespace Go.Proofs.YtajclcbclbppiaaGreat
open Go.RowKit Go.Maps Go.Dk Go.Shelf
variable {w w' : World} {G G' : Nat → Prop} {q : Nat} {ao : Option Addr} {cap : Nat} {ko : Option Addr} {kc : Nat} {S S' : St} {F : Int} {K : List Int} {m : Nat}
/-- The document's disk, with what it keeps of a failure. -/
def RP (w : World) (G : Nat → Prop) (q : Nat) (S : St) (m : Nat) : Prop := ∃ ao cap ko kc F K, RfAt w G q ao cap ko kc S F K ∧ Mt S.fail F K m
theorem RP.less {m' : Nat} (h : RP w G q S m) (hm : m' ≤ m) : RP w G q S m' := by
  obtain ⟨ao, cap, ko, kc, F, K, h1, h2⟩ := h
  exact ⟨ao, cap, ko, kc, F, K, h1, h2.less hm⟩
theorem RP.ext (h : RP w G q S m) (hx : Ext w w') : RP w' G q S m := by
  obtain ⟨ao, cap, ko, kc, F, K, h1, h2⟩ := h
  exact ⟨ao, cap, ko, kc, F, K, h1.ext hx, h2⟩
/-- fails, at one point. -/
theorem fails_at (h : RfAt w G q ao cap ko kc S F K) (hm : Mt S.fail F K (m + 1)) : ∃ (b : Bool) (x : Option (Int × List Int)) (F' : Int),
    (∀ (w0 : World) (G0 : Nat → Prop) (a0 : Option Addr) (p0 : Nat) (S0 : St), RfAt w0 G0 q a0 p0 ko kc S0 F K → S0.fail = S.fail → Calls Tryz.prog 26 #[.pointer (some ⟨q, 0, none⟩)] w0 fun e w' => e = .returned (.bool b) ∧ RfAt w' G0 q a0 p0 ko kc { S0 with fail := x } F' K ∧ Tr q G0 G0 w0 w') ∧
    ((b = true ∧ S.fail = some (0, K)) ∨ (b = false ∧ (∀ S0 S1 : St, ∀ early, S0.fail = S.fail → S1.fail = S.fail → chg S0 S1 early = ({ S1 with fail := x }, 0)) ∧ Mt x F' K m)) := by
  cases hx : S.fail with
  | none =>
    rw [hx] at hm
    obtain ⟨h0, hK⟩ := hm
    subst h0
    refine ⟨false, none, 0, fun w0 G0 a0 p0 S0 h e0 => (fails_zero h).mono fun e w' ⟨he, hw⟩ => ⟨he, (hw ▸ (show { S0 with fail := none } = S0 by rw [← e0]) ▸ h), hw ▸ Tr.refl _ _ _⟩, .inr ⟨rfl, fun S0 S1 early e e' => by rw [← e']; simp [chg, e], rfl, hK⟩⟩
  | some y =>
    obtain ⟨l, ks⟩ := y
    rw [hx] at hm
    obtain ⟨hK, hm⟩ := hm
    subst hK
    have hl := h.ok.fail l K hx
    have hF : 0 < F ∧ F ≤ 1099511627777 := by omega
    by_cases h0 : l = 0
    · subst h0
      have hF1 : F - 1 = 0 := by omega
      refine ⟨true, some (0, K), F - 1, fun w0 G0 a0 p0 S0 h e0 => (fails_pos h hF.1 hF.2).mono fun e w' ⟨he, hw⟩ => ?_, .inl ⟨rfl, rfl⟩⟩
      obtain ⟨hR, hf⟩ := h.setF (F - 1) (x := some (0, K)) (by rw [← e0]; exact h.ok)
      exact ⟨by rw [he, hF1]; rfl, hw ▸ hR, hw ▸ Tr.same hf (fun k e => e ▸ h.own)⟩
    · have hF1 : F - 1 ≠ 0 := by omega
      refine ⟨false, some (l - 1, K), F - 1, fun w0 G0 a0 p0 S0 h _ => (fails_pos h hF.1 hF.2).mono fun e w' ⟨he, hw⟩ => (by
        obtain ⟨hR, hf⟩ := h.setF (F - 1) (x := some (l - 1, K)) (h.ok.withFail (fun l' ks' e => by cases e; exact ⟨by omega, by omega, hl.2.2⟩))
        exact ⟨by rw [he, decide_eq_false hF1], hw ▸ hR, hw ▸ Tr.same hf (fun k e => e ▸ h.own)⟩), .inr ⟨rfl, fun S0 S1 early e _ => by simp [chg, e, h0], rfl, ?_⟩⟩
      omega
set_option maxHeartbeats 1000000 in
set_option maxRecDepth 100000 in
theorem rsync_is (h : RfAt w G q ao cap ko kc S F K) (hm : Mt S.fail F K (m + 1)) (n : Int) :
    Calls Tryz.prog 42 #[.pointer (some ⟨q, 0, none⟩), .int .i64 n] w fun e w' => e = .returned (.int .i64 (Dk.sync S n).2) ∧ ∃ G', RP w' G' q (Dk.sync S n).1 m ∧ Tr q G G' w w' := by
  obtain ⟨v, hC, ht⟩ := find_at h n
  have C := Lib.hid hC
  have c1 := h.c1
  have c2 := h.c2
  have H := Lib.hid h
  have hmany := h.ok.many
  have hm0 := Lib.hid (hm.less (Nat.le_succ m))
  obtain ⟨b, x, F', hFC, hcase⟩ := fails_at h hm
  have FC := Lib.hid hFC
  clear hC h hm hFC
  cases hd : S.down
  · rw [hd] at c2
    have hd0 := Lib.hid hd
    rcases ht with ⟨rfl, hf⟩ | ⟨i, hi, rfl, hn, hf⟩
    · rw [show Dk.sync S n = (S, 4) by simp [Dk.sync, hd, hf]]
      clear hd hf hcase
      go_enter Tryz.func42, Tryz.ntmps42
      go_wp2_with (first | (go_at_call 25; (with_reducible refine C.out.mono ?_); rintro e w0 ⟨rfl, rfl⟩))
      go_ret
      exact ⟨rfl, G, ⟨ao, cap, ko, kc, F, K, H.out, hm0.out⟩, Tr.refl _ _ _⟩
    · subst hn
      obtain ⟨f, hff⟩ : ∃ f, S.fs[i] = f := ⟨_, rfl⟩
      rw [show Dk.sync S S.fs[i].n = chg S { S with fs := upd ⟨S.fs[i].n, S.fs[i].b, S.fs[i].b.length⟩ S.fs } false by simp [Dk.sync, hd, hf]]
      have hfm : f ∈ S.fs := by rw [← hff]; exact List.getElem_mem _
      have hset : S.fs.set i ⟨f.n, f.b, f.b.length⟩ = upd ⟨f.n, f.b, f.b.length⟩ S.fs := (upd_set H.out.ok.rise hi (by rw [hff])).symm
      have hok : Ok { S with fs := upd ⟨f.n, f.b, f.b.length⟩ S.fs } := H.out.ok.upd hfm rfl (Nat.le_refl _) (by have := H.out.ok.tot; show (tot S.fs : Int) + (f.b.length : Int) ≤ _; omega)
      have hbl : (f.b.length : Int) ≤ 1048576 := by have := H.out.ok.tot; have := H.out.ok.cap1; have := tot_mem hfm; omega
      have HFF := Lib.hid hff
      rw [hff] at C hf ⊢
      rcases hcase with ⟨rfl, hx⟩ | ⟨rfl, hch, hMt⟩
      · rw [show chg S { S with fs := upd ⟨f.n, f.b, f.b.length⟩ S.fs } false = (S.crash K, 61) by simp [chg, hx]]
        clear hd hf hx hset hff
        go_enter Tryz.func42, Tryz.ntmps42
        go_wp2_with (first | (go_at_call 25; (with_reducible refine C.out.mono ?_); rintro e w0 ⟨rfl, rfl⟩) | (go_at_call 26; (with_reducible refine (FC.out _ _ _ _ _ (by first | exact H.out | exact H.out.ext ((Ext.refl _).alloc _) | exact HR2.out) (by rfl)).mono ?_); rintro e w1 ⟨rfl, hR, hT⟩; have HR := Lib.hid hR; have HT := Lib.hid hT; clear hR hT) | (go_at_call 27; (with_reducible refine (sunk_is HR.out hd0.out).mono ?_); rintro e w2 ⟨rfl, G2, a2, c2', hR2, hT2⟩; have HR2 := Lib.hid hR2; have HT2 := Lib.hid hT2; clear hR2 hT2))
        go_ret
        exact ⟨rfl, G2, ⟨_, _, _, _, _, _, HR2.out, rfl, rfl⟩, HT.out.trans HT2.out⟩
      · rw [hch S { S with fs := upd ⟨f.n, f.b, f.b.length⟩ S.fs } false rfl rfl]
        clear hd hf hch hff
        go_enter Tryz.func42, Tryz.ntmps42
        go_wp2_with (first | (go_at_call 25; (with_reducible refine C.out.mono ?_); rintro e w0 ⟨rfl, rfl⟩) | (go_at_call 26; (with_reducible refine (FC.out _ _ _ _ _ (by first | exact H.out | exact H.out.ext ((Ext.refl _).alloc _) | exact HR2.out) (by rfl)).mono ?_); rintro e w1 ⟨rfl, hR, hT⟩; have HR := Lib.hid hR; have HT := Lib.hid hT; have k1 := hR.c1; obtain ⟨g, rfl, hg, _, hgq, d0, d1, d2⟩ := hR.file hi; rw [HFF.out] at d0 d1 d2; clear hR hT) | (go_at_call 31; (with_reducible refine (with_is (HR.out.ext ((Ext.refl _).alloc _)) hi ⟨f.n, f.b, f.b.length⟩ (by rw [hset]; exact hok.withFail HR.out.ok.fail)).mono ?_); rintro e w2 ⟨rfl, G2, a2, c2', hR2, hT2⟩; have HR2 := Lib.hid hR2; have HT2 := Lib.hid hT2; clear hR2 hT2))
        go_ret
        have hR2 := HR2.out
        rw [hset] at hR2
        exact ⟨rfl, G2, ⟨_, _, _, _, _, _, hR2, hMt⟩, (HT.out.ext ((Ext.refl _).alloc _)).trans HT2.out⟩
  · rw [hd] at c2
    rw [show Dk.sync S n = (S, 61) by simp [Dk.sync, hd]]
    clear hd ht hcase
    go_enter Tryz.func42, Tryz.ntmps42
    go_wp2_with (first | (go_at_call 25; (with_reducible refine C.out.mono ?_); rintro e w0 ⟨rfl, rfl⟩))
    go_ret
    exact ⟨rfl, G, ⟨ao, cap, ko, kc, F, K, H.out, hm0.out⟩, Tr.refl _ _ _⟩
set_option maxHeartbeats 1000000 in
set_option maxRecDepth 100000 in
theorem rtruncate_is (h : RfAt w G q ao cap ko kc S F K) (hm : Mt S.fail F K (m + 1)) (n size : Int) :
    Calls Tryz.prog 41 #[.pointer (some ⟨q, 0, none⟩), .int .i64 n, .int .i64 size] w fun e w' => e = .returned (.int .i64 (Dk.truncate S n size).2) ∧ ∃ G', RP w' G' q (Dk.truncate S n size).1 m ∧ Tr q G G' w w' := by
  obtain ⟨v, hC, ht⟩ := find_at h n
  have C := Lib.hid hC
  have c1 := h.c1
  have c2 := h.c2
  have H := Lib.hid h
  have hmany := h.ok.many
  have hm0 := Lib.hid (hm.less (Nat.le_succ m))
  obtain ⟨b, x, F', hFC, hcase⟩ := fails_at h hm
  have FC := Lib.hid hFC
  clear hC h hm hFC
  cases hd : S.down
  · rw [hd] at c2
    have hd0 := Lib.hid hd
    rcases ht with ⟨rfl, hf⟩ | ⟨i, hi, rfl, hn, hf⟩
    · rw [show Dk.truncate S n size = (S, 4) by simp [Dk.truncate, hd, hf]]
      clear hd hf hcase
      go_enter Tryz.func41, Tryz.ntmps41
      go_wp2_with (first | (go_at_call 25; (with_reducible refine C.out.mono ?_); rintro e w0 ⟨rfl, rfl⟩))
      go_ret
      exact ⟨rfl, G, ⟨ao, cap, ko, kc, F, K, H.out, hm0.out⟩, Tr.refl _ _ _⟩
    · subst hn
      obtain ⟨f, hff⟩ : ∃ f, S.fs[i] = f := ⟨_, rfl⟩
      have hfm : f ∈ S.fs := by rw [← hff]; exact List.getElem_mem _
      have hbl : (f.b.length : Int) ≤ 1048576 := by have := H.out.ok.tot; have := H.out.ok.cap1; have := tot_mem hfm; omega
      have HFF := Lib.hid hff
      rw [hff] at C hf ⊢
      have hmodel : Dk.truncate S f.n size = if size < 0 ∨ (f.b.length : Int) < size then (S, 2) else chg S { S with fs := upd ⟨f.n, f.b.take size.toNat, min f.s size.toNat⟩ S.fs } false := by simp [Dk.truncate, hd, hf]
      rw [hmodel]
      clear hmodel
      by_cases hbad : size < 0 ∨ (f.b.length : Int) < size
      · rw [if_pos hbad]
        have k1 := H.out.c1
        obtain ⟨g, rfl, hg, _, hgq, d0, d1, d2⟩ := H.out.file hi
        rw [HFF.out] at d0 d1 d2
        clear hd hf hcase hff
        by_cases hs0 : size < 0
        all_goals
          go_enter Tryz.func41, Tryz.ntmps41
          go_wp2_with (first | (go_at_call 25; (with_reducible refine C.out.mono ?_); rintro e w0 ⟨rfl, rfl⟩))
          go_ret
          exact ⟨rfl, G, ⟨_, cap, ko, kc, F, K, H.out.ext ((Ext.refl _).alloc _), hm0.out⟩, Tr.of_ext ((Ext.refl _).alloc _)⟩
      · rw [if_neg hbad]
        obtain ⟨z, rfl⟩ : ∃ z : Nat, size = z := ⟨size.toNat, by omega⟩
        have hz : z ≤ f.b.length := by omega
        have hzi : (z : Int) ≤ (f.b.length : Int) := by omega
        simp only [Int.toNat_natCast]
        have hl : (f.b.take z).length = z := by rw [List.length_take]; omega
        have hok : Ok { S with fs := upd ⟨f.n, f.b.take z, min f.s z⟩ S.fs } := H.out.ok.upd hfm rfl (by show min f.s z ≤ (f.b.take z).length; omega) (by have := H.out.ok.tot; show (tot S.fs : Int) + ((f.b.take z).length : Int) ≤ _; omega)
        have hset : S.fs.set i ⟨f.n, f.b.take z, min f.s z⟩ = upd ⟨f.n, f.b.take z, min f.s z⟩ S.fs := (upd_set H.out.ok.rise hi (by rw [hff])).symm
        have k1 := H.out.c1
        obtain ⟨g, rfl, hg, _, hgq, d0, d1, d2⟩ := H.out.file hi
        rw [HFF.out] at d0 d1 d2
        have HM := Lib.hid (show ((min f.s z : Nat) : Int) = min (f.s : Int) z by omega)
        clear hbad
        rcases hcase with ⟨rfl, hx⟩ | ⟨rfl, hch, hMt⟩
        · rw [show chg S { S with fs := upd ⟨f.n, f.b.take z, min f.s z⟩ S.fs } false = (S.crash K, 61) by simp [chg, hx]]
          clear hd hf hx hset hff
          go_enter Tryz.func41, Tryz.ntmps41
          go_wp2_with (first | (go_at_call 25; (with_reducible refine C.out.mono ?_); rintro e w0 ⟨rfl, rfl⟩) | (go_at_call 26; (with_reducible refine (FC.out _ _ _ _ _ (by first | exact H.out | exact H.out.ext ((Ext.refl _).alloc _) | exact HR2.out) (by rfl)).mono ?_); rintro e w1 ⟨rfl, hR, hT⟩; have HR := Lib.hid hR; have HT := Lib.hid hT; clear hR hT) | (go_at_call 27; (with_reducible refine (sunk_is HR.out hd0.out).mono ?_); rintro e w2 ⟨rfl, G2, a2, c2', hR2, hT2⟩; have HR2 := Lib.hid hR2; have HT2 := Lib.hid hT2; clear hR2 hT2))
          go_ret
          exact ⟨rfl, G2, ⟨_, _, _, _, _, _, HR2.out, rfl, rfl⟩, ((Tr.of_ext ((Ext.refl _).alloc _)).trans HT.out).trans HT2.out⟩
        · rw [hch S { S with fs := upd ⟨f.n, f.b.take z, min f.s z⟩ S.fs } false rfl rfl]
          have hwl : ∀ k, G k → k < w.heap.size := fun k hk => H.out.under k hk
          clear hd hf hch hff
          go_enter Tryz.func41, Tryz.ntmps41
          go_wp2_with (first | (go_at_call 25; (with_reducible refine C.out.mono ?_); rintro e w0 ⟨rfl, rfl⟩) | (go_at_call 26; (with_reducible refine (FC.out _ _ _ _ _ (by first | exact H.out | exact H.out.ext ((Ext.refl _).alloc _) | exact HR2.out) (by rfl)).mono ?_); rintro e w1 ⟨rfl, hR, hT⟩; have HR := Lib.hid hR; have HT := Lib.hid hT; have bx := hT.fr.cells (heap_alloc_new w _) (fun h => absurd (hwl q H.out.own) (by have h' : w.heap.size = q := h; omega)); have x0 := bx.1 0; have x1 := bx.1 1; have x2 := bx.1 2; have y1 := bx.2 1; have y2 := bx.2 2; simp at x0 x1 x2; clear bx; have WI0 := (fun w' (hf : Fr (fun k => k = w.heap.size) w1 w') => with_is (hR.kept hf.size (fun k hk => hf.block k (hR.under k hk) (fun e => by have := hwl k hk; omega))) hi ⟨f.n, f.b.take z, min f.s z⟩ (by rw [hset]; exact hok.withFail hR.ok.fail)); simp only [HM.out] at WI0; have WI := Lib.hid WI0; clear WI0; clear hR hT))
          go_region
          all_goals
            go_wp2_with (go_at_call 31; (with_reducible refine (WI.out _ (by repeat (first | exact Fr.refl _ _ | apply Fr.drew | refine Fr.setCell ?_ (by intro _; rfl) _))).mono ?_); rintro e w2 ⟨rfl, G2, a2, c2', hR2, hT2⟩; have HR2 := Lib.hid hR2; have HT2 := Lib.hid hT2; clear hR2 hT2)
            go_ret
            have hR2 := HR2.out
            rw [hset] at hR2
            have hfx : Fr (fun k => k = w.heap.size) w1 (((w1.setCell ⟨w.heap.size, 1, none⟩ (.string (ofL (f.b.take z)))).setCell ⟨w.heap.size, 2, none⟩ (.int .i64 (min (f.s : Int) z))).drew) := by repeat (first | exact Fr.refl _ _ | apply Fr.drew | refine Fr.setCell ?_ (by intro _; rfl) _)
            have hT3 : Tr q G G w _ := ⟨((Fr.of_ext ((Ext.refl w).alloc _) : Fr (fun k => k = q) w _).trans HT.out.fr (fun _ _ h => h)).trans hfx (fun k hk e => by omega), fun k hk => .inl hk⟩
            exact ⟨rfl, G2, ⟨_, _, _, _, _, _, hR2, hMt⟩, hT3.trans HT2.out⟩
  · rw [hd] at c2
    rw [show Dk.truncate S n size = (S, 61) by simp [Dk.truncate, hd]]
    clear hd ht hcase
    go_enter Tryz.func41, Tryz.ntmps41
    go_wp2_with (first | (go_at_call 25; (with_reducible refine C.out.mono ?_); rintro e w0 ⟨rfl, rfl⟩))
    go_ret
    exact ⟨rfl, G, ⟨ao, cap, ko, kc, F, K, H.out, hm0.out⟩, Tr.refl _ _ _⟩
set_option maxHeartbeats 1000000 in
set_option maxRecDepth 100000 in
theorem rappend_is (h : RfAt w G q ao cap ko kc S F K) (hm : Mt S.fail F K (m + 1)) (n : Int) (s : List UInt8) :
    Calls Tryz.prog 10 #[.pointer (some ⟨q, 0, none⟩), .int .i64 n, .string (ofL s)] w fun e w' => e = .returned (.int .i64 (Dk.append S n s).2) ∧ ∃ G', RP w' G' q (Dk.append S n s).1 m ∧ Tr q G G' w w' := by
  obtain ⟨v, hC, ht⟩ := find_at h n
  have C := Lib.hid hC
  have c1 := h.c1
  have c2 := h.c2
  have H := Lib.hid h
  have hmany := h.ok.many
  have hm0 := Lib.hid (hm.less (Nat.le_succ m))
  obtain ⟨b, x, F', hFC, hcase⟩ := fails_at h hm
  have FC := Lib.hid hFC
  clear hC h hm hFC
  cases hd : S.down
  · rw [hd] at c2
    have hd0 := Lib.hid hd
    rcases ht with ⟨rfl, hf⟩ | ⟨i, hi, rfl, hn, hf⟩
    · rw [show Dk.append S n s = (S, 4) by simp [Dk.append, hd, hf]]
      clear hd hf hcase
      go_enter Tryz.func10, Tryz.ntmps10
      go_wp2_with (first | (go_at_call 25; (with_reducible refine C.out.mono ?_); rintro e w0 ⟨rfl, rfl⟩))
      go_ret
      exact ⟨rfl, G, ⟨ao, cap, ko, kc, F, K, H.out, hm0.out⟩, Tr.refl _ _ _⟩
    · subst hn
      obtain ⟨f, hff⟩ : ∃ f, S.fs[i] = f := ⟨_, rfl⟩
      have hfm : f ∈ S.fs := by rw [← hff]; exact List.getElem_mem _
      have hbl : (f.b.length : Int) ≤ 1048576 := by have := H.out.ok.tot; have := H.out.ok.cap1; have := tot_mem hfm; omega
      have HFF := Lib.hid hff
      rw [hff] at C hf ⊢
      have hmodel : Dk.append S f.n s = if S.cap - tot S.fs < s.length then (S, 60) else chg S { S with fs := upd ⟨f.n, f.b ++ s, f.s⟩ S.fs } true := by simp [Dk.append, hd, hf]
      rw [hmodel]
      have htot := H.out.ok.tot
      have hcap := H.out.ok.cap1
      have hcap0 := H.out.ok.cap0
      clear hmodel
      by_cases hbad : S.cap - tot S.fs < s.length
      · rw [if_pos hbad]
        clear hd hf hcase hff
        go_enter Tryz.func10, Tryz.ntmps10
        go_wp2_with (first | (go_at_call 25; (with_reducible refine C.out.mono ?_); rintro e w0 ⟨rfl, rfl⟩) | (go_at_call 30; (with_reducible refine (rfree_is H.out).mono ?_); rintro e w1 ⟨rfl, rfl⟩))
        go_ret
        exact ⟨rfl, G, ⟨ao, cap, ko, kc, F, K, H.out, hm0.out⟩, Tr.refl _ _ _⟩
      · rw [if_neg hbad]
        have hok : Ok { S with fs := upd ⟨f.n, f.b ++ s, f.s⟩ S.fs } := H.out.ok.upd hfm rfl (by have := H.out.ok.sure f hfm; show f.s ≤ (f.b ++ s).length; rw [List.length_append]; omega) (by show (tot S.fs : Int) + ((f.b ++ s).length : Int) ≤ _; rw [List.length_append]; omega)
        have hset : S.fs.set i ⟨f.n, f.b ++ s, f.s⟩ = upd ⟨f.n, f.b ++ s, f.s⟩ S.fs := (upd_set H.out.ok.rise hi (by rw [hff])).symm
        have k1 := H.out.c1
        obtain ⟨g, rfl, hg, _, hgq, d0, d1, d2⟩ := H.out.file hi
        rw [HFF.out] at d0 d1 d2
        rcases hcase with ⟨rfl, hx⟩ | ⟨rfl, hch, hMt⟩
        · rw [show chg S { S with fs := upd ⟨f.n, f.b ++ s, f.s⟩ S.fs } true = ({ S with fs := upd ⟨f.n, f.b ++ s, f.s⟩ S.fs }.crash K, 61) by simp [chg, hx]]
          clear hd hf hx hff
          go_enter Tryz.func10, Tryz.ntmps10
          go_wp2_with (first | (go_at_call 25; (with_reducible refine C.out.mono ?_); rintro e w0 ⟨rfl, rfl⟩) | (go_at_call 30; (with_reducible refine (rfree_is H.out).mono ?_); rintro e w1 ⟨rfl, rfl⟩) | (go_at_call 31; (with_reducible refine (with_is (H.out.ext ((Ext.refl _).alloc _)) hi ⟨f.n, f.b ++ s, f.s⟩ (by rw [hset]; exact hok)).mono ?_); rintro e w2 ⟨rfl, G2, a2, c2', hR2, hT2⟩; have HR2 := Lib.hid hR2; have HT2 := Lib.hid hT2; clear hR2 hT2) | (go_at_call 26; (with_reducible refine (FC.out _ _ _ _ _ (by first | exact H.out | exact H.out.ext ((Ext.refl _).alloc _) | exact HR2.out) (by rfl)).mono ?_); rintro e w1 ⟨rfl, hR, hT⟩; have HR := Lib.hid hR; have HT := Lib.hid hT; clear hR hT) | (go_at_call 27; (with_reducible refine (sunk_is HR.out hd0.out).mono ?_); rintro e w3 ⟨rfl, G3, a3, c3', hR3, hT3⟩; have HR3 := Lib.hid hR3; have HT3 := Lib.hid hT3; clear hR3 hT3))
          go_ret
          have hR3 := HR3.out
          rw [hset] at hR3
          exact ⟨rfl, G3, ⟨_, _, _, _, _, _, hR3, rfl, rfl⟩, (((Tr.of_ext ((Ext.refl _).alloc _)).trans HT2.out).trans HT.out).trans HT3.out⟩
        · rw [hch S { S with fs := upd ⟨f.n, f.b ++ s, f.s⟩ S.fs } true rfl rfl]
          clear hd hf hch hff
          go_enter Tryz.func10, Tryz.ntmps10
          go_wp2_with (first | (go_at_call 25; (with_reducible refine C.out.mono ?_); rintro e w0 ⟨rfl, rfl⟩) | (go_at_call 30; (with_reducible refine (rfree_is H.out).mono ?_); rintro e w1 ⟨rfl, rfl⟩) | (go_at_call 31; (with_reducible refine (with_is (H.out.ext ((Ext.refl _).alloc _)) hi ⟨f.n, f.b ++ s, f.s⟩ (by rw [hset]; exact hok)).mono ?_); rintro e w2 ⟨rfl, G2, a2, c2', hR2, hT2⟩; have HR2 := Lib.hid hR2; have HT2 := Lib.hid hT2; clear hR2 hT2) | (go_at_call 26; (with_reducible refine (FC.out _ _ _ _ _ (by first | exact H.out | exact H.out.ext ((Ext.refl _).alloc _) | exact HR2.out) (by rfl)).mono ?_); rintro e w1 ⟨rfl, hR, hT⟩; have HR := Lib.hid hR; have HT := Lib.hid hT; clear hR hT))
          go_ret
          have hR := HR.out
          rw [hset] at hR
          exact ⟨rfl, G2, ⟨_, _, _, _, _, _, hR, hMt⟩, ((Tr.of_ext ((Ext.refl _).alloc _)).trans HT2.out).trans HT.out⟩
  · rw [hd] at c2
    rw [show Dk.append S n s = (S, 61) by simp [Dk.append, hd]]
    clear hd ht hcase
    go_enter Tryz.func10, Tryz.ntmps10
    go_wp2_with (first | (go_at_call 25; (with_reducible refine C.out.mono ?_); rintro e w0 ⟨rfl, rfl⟩))
    go_ret
    exact ⟨rfl, G, ⟨ao, cap, ko, kc, F, K, H.out, hm0.out⟩, Tr.refl _ _ _⟩
end Go.Proofs.YtajclcbclbppiaaGreat
