/-
  The walk of NetPlays.
-/
import Derived.Test.YtjalikjakoddoaaNetPlaysA
import Derived.Deep.RegionWith
import Derived.Deep.RegionHeld3
namespace Go.Proofs.Ytjalikjakoddoaa
open Go.RowKit Go.Nt
set_option linter.unusedSimpArgs false
/-- A condition that says less. -/
theorem wpAnyH_weaken {P : Program} {md : Region.Mode} {ops : Array Oper} {Q : Exit → Act → World → Prop} {T S : World → Prop} (hS : ∀ w, S w → T w) : ∀ {fuel : Nat} {listed : Array Bool} {a : Act} {w : World}, wpAnyH P md ops Q S fuel listed a w → wpAnyH P md ops Q T fuel listed a w
  | 0, _, _, _, h => h
  | _ + 1, _, _, _, h => ⟨h.1, fun i hi => wpOp_mono (fun _ _ h' => ⟨hS _ h'.1, wpAnyH_weaken hS h'.2⟩) (h.2 i hi)⟩
/-- What is done with the first pair lets the second one's list be, where it is. -/
theorem fo_do_keep {w0 w : World} {p q c d : Nat} {L K : List Msg} {kind tt ord deed qty amt code I J : Int} {sku : List UInt8} (h : Fo w0 p q c d L K w) (ha : AcOk (kind, (tt, ord, deed, sku, qty, amt, code), I, J)) (hl : L.length ≤ 1000) {x : Value} (hc : w.cell? ⟨d, 0, none⟩ = some x) :
    Calls Try.prog 18 #[.agg #[.int .u8 kind, .int .i64 tt, .int .i64 ord, .int .i64 deed, .string (ofL sku), .int .i64 qty, .int .i64 amt, .int .i64 code, .int .i64 I, .int .i64 J], .pointer (some ⟨p, 0, none⟩), .pointer (some ⟨q, 0, none⟩)] w fun e w' => e = .returned (.bool true) ∧ ∃ L', L'.length ≤ 1000 ∧ Fo w0 p q c d L' K w' ∧ w'.cell? ⟨d, 0, none⟩ = some x ∧ (∀ eo e1, Rw w 7 eo K.length e1 (Ml K) → w.cell? ⟨d, 0, none⟩ = some (.slice eo K.length e1) → Rw w' 7 eo K.length e1 (Ml K)) ∧ w.heap.size ≤ w'.heap.size := by
  obtain ⟨ao, a1, bo, b1, co, c1, eo, e1, h1, h2, h3, h4, h5, h6, h7, h8, h9, h10⟩ := h
  have hT : Tw w (fun k => Old w0 k ∨ Both (own c co) (own d eo) k) p q L L w :=
    ⟨ao, a1, bo, b1, h1, h2, h5, Fr.refl _ _, fun k hk ho => hk.elim (fun e => h8 k e (.inl ho)) (fun e => h7 k (.inl ho) e), fun k hk ho => hk.elim (fun e => h8 k e (.inr ho)) (fun e => h7 k (.inr ho) e),
      fun k hk => hk.elim (fun e => Nat.lt_of_lt_of_le e h10.size) (fun e => e.elim (h3.under k) (h4.under k))⟩
  refine (do_any hT (kind, (tt, ord, deed, sku, qty, amt, code), I, J) ha hl).mono fun e w' ⟨k1, L', k2, k3⟩ => ⟨k1, L', k2, ?_⟩
  obtain ⟨ao', a1', bo', b1', g1, g2, g3, g4, g5, g6, _⟩ := k3
  refine ⟨⟨ao', a1', bo', b1', co, c1, eo, e1, g1, g2, h3.fr g4 (fun k hk ho => hk (.inr (.inl ho))), h4.fr g4 (fun k hk ho => hk (.inr (.inr ho))), g3, h6,
    fun k hk ho => hk.elim (fun e => g5 k (.inr ho) e) (fun e => g6 k (.inr ho) e), fun k hk ho => ho.elim (fun e => g5 k (.inl hk) e) (fun e => g6 k (.inl hk) e), h9,
    Fr.grownFrom g4 h10 (fun k hk => by
      rcases Nat.lt_or_ge k w0.heap.size with h | h
      · exact absurd (.inl h) hk
      · exact h)⟩, (g4.cell (p := ⟨d, 0, none⟩) h4.lt (fun hk => hk (.inr (.inr (.inl rfl))))).trans hc, fun fo f1 hr hf => ?_, g4.size⟩
  have e9 := hf.symm.trans h4.list
  simp only [Option.some.injEq, Value.slice.injEq] at e9
  obtain ⟨rfl, _, rfl⟩ := e9
  exact hr.fr g4 (fun g hg hk => hk (.inr (.inr (.inr hg))))
open Classical in
set_option maxHeartbeats 40000000 in
set_option maxRecDepth 100000 in
theorem netPlays_any (w : World) (v : Value) (l : List Ac) (hA : Acts w v l) : Calls Try.prog 5 #[v] w fun e w' => e = .returned (.bool true) ∧ Ext w w' := by
  obtain ⟨ao, n, cap, hv, hn⟩ : ∃ ao n cap, v = .slice ao n cap ∧ l.length = n := by
    rcases hA.2.2 with ⟨ao, cap, rfl, rfl⟩ | ⟨g, o, cap, rfl, _⟩
    · exact ⟨_, _, _, rfl, rfl⟩
    · exact ⟨_, _, _, rfl, rfl⟩
  subst hv
  have HG := Lib.hid (great_any' hA hn)
  by_cases hgr : Gr l 150
  · rw [show decide (Gr l 150) = true from decide_eq_true hgr] at HG
    clear hgr hA
    go_enter Try.func5, Try.ntmps5
    go_wp2_with (first | (go_at_call 15; (with_reducible refine HG.out.mono ?_); rintro e w1 ⟨rfl, hx⟩) | (go_at_call 7; with_reducible refine (mailed_any _).ext hx (fun w9 hx9 => ?_)))
    go_ret
    exact ⟨rfl, hx9⟩
  · rw [show decide (Gr l 150) = false from decide_eq_false hgr] at HG
    have hn150 : n ≤ 150 := by
      rcases Nat.lt_or_ge 150 n with h | h
      · exact absurd (.inr (by omega)) hgr
      · exact h
    have HA := Lib.hid hA
    clear hgr hA
    go_enter Try.func5, Try.ntmps5
    go_wp2_with (first | (go_at_call 15; (with_reducible refine HG.out.mono ?_); rintro e w0 ⟨rfl, hx⟩; have Hx0 := Lib.hid hx; clear hx) | (go_at_call 8; (with_reducible refine (k_new' _).mono ?_); rintro e w1 ⟨p, rfl, hK⟩; have HT := Lib.hid (Tw.start hK 46); clear hK))
    obtain ⟨q, hq⟩ : ∃ q, w1.heap.size = q := ⟨_, rfl⟩
    rw [hq] at HT ⊢
    go_loopw [5] (fun i wr => ∃ (k : Nat) (L : List Msg), k ≤ n ∧ i = .int .i64 k ∧ L.length ≤ 1000 ∧ Tw w0 (Old w0) p q L L wr) (fun i _ => n - (intOf i).toNat)
    case atStart => exact ⟨0, [], by omega, rfl, by simp, HT.out⟩
    case round =>
      obtain ⟨i, L, hi, rfl, hL, hT⟩ := hrel
      have HT := Lib.hid hT
      clear hT
      by_cases hlt : i < n
      · obtain ⟨j, hj⟩ : ∃ j, j = n - 1 - i := ⟨_, rfl⟩
        have hjn : j < l.length := by omega
        have hin : i < l.length := by omega
        obtain ⟨g0, o0, hao, hcA⟩ := HA.out.at hn i hin
        obtain ⟨g1, o1, hao1, hcB⟩ := HA.out.at hn j hjn
        subst hao
        obtain ⟨rfl, rfl⟩ : g0 = g1 ∧ o0 = o1 := by simpa using hao1
        clear hao1
        obtain ⟨A, hAe⟩ : ∃ A, A = l[i] := ⟨_, rfl⟩
        obtain ⟨B, hBe⟩ : ∃ B, B = l[j] := ⟨_, rfl⟩
        have okA := HA.out.1 A (by rw [hAe]; exact List.getElem_mem _)
        have okB := HA.out.1 B (by rw [hBe]; exact List.getElem_mem _)
        rw [← hAe] at hcA
        rw [← hBe] at hcB
        clear hAe hBe
        obtain ⟨akind, ⟨ato, aord, adeed, asku, aqty, aamt, acode⟩, aI, aJ⟩ := A
        obtain ⟨bkind, ⟨bto, bord, bdeed, bsku, bqty, bamt, bcode⟩, bI, bJ⟩ := B
        have HcA := Lib.hid (fun (w' : World) (hx : Ext w w') => acl_cells (hcA w' hx))
        have HcB := Lib.hid (fun (w' : World) (hx : Ext w w') => acl_cells (hcB w' hx))
        have OkA := Lib.hid okA
        have OkB := Lib.hid okB
        have hw1 : IntKind.i64.wrap ((n : Int) - 1) = (n : Int) - 1 := IntWalk.i64_in _ (by omega)
        have hw2 : IntKind.i64.wrap ((n : Int) - 1 - (i : Int)) = (j : Int) := by rw [IntWalk.i64_in _ (by omega)]; omega
        have hjn2 : j < n := by omega
        clear hcA hcB okA okB hj hjn hin
        go_wp2_with (first | (go_at_call 16; (with_reducible refine (tw_copy HT.out hL).mono ?_); rintro e w2 ⟨c, g, rfl, hc, hg, hN, hx⟩; have Hc := Lib.hid (And.intro hc (And.intro hg (And.intro hN hx))); clear hc hg hN hx) | (go_at_call 17; (with_reducible refine (tw_rcopy (HT.out.ext Hc.out.2.2.2) hL).mono ?_); rintro e w3 ⟨d, a1, c1, rfl, hR, hx, hf⟩; have HF := Lib.hid (Fo.start HT.out Hc.out.1 Hc.out.2.1 Hc.out.2.2.1 Hc.out.2.2.2 hR hx hf); clear hR hx hf))
        go_cut [67] from 26 to 67 (fun cb wx => cb = .bool false ∧ ∃ L' K', L'.length ≤ 1000 ∧ Fo w0 p q c d L' K' wx)
        case first =>
          refine wp_region_held_drew (S := fun w' => Ext w0 w') (by kernel_rfl) (Ext.drew HF.out.old) (fun hHeld => ?_)
          refine wpAnyH_take (i := 0) (v := ?v0) rfl (by kernel_rfl) (by kernel_rfl) (by kernel_rfl) (fun _ _ _ h => h) (Or.inl ⟨by rfl, ?hy0⟩) (by assumption) ?rest0
          case hy0 =>
            intro wS hSw
            go_simp
            first | done | with_reducible rfl
          try simp only [Act.put, List.setIfInBounds_toArray, List.set_cons_zero, List.set_cons_succ]
          refine wpAnyH_take (i := 1) (v := ?v1) rfl (by kernel_rfl) (by kernel_rfl) (by kernel_rfl) (fun _ _ _ h => h) (Or.inl ⟨by rfl, ?hy1⟩) (by assumption) ?rest1
          case hy1 =>
            intro wS hSw
            go_simp
            first | done | with_reducible rfl
          try simp only [Act.put, List.setIfInBounds_toArray, List.set_cons_zero, List.set_cons_succ]
          refine wpAnyH_take (i := 2) (v := ?v2) rfl (by kernel_rfl) (by kernel_rfl) (by kernel_rfl) (fun _ _ _ h => h) (Or.inl ⟨by rfl, ?hy2⟩) (by assumption) ?rest2
          case hy2 =>
            intro wS hSw
            go_simp
            first | done | with_reducible rfl
          try simp only [Act.put, List.setIfInBounds_toArray, List.set_cons_zero, List.set_cons_succ]
          refine wpAnyH_take (i := 3) (v := ?v3) rfl (by kernel_rfl) (by kernel_rfl) (by kernel_rfl) (fun _ _ _ h => h) (Or.inl ⟨by rfl, ?hy3⟩) (by assumption) ?rest3
          case hy3 =>
            intro wS hSw
            go_simp
            first | done | with_reducible rfl
          try simp only [Act.put, List.setIfInBounds_toArray, List.set_cons_zero, List.set_cons_succ]
          refine wpAnyH_take (i := 4) (v := ?v4) rfl (by kernel_rfl) (by kernel_rfl) (by kernel_rfl) (fun _ _ _ h => h) (Or.inl ⟨by rfl, ?hy4⟩) (by assumption) ?rest4
          case hy4 =>
            intro wS hSw
            go_simp
            first | done | with_reducible rfl
          try simp only [Act.put, List.setIfInBounds_toArray, List.set_cons_zero, List.set_cons_succ]
          refine wpAnyH_take (i := 5) (v := ?v5) rfl (by kernel_rfl) (by kernel_rfl) (by kernel_rfl) (fun _ _ _ h => h) (Or.inl ⟨by rfl, ?hy5⟩) (by assumption) ?rest5
          case hy5 =>
            intro wS hSw
            go_simp
            first | done | with_reducible rfl
          try simp only [Act.put, List.setIfInBounds_toArray, List.set_cons_zero, List.set_cons_succ]
          refine wpAnyH_take (i := 6) (v := ?v6) rfl (by kernel_rfl) (by kernel_rfl) (by kernel_rfl) (fun _ _ _ h => h) (Or.inl ⟨by rfl, ?hy6⟩) (by assumption) ?rest6
          case hy6 =>
            intro wS hSw
            go_simp
            first | done | with_reducible rfl
          try simp only [Act.put, List.setIfInBounds_toArray, List.set_cons_zero, List.set_cons_succ]
          refine wpAnyH_take (i := 7) (v := ?v7) rfl (by kernel_rfl) (by kernel_rfl) (by kernel_rfl) (fun _ _ _ h => h) (Or.inl ⟨by rfl, ?hy7⟩) (by assumption) ?rest7
          case hy7 =>
            intro wS hSw
            obtain ⟨b0, b1, b2, b3, b4, b5, b6, b7, b8, b9⟩ := HcB.out wS (Hx0.out.trans hSw)
            go_simp
            first | done | with_reducible rfl
          try simp only [Act.put, List.setIfInBounds_toArray, List.set_cons_zero, List.set_cons_succ]
          refine wpAnyH_take (i := 8) (v := ?v8) rfl (by kernel_rfl) (by kernel_rfl) (by kernel_rfl) (fun _ _ _ h => h) (Or.inl ⟨by rfl, ?hy8⟩) (by assumption) ?rest8
          case hy8 =>
            intro wS hSw
            go_simp
            first | done | with_reducible rfl
          try simp only [Act.put, List.setIfInBounds_toArray, List.set_cons_zero, List.set_cons_succ]
          refine wpAnyH_take (i := 9) (v := ?v9) rfl (by kernel_rfl) (by kernel_rfl) (by kernel_rfl) (fun _ _ _ h => h) (Or.inl ⟨by rfl, ?hy9⟩) (by assumption) ?rest9
          case hy9 =>
            intro wS hSw
            go_simp
            first | done | with_reducible rfl
          try simp only [Act.put, List.setIfInBounds_toArray, List.set_cons_zero, List.set_cons_succ]
          clear hw1 hw2
          refine wpAnyH_ready (rs := [10]) (by kernel_rfl) (by simp) ?_
          refine AllReadyH.cons rfl (fun K hK => ?_) AllReadyH.nil
          go_simp
          go_at_call 18; (with_reducible refine (fo_do2' (HF.out.ext (Ext.refl _).drew) OkB.out hL).mono ?_); rintro e w4 ⟨rfl, K1, hK1, hF1⟩; have ⟨e4, f4, hr4, hl4, hlt4⟩ := fo_list2 hF1; have Hr4 := Lib.hid hr4; have HF4 := Lib.hid hF1; clear hF1 hr4
          refine hK.out _ _ HF4.out.old (fun _ => ?_)
          clear hK K hHeld
          refine wpAnyH_weaken (S := fun w' => Ext w0 w' ∧ w'.cell? ⟨d, 0, none⟩ = some (.slice e4 K1.length f4)) (fun _ h => h.1) ?_
          have hHeld : Ext w0 w4 ∧ w4.cell? ⟨d, 0, none⟩ = some (.slice e4 K1.length f4) := ⟨HF4.out.old, hl4⟩
          try simp only [Act.put, List.setIfInBounds_toArray, List.set_cons_zero, List.set_cons_succ]
          refine wpAnyH_take (i := 11) (v := ?v11) rfl (by kernel_rfl) (by kernel_rfl) (by kernel_rfl) (fun _ _ _ h => h) (Or.inl ⟨by rfl, ?hy11⟩) (by assumption) ?rest11
          case hy11 =>
            intro wS hSw
            obtain ⟨hS1, hS2⟩ := hSw
            go_simp
            first | done | with_reducible rfl
          try simp only [Act.put, List.setIfInBounds_toArray, List.set_cons_zero, List.set_cons_succ]
          refine wpAnyH_take (i := 12) (v := ?v12) rfl (by kernel_rfl) (by kernel_rfl) (by kernel_rfl) (fun _ _ _ h => h) (Or.inl ⟨by rfl, ?hy12⟩) (by assumption) ?rest12
          case hy12 =>
            intro wS hSw
            obtain ⟨hS1, hS2⟩ := hSw
            go_simp
            first | done | with_reducible rfl
          try simp only [Act.put, List.setIfInBounds_toArray, List.set_cons_zero, List.set_cons_succ]
          refine wpAnyH_take (i := 13) (v := ?v13) rfl (by kernel_rfl) (by kernel_rfl) (by kernel_rfl) (fun _ _ _ h => h) (Or.inl ⟨by rfl, ?hy13⟩) (by assumption) ?rest13
          case hy13 =>
            intro wS hSw
            obtain ⟨hS1, hS2⟩ := hSw
            go_simp
            first | done | with_reducible rfl
          try simp only [Act.put, List.setIfInBounds_toArray, List.set_cons_zero, List.set_cons_succ]
          refine wpAnyH_take (i := 15) (v := ?v15) rfl (by kernel_rfl) (by kernel_rfl) (by kernel_rfl) (fun _ _ _ h => h) (Or.inl ⟨by rfl, ?hy15⟩) (by assumption) ?rest15
          case hy15 =>
            intro wS hSw
            obtain ⟨hS1, hS2⟩ := hSw
            go_simp
            first | done | with_reducible rfl
          try simp only [Act.put, List.setIfInBounds_toArray, List.set_cons_zero, List.set_cons_succ]
          refine wpAnyH_take (i := 16) (v := ?v16) rfl (by kernel_rfl) (by kernel_rfl) (by kernel_rfl) (fun _ _ _ h => h) (Or.inl ⟨by rfl, ?hy16⟩) (by assumption) ?rest16
          case hy16 =>
            intro wS hSw
            obtain ⟨hS1, hS2⟩ := hSw
            go_simp
            first | done | with_reducible rfl
          try simp only [Act.put, List.setIfInBounds_toArray, List.set_cons_zero, List.set_cons_succ]
          refine wpAnyH_take (i := 17) (v := ?v17) rfl (by kernel_rfl) (by kernel_rfl) (by kernel_rfl) (fun _ _ _ h => h) (Or.inl ⟨by rfl, ?hy17⟩) (by assumption) ?rest17
          case hy17 =>
            intro wS hSw
            obtain ⟨hS1, hS2⟩ := hSw
            go_simp
            first | done | with_reducible rfl
          try simp only [Act.put, List.setIfInBounds_toArray, List.set_cons_zero, List.set_cons_succ]
          refine wpAnyH_take (i := 18) (v := ?v18) rfl (by kernel_rfl) (by kernel_rfl) (by kernel_rfl) (fun _ _ _ h => h) (Or.inl ⟨by rfl, ?hy18⟩) (by assumption) ?rest18
          case hy18 =>
            intro wS hSw
            obtain ⟨hS1, hS2⟩ := hSw
            go_simp
            first | done | with_reducible rfl
          try simp only [Act.put, List.setIfInBounds_toArray, List.set_cons_zero, List.set_cons_succ]
          refine wpAnyH_ready (rs := [14]) (by kernel_rfl) (by simp) ?_
          refine AllReadyH.cons rfl (fun K hK => ?_) AllReadyH.nil
          go_simp
          go_at_call 9; (with_reducible refine (fo_mail2 HF4.out hK1).mono ?_); rintro e w5 ⟨g5, rfl, hr, hx⟩; have Hr5 := Lib.hid hr; have Hx5 := Lib.hid hx; have hl5 := (hx.cell (p := ⟨d, 0, none⟩) hlt4).trans hl4; clear hr hx
          refine hK.out _ _ ⟨HF4.out.old.trans Hx5.out, hl5⟩ (fun hHeld => ?_)
          clear hK K
          try simp only [Act.put, List.setIfInBounds_toArray, List.set_cons_zero, List.set_cons_succ]
          refine wpAnyH_ready (rs := [19]) (by kernel_rfl) (by simp) ?_
          refine AllReadyH.cons rfl (fun K hK => ?_) AllReadyH.nil
          go_simp
          go_at_call 19; (with_reducible refine (same_yes Hr5.out (Hr4.out.ext Hx5.out) (by omega)).mono ?_); rintro e w6 ⟨rfl, hx⟩; have HF6 := Lib.hid ((HF4.out.ext Hx5.out).ext hx); have hl6 := (hx.cell (p := ⟨d, 0, none⟩) (Nat.lt_of_lt_of_le hlt4 Hx5.out.size)).trans hl5; have hlt6 := Nat.lt_of_lt_of_le (Nat.lt_of_lt_of_le hlt4 Hx5.out.size) hx.size; have Hr6 := Lib.hid ((Hr4.out.ext Hx5.out).ext hx); clear hx hl5 hl4 hlt4
          refine hK.out _ _ ⟨HF6.out.old, hl6⟩ (fun hHeld => ?_)
          clear hK K
          try simp only [Act.put, List.setIfInBounds_toArray, List.set_cons_zero, List.set_cons_succ]
          refine wpAnyH_take (i := 20) (v := ?v20) rfl (by kernel_rfl) (by kernel_rfl) (by kernel_rfl) (fun _ _ _ h => h) (Or.inl ⟨by rfl, ?hy20⟩) (by assumption) ?rest20
          case hy20 =>
            intro wS hSw
            obtain ⟨hS1, hS2⟩ := hSw
            go_simp
            first | done | with_reducible rfl
          try simp only [Act.put, List.setIfInBounds_toArray, List.set_cons_zero, List.set_cons_succ]
          refine wpAnyH_take (i := 21) (v := ?v21) rfl (by kernel_rfl) (by kernel_rfl) (by kernel_rfl) (fun _ _ _ h => h) (Or.inl ⟨by rfl, ?hy21⟩) (by assumption) ?rest21
          case hy21 =>
            intro wS hSw
            obtain ⟨hS1, hS2⟩ := hSw
            go_simp
            first | done | with_reducible rfl
          try simp only [Act.put, List.setIfInBounds_toArray, List.set_cons_zero, List.set_cons_succ]
          refine wpAnyH_take (i := 22) (v := ?v22) rfl (by kernel_rfl) (by kernel_rfl) (by kernel_rfl) (fun _ _ _ h => h) (Or.inl ⟨by rfl, ?hy22⟩) (by assumption) ?rest22
          case hy22 =>
            intro wS hSw
            obtain ⟨hS1, hS2⟩ := hSw
            go_simp
            first | done | with_reducible rfl
          try simp only [Act.put, List.setIfInBounds_toArray, List.set_cons_zero, List.set_cons_succ]
          refine wpAnyH_take (i := 23) (v := ?v23) rfl (by kernel_rfl) (by kernel_rfl) (by kernel_rfl) (fun _ _ _ h => h) (Or.inl ⟨by rfl, ?hy23⟩) (by assumption) ?rest23
          case hy23 =>
            intro wS hSw
            obtain ⟨hS1, hS2⟩ := hSw
            go_simp
            first | done | with_reducible rfl
          try simp only [Act.put, List.setIfInBounds_toArray, List.set_cons_zero, List.set_cons_succ]
          refine wpAnyH_take (i := 24) (v := ?v24) rfl (by kernel_rfl) (by kernel_rfl) (by kernel_rfl) (fun _ _ _ h => h) (Or.inl ⟨by rfl, ?hy24⟩) (by assumption) ?rest24
          case hy24 =>
            intro wS hSw
            obtain ⟨hS1, hS2⟩ := hSw
            go_simp
            first | done | with_reducible rfl
          try simp only [Act.put, List.setIfInBounds_toArray, List.set_cons_zero, List.set_cons_succ]
          refine wpAnyH_take (i := 25) (v := ?v25) rfl (by kernel_rfl) (by kernel_rfl) (by kernel_rfl) (fun _ _ _ h => h) (Or.inl ⟨by rfl, ?hy25⟩) (by assumption) ?rest25
          case hy25 =>
            intro wS hSw
            obtain ⟨hS1, hS2⟩ := hSw
            go_simp
            first | done | with_reducible rfl
          try simp only [Act.put, List.setIfInBounds_toArray, List.set_cons_zero, List.set_cons_succ]
          refine wpAnyH_take (i := 26) (v := ?v26) rfl (by kernel_rfl) (by kernel_rfl) (by kernel_rfl) (fun _ _ _ h => h) (Or.inl ⟨by rfl, ?hy26⟩) (by assumption) ?rest26
          case hy26 =>
            intro wS hSw
            obtain ⟨hS1, hS2⟩ := hSw; obtain ⟨a0, a1, a2, a3, a4, a5, a6, a7, a8, a9⟩ := HcA.out wS (Hx0.out.trans hS1)
            go_simp
            first | done | with_reducible rfl
          try simp only [Act.put, List.setIfInBounds_toArray, List.set_cons_zero, List.set_cons_succ]
          refine wpAnyH_take (i := 27) (v := ?v27) rfl (by kernel_rfl) (by kernel_rfl) (by kernel_rfl) (fun _ _ _ h => h) (Or.inl ⟨by rfl, ?hy27⟩) (by assumption) ?rest27
          case hy27 =>
            intro wS hSw
            obtain ⟨hS1, hS2⟩ := hSw
            go_simp
            first | done | with_reducible rfl
          try simp only [Act.put, List.setIfInBounds_toArray, List.set_cons_zero, List.set_cons_succ]
          refine wpAnyH_take (i := 28) (v := ?v28) rfl (by kernel_rfl) (by kernel_rfl) (by kernel_rfl) (fun _ _ _ h => h) (Or.inl ⟨by rfl, ?hy28⟩) (by assumption) ?rest28
          case hy28 =>
            intro wS hSw
            obtain ⟨hS1, hS2⟩ := hSw
            go_simp
            first | done | with_reducible rfl
          try simp only [Act.put, List.setIfInBounds_toArray, List.set_cons_zero, List.set_cons_succ]
          refine wpAnyH_ready (rs := [29]) (by kernel_rfl) (by simp) ?_
          refine AllReadyH.cons rfl (fun K hK => ?_) AllReadyH.nil
          go_simp
          go_at_call 18; (with_reducible refine (fo_do_keep HF6.out OkA.out hL hl6).mono ?_); rintro e w7 ⟨rfl, L1, hL1, hF1, hl7, hr7, hs7⟩; have Hs7 := Lib.hid hs7; have Hr7 := Lib.hid (hr7 _ _ Hr6.out hl6); have HF7 := Lib.hid hF1; clear hF1 hr7 hs7
          refine hK.out _ _ ⟨HF7.out.old, hl7⟩ (fun hHeld => ?_)
          clear hK K
          try simp only [Act.put, List.setIfInBounds_toArray, List.set_cons_zero, List.set_cons_succ]
          refine wpAnyH_take (i := 30) (v := ?v30) rfl (by kernel_rfl) (by kernel_rfl) (by kernel_rfl) (fun _ _ _ h => h) (Or.inl ⟨by rfl, ?hy30⟩) (by assumption) ?rest30
          case hy30 =>
            intro wS hSw
            obtain ⟨hS1, hS2⟩ := hSw
            go_simp
            first | done | with_reducible rfl
          try simp only [Act.put, List.setIfInBounds_toArray, List.set_cons_zero, List.set_cons_succ]
          refine wpAnyH_take (i := 31) (v := ?v31) rfl (by kernel_rfl) (by kernel_rfl) (by kernel_rfl) (fun _ _ _ h => h) (Or.inl ⟨by rfl, ?hy31⟩) (by assumption) ?rest31
          case hy31 =>
            intro wS hSw
            obtain ⟨hS1, hS2⟩ := hSw
            go_simp
            first | done | with_reducible rfl
          try simp only [Act.put, List.setIfInBounds_toArray, List.set_cons_zero, List.set_cons_succ]
          refine wpAnyH_take (i := 32) (v := ?v32) rfl (by kernel_rfl) (by kernel_rfl) (by kernel_rfl) (fun _ _ _ h => h) (Or.inl ⟨by rfl, ?hy32⟩) (by assumption) ?rest32
          case hy32 =>
            intro wS hSw
            obtain ⟨hS1, hS2⟩ := hSw
            go_simp
            first | done | with_reducible rfl
          try simp only [Act.put, List.setIfInBounds_toArray, List.set_cons_zero, List.set_cons_succ]
          refine wpAnyH_take (i := 33) (v := ?v33) rfl (by kernel_rfl) (by kernel_rfl) (by kernel_rfl) (fun _ _ _ h => h) (Or.inl ⟨by rfl, ?hy33⟩) (by assumption) ?rest33
          case hy33 =>
            intro wS hSw
            obtain ⟨hS1, hS2⟩ := hSw
            go_simp
            first | done | with_reducible rfl
          try simp only [Act.put, List.setIfInBounds_toArray, List.set_cons_zero, List.set_cons_succ]
          refine wpAnyH_take (i := 35) (v := ?v35) rfl (by kernel_rfl) (by kernel_rfl) (by kernel_rfl) (fun _ _ _ h => h) (Or.inl ⟨by rfl, ?hy35⟩) (by assumption) ?rest35
          case hy35 =>
            intro wS hSw
            obtain ⟨hS1, hS2⟩ := hSw
            go_simp
            first | done | with_reducible rfl
          try simp only [Act.put, List.setIfInBounds_toArray, List.set_cons_zero, List.set_cons_succ]
          refine wpAnyH_take (i := 36) (v := ?v36) rfl (by kernel_rfl) (by kernel_rfl) (by kernel_rfl) (fun _ _ _ h => h) (Or.inl ⟨by rfl, ?hy36⟩) (by assumption) ?rest36
          case hy36 =>
            intro wS hSw
            obtain ⟨hS1, hS2⟩ := hSw
            go_simp
            first | done | with_reducible rfl
          try simp only [Act.put, List.setIfInBounds_toArray, List.set_cons_zero, List.set_cons_succ]
          refine wpAnyH_take (i := 37) (v := ?v37) rfl (by kernel_rfl) (by kernel_rfl) (by kernel_rfl) (fun _ _ _ h => h) (Or.inl ⟨by rfl, ?hy37⟩) (by assumption) ?rest37
          case hy37 =>
            intro wS hSw
            obtain ⟨hS1, hS2⟩ := hSw
            go_simp
            first | done | with_reducible rfl
          try simp only [Act.put, List.setIfInBounds_toArray, List.set_cons_zero, List.set_cons_succ]
          refine wpAnyH_take (i := 38) (v := ?v38) rfl (by kernel_rfl) (by kernel_rfl) (by kernel_rfl) (fun _ _ _ h => h) (Or.inl ⟨by rfl, ?hy38⟩) (by assumption) ?rest38
          case hy38 =>
            intro wS hSw
            obtain ⟨hS1, hS2⟩ := hSw
            go_simp
            first | done | with_reducible rfl
          try simp only [Act.put, List.setIfInBounds_toArray, List.set_cons_zero, List.set_cons_succ]
          refine wpAnyH_ready (rs := [34]) (by kernel_rfl) (by simp) ?_
          refine AllReadyH.cons rfl (fun K hK => ?_) AllReadyH.nil
          go_simp
          go_at_call 9; (with_reducible refine (fo_mail2 HF7.out hK1).mono ?_); rintro e w8 ⟨g8, rfl, hr, hx⟩; have Hr8 := Lib.hid hr; have Hx8 := Lib.hid hx; have hl8 := (hx.cell (p := ⟨d, 0, none⟩) (Nat.lt_of_lt_of_le hlt6 Hs7.out)).trans hl7; clear hr hx
          refine hK.out _ _ ⟨HF7.out.old.trans Hx8.out, hl8⟩ (fun hHeld => ?_)
          clear hK K
          try simp only [Act.put, List.setIfInBounds_toArray, List.set_cons_zero, List.set_cons_succ]
          refine wpAnyH_ready (rs := [39]) (by kernel_rfl) (by simp) ?_
          refine AllReadyH.cons rfl (fun K hK => ?_) AllReadyH.nil
          go_simp
          go_at_call 19; (with_reducible refine (same_yes Hr8.out (Hr7.out.ext Hx8.out) (by omega)).mono ?_); rintro e w9 ⟨rfl, hx⟩; have HF9 := Lib.hid ((HF7.out.ext Hx8.out).ext hx); have hl9 := (hx.cell (p := ⟨d, 0, none⟩) (Nat.lt_of_lt_of_le (Nat.lt_of_lt_of_le hlt6 Hs7.out) Hx8.out.size)).trans hl8; clear hx
          refine hK.out _ _ ⟨HF9.out.old, hl9⟩ (fun hHeld => ?_)
          clear hK K
          try simp only [Act.put, List.setIfInBounds_toArray, List.set_cons_zero, List.set_cons_succ]
          refine wpAnyH_ready (rs := [40]) (by kernel_rfl) (by simp) ?_
          refine AllReadyH.cons rfl (fun K hK => ?_) AllReadyH.nil
          go_simp
          skip
          refine hK.out _ _ ⟨HF9.out.old, hl9⟩ (fun hHeld => ?_)
          clear hK K
          try simp only [Act.put, List.setIfInBounds_toArray, List.set_cons_zero, List.set_cons_succ]
          refine wpAnyH_ready (rs := [41]) (by kernel_rfl) (by simp) ?_
          refine AllReadyH.cons rfl (fun K hK => ?_) AllReadyH.nil
          go_simp
          skip
          refine hK.out _ _ ⟨HF9.out.old, hl9⟩ (fun hHeld => ?_)
          clear hK K
          try simp only [Act.put, List.setIfInBounds_toArray, List.set_cons_zero, List.set_cons_succ]
          refine wpAnyH_done (by kernel_rfl) ?_ _
          all_goals
            go_wp2_with fail
            go_meet
            exact ⟨rfl, L1, K1, hL1, HF9.out⟩
        case rest =>
          obtain ⟨rfl, L1, K1, hL1, hF⟩ := hcut
          have HT1 := Lib.hid hF.first
          clear hF HF Hc
          go_wp2_with (first | (go_at_call 9; (with_reducible refine (tw_mail HT1.out rfl hL1).mono ?_); rintro e w5 ⟨g, rfl, hr, hx, hT2, hg⟩; have ⟨e5, f5, hr5, hl5, hlt5⟩ := tw_list hT2; have Hr := Lib.hid hr; have Hr5 := Lib.hid hr5; have HT5 := Lib.hid hT2; have HE5 := Lib.hid (HT1.out.old.trans hx); have Hg := Lib.hid hg; clear hr hr5 hT2 hx hg) | (go_at_call 19; (with_reducible refine (same_yes Hr.out Hr5.out (by omega)).mono ?_); rintro e w6 ⟨rfl, hx⟩; have HT6 := Lib.hid ((HT5.out.store (With.new _ _) (Fr.of_ext hx))); have Hr6 := Lib.hid (Hr.out.ext hx); have HE6 := Lib.hid (HE5.out.trans hx); clear hx))
          go_loopw [9] (fun kk wx => (∃ k : Nat, k ≤ L1.length ∧ kk = .int .i64 k) ∧ ∃ X : List Msg, X.length = L1.length ∧ Rw wx 7 (some ⟨g, 0, none⟩) L1.length L1.length (Ml X) ∧ Tw wx (With (Old w0) g) p q L1 L1 wx ∧ Ext w0 wx) (fun kk _ => L1.length - (intOf kk).toNat)
          case atStart => exact ⟨⟨0, by omega, rfl⟩, L1, rfl, Hr6.out, HT6.out, HE6.out⟩
          case round =>
            obtain ⟨⟨k, hk, rfl⟩, X, hX, hr, hT, hE⟩ := hrel
            have HT7 := Lib.hid hT
            have Hr7 := Lib.hid hr
            have HE7 := Lib.hid hE
            clear hT hE
            by_cases hlt3 : k < L1.length
            · obtain ⟨g', hge, hg', hx1, hx2⟩ := hr.row (by omega)
              cases hge
              obtain ⟨c0, c1', c2, c3, c4, c5, c6⟩ := hr.msg k (by omega)
              have f0 := hx2 (k * 7) (by omega)
              have f1 := hx2 (k * 7 + 1) (by omega)
              have f2 := hx2 (k * 7 + 2) (by omega)
              have f3 := hx2 (k * 7 + 3) (by omega)
              have f4 := hx2 (k * 7 + 4) (by omega)
              have f5' := hx2 (k * 7 + 5) (by omega)
              have f6 := hx2 (k * 7 + 6) (by omega)
              clear hx1 hx2 hr
              go_wp2_with fail
              have hfs : Fr (fun k => k = g) wr (wr.setCells g (k * 7) (Mc (99, 0, 0, [], 0, 0, 0))) := Fr.setCells (by intro _; rfl) _ _ _ (Fr.refl _ _)
              have e9 : (((((((wr.setCell ⟨g, k * 7, none⟩ (.int .i64 99)).setCell ⟨g, k * 7 + 1, none⟩ (.int .i64 0)).setCell ⟨g, k * 7 + 2, none⟩ (.int .i64 0)).setCell ⟨g, k * 7 + 3, none⟩ (.string (ofL []))).setCell ⟨g, k * 7 + 4, none⟩ (.int .i64 0)).setCell ⟨g, k * 7 + 5, none⟩ (.int .i64 0)).setCell ⟨g, k * 7 + 6, none⟩ (.int .i64 0)) = wr.setCells g (k * 7) (Mc (99, 0, 0, [], 0, 0, 0)) := by simp [World.setCells, Mc]
              rw [e9]
              have hr9 := Hr7.out.setMsg k (by omega) (99, 0, 0, [], 0, 0, 0)
              have hT9 := HT7.out.store (With.new _ _) hfs
              have hE9 := hfs.grownFrom HE7.out (fun k hk => by subst hk; exact Hg.out)
              exact ⟨⟨⟨k + 1, by omega, by go_num⟩, X.set k (99, 0, 0, [], 0, 0, 0), by rw [List.length_set]; exact hX, hr9, hT9, hE9⟩, by simp [intOf]; omega⟩
            · obtain rfl : k = L1.length := by omega
              clear hr
              go_wp2_with fail
              exact ⟨⟨i + 1, L1, by omega, by go_num, hL1, HT7.out.toOld (fun _ h => .inl h) HE7.out⟩, by simp [intOf]; omega⟩
      · obtain rfl : i = n := by omega
        obtain ⟨bo, b1, hrow, hcell, hqlt⟩ := tw_list HT.out
        have hcE : ∀ w', Ext wr w' → w'.cell? ⟨q, 0, none⟩ = some (.slice bo L.length b1) := fun w' hx => (hx.cell (p := ⟨q, 0, none⟩) hqlt).trans hcell
        have HR := Lib.hid hrow
        have hE0 := Ext.refl wr
        have HO := Lib.hid (Hx0.out.trans HT.out.old)
        clear hrow
        go_wp2_with fail
        go_region_held3 (fun w' => Ext wr w') (first | exact Ext.refl _ | exact Ext.drew (Ext.refl _) | assumption) (first | (go_at_call 9; (with_reducible refine (tw_mail (HT.out.ext (Ext.refl _).drew) rfl hL).mono ?_); rintro e w2 ⟨g, rfl, hr, hx, hT2, hg⟩; have hx2 := Ext.of_drew hx; have Hr := Lib.hid hr; clear hr hT2 hx hg) | (go_at_call 19; (with_reducible refine (same_yes Hr.out (HR.out.ext hx2) (by omega)).mono ?_); rintro e w3 ⟨rfl, hx⟩; have hx3 := hx2.trans hx; clear hx) | (go_at_call 7; (with_reducible refine (mailed_any _).mono ?_); rintro e w4 ⟨rfl, hx⟩; have hx4 := hx3.trans hx; clear hx))
        all_goals go_wp2_with fail
        all_goals
          go_ret
          exact ⟨rfl, HO.out.trans hx4⟩
end Go.Proofs.Ytjalikjakoddoaa
