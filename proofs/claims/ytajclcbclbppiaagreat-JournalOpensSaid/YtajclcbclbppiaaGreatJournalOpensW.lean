/-
  The walk of JournalOpens.
-/
import Derived.Test.YtajclcbclbppiaaGreatZ25
import Derived.Deep.RegionWith
import Derived.Deep.RegionHeld3
namespace Go.Proofs.YtajclcbclbppiaaGreat
open Go.RowKit Go.Maps Go.Dk Go.Rc Go.Jn Go.Shelf
set_option linter.unusedSimpArgs false
/-- A condition that says less. -/
theorem wpAnyH_weaken {P : Program} {md : Region.Mode} {ops : Array Oper} {Q : Exit → Act → World → Prop} {T S : World → Prop} (hS : ∀ w, S w → T w) : ∀ {fuel : Nat} {listed : Array Bool} {a : Act} {w : World}, wpAnyH P md ops Q S fuel listed a w → wpAnyH P md ops Q T fuel listed a w
  | 0, _, _, _, h => h
  | _ + 1, _, _, _, h => ⟨h.1, fun i hi => wpOp_mono (fun _ _ h' => ⟨hS _ h'.1, wpAnyH_weaken hS h'.2⟩) (h.2 i hi)⟩
theorem texts_same {w : World} {ao bo : Option Addr} {n m ca cb : Nat} {L : List (List UInt8)} (ha : Ro w ao n L) (hb : Ro w bo m L) (hl : L.length ≤ 1048576) :
    Calls Tryz.prog 13 #[.slice ao n ca, .slice bo m cb] w fun e w' => e = .returned (.bool true) ∧ Ext w w' := by
  have h1 := ha.1
  have h2 := hb.1
  have C := texts_any (ca := ca) (cb := cb) ha hb (by omega) (by omega)
  rw [show decide (L = L) = true from decide_eq_true rfl] at C
  exact C
set_option maxHeartbeats 8000000 in
set_option maxRecDepth 100000 in
theorem journalOpens_any (w : World) (v : Value) (l : List Jf) (hA : Files w v l) (pay snp : List UInt8) : Calls Tryz.prog 3 #[v, .string (ofL pay), .string (ofL snp)] w fun e w' => e = .returned (.bool true) ∧ Ext w w' := by
  obtain ⟨ao, n, cap, hv, hn⟩ : ∃ ao n cap, v = .slice ao n cap ∧ l.length = n := by
    rcases hA.2.2 with ⟨ao, cap, rfl, rfl⟩ | ⟨g, o, cap, rfl, _⟩
    · exact ⟨_, _, _, rfl, rfl⟩
    · exact ⟨_, _, _, rfl, rfl⟩
  subst hv
  have HA := Lib.hid hA
  have HN := Lib.hid hn
  clear hA hn
  by_cases h8 : (8 : Int) < (n : Int)
  · go_enter Tryz.func3, Tryz.ntmps3
    go_wp2_with (go_at_call 4; (with_reducible refine (kept_any _).mono ?_); rintro e w9 ⟨rfl, hx9⟩)
    go_ret
    exact ⟨rfl, hx9⟩
  by_cases hp : (3000 : Int) < (pay.length : Int)
  · go_enter Tryz.func3, Tryz.ntmps3
    go_wp2_with (go_at_call 4; (with_reducible refine (kept_any _).mono ?_); rintro e w9 ⟨rfl, hx9⟩)
    go_ret
    exact ⟨rfl, hx9⟩
  by_cases hs : (3000 : Int) < (snp.length : Int)
  · go_enter Tryz.func3, Tryz.ntmps3
    go_wp2_with (go_at_call 4; (with_reducible refine (kept_any _).mono ?_); rintro e w9 ⟨rfl, hx9⟩)
    go_ret
    exact ⟨rfl, hx9⟩
  have ND := Lib.hid (k_new w (Old w) (Old.under w) (c := 200000) ⟨by decide, by decide⟩)
  have NR := Lib.hid (fun w1 => r_new w1 (Old.under w1) (c := 200000) ⟨by decide, by decide⟩)
  have hp3 : pay.length ≤ 3000 := by omega
  have hs3 : snp.length ≤ 3000 := by omega
  go_enter Tryz.func3, Tryz.ntmps3
  go_wp2_with (first
    | (go_at_call 5; (with_reducible refine ND.out.mono ?_); rintro x w1 ⟨p, rfl, hD, _⟩; have HD := Lib.hid hD; clear hD)
    | (go_at_call 6; (with_reducible refine (NR.out w1).mono ?_); rintro x w2 ⟨q, rfl, hR, hx⟩; have H2 := Lib.hid (D2.new HD.out hR hx); have HX2 := Lib.hid (HD.out.all.trans hx); clear hR hx))
  clear HD ND NR
  go_loopw [11] (fun iv wr => ∃ (k : Nat) (S : St), k ≤ n ∧ iv = .int .i64 k ∧ D2 (Old w) p q S S wr ∧ S.down = false ∧ Ext w wr) (fun i _ => n - (intOf i).toNat)
  case atStart => exact ⟨0, _, by omega, rfl, H2.out, rfl, HX2.out⟩
  case round =>
    clear H2 HX2
    obtain ⟨k, S, hk, rfl, hD, hup, hx⟩ := hrel
    have HD := Lib.hid hD
    have HX := Lib.hid hx
    have HUP := Lib.hid hup
    clear hD hx hup
    by_cases hlt : k < n
    · have hkl : k < l.length := by rw [HN.out]; exact hlt
      obtain ⟨g, o, rfl, hg, hc⟩ := HA.out.at HN.out k hkl
      obtain ⟨f, hf⟩ : ∃ f, l[k] = f := ⟨_, rfl⟩
      rw [hf] at hc
      have hfo := HA.out.1 f (hf ▸ List.getElem_mem hkl)
      have cB := (hc wr HX.out).2
      by_cases hb : (3000 : Int) < (f.b.length : Int)
      · clear hc hf hfo
        go_wp2_with (go_at_call 4; (with_reducible refine (kept_any _).mono ?_); rintro e w9 ⟨rfl, hx9⟩)
        go_ret
        exact ⟨rfl, HX.out.trans hx9⟩
      · obtain ⟨S1, e1, h1⟩ : ∃ S1 e1, create S f.n = (S1, e1) := ⟨_, _, rfl⟩
        obtain ⟨S2, e2, h2⟩ : ∃ S2 e2, append S1 f.n f.b = (S2, e2) := ⟨_, _, rfl⟩
        have hu1 : S1.down = false := by have := create_down HD.out.fail f.n; rw [h1] at this; exact this.trans HUP.out
        have hf1 : S1.fail = none := by have := create_fail f.n HD.out.fail; rw [h1] at this; exact this
        have hu2 : S2.down = false := by have := append_down hf1 f.n f.b; rw [h2] at this; exact this.trans hu1
        have hwf := in64_wf hfo
        have C1 := Lib.hid (d_create (HD.out.ext (Ext.refl _).drew) hwf h1)
        have H1 := Lib.hid h1
        have H2 := Lib.hid h2
        have HU2 := Lib.hid hu2
        have hkn : (k : Int) < (n : Int) := by omega
        have hk0 : (0 : Int) ≤ (k : Int) := by omega
        have d0 : ∀ w', Ext w w' → w'.cell? ⟨g, o + k * 2, none⟩ = some (.int .i64 f.n) := fun w' hx => (hc w' hx).1
        have d1 : ∀ w', Ext w w' → w'.cell? ⟨g, o + k * 2 + 1, none⟩ = some (.string (ofL f.b)) := fun w' hx => (hc w' hx).2
        have hxd : Ext w wr.drew := HX.out.drew
        clear hc hf hfo h1 h2 hu1 hf1 hu2
        go_wp2_with fail
        go_region_held3 (fun w' => Ext w w') (first | assumption) (first
          | (go_at_call 7; (with_reducible refine C1.out.mono ?_); rintro x w3 ⟨rfl, hD3, hF3⟩; have hx3 : Ext w w3 := olds hxd hF3 (fun _ h => h); have HD3 := Lib.hid hD3; clear hD3 hF3)
          | (go_at_call 8; (with_reducible refine (d_rcreate HD3.out hwf H1.out).mono ?_); rintro x w4 ⟨rfl, hD4, hF4⟩; have hx4 : Ext w w4 := olds hx3 hF4 (fun _ h => h); have HD4 := Lib.hid hD4; clear hD4 hF4)
          | (go_at_call 9; (with_reducible refine (d_append HD4.out hwf H2.out).mono ?_); rintro x w5 ⟨rfl, hD5, hF5⟩; have hx5 : Ext w w5 := olds hx4 hF5 (fun _ h => h); have HD5 := Lib.hid hD5; clear hD5 hF5)
          | (go_at_call 10; (with_reducible refine (d_rappend HD5.out H2.out).mono ?_); rintro x w6 ⟨rfl, hD6, hF6⟩; have hx6 : Ext w w6 := olds hx5 hF6 (fun _ h => h); have HD6 := Lib.hid hD6; clear hD6 hF6))
        all_goals
          go_wp2
          exact ⟨⟨k + 1, S2, by omega, by go_num, HD6.out, HU2.out, hx6⟩, by simp [intOf]; omega⟩
    · obtain rfl : k = n := by omega
      have hok := HD.out.up
      rcases open_cases S with ⟨S2, J, snap, tx, hop⟩ | ⟨S2, e2, hop⟩
      · obtain ⟨hsm, htl⟩ := open_small hok hop
        obtain ⟨S3, J3, e3, hap⟩ : ∃ S3 J3 e3, appendJ S2 J pay = (S3, J3, e3) := ⟨_, _, _, rfl⟩
        obtain ⟨t, ht⟩ : ∃ t, IntKind.i64.wrap (J.n + 1) = t := ⟨_, rfl⟩
        have HT := Lib.hid (show IntKind.i64.wrap (J3.n + 1) = t by rw [(append_n hap).1]; exact ht)
        have HWF := Lib.hid (show (Lit.int .i64 t).wf = true by rw [← ht]; exact next_n J.n hsm.n0 hsm.n1)
        obtain ⟨S4, J4, e4, hco⟩ : ∃ S4 J4 e4, compactN S3 J3 snp t = (S4, J4, e4) := ⟨_, _, _, rfl⟩
        have HS3 := Lib.hid (Sm.append hsm hp3 hap)
        have HS2 := Lib.hid (Sm.small hsm)
        have HOP := Lib.hid hop
        have HAP := Lib.hid hap
        have HCO := Lib.hid hco
        obtain ⟨sz, hsz⟩ : ∃ sz, J4.size = sz := ⟨_, rfl⟩
        obtain ⟨mn, hmn⟩ : ∃ mn, J4.many = mn := ⟨_, rfl⟩
        have HSZ := Lib.hid hsz
        have HMN := Lib.hid hmn
        clear hok hop hap ht hco hsm hsz hmn
        go_wp2_with (first
          | (go_at_call 11; (with_reducible refine (D2.openL HD.out HUP.out HOP.out).mono ?_); rintro x w1 ⟨jl, ao1, n1, cap1, rfl, hro, hJ, hF⟩; have HX1 := Lib.hid (olds HX.out hF (fun _ h => h)); have HJ1 := Lib.hid hJ; have HR1 := Lib.hid hro; clear hro hJ hF)
          | (go_at_call 12; (with_reducible refine (J1.openR HJ1.out HUP.out HOP.out).mono ?_); rintro x w2 ⟨jr, bo, n2, cap2, rfl, hro, hJ, hF⟩; have HX2 := Lib.hid (olds HX1.out hF (fun _ h => .inl h)); have HJ2 := Lib.hid hJ; have HR2 := Lib.hid hro; have HR3 := Lib.hid (HR1.out.fr hF (fun g hg hn => hn (.inr hg))); clear hro hJ hF)
          | (go_at_call 13; (with_reducible refine (texts_same HR3.out HR2.out htl).mono ?_); rintro x w3 ⟨rfl, hx3⟩; have HX3 := Lib.hid (HX2.out.trans hx3); have HJ3 := Lib.hid (HJ2.out.ext hx3); clear hx3)
          | (go_at_call 14; (with_reducible refine (J2.same HJ3.out).mono ?_); rintro x w4 ⟨rfl, hJ, hF⟩; have HX4 := Lib.hid (olds HX3.out hF (fun _ h => .inl h)); have HJ4 := Lib.hid hJ; clear hJ hF))
        rename_i Ka Qa Kb hfat Kc hlast
        clear hfat
        refine wp_region_noPanic ?_
        refine wp_region_held_drew (S := fun w' => Ext w w') (by kernel_rfl) HX4.out.drew (fun hHeld => ?_)
        refine wpAnyH_take (i := 0) (v := ?v0) (by simp only [List.getElem?_toArray, List.getElem?_cons_succ, List.getElem?_cons_zero]; rfl) (by kernel_rfl) (by kernel_rfl) (by kernel_rfl) (fun _ _ _ h => h) (Or.inl ⟨by rfl, ?hy0⟩) hHeld ?rest0
        case hy0 =>
          intro wS hSw
          go_simp
          first | done | with_reducible rfl
        try simp only [Act.put, List.setIfInBounds_toArray, List.set_cons_zero, List.set_cons_succ]
        refine wpAnyH_take (i := 1) (v := ?v1) (by simp only [List.getElem?_toArray, List.getElem?_cons_succ, List.getElem?_cons_zero]; rfl) (by kernel_rfl) (by kernel_rfl) (by kernel_rfl) (fun _ _ _ h => h) (Or.inl ⟨by rfl, ?hy1⟩) hHeld ?rest1
        case hy1 =>
          intro wS hSw
          go_simp
          first | done | with_reducible rfl
        try simp only [Act.put, List.setIfInBounds_toArray, List.set_cons_zero, List.set_cons_succ]
        refine wpAnyH_take (i := 3) (v := ?v3) (by simp only [List.getElem?_toArray, List.getElem?_cons_succ, List.getElem?_cons_zero]; rfl) (by kernel_rfl) (by kernel_rfl) (by kernel_rfl) (fun _ _ _ h => h) (Or.inl ⟨by rfl, ?hy3⟩) hHeld ?rest3
        case hy3 =>
          intro wS hSw
          go_simp
          first | done | with_reducible rfl
        try simp only [Act.put, List.setIfInBounds_toArray, List.set_cons_zero, List.set_cons_succ]
        refine wpAnyH_take (i := 4) (v := ?v4) (by simp only [List.getElem?_toArray, List.getElem?_cons_succ, List.getElem?_cons_zero]; rfl) (by kernel_rfl) (by kernel_rfl) (by kernel_rfl) (fun _ _ _ h => h) (Or.inl ⟨by rfl, ?hy4⟩) hHeld ?rest4
        case hy4 =>
          intro wS hSw
          go_simp
          first | done | with_reducible rfl
        try simp only [Act.put, List.setIfInBounds_toArray, List.set_cons_zero, List.set_cons_succ]
        clear hHeld
        refine wpAnyH_ready (rs := [2]) (by kernel_rfl) (by simp) ?_
        refine AllReadyH.cons (by simp only [List.getElem?_toArray, List.getElem?_cons_succ, List.getElem?_cons_zero]; rfl) (fun K hK => ?_) AllReadyH.nil
        go_simp
        go_at_call 15; (with_reducible refine (j_append (HJ4.out.ext (Ext.refl _).drew) HS2.out hp3 HAP.out).mono ?_); rintro x w5 ⟨rfl, hJ, hF⟩; have HX5 := Lib.hid (olds HX4.out.drew hF (fun _ h => .inl h)); have HJ5 := Lib.hid hJ; clear hJ hF
        refine hK.out _ _ HX5.out (fun hHeld => ?_)
        clear hK K
        try simp only [Act.put, List.setIfInBounds_toArray, List.set_cons_zero, List.set_cons_succ]
        clear hHeld
        refine wpAnyH_ready (rs := [5]) (by kernel_rfl) (by simp) ?_
        refine AllReadyH.cons (by simp only [List.getElem?_toArray, List.getElem?_cons_succ, List.getElem?_cons_zero]; rfl) (fun K hK => ?_) AllReadyH.nil
        go_simp
        go_at_call 16; (with_reducible refine (j_rappend HJ5.out HS2.out hp3 HAP.out).mono ?_); rintro x w6 ⟨rfl, hJ, hF⟩; have HX6 := Lib.hid (olds HX5.out hF (fun _ h => .inl h)); have HJ6 := Lib.hid hJ; clear hJ hF
        refine hK.out _ _ HX6.out (fun hHeld => ?_)
        clear hK K
        try simp only [Act.put, List.setIfInBounds_toArray, List.set_cons_zero, List.set_cons_succ]
        refine wpAnyH_take (i := 6) (v := ?v6) (by simp only [List.getElem?_toArray, List.getElem?_cons_succ, List.getElem?_cons_zero]; rfl) (by kernel_rfl) (by kernel_rfl) (by kernel_rfl) (fun _ _ _ h => h) (Or.inl ⟨by rfl, ?hy6⟩) hHeld ?rest6
        case hy6 =>
          intro wS hSw
          go_simp
          first | done | with_reducible rfl
        try simp only [Act.put, List.setIfInBounds_toArray, List.set_cons_zero, List.set_cons_succ]
        refine wpAnyH_take (i := 7) (v := ?v7) (by simp only [List.getElem?_toArray, List.getElem?_cons_succ, List.getElem?_cons_zero]; rfl) (by kernel_rfl) (by kernel_rfl) (by kernel_rfl) (fun _ _ _ h => h) (Or.inl ⟨by rfl, ?hy7⟩) hHeld ?rest7
        case hy7 =>
          intro wS hSw
          go_simp
          first | done | with_reducible rfl
        try simp only [Act.put, List.setIfInBounds_toArray, List.set_cons_zero, List.set_cons_succ]
        refine wpAnyH_take (i := 8) (v := ?v8) (by simp only [List.getElem?_toArray, List.getElem?_cons_succ, List.getElem?_cons_zero]; rfl) (by kernel_rfl) (by kernel_rfl) (by kernel_rfl) (fun _ _ _ h => h) (Or.inl ⟨by rfl, ?hy8⟩) hHeld ?rest8
        case hy8 =>
          intro wS hSw
          go_simp
          first | done | with_reducible rfl
        try simp only [Act.put, List.setIfInBounds_toArray, List.set_cons_zero, List.set_cons_succ]
        refine wpAnyH_take (i := 9) (v := ?v9) (by simp only [List.getElem?_toArray, List.getElem?_cons_succ, List.getElem?_cons_zero]; rfl) (by kernel_rfl) (by kernel_rfl) (by kernel_rfl) (fun _ _ _ h => h) (Or.inl ⟨by rfl, ?hy9⟩) hHeld ?rest9
        case hy9 =>
          intro wS hSw
          go_simp
          first | done | with_reducible rfl
        try simp only [Act.put, List.setIfInBounds_toArray, List.set_cons_zero, List.set_cons_succ]
        refine wpAnyH_take (i := 11) (v := ?v11) (by simp only [List.getElem?_toArray, List.getElem?_cons_succ, List.getElem?_cons_zero]; rfl) (by kernel_rfl) (by kernel_rfl) (by kernel_rfl) (fun _ _ _ h => h) (Or.inl ⟨by rfl, ?hy11⟩) hHeld ?rest11
        case hy11 =>
          intro wS hSw
          go_simp
          first | done | with_reducible rfl
        try simp only [Act.put, List.setIfInBounds_toArray, List.set_cons_zero, List.set_cons_succ]
        refine wpAnyH_take (i := 12) (v := ?v12) (by simp only [List.getElem?_toArray, List.getElem?_cons_succ, List.getElem?_cons_zero]; rfl) (by kernel_rfl) (by kernel_rfl) (by kernel_rfl) (fun _ _ _ h => h) (Or.inl ⟨by rfl, ?hy12⟩) hHeld ?rest12
        case hy12 =>
          intro wS hSw
          go_simp
          first | done | with_reducible rfl
        try simp only [Act.put, List.setIfInBounds_toArray, List.set_cons_zero, List.set_cons_succ]
        clear hHeld
        refine wpAnyH_ready (rs := [10]) (by kernel_rfl) (by simp) ?_
        refine AllReadyH.cons (by simp only [List.getElem?_toArray, List.getElem?_cons_succ, List.getElem?_cons_zero]; rfl) (fun K hK => ?_) AllReadyH.nil
        go_simp
        go_at_call 17; (with_reducible refine (j_compact HJ6.out HS3.out HT.out HWF.out hs3 HCO.out).mono ?_); rintro x w7 ⟨rfl, hJ, hF⟩; have HX7 := Lib.hid (olds HX6.out hF (fun _ h => .inl h)); have HJ7 := Lib.hid hJ; clear hJ hF
        refine hK.out _ _ HX7.out (fun hHeld => ?_)
        clear hK K
        try simp only [Act.put, List.setIfInBounds_toArray, List.set_cons_zero, List.set_cons_succ]
        clear hHeld
        refine wpAnyH_ready (rs := [13]) (by kernel_rfl) (by simp) ?_
        refine AllReadyH.cons (by simp only [List.getElem?_toArray, List.getElem?_cons_succ, List.getElem?_cons_zero]; rfl) (fun K hK => ?_) AllReadyH.nil
        go_simp
        go_at_call 18; (with_reducible refine (j_rcompact HJ7.out HT.out HWF.out hs3 HCO.out).mono ?_); rintro x w8 ⟨rfl, hJ, hF⟩; have HX8 := Lib.hid (olds HX7.out hF (fun _ h => .inl h)); have HJ8 := Lib.hid hJ; clear hJ hF
        refine hK.out _ _ HX8.out (fun hHeld => ?_)
        clear hK K
        try simp only [Act.put, List.setIfInBounds_toArray, List.set_cons_zero, List.set_cons_succ]
        clear hHeld
        refine wpAnyH_weaken (S := fun w' => Ext w w' ∧ w'.cell? ⟨jr, 2, none⟩ = some (.int .i64 sz) ∧ w'.cell? ⟨jr, 3, none⟩ = some (.int .i64 mn)) (fun _ h => h.1) ?_
        have hHeld : Ext w w8 ∧ w8.cell? ⟨jr, 2, none⟩ = some (.int .i64 sz) ∧ w8.cell? ⟨jr, 3, none⟩ = some (.int .i64 mn) := ⟨HX8.out, by rw [← HSZ.out]; exact HJ8.out.k.c2, by rw [← HMN.out]; exact HJ8.out.k.c3⟩
        have HH8 := Lib.hid hHeld
        refine wpAnyH_take (i := 14) (v := ?v14) (by simp only [List.getElem?_toArray, List.getElem?_cons_succ, List.getElem?_cons_zero]; rfl) (by kernel_rfl) (by kernel_rfl) (by kernel_rfl) (fun _ _ _ h => h) (Or.inl ⟨by rfl, ?hy14⟩) hHeld ?rest14
        case hy14 =>
          intro wS hSw
          obtain ⟨hS1, hS2, hS3⟩ := hSw
          go_simp
          first | done | with_reducible rfl
        try simp only [Act.put, List.setIfInBounds_toArray, List.set_cons_zero, List.set_cons_succ]
        refine wpAnyH_take (i := 15) (v := ?v15) (by simp only [List.getElem?_toArray, List.getElem?_cons_succ, List.getElem?_cons_zero]; rfl) (by kernel_rfl) (by kernel_rfl) (by kernel_rfl) (fun _ _ _ h => h) (Or.inl ⟨by rfl, ?hy15⟩) hHeld ?rest15
        case hy15 =>
          intro wS hSw
          obtain ⟨hS1, hS2, hS3⟩ := hSw
          go_simp
          first | done | with_reducible rfl
        try simp only [Act.put, List.setIfInBounds_toArray, List.set_cons_zero, List.set_cons_succ]
        refine wpAnyH_take (i := 16) (v := ?v16) (by simp only [List.getElem?_toArray, List.getElem?_cons_succ, List.getElem?_cons_zero]; rfl) (by kernel_rfl) (by kernel_rfl) (by kernel_rfl) (fun _ _ _ h => h) (Or.inl ⟨by rfl, ?hy16⟩) hHeld ?rest16
        case hy16 =>
          intro wS hSw
          obtain ⟨hS1, hS2, hS3⟩ := hSw
          go_simp
          first | done | with_reducible rfl
        try simp only [Act.put, List.setIfInBounds_toArray, List.set_cons_zero, List.set_cons_succ]
        refine wpAnyH_take (i := 17) (v := ?v17) (by simp only [List.getElem?_toArray, List.getElem?_cons_succ, List.getElem?_cons_zero]; rfl) (by kernel_rfl) (by kernel_rfl) (by kernel_rfl) (fun _ _ _ h => h) (Or.inl ⟨by rfl, ?hy17⟩) hHeld ?rest17
        case hy17 =>
          intro wS hSw
          obtain ⟨hS1, hS2, hS3⟩ := hSw
          go_simp
          first | done | with_reducible rfl
        try simp only [Act.put, List.setIfInBounds_toArray, List.set_cons_zero, List.set_cons_succ]
        refine wpAnyH_take (i := 19) (v := ?v19) (by simp only [List.getElem?_toArray, List.getElem?_cons_succ, List.getElem?_cons_zero]; rfl) (by kernel_rfl) (by kernel_rfl) (by kernel_rfl) (fun _ _ _ h => h) (Or.inl ⟨by rfl, ?hy19⟩) hHeld ?rest19
        case hy19 =>
          intro wS hSw
          obtain ⟨hS1, hS2, hS3⟩ := hSw
          go_simp
          first | done | with_reducible rfl
        try simp only [Act.put, List.setIfInBounds_toArray, List.set_cons_zero, List.set_cons_succ]
        refine wpAnyH_take (i := 20) (v := ?v20) (by simp only [List.getElem?_toArray, List.getElem?_cons_succ, List.getElem?_cons_zero]; rfl) (by kernel_rfl) (by kernel_rfl) (by kernel_rfl) (fun _ _ _ h => h) (Or.inl ⟨by rfl, ?hy20⟩) hHeld ?rest20
        case hy20 =>
          intro wS hSw
          obtain ⟨hS1, hS2, hS3⟩ := hSw
          go_simp
          first | done | with_reducible rfl
        try simp only [Act.put, List.setIfInBounds_toArray, List.set_cons_zero, List.set_cons_succ]
        refine wpAnyH_take (i := 21) (v := ?v21) (by simp only [List.getElem?_toArray, List.getElem?_cons_succ, List.getElem?_cons_zero]; rfl) (by kernel_rfl) (by kernel_rfl) (by kernel_rfl) (fun _ _ _ h => h) (Or.inl ⟨by rfl, ?hy21⟩) hHeld ?rest21
        case hy21 =>
          intro wS hSw
          obtain ⟨hS1, hS2, hS3⟩ := hSw
          go_simp
          first | done | with_reducible rfl
        try simp only [Act.put, List.setIfInBounds_toArray, List.set_cons_zero, List.set_cons_succ]
        refine wpAnyH_take (i := 22) (v := ?v22) (by simp only [List.getElem?_toArray, List.getElem?_cons_succ, List.getElem?_cons_zero]; rfl) (by kernel_rfl) (by kernel_rfl) (by kernel_rfl) (fun _ _ _ h => h) (Or.inl ⟨by rfl, ?hy22⟩) hHeld ?rest22
        case hy22 =>
          intro wS hSw
          obtain ⟨hS1, hS2, hS3⟩ := hSw
          go_simp
          first | done | with_reducible rfl
        try simp only [Act.put, List.setIfInBounds_toArray, List.set_cons_zero, List.set_cons_succ]
        clear hHeld
        refine wpAnyH_ready (rs := [18]) (by kernel_rfl) (by simp) ?_
        refine AllReadyH.cons (by simp only [List.getElem?_toArray, List.getElem?_cons_succ, List.getElem?_cons_zero]; rfl) (fun K hK => ?_) AllReadyH.nil
        go_simp
        go_at_call 19; (with_reducible refine (j_size HJ8.out HSZ.out).mono ?_); rintro x wS ⟨rfl, rfl⟩
        refine hK.out _ _ HH8.out (fun hHeld => ?_)
        clear hK K
        try simp only [Act.put, List.setIfInBounds_toArray, List.set_cons_zero, List.set_cons_succ]
        refine wpAnyH_take (i := 23) (v := ?v23) (by simp only [List.getElem?_toArray, List.getElem?_cons_succ, List.getElem?_cons_zero]; rfl) (by kernel_rfl) (by kernel_rfl) (by kernel_rfl) (fun _ _ _ h => h) (Or.inl ⟨by rfl, ?hy23⟩) hHeld ?rest23
        case hy23 =>
          intro wS hSw
          obtain ⟨hS1, hS2, hS3⟩ := hSw
          go_simp
          first | done | with_reducible rfl
        try simp only [Act.put, List.setIfInBounds_toArray, List.set_cons_zero, List.set_cons_succ]
        refine wpAnyH_take (i := 24) (v := ?v24) (by simp only [List.getElem?_toArray, List.getElem?_cons_succ, List.getElem?_cons_zero]; rfl) (by kernel_rfl) (by kernel_rfl) (by kernel_rfl) (fun _ _ _ h => h) (Or.inl ⟨by rfl, ?hy24⟩) hHeld ?rest24
        case hy24 =>
          intro wS hSw
          obtain ⟨hS1, hS2, hS3⟩ := hSw
          go_simp
          first | done | with_reducible rfl
        try simp only [Act.put, List.setIfInBounds_toArray, List.set_cons_zero, List.set_cons_succ]
        refine wpAnyH_take (i := 25) (v := ?v25) (by simp only [List.getElem?_toArray, List.getElem?_cons_succ, List.getElem?_cons_zero]; rfl) (by kernel_rfl) (by kernel_rfl) (by kernel_rfl) (fun _ _ _ h => h) (Or.inl ⟨by rfl, ?hy25⟩) hHeld ?rest25
        case hy25 =>
          intro wS hSw
          obtain ⟨hS1, hS2, hS3⟩ := hSw
          go_simp
          first | done | with_reducible rfl
        try simp only [Act.put, List.setIfInBounds_toArray, List.set_cons_zero, List.set_cons_succ]
        refine wpAnyH_take (i := 26) (v := ?v26) (by simp only [List.getElem?_toArray, List.getElem?_cons_succ, List.getElem?_cons_zero]; rfl) (by kernel_rfl) (by kernel_rfl) (by kernel_rfl) (fun _ _ _ h => h) (Or.inl ⟨by rfl, ?hy26⟩) hHeld ?rest26
        case hy26 =>
          intro wS hSw
          obtain ⟨hS1, hS2, hS3⟩ := hSw
          go_simp
          first | done | with_reducible rfl
        try simp only [Act.put, List.setIfInBounds_toArray, List.set_cons_zero, List.set_cons_succ]
        refine wpAnyH_take (i := 28) (v := ?v28) (by simp only [List.getElem?_toArray, List.getElem?_cons_succ, List.getElem?_cons_zero]; rfl) (by kernel_rfl) (by kernel_rfl) (by kernel_rfl) (fun _ _ _ h => h) (Or.inl ⟨by rfl, ?hy28⟩) hHeld ?rest28
        case hy28 =>
          intro wS hSw
          obtain ⟨hS1, hS2, hS3⟩ := hSw
          go_simp
          first | done | with_reducible rfl
        try simp only [Act.put, List.setIfInBounds_toArray, List.set_cons_zero, List.set_cons_succ]
        refine wpAnyH_take (i := 29) (v := ?v29) (by simp only [List.getElem?_toArray, List.getElem?_cons_succ, List.getElem?_cons_zero]; rfl) (by kernel_rfl) (by kernel_rfl) (by kernel_rfl) (fun _ _ _ h => h) (Or.inl ⟨by rfl, ?hy29⟩) hHeld ?rest29
        case hy29 =>
          intro wS hSw
          obtain ⟨hS1, hS2, hS3⟩ := hSw
          go_simp
          first | done | with_reducible rfl
        try simp only [Act.put, List.setIfInBounds_toArray, List.set_cons_zero, List.set_cons_succ]
        refine wpAnyH_take (i := 30) (v := ?v30) (by simp only [List.getElem?_toArray, List.getElem?_cons_succ, List.getElem?_cons_zero]; rfl) (by kernel_rfl) (by kernel_rfl) (by kernel_rfl) (fun _ _ _ h => h) (Or.inl ⟨by rfl, ?hy30⟩) hHeld ?rest30
        case hy30 =>
          intro wS hSw
          obtain ⟨hS1, hS2, hS3⟩ := hSw
          go_simp
          first | done | with_reducible rfl
        try simp only [Act.put, List.setIfInBounds_toArray, List.set_cons_zero, List.set_cons_succ]
        refine wpAnyH_take (i := 31) (v := ?v31) (by simp only [List.getElem?_toArray, List.getElem?_cons_succ, List.getElem?_cons_zero]; rfl) (by kernel_rfl) (by kernel_rfl) (by kernel_rfl) (fun _ _ _ h => h) (Or.inl ⟨by rfl, ?hy31⟩) hHeld ?rest31
        case hy31 =>
          intro wS hSw
          obtain ⟨hS1, hS2, hS3⟩ := hSw
          go_simp
          first | done | with_reducible rfl
        try simp only [Act.put, List.setIfInBounds_toArray, List.set_cons_zero, List.set_cons_succ]
        clear hHeld
        refine wpAnyH_ready (rs := [27]) (by kernel_rfl) (by simp) ?_
        refine AllReadyH.cons (by simp only [List.getElem?_toArray, List.getElem?_cons_succ, List.getElem?_cons_zero]; rfl) (fun K hK => ?_) AllReadyH.nil
        go_simp
        go_at_call 20; (with_reducible refine (j_entries HJ8.out HMN.out).mono ?_); rintro x wS ⟨rfl, rfl⟩
        refine hK.out _ _ HH8.out (fun hHeld => ?_)
        clear hK K
        try simp only [Act.put, List.setIfInBounds_toArray, List.set_cons_zero, List.set_cons_succ]
        refine wpAnyH_take (i := 32) (v := ?v32) (by simp only [List.getElem?_toArray, List.getElem?_cons_succ, List.getElem?_cons_zero]; rfl) (by kernel_rfl) (by kernel_rfl) (by kernel_rfl) (fun _ _ _ h => h) (Or.inl ⟨by rfl, ?hy32⟩) hHeld ?rest32
        case hy32 =>
          intro wS hSw
          obtain ⟨hS1, hS2, hS3⟩ := hSw
          go_simp
          first | done | with_reducible rfl
        try simp only [Act.put, List.setIfInBounds_toArray, List.set_cons_zero, List.set_cons_succ]
        refine wpAnyH_take (i := 33) (v := ?v33) (by simp only [List.getElem?_toArray, List.getElem?_cons_succ, List.getElem?_cons_zero]; rfl) (by kernel_rfl) (by kernel_rfl) (by kernel_rfl) (fun _ _ _ h => h) (Or.inl ⟨by rfl, ?hy33⟩) hHeld ?rest33
        case hy33 =>
          intro wS hSw
          obtain ⟨hS1, hS2, hS3⟩ := hSw
          go_simp
          first | done | with_reducible rfl
        try simp only [Act.put, List.setIfInBounds_toArray, List.set_cons_zero, List.set_cons_succ]
        refine wpAnyH_take (i := 34) (v := ?v34) (by simp only [List.getElem?_toArray, List.getElem?_cons_succ, List.getElem?_cons_zero]; rfl) (by kernel_rfl) (by kernel_rfl) (by kernel_rfl) (fun _ _ _ h => h) (Or.inl ⟨by rfl, ?hy34⟩) hHeld ?rest34
        case hy34 =>
          intro wS hSw
          obtain ⟨hS1, hS2, hS3⟩ := hSw
          go_simp
          first | done | with_reducible rfl
        try simp only [Act.put, List.setIfInBounds_toArray, List.set_cons_zero, List.set_cons_succ]
        refine wpAnyH_take (i := 35) (v := ?v35) (by simp only [List.getElem?_toArray, List.getElem?_cons_succ, List.getElem?_cons_zero]; rfl) (by kernel_rfl) (by kernel_rfl) (by kernel_rfl) (fun _ _ _ h => h) (Or.inl ⟨by rfl, ?hy35⟩) hHeld ?rest35
        case hy35 =>
          intro wS hSw
          obtain ⟨hS1, hS2, hS3⟩ := hSw
          go_simp
          first | done | with_reducible rfl
        try simp only [Act.put, List.setIfInBounds_toArray, List.set_cons_zero, List.set_cons_succ]
        refine wpAnyH_take (i := 36) (v := ?v36) (by simp only [List.getElem?_toArray, List.getElem?_cons_succ, List.getElem?_cons_zero]; rfl) (by kernel_rfl) (by kernel_rfl) (by kernel_rfl) (fun _ _ _ h => h) (Or.inl ⟨by rfl, ?hy36⟩) hHeld ?rest36
        case hy36 =>
          intro wS hSw
          obtain ⟨hS1, hS2, hS3⟩ := hSw
          go_simp
          first | done | with_reducible rfl
        try simp only [Act.put, List.setIfInBounds_toArray, List.set_cons_zero, List.set_cons_succ]
        clear hHeld
        refine wpAnyH_ready (rs := [37]) (by kernel_rfl) (by simp) ?_
        refine AllReadyH.cons (by simp only [List.getElem?_toArray, List.getElem?_cons_succ, List.getElem?_cons_zero]; rfl) (fun K hK => ?_) AllReadyH.nil
        go_simp
        go_at_call 14; (with_reducible refine (J2.same HJ8.out).mono ?_); rintro x wT ⟨rfl, hJ, hF⟩; have HXT := Lib.hid (olds HX8.out hF (fun _ h => .inl h)); have HHT := Lib.hid (show Ext w wT ∧ wT.cell? ⟨jr, 2, none⟩ = some (.int .i64 sz) ∧ wT.cell? ⟨jr, 3, none⟩ = some (.int .i64 mn) from ⟨HXT.out, by rw [← HSZ.out]; exact hJ.k.c2, by rw [← HMN.out]; exact hJ.k.c3⟩); have HLT := Lib.hid hJ.k.lt; clear hJ hF
        refine hK.out _ _ HHT.out (fun hHeld => ?_)
        clear hK K
        try simp only [Act.put, List.setIfInBounds_toArray, List.set_cons_zero, List.set_cons_succ]
        refine wpAnyH_take (i := 38) (v := ?v38) (by simp only [List.getElem?_toArray, List.getElem?_cons_succ, List.getElem?_cons_zero]; rfl) (by kernel_rfl) (by kernel_rfl) (by kernel_rfl) (fun _ _ _ h => h) (Or.inl ⟨by rfl, ?hy38⟩) hHeld ?rest38
        case hy38 =>
          intro wS hSw
          obtain ⟨hS1, hS2, hS3⟩ := hSw
          go_simp
          first | done | with_reducible rfl
        try simp only [Act.put, List.setIfInBounds_toArray, List.set_cons_zero, List.set_cons_succ]
        refine wpAnyH_take (i := 39) (v := ?v39) (by simp only [List.getElem?_toArray, List.getElem?_cons_succ, List.getElem?_cons_zero]; rfl) (by kernel_rfl) (by kernel_rfl) (by kernel_rfl) (fun _ _ _ h => h) (Or.inl ⟨by rfl, ?hy39⟩) hHeld ?rest39
        case hy39 =>
          intro wS hSw
          obtain ⟨hS1, hS2, hS3⟩ := hSw
          go_simp
          first | done | with_reducible rfl
        try simp only [Act.put, List.setIfInBounds_toArray, List.set_cons_zero, List.set_cons_succ]
        clear hHeld
        refine wpAnyH_ready (rs := [40]) (by kernel_rfl) (by simp) ?_
        refine AllReadyH.cons (by simp only [List.getElem?_toArray, List.getElem?_cons_succ, List.getElem?_cons_zero]; rfl) (fun K hK => ?_) AllReadyH.nil
        go_simp
        go_at_call 4; (with_reducible refine (kept_any _).mono ?_); rintro e w9 ⟨rfl, hx9⟩; have HH9 := Lib.hid (show Ext w w9 ∧ w9.cell? ⟨jr, 2, none⟩ = some (.int .i64 sz) ∧ w9.cell? ⟨jr, 3, none⟩ = some (.int .i64 mn) from ⟨HXT.out.trans hx9, (hx9.cell (p := ⟨jr, 2, none⟩) HLT.out).trans HHT.out.2.1, (hx9.cell (p := ⟨jr, 3, none⟩) HLT.out).trans HHT.out.2.2⟩); clear hx9
        refine hK.out _ _ HH9.out (fun hHeld => ?_)
        clear hK K
        try simp only [Act.put, List.setIfInBounds_toArray, List.set_cons_zero, List.set_cons_succ]
        refine wpAnyH_take (i := 41) (v := ?v41) (by simp only [List.getElem?_toArray, List.getElem?_cons_succ, List.getElem?_cons_zero]; rfl) (by kernel_rfl) (by kernel_rfl) (by kernel_rfl) (fun _ _ _ h => h) (Or.inl ⟨by rfl, ?hy41⟩) hHeld ?rest41
        case hy41 =>
          intro wS hSw
          obtain ⟨hS1, hS2, hS3⟩ := hSw
          go_simp
          first | done | with_reducible rfl
        try simp only [Act.put, List.setIfInBounds_toArray, List.set_cons_zero, List.set_cons_succ]
        refine wpAnyH_ready (rs := [42]) (by kernel_rfl) (by simp) ?_
        refine AllReadyH.cons (by simp only [List.getElem?_toArray, List.getElem?_cons_succ, List.getElem?_cons_zero]; rfl) (fun K hK => ?_) AllReadyH.nil
        go_simp
        skip
        refine hK.out _ _ HH9.out (fun hHeld => ?_)
        clear hK K
        try simp only [Act.put, List.setIfInBounds_toArray, List.set_cons_zero, List.set_cons_succ]
        refine wpAnyH_done (by kernel_rfl) ?_ _
        refine NoPanic.normal ?_
        go_wp2
        go_ret
        exact ⟨rfl, HH9.out.1⟩
      · have HOP := Lib.hid hop
        clear hok hop
        go_wp2_with (first
          | (go_at_call 11; (with_reducible refine (D2.noL HD.out HOP.out).mono ?_); rintro x w1 ⟨rfl, hJ, hF⟩; have HX1 := Lib.hid (olds HX.out hF (fun _ h => h)); have HD1 := Lib.hid hJ; clear hJ hF)
          | (go_at_call 12; (with_reducible refine (D2.noR HD1.out HUP.out HOP.out).mono ?_); rintro x w2 ⟨rfl, hJ, hF⟩; have HX2 := Lib.hid (olds HX1.out hF (fun _ h => h)); have HD2 := Lib.hid hJ; clear hJ hF)
          | (go_at_call 13; (with_reducible refine (texts_same (ro_none _) (ro_none _) (by simp)).mono ?_); rintro x w3 ⟨rfl, hx3⟩; have HX3 := Lib.hid (HX2.out.trans hx3); have HD3 := Lib.hid (HD2.out.ext hx3); clear hx3)
          | (go_at_call 14; (with_reducible refine (D2.same HD3.out).mono ?_); rintro x w4 ⟨rfl, hJ, hF⟩; have HX4 := Lib.hid (olds HX3.out hF (fun _ h => h)); clear hJ hF)
          | (go_at_call 4; (with_reducible refine (kept_any _).mono ?_); rintro e w9 ⟨rfl, hx9⟩; have HX9 := Lib.hid hx9; clear hx9))
        go_ret
        exact ⟨rfl, HX4.out.trans HX9.out⟩
theorem journalOpens_walk (w : World) (v : Value) (l : List Jf) (hA : Files w v l) (a1 : ByteArray) (_ : a1.size ≤ maxLen) (a2 : ByteArray) (_ : a2.size ≤ maxLen) : Calls Tryz.prog 3 #[v, .string a1, .string a2] w fun e w' => e = .returned (.bool true) ∧ Ext w w' := by
  rw [← ofL_data a1, ← ofL_data a2]
  exact journalOpens_any w v l hA _ _
end Go.Proofs.YtajclcbclbppiaaGreat
