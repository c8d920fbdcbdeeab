/-
  The walk of JournalSure.
-/
import Derived.Test.YtajclcbclbppiaaJsIn
import Derived.Deep.DeepCutAuto
import Derived.Deep.CutBlock
namespace Go.Proofs.Ytajclcbclbppiaa
open Go.RowKit Go.Maps Go.Dk Go.Rc Go.Jn Go.Shelf
open Classical in
set_option maxHeartbeats 8000000 in
set_option maxRecDepth 100000 in
theorem journalSure_any (w : World) (v : Value) (l : List Ja) (hA : Acts w v l) : Calls Try.prog 3 #[v] w fun e w' => e = .returned (.bool true) ∧ Ext w w' := by
  obtain ⟨ao, n, cap, hv, hn⟩ : ∃ ao n cap, v = .slice ao n cap ∧ l.length = n := by
    rcases hA.2.2 with ⟨ao, cap, rfl, rfl⟩ | ⟨g, o, cap, rfl, _⟩
    · exact ⟨_, _, _, rfl, rfl⟩
    · exact ⟨_, _, _, rfl, rfl⟩
  subst hv
  have HG := Lib.hid (great_any hA hn 60 60 rfl)
  by_cases hgr : Gr l 60
  · rw [show decide (Gr l 60) = true from decide_eq_true hgr] at HG
    clear hgr hA
    go_enter Try.func3, Try.ntmps3
    go_wp2_with (first | (go_at_call 6; (with_reducible refine HG.out.mono ?_); rintro e w1 ⟨rfl, hx⟩) | (go_at_call 7; (with_reducible refine (kept_any _).mono ?_); rintro e w9 ⟨rfl, hx9⟩))
    go_ret
    exact ⟨rfl, hx.trans hx9⟩
  · rw [show decide (Gr l 60) = false from decide_eq_false hgr] at HG
    have hn60 : n ≤ 60 := by
      rcases Nat.lt_or_ge 60 n with h | h
      · exact absurd (.inr (by omega)) hgr
      · exact h
    have Hsz := Lib.hid (fun a (ha : a ∈ l) => (show a.s.length ≤ 3000 ∧ a.ks.length ≤ 20 from by
      refine ⟨?_, ?_⟩
      · rcases Nat.lt_or_ge 3000 a.s.length with h | h
        · exact absurd (.inl ⟨a, ha, .inl h⟩) hgr
        · exact h
      · rcases Nat.lt_or_ge 20 a.ks.length with h | h
        · exact absurd (.inl ⟨a, ha, .inr h⟩) hgr
        · exact h))
    have HA := Lib.hid hA
    have ND := Lib.hid (fun v => k_new v (Old v) (Old.under v) (c := 300000) ⟨by decide, by decide⟩)
    obtain ⟨S1, J1, o1, l1, n1, c1, f1, _⟩ := open_fresh (cap := 300000) (by decide)
    have O1 := Lib.hid o1
    have L1 := Lib.hid l1
    clear hgr hA o1 l1
    go_enter Try.func3, Try.ntmps3
    go_wp2_with (first
      | (go_at_call 6; (with_reducible refine HG.out.mono ?_); rintro e wg ⟨rfl, hx⟩; have Hxg := Lib.hid hx; clear hx)
      | (go_at_call 8; (with_reducible refine (ND.out _).mono ?_); rintro x w0 ⟨p, rfl, hD, _⟩; have HD := Lib.hid hD; clear hD)
      | (go_at_call 9; (with_reducible refine (open_good HD.out rfl O1.out).mono ?_); rintro x w1 ⟨q1, ao1, n1', cap1, rfl, hnc, hro, hJp, hFr, hq⟩; have HJ := Lib.hid (hJp.out_row hFr (Old.under wg)); clear hnc hro hJp hFr hq))
    have HU0 := Lib.hid (up_start (t := 34) HJ.out L1.out c1 n1)
    obtain ⟨b, hb⟩ : ∃ b, w1.heap.size = b := ⟨_, rfl⟩
    rw [hb] at HU0 ⊢
    clear HD O1 L1 HG ND c1 n1 f1 HJ hb
    go_loopw [5, 10] (fun jv i wr => ∃ (k : Nat) (q : Nat) (so : Option Addr) (sn sc : Nat) (S : St) (J : Jo) (ps : List (List UInt8)), k ≤ n ∧ i = .int .i64 k ∧ jv = .pointer (some ⟨q, 0, none⟩) ∧ Up wg p b wr q so sn sc S J ps k) (fun _ i _ => n - (intOf i).toNat)
    case atStart => exact ⟨0, q1, none, 0, 0, S1, J1, [[]], by omega, rfl, rfl, HU0.out⟩
    case round =>
      clear HU0
      obtain ⟨k, q, so, sn, sc, S, J, ps, hk, rfl, rfl, hU⟩ := hrel
      have HU := Lib.hid hU
      by_cases hlt : k < n
      · obtain ⟨g, o, rfl, _, hc⟩ := HA.out.at hn k (by omega)
        have hkl : k < l.length := by omega
        obtain ⟨x, hx⟩ : ∃ x, l[k] = x := ⟨_, rfl⟩
        have hxok := HA.out.1 x (hx ▸ List.getElem_mem hkl)
        have hxsz := Hsz.out x (hx ▸ List.getElem_mem hkl)
        have hE := Hxg.out.trans hU.ext
        have a0 := hc wr hE 0 (by omega)
        have a1 := hc wr hE 1 (by omega)
        have a2 := hc wr hE 2 (by omega)
        have a3 := hc wr hE 3 (by omega)
        have a4 := hc wr hE 4 (by omega)
        rw [hx] at a0 a1 a2 a3 a4
        obtain ⟨kind, xs, xn, xz, ko, kc, ks⟩ := x
        simp only [Jc] at a0 a1 a2 a3 a4
        simp at a0 a1 a2 a3 a4
        obtain ⟨h0, t0, rfl⟩ : ∃ h0 t0, ps = h0 :: t0 := List.exists_cons_of_ne_nil hU.live.ne
        have b0 : wr.cell? ⟨b, 0, none⟩ = some (.string (ofL h0)) := hU.box.c0
        have b1 := hU.box.c1
        have hbl := hU.box.lt
        have HB := Lib.hid (beg_of (kind := kind) (xs := xs) (xn := xn) (xz := xz) (ko := ko) (kl := ks.length) (kc := kc) (t := 37) (u := 34) HU.out)
        have HX := Lib.hid hxok
        have HS := Lib.hid hxsz
        clear hc hx hU hxok hxsz hE
        go_upto_block 2 with (fail)
        obtain ⟨V, hV⟩ : ∃ V, (wr.alloc (.cells #[.int .u8 kind, .string (ofL xs), .int .i64 xn, .int .i64 xz, .slice ko ks.length kc] 37)).alloc (.cells #[.string (ofL h0), .slice so sn sc] 34) = V := ⟨_, rfl⟩
        rw [hV] at HB ⊢
        go_cut [13] from 58 to 97 (fun gv wx => After wg p b q wr.heap.size (wr.heap.size + 1) (k + 1) xn ko ks.length kc gv wx)
        case first =>
          have hl := HB.out.live
          have hcap := HB.out.cap
          have hJn := HB.out.n
          have hlen := HB.out.len
          have hne1 := HB.out.ne.1
          have hne2 := HB.out.ne.2
          have hne3 : ¬ b = wr.heap.size + 1 := fun e => hne1 e.symm
          have hsm := live_smalls hl HB.out.jp.ok (by omega)
          have k0 := HB.out.x0
          have k1 := HB.out.x1
          have k2 := HB.out.x2
          have k4 := HB.out.x4
          obtain ⟨el, ec0, ec1, ef0, ef1, _⟩ := HB.out.also
          obtain ⟨dl, dc0, dc1, df0, df1, _⟩ := HB.out.sure
          have hkd := HX.out.kind
          have HKE := Lib.hid (show KeepAt V (fun g => g < w.heap.size) ko ks from HX.out.keep.kept (fun g hg => Below.block (Hxg.out.trans HB.out.ext) g hg))
          have HKS := Lib.hid (HS.out)
          have HLV := Lib.hid hl
          clear hl b0 b1 a0 a1 a2 a3 a4 hV
          have hx16 : xs.length ≤ 16777216 := Nat.le_trans HS.out.1 (by decide)
          have hx65 : xs.length ≤ 65536 := Nat.le_trans HS.out.1 (by decide)
          have hk16 : ks.length ≤ 16777216 := Nat.le_trans HS.out.2 (by decide)
          have hpl : (h0 :: t0).length = t0.length + 1 := rfl
          have hsn : sn ≤ 16000000 := by have := HB.out.sure.ro.1; simp only [List.tail_cons] at this; omega
          have hwV : w.heap.size ≤ wg.heap.size := Hxg.out.size
          have hgV : wg.heap.size ≤ V.heap.size := HB.out.ext.size
          cases k5 : (kind.tmod 14 == 5)
          case true =>
            rcases compact_live (N := (k : Int) + 1) (x := xs) HLV.out (by omega) hx65 with ⟨S', J', hr, hl', hn', hc', _⟩ | ⟨hr, _⟩ | ⟨S', J', qs, hr, hq, hd⟩
            · have HC := Lib.hid (compact_j HB.out.jp hsm hx16 hr)
              have HL := Lib.hid hl'
              clear hr hl'
              go_wp2_with (go_at_call 10; (with_reducible refine HC.out.mono ?_); rintro x w3 ⟨rfl, hJ⟩; have ⟨⟨_, e0, e1, _, _, _⟩, ⟨al, ac0, ac1, af0, af1, _⟩, y1, y2, y4, _, _⟩ := HB.out.stays hJ.fr; have HJ := Lib.hid hJ; clear hJ)
              go_meet
              exact .inl ⟨none, 0, 0, S', J', [xs], _, rfl, HB.out.atAlso HJ.out (Ext.refl _) HL.out (by omega) (by omega) (by simp; omega) ⟨rfl, .inl rfl⟩ (fun g hg => by cases hg)⟩
            · have HC := Lib.hid (compact_j HB.out.jp hsm hx16 hr)
              clear hr
              go_wp2_with (go_at_call 10; (with_reducible refine HC.out.mono ?_); rintro x w3 ⟨rfl, hJ⟩; have ⟨⟨_, e0, e1, _, _, _⟩, ⟨al, ac0, ac1, af0, af1, _⟩, y1, y2, y4, _, _⟩ := HB.out.stays hJ.fr; have HJ := Lib.hid hJ; clear hJ)
              go_meet
              exact .inr (.inl ⟨so, sn, sc, S, J, h0 :: t0, rfl, HB.out.upFull HJ.out (Ext.refl _) HLV.out hcap hJn xs none 0 0⟩)
            · have HC := Lib.hid (compact_j HB.out.jp hsm hx16 hr)
              have HD := Lib.hid hd
              have HQ := Lib.hid hq
              clear hr hd hq
              go_wp2_with (go_at_call 10; (with_reducible refine HC.out.mono ?_); rintro x w3 ⟨rfl, hJ⟩; have ⟨⟨_, e0, e1, _, _, _⟩, ⟨al, ac0, ac1, af0, af1, _⟩, y1, y2, y4, _, _⟩ := HB.out.stays hJ.fr; have HJ := Lib.hid hJ; clear hJ)
              go_meet
              exact .inr (.inr (.inr ⟨so, sn, sc, none, 0, 0, S', h0 :: t0, [xs], qs, _, rfl, HB.out.downAlso HJ.out.disk0 (Ext.refl _) (hcap ▸ HD.out.weak) HQ.out (by simp) ⟨by simp, by simp; omega⟩ ⟨rfl, .inl rfl⟩ (fun g hg => by cases hg)⟩))
          case false =>
          cases k6 : (kind.tmod 14 == 6)
          case true =>
            obtain ⟨hr, hd⟩ := Live.crash (N := (k : Int) + 1) HLV.out (by omega) ks
            have HC := Lib.hid (k_crash_in (kc := kc) HB.out.jp.disk0 rfl hk16 HKE.out (fun g hg => .inl (.inl (Nat.lt_of_lt_of_le hg hwV))) hr)
            have HD := Lib.hid hd
            clear hr hd
            go_wp2_with (go_at_call 11; (with_reducible refine HC.out.mono ?_); rintro x w3 ⟨rfl, hDp⟩; have HDp := Lib.hid hDp; clear hDp)
            go_meet
            exact .inr (.inr (.inl ⟨so, sn, sc, so, sn, sc, S.crash ks, h0 :: t0, h0 :: t0, h0 :: t0, _, rfl, rfl, fun g hg => (HB.out.row g hg).1, HB.out.downSame HDp.out (hcap ▸ HD.out) (by simp)⟩))
          case false =>
          cases k9 : (kind.tmod 14 == 9)
          case true =>
            have h15 : 0 ≤ bits .and .i64 xn 15 ∧ bits .and .i64 xn 15 ≤ 15 := and_low xn 15 (by decide)
            obtain ⟨hr, hl'⟩ := Live.fail HLV.out h15.1 ks
            have HC := Lib.hid (k_fail (kc := kc) HB.out.jp.d (by omega) rfl hk16 HKE.out (fun g hg => Nat.lt_of_lt_of_le (Nat.lt_of_lt_of_le hg hwV) hgV) hr)
            have HL := Lib.hid hl'
            clear hr hl' h15
            go_wp2_with (go_at_call 12; (with_reducible refine HC.out.mono ?_); rintro x w3 ⟨rfl, hDp⟩; have HDp := Lib.hid hDp; clear hDp)
            go_meet
            exact .inl ⟨so, sn, sc, _, J, _, _, rfl, HB.out.atSame (HB.out.jp.disk HDp.out) HL.out hcap hJn⟩
          case false =>
          by_cases ka : (kind.tmod 14 == 0) = true ∨ (kind.tmod 14 == 1) = true ∨ (kind.tmod 14 == 2) = true ∨ (kind.tmod 14 == 3) = true ∨ (kind.tmod 14 == 4) = true
          · have HR0 := Lib.hid (fun (w3 w4 : World) (hJ : Fr (fun k => ¬ O2 wg b so wr k) V w3) (bo : Option Addr) (hro : Ro w4 bo (sn + 1) (t0 ++ [xs])) (hnew : ∀ g, ob bo = some g → w3.heap.size ≤ g) => (show Rowed wg b so wr w3 w4 bo from fun g hg => by
              have h1 := hnew g hg
              have h2 := hJ.size
              have h3 := HB.out.lt
              refine ⟨⟨by omega, by omega, by omega⟩, ?_, .inr h1⟩
              rcases hro.2 with h | ⟨g', o', rfl, hg', _⟩
              · omega
              · obtain rfl : g' = g := by simpa [ob] using hg
                exact hg'))
            rcases append_live (N := (k : Int) + 1) (x := xs) HLV.out (by omega) hx65 with ⟨S', J', hr, hl', hn', hc', _⟩ | ⟨hr, _⟩ | ⟨S', J', qs, hr, hq, hd⟩
            · have HC := Lib.hid (append_j HB.out.jp hsm hx16 hr)
              have HL := Lib.hid hl'
              clear hr hl'
              rcases ka with ka | ka | ka | ka | ka
              all_goals
                go_wp2_with (first | (go_at_call 13; (with_reducible refine HC.out.mono ?_); rintro x w3 ⟨rfl, hJ⟩; have ⟨⟨_, e0, e1, _, _, _⟩, ⟨al, ac0, ac1, af0, af1, _⟩, y1, y2, y4, _, _⟩ := HB.out.stays hJ.fr; have HJ := Lib.hid hJ; clear hJ) | (go_at_call 14; (with_reducible refine (with_is (HB.out.stays HJ.out.fr).sure.ro hsn).mono ?_); rintro x w4 ⟨bo, cb, rfl, hro, hx4, hnew⟩; have ⟨_, ⟨al4, bc0, bc1, bf0, bf1, _⟩, z1, z2, z4, _, _⟩ := (HB.out.stays HJ.out.fr).ext' hx4; have HR4 := Lib.hid hro; have HX4 := Lib.hid hx4; have HN4 := Lib.hid hnew; clear hro hx4 hnew))
                go_meet
                exact .inl ⟨bo, sn + 1, cb, S', J', (h0 :: t0) ++ [xs], _, rfl, HB.out.atAlso HJ.out HX4.out HL.out (by omega) (by omega) (by simp; omega) HR4.out (HR0.out _ _ HJ.out.fr _ HR4.out HN4.out)⟩
            · have HC := Lib.hid (append_j HB.out.jp hsm hx16 hr)
              clear hr
              rcases ka with ka | ka | ka | ka | ka
              all_goals
                go_wp2_with (first | (go_at_call 13; (with_reducible refine HC.out.mono ?_); rintro x w3 ⟨rfl, hJ⟩; have ⟨⟨_, e0, e1, _, _, _⟩, ⟨al, ac0, ac1, af0, af1, _⟩, y1, y2, y4, _, _⟩ := HB.out.stays hJ.fr; have HJ := Lib.hid hJ; clear hJ) | (go_at_call 14; (with_reducible refine (with_is (HB.out.stays HJ.out.fr).sure.ro hsn).mono ?_); rintro x w4 ⟨bo, cb, rfl, hro, hx4, hnew⟩; have ⟨_, ⟨al4, bc0, bc1, bf0, bf1, _⟩, z1, z2, z4, _, _⟩ := (HB.out.stays HJ.out.fr).ext' hx4; have HR4 := Lib.hid hro; have HX4 := Lib.hid hx4; have HN4 := Lib.hid hnew; clear hro hx4 hnew))
                go_meet
                exact .inr (.inl ⟨so, sn, sc, S, J, h0 :: t0, rfl, HB.out.upFull HJ.out HX4.out HLV.out hcap hJn h0 bo (sn + 1) cb⟩)
            · have HC := Lib.hid (append_j HB.out.jp hsm hx16 hr)
              have HD := Lib.hid hd
              have HQ := Lib.hid hq
              clear hr hd hq
              rcases ka with ka | ka | ka | ka | ka
              all_goals
                go_wp2_with (first | (go_at_call 13; (with_reducible refine HC.out.mono ?_); rintro x w3 ⟨rfl, hJ⟩; have ⟨⟨_, e0, e1, _, _, _⟩, ⟨al, ac0, ac1, af0, af1, _⟩, y1, y2, y4, _, _⟩ := HB.out.stays hJ.fr; have HJ := Lib.hid hJ; clear hJ) | (go_at_call 14; (with_reducible refine (with_is (HB.out.stays HJ.out.fr).sure.ro hsn).mono ?_); rintro x w4 ⟨bo, cb, rfl, hro, hx4, hnew⟩; have ⟨_, ⟨al4, bc0, bc1, bf0, bf1, _⟩, z1, z2, z4, _, _⟩ := (HB.out.stays HJ.out.fr).ext' hx4; have HR4 := Lib.hid hro; have HX4 := Lib.hid hx4; have HN4 := Lib.hid hnew; clear hro hx4 hnew))
                go_meet
                exact .inr (.inr (.inr ⟨so, sn, sc, bo, sn + 1, cb, S', h0 :: t0, (h0 :: t0) ++ [xs], qs, _, rfl, HB.out.downAlso HJ.out.disk0 HX4.out (hcap ▸ HD.out.weak) HQ.out (by simp) ⟨by simp, by simp; omega⟩ HR4.out (HR0.out _ _ HJ.out.fr _ HR4.out HN4.out)⟩))
          have ka0 : (kind.tmod 14 == 0) = false := Bool.eq_false_iff.2 fun e => ka (.inl e)
          have ka1 : (kind.tmod 14 == 1) = false := Bool.eq_false_iff.2 fun e => ka (.inr (.inl e))
          have ka2 : (kind.tmod 14 == 2) = false := Bool.eq_false_iff.2 fun e => ka (.inr (.inr (.inl e)))
          have ka3 : (kind.tmod 14 == 3) = false := Bool.eq_false_iff.2 fun e => ka (.inr (.inr (.inr (.inl e))))
          have ka4 : (kind.tmod 14 == 4) = false := Bool.eq_false_iff.2 fun e => ka (.inr (.inr (.inr (.inr e))))
          clear ka
          go_wp2_with fail
          go_meet
          exact .inl ⟨so, sn, sc, S, J, _, _, rfl, HB.out.atSame HB.out.jp HLV.out hcap hJn⟩
        case rest =>
          have HBe := Lib.hid (show wr.heap.size ≠ b from HB.out.ne.2)
          have hxs : ks.length ≤ 16777216 := Nat.le_trans HS.out.2 (by decide)
          have hwg : w.heap.size ≤ wg.heap.size := Hxg.out.size
          clear b0 b1 a0 a1 a2 a3 a4 hV HB hbl hlt
          rcases hcut with ⟨eo, en, ec, S2, J2, qs, O, rfl, hAU⟩ | ⟨eo, en, ec, S2, J2, qs, rfl, hUU⟩ | ⟨so1, sn1, sc1, eo, en, ec, S2, ss, aa, qs, O, rfl, hqa, hrow, hDD, hx2, hx4⟩ | ⟨so1, sn1, sc1, eo, en, ec, S2, ss, aa, qs, O, rfl, hDD, hx2, hx4⟩
          · have e0 := hAU.also.c0
            have e1 := hAU.also.c1
            obtain ⟨so1, sn1, sc1, ps1, hs1⟩ := hAU.sure
            have d0 := hs1.c0
            have d1 := hs1.c1
            have f0 := hs1.f0
            have f1 := hs1.f1
            obtain ⟨hd, hhd⟩ : ∃ hd, qs.headD [] = hd := ⟨_, rfl⟩
            have hst := hAU.store
            unfold wr2 at hst
            rw [hhd] at hst e0
            have HU := Lib.hid hst
            have hm : J2.many = (en : Int) := by
              have h1 := HU.out.live.many
              have h2 := HU.out.box.ro.1
              have h3 := List.length_tail (l := qs)
              have h4 := List.length_pos_iff.2 HU.out.live.ne
              omega
            have UP := Lib.hid (k_up HU.out.jp.disk0 (b := true) (by rw [HU.out.live.up]; rfl))
            have EN := Lib.hid (fun w' (hx : Ext _ w') => jentries_is (HU.out.jp.ext hx) hm)
            have r1 := HU.out.box.c1
            clear hAU hs1 hm hst hhd
            go_wp2_with (go_at_call 15; (with_reducible refine UP.out.mono ?_); rintro x w3 ⟨rfl, rfl⟩)
            go_quiet (first
              | (go_at_call 16; exact Calls.quiet_of_same ((EN.out _ ((Ext.refl _).drewN _)).mono fun _ _ ⟨a, b⟩ => ⟨a, b.symm⟩)))
            all_goals
              go_wp2
              exact ⟨⟨k + 1, q, eo, en, ec, S2, J2, qs, by omega, by go_num, rfl, HU.out.ext' ((Ext.refl _).drewN _)⟩, by simp [intOf]; omega⟩
          · have UP := Lib.hid (k_up hUU.jp.disk0 (b := true) (by rw [hUU.live.up]; rfl))
            have hm : J2.many = (en : Int) := by
              have h1 := hUU.live.many
              have h2 := hUU.box.ro.1
              have h3 := List.length_tail (l := qs)
              have h4 := List.length_pos_iff.2 hUU.live.ne
              omega
            have EN := Lib.hid (fun w' (hx : Ext _ w') => jentries_is (hUU.jp.ext hx) hm)
            have r1 := hUU.box.c1
            have HU := Lib.hid hUU
            clear hUU hm
            go_wp2_with (go_at_call 15; (with_reducible refine UP.out.mono ?_); rintro x w3 ⟨rfl, rfl⟩)
            go_quiet (first
              | (go_at_call 16; exact Calls.quiet_of_same ((EN.out _ ((Ext.refl _).drewN _)).mono fun _ _ ⟨a, b⟩ => ⟨a, b.symm⟩)))
            all_goals
              go_wp2
              exact ⟨⟨k + 1, q, eo, en, ec, S2, J2, qs, by omega, by go_num, rfl, HU.out.ext' ((Ext.refl _).drewN _)⟩, by simp [intOf]; omega⟩
          · have e0 := hDD.also.c0
            have e1 := hDD.also.c1
            have d0 := hDD.sure.c0
            have d1 := hDD.sure.c1
            have f0 := hDD.sure.f0
            have f1 := hDD.sure.f1
            obtain ⟨hd, hhd⟩ : ∃ hd, aa.headD [] = hd := ⟨_, rfl⟩
            have hN0 := hDD.dn_store hqa hrow HBe.out hx2 hx4
            unfold wr2 at hN0
            rw [hhd] at hN0 e0
            have HN := Lib.hid hN0
            have UP0 := Lib.hid (k_up hN0.d (b := false) (by rw [hN0.dead.down]; rfl))
            clear hDD hqa hrow hx2 hx4 hN0 hhd
            go_wp2_with (go_at_call 15; (with_reducible refine UP0.out.mono ?_); rintro x w3 ⟨rfl, rfl⟩)
            go_loopw [5, 14] (fun jv tv wx => (∃ t : Nat, tv = .int .i64 t ∧ t ≤ 3 ∧ ∃ so sn sc ao an ac S ss aa qs O, Dn wg p b (wr.heap.size + 1) wr.heap.size wx so sn sc ao an ac S ss aa qs ((k : Int) + 1) xn ko ks.length kc O) ∨ (∃ (t q' : Nat) (so : Option Addr) (sn sc : Nat) (S : St) (J : Jo) (ps : List (List UInt8)), tv = .int .i64 t ∧ t ≤ 4 ∧ jv = .pointer (some ⟨q', 0, none⟩) ∧ Up wg p b wx q' so sn sc S J ps ((k : Int) + 1))) (fun _ tv _ => 20 - (intOf tv).toNat)
            case atStart => exact .inl ⟨0, rfl, by omega, _, _, _, _, _, _, _, _, _, _, _, HN.out⟩
            case round =>
              clear HN UP0
              rcases hrel with ⟨t, rfl, ht, so2, sn2, sc2, ao2, an2, ac2, S5, s5, a5, q5, O5, hN⟩ | ⟨t, q', so2, sn2, sc2, S5, J5, ps5, rfl, ht, rfl, hU5⟩
              · obtain ⟨S1', m1, hst, hmid, hnf⟩ := hN.dead.start
                have UP0 := Lib.hid (k_up hN.d (b := false) (by rw [hN.dead.down]; rfl))
                have ST := Lib.hid (k_start hN.d hst)
                have HO := Lib.hid hN.hold
                have HW := Lib.hid hN.which
                have ht20 : (t : Int) < 20 := by omega
                obtain ⟨sh, hsh⟩ : ∃ sh, s5.headD [] = sh := ⟨_, rfl⟩
                obtain ⟨ah, hah⟩ : ∃ ah, a5.headD [] = ah := ⟨_, rfl⟩
                obtain ⟨qh, hqh⟩ : ∃ qh, q5.headD [] = qh := ⟨_, rfl⟩
                have HSH := Lib.hid hsh
                have HAH := Lib.hid hah
                have HQH := Lib.hid hqh
                have hneq : q5 ≠ [] := by
                  rcases HW.out with rfl | rfl
                  · exact HO.out.ss1.1
                  · exact HO.out.as1.1
                have hlq : (q5.length : Int) ≤ ((k : Int) + 1) + 1 := by
                  rcases HW.out with rfl | rfl
                  · exact HO.out.ss1.2
                  · exact HO.out.as1.2
                clear hN hst
                by_cases h3 : t < 3
                · have h3' : (t : Int) < 3 := by omega
                  have F0 := fail_num xn t (by omega)
                  obtain ⟨hF0, hF1, hF2⟩ := F0
                  obtain ⟨hfl, hmid2⟩ := hmid.fail hF1 ks
                  have HFL := Lib.hid hfl
                  have HUP := Lib.hid hmid2.up
                  clear hfl hmid hnf hF1
                  rcases Mid.look hmid2 with ⟨J6, S6, hop, hlv, hJn, hcp⟩ | ⟨S6, hop, hdd⟩
                  · rw [hqh] at hop
                    have HOP := Lib.hid hop
                    have HLV := Lib.hid hlv
                    have HCP := Lib.hid hcp
                    have HJN := Lib.hid hJn
                    clear hop hlv hcp hJn hmid2 hsh hah hqh
                    by_cases hqs : q5 = s5
                    · have HV1 := Lib.hid (show decide (qh :: q5.tail = sh :: s5.tail) = true from by rw [← HQH.out, ← HSH.out, cons_same hneq HO.out.ss1.1]; exact decide_eq_true hqs)
                      clear hqs hneq
                      go_wp2_with (first | (go_at_call 15; (with_reducible refine UP0.out.mono ?_); rintro x w3 ⟨rfl, rfl⟩) | (go_at_call 17; (with_reducible refine ST.out.mono ?_); rintro x w3 ⟨rfl, hD⟩; have hh := HO.out.fr hD.fr; have x2 := hh.x2; have x4 := hh.x4; have HD3 := Lib.hid hD; have HK3 := Lib.hid (show KeepAt w3 (fun g => g < w.heap.size) ko ks from HX.out.keep.kept (fun g hg => Below.block (Hxg.out.trans hh.ext) g hg)); have HG3 := Lib.hid (show ∀ g, g < w.heap.size → g < w3.heap.size from fun g hg => Nat.lt_of_lt_of_le hg (Hxg.out.trans hh.ext).size); clear hD hh) | (go_at_call 12; (with_reducible refine (k_fail (kc := kc) HD3.out hF2 rfl hxs HK3.out HG3.out HFL.out).mono ?_); rintro x w4 ⟨rfl, hD⟩; have HD4 := Lib.hid hD; clear hD) | (go_at_call 9; (with_reducible refine (open_new HD4.out HUP.out HOP.out).mono ?_); rintro x w5 ⟨q6, lo, ln, lc, rfl, hnc, hro, hJp, hFr, hq6, hnew⟩; have hh := HO.out.fr hFr; have s0 := hh.sure.c0; have s1 := hh.sure.c1; have sl := hh.sure.lt; have a0 := hh.also.c0; have a1 := hh.also.c1; have al := hh.also.lt; have f0 := hh.sure.f0; have f1 := hh.sure.f1; rw [HSH.out] at s0; rw [HAH.out] at a0; have HH5 := Lib.hid hh; have HR5 := Lib.hid hro; have HJ5 := Lib.hid hJp; have HF5 := Lib.hid hFr; have HN5 := Lib.hid (show ∀ g, ob lo = some g → wr.heap.size ≤ g from fun g hg => Nat.le_trans HD4.out.fr.size (hnew g hg)); clear hnc hro hJp hFr hq6 hnew hh) | (go_at_call 18; (with_reducible refine (same_known (s := qh) (t := sh) (HR5.out.ext ((Ext.refl w5).alloc _)) (HH5.out.sure.ro.ext ((Ext.refl w5).alloc _)) (ro_small HR5.out hlq (by omega)) (ro_small HH5.out.sure.ro HO.out.ss1.2 (by omega)) HV1.out).mono ?_); rintro x w6 ⟨rfl, hx6⟩; have ⟨g0, g1, gl⟩ := got_at hx6; have hh := HH5.out.ext' (((Ext.refl w5).alloc _).trans hx6); have b0 := hh.sure.c0; have b1 := hh.sure.c1; have bl := hh.sure.lt; have e0 := hh.also.c0; have e1 := hh.also.c1; have el := hh.also.lt; have fb0 := hh.sure.f0; have fb1 := hh.sure.f1; rw [HSH.out] at b0; rw [HAH.out] at e0; have HX6 := Lib.hid hx6; have HXS := Lib.hid (((Ext.refl w5).alloc _).trans hx6); clear hx6 hh))
                      go_region
                      all_goals
                        go_wp2
                        have hU6 := HO.out.up (lc := lc) HW.out HJ5.out HF5.out HR5.out HN5.out HLV.out HCP.out HJN.out HXS.out
                        rw [HQH.out] at hU6
                        unfold wr2 at hU6
                        exact ⟨.inr ⟨t + 1, q6, lo, ln, lc, S6, J6, q5, by go_num, by omega, rfl, hU6.ext' (Ext.refl _).drew⟩, by simp [intOf]; omega⟩
                    · have HV1 := Lib.hid (show decide (qh :: q5.tail = sh :: s5.tail) = false from by rw [← HQH.out, ← HSH.out, cons_same hneq HO.out.ss1.1]; exact decide_eq_false hqs)
                      have HV2 := Lib.hid (show decide (qh :: q5.tail = ah :: a5.tail) = true from by rw [← HQH.out, ← HAH.out, cons_same hneq HO.out.as1.1]; exact decide_eq_true (HW.out.resolve_left hqs))
                      clear hqs hneq
                      go_wp2_with (first | (go_at_call 15; (with_reducible refine UP0.out.mono ?_); rintro x w3 ⟨rfl, rfl⟩) | (go_at_call 17; (with_reducible refine ST.out.mono ?_); rintro x w3 ⟨rfl, hD⟩; have hh := HO.out.fr hD.fr; have x2 := hh.x2; have x4 := hh.x4; have HD3 := Lib.hid hD; have HK3 := Lib.hid (show KeepAt w3 (fun g => g < w.heap.size) ko ks from HX.out.keep.kept (fun g hg => Below.block (Hxg.out.trans hh.ext) g hg)); have HG3 := Lib.hid (show ∀ g, g < w.heap.size → g < w3.heap.size from fun g hg => Nat.lt_of_lt_of_le hg (Hxg.out.trans hh.ext).size); clear hD hh) | (go_at_call 12; (with_reducible refine (k_fail (kc := kc) HD3.out hF2 rfl hxs HK3.out HG3.out HFL.out).mono ?_); rintro x w4 ⟨rfl, hD⟩; have HD4 := Lib.hid hD; clear hD) | (go_at_call 9; (with_reducible refine (open_new HD4.out HUP.out HOP.out).mono ?_); rintro x w5 ⟨q6, lo, ln, lc, rfl, hnc, hro, hJp, hFr, hq6, hnew⟩; have hh := HO.out.fr hFr; have s0 := hh.sure.c0; have s1 := hh.sure.c1; have sl := hh.sure.lt; have a0 := hh.also.c0; have a1 := hh.also.c1; have al := hh.also.lt; have f0 := hh.sure.f0; have f1 := hh.sure.f1; rw [HSH.out] at s0; rw [HAH.out] at a0; have HH5 := Lib.hid hh; have HR5 := Lib.hid hro; have HJ5 := Lib.hid hJp; have HF5 := Lib.hid hFr; have HN5 := Lib.hid (show ∀ g, ob lo = some g → wr.heap.size ≤ g from fun g hg => Nat.le_trans HD4.out.fr.size (hnew g hg)); clear hnc hro hJp hFr hq6 hnew hh) | (go_at_call 18; first | ((with_reducible refine (same_known (s := qh) (t := sh) (HR5.out.ext ((Ext.refl w5).alloc _)) (HH5.out.sure.ro.ext ((Ext.refl w5).alloc _)) (ro_small HR5.out hlq (by omega)) (ro_small HH5.out.sure.ro HO.out.ss1.2 (by omega)) HV1.out).mono ?_); rintro x w6 ⟨rfl, hx6⟩; have ⟨g0, g1, gl⟩ := got_at hx6; have hh := HH5.out.ext' (((Ext.refl w5).alloc _).trans hx6); have b0 := hh.sure.c0; have b1 := hh.sure.c1; have bl := hh.sure.lt; have e0 := hh.also.c0; have e1 := hh.also.c1; have el := hh.also.lt; have fb0 := hh.sure.f0; have fb1 := hh.sure.f1; rw [HSH.out] at b0; rw [HAH.out] at e0; have HX6 := Lib.hid hx6; have HXS := Lib.hid (((Ext.refl w5).alloc _).trans hx6); clear hx6 hh) | ((with_reducible refine (same_known (s := qh) (t := ah) (HR5.out.ext HXS.out) (HH5.out.also.ro.ext HXS.out) (ro_small HR5.out hlq (by omega)) (ro_small HH5.out.also.ro HO.out.as1.2 (by omega)) HV2.out).mono ?_); rintro x w7 ⟨rfl, hx7⟩; have ⟨k0, k1, kl⟩ := got_at (HX6.out.trans hx7); have hh := HH5.out.ext' (HXS.out.trans hx7); have c0 := hh.sure.c0; have c1 := hh.sure.c1; have cl := hh.sure.lt; have fc0 := hh.sure.f0; have fc1 := hh.sure.f1; rw [HSH.out] at c0; have HXT := Lib.hid (HXS.out.trans hx7); clear hx7 hh)))
                      go_region
                      all_goals
                        go_wp2
                        have hU6 := HO.out.up (lc := lc) HW.out HJ5.out HF5.out HR5.out HN5.out HLV.out HCP.out HJN.out HXT.out
                        rw [HQH.out] at hU6
                        unfold wr2 at hU6
                        exact ⟨.inr ⟨t + 1, q6, lo, ln, lc, S6, J6, q5, by go_num, by omega, rfl, hU6.ext' (Ext.refl _).drew⟩, by simp [intOf]; omega⟩
                  · have HOP := Lib.hid hop
                    have HDD := Lib.hid hdd
                    clear hop hdd hmid2 hsh hah hqh hneq
                    go_wp2_with (first | (go_at_call 15; (with_reducible refine UP0.out.mono ?_); rintro x w3 ⟨rfl, rfl⟩) | (go_at_call 17; (with_reducible refine ST.out.mono ?_); rintro x w3 ⟨rfl, hD⟩; have hh := HO.out.fr hD.fr; have x2 := hh.x2; have x4 := hh.x4; have HD3 := Lib.hid hD; have HK3 := Lib.hid (show KeepAt w3 (fun g => g < w.heap.size) ko ks from HX.out.keep.kept (fun g hg => Below.block (Hxg.out.trans hh.ext) g hg)); have HG3 := Lib.hid (show ∀ g, g < w.heap.size → g < w3.heap.size from fun g hg => Nat.lt_of_lt_of_le hg (Hxg.out.trans hh.ext).size); clear hD hh) | (go_at_call 12; (with_reducible refine (k_fail (kc := kc) HD3.out hF2 rfl hxs HK3.out HG3.out HFL.out).mono ?_); rintro x w4 ⟨rfl, hD⟩; have HD4 := Lib.hid hD; clear hD) | (go_at_call 9; (with_reducible refine (open_bad HD4.out HOP.out).mono ?_); rintro x w5 ⟨rfl, hD⟩; have HD5 := Lib.hid hD; clear hD))
                    exact ⟨.inl ⟨t + 1, by go_num, by omega, so2, sn2, sc2, ao2, an2, ac2, S6, s5, a5, q5, O5, HO.out.again HD5.out HDD.out HW.out⟩, by simp [intOf]; omega⟩
                · have h3' : ¬ (t : Int) < 3 := by omega
                  have HUP := Lib.hid hmid.up
                  rcases Mid.look hmid with ⟨J6, S6, hop, hlv, hJn, hcp⟩ | ⟨S6, hop, hdd⟩
                  · rw [hqh] at hop
                    have HOP := Lib.hid hop
                    have HLV := Lib.hid hlv
                    have HCP := Lib.hid hcp
                    have HJN := Lib.hid hJn
                    clear hop hlv hcp hJn hmid hnf hsh hah hqh
                    by_cases hqs : q5 = s5
                    · have HV1 := Lib.hid (show decide (qh :: q5.tail = sh :: s5.tail) = true from by rw [← HQH.out, ← HSH.out, cons_same hneq HO.out.ss1.1]; exact decide_eq_true hqs)
                      clear hqs hneq
                      go_wp2_with (first | (go_at_call 15; (with_reducible refine UP0.out.mono ?_); rintro x w3 ⟨rfl, rfl⟩) | (go_at_call 17; (with_reducible refine ST.out.mono ?_); rintro x w3 ⟨rfl, hD⟩; have hh := HO.out.fr hD.fr; have x2 := hh.x2; have x4 := hh.x4; have HD3 := Lib.hid hD; have HK3 := Lib.hid (show KeepAt w3 (fun g => g < w.heap.size) ko ks from HX.out.keep.kept (fun g hg => Below.block (Hxg.out.trans hh.ext) g hg)); have HG3 := Lib.hid (show ∀ g, g < w.heap.size → g < w3.heap.size from fun g hg => Nat.lt_of_lt_of_le hg (Hxg.out.trans hh.ext).size); clear hD hh) | (go_at_call 9; (with_reducible refine (open_new HD3.out HUP.out HOP.out).mono ?_); rintro x w5 ⟨q6, lo, ln, lc, rfl, hnc, hro, hJp, hFr, hq6, hnew⟩; have hh := HO.out.fr hFr; have s0 := hh.sure.c0; have s1 := hh.sure.c1; have sl := hh.sure.lt; have a0 := hh.also.c0; have a1 := hh.also.c1; have al := hh.also.lt; have f0 := hh.sure.f0; have f1 := hh.sure.f1; rw [HSH.out] at s0; rw [HAH.out] at a0; have HH5 := Lib.hid hh; have HR5 := Lib.hid hro; have HJ5 := Lib.hid hJp; have HF5 := Lib.hid hFr; have HN5 := Lib.hid (show ∀ g, ob lo = some g → wr.heap.size ≤ g from fun g hg => Nat.le_trans HD3.out.fr.size (hnew g hg)); clear hnc hro hJp hFr hq6 hnew hh) | (go_at_call 18; (with_reducible refine (same_known (s := qh) (t := sh) (HR5.out.ext ((Ext.refl w5).alloc _)) (HH5.out.sure.ro.ext ((Ext.refl w5).alloc _)) (ro_small HR5.out hlq (by omega)) (ro_small HH5.out.sure.ro HO.out.ss1.2 (by omega)) HV1.out).mono ?_); rintro x w6 ⟨rfl, hx6⟩; have ⟨g0, g1, gl⟩ := got_at hx6; have hh := HH5.out.ext' (((Ext.refl w5).alloc _).trans hx6); have b0 := hh.sure.c0; have b1 := hh.sure.c1; have bl := hh.sure.lt; have e0 := hh.also.c0; have e1 := hh.also.c1; have el := hh.also.lt; have fb0 := hh.sure.f0; have fb1 := hh.sure.f1; rw [HSH.out] at b0; rw [HAH.out] at e0; have HX6 := Lib.hid hx6; have HXS := Lib.hid (((Ext.refl w5).alloc _).trans hx6); clear hx6 hh))
                      go_region
                      all_goals
                        go_wp2
                        have hU6 := HO.out.up (lc := lc) HW.out HJ5.out HF5.out HR5.out HN5.out HLV.out HCP.out HJN.out HXS.out
                        rw [HQH.out] at hU6
                        unfold wr2 at hU6
                        exact ⟨.inr ⟨t + 1, q6, lo, ln, lc, S6, J6, q5, by go_num, by omega, rfl, hU6.ext' (Ext.refl _).drew⟩, by simp [intOf]; omega⟩
                    · have HV1 := Lib.hid (show decide (qh :: q5.tail = sh :: s5.tail) = false from by rw [← HQH.out, ← HSH.out, cons_same hneq HO.out.ss1.1]; exact decide_eq_false hqs)
                      have HV2 := Lib.hid (show decide (qh :: q5.tail = ah :: a5.tail) = true from by rw [← HQH.out, ← HAH.out, cons_same hneq HO.out.as1.1]; exact decide_eq_true (HW.out.resolve_left hqs))
                      clear hqs hneq
                      go_wp2_with (first | (go_at_call 15; (with_reducible refine UP0.out.mono ?_); rintro x w3 ⟨rfl, rfl⟩) | (go_at_call 17; (with_reducible refine ST.out.mono ?_); rintro x w3 ⟨rfl, hD⟩; have hh := HO.out.fr hD.fr; have x2 := hh.x2; have x4 := hh.x4; have HD3 := Lib.hid hD; have HK3 := Lib.hid (show KeepAt w3 (fun g => g < w.heap.size) ko ks from HX.out.keep.kept (fun g hg => Below.block (Hxg.out.trans hh.ext) g hg)); have HG3 := Lib.hid (show ∀ g, g < w.heap.size → g < w3.heap.size from fun g hg => Nat.lt_of_lt_of_le hg (Hxg.out.trans hh.ext).size); clear hD hh) | (go_at_call 9; (with_reducible refine (open_new HD3.out HUP.out HOP.out).mono ?_); rintro x w5 ⟨q6, lo, ln, lc, rfl, hnc, hro, hJp, hFr, hq6, hnew⟩; have hh := HO.out.fr hFr; have s0 := hh.sure.c0; have s1 := hh.sure.c1; have sl := hh.sure.lt; have a0 := hh.also.c0; have a1 := hh.also.c1; have al := hh.also.lt; have f0 := hh.sure.f0; have f1 := hh.sure.f1; rw [HSH.out] at s0; rw [HAH.out] at a0; have HH5 := Lib.hid hh; have HR5 := Lib.hid hro; have HJ5 := Lib.hid hJp; have HF5 := Lib.hid hFr; have HN5 := Lib.hid (show ∀ g, ob lo = some g → wr.heap.size ≤ g from fun g hg => Nat.le_trans HD3.out.fr.size (hnew g hg)); clear hnc hro hJp hFr hq6 hnew hh) | (go_at_call 18; first | ((with_reducible refine (same_known (s := qh) (t := sh) (HR5.out.ext ((Ext.refl w5).alloc _)) (HH5.out.sure.ro.ext ((Ext.refl w5).alloc _)) (ro_small HR5.out hlq (by omega)) (ro_small HH5.out.sure.ro HO.out.ss1.2 (by omega)) HV1.out).mono ?_); rintro x w6 ⟨rfl, hx6⟩; have ⟨g0, g1, gl⟩ := got_at hx6; have hh := HH5.out.ext' (((Ext.refl w5).alloc _).trans hx6); have b0 := hh.sure.c0; have b1 := hh.sure.c1; have bl := hh.sure.lt; have e0 := hh.also.c0; have e1 := hh.also.c1; have el := hh.also.lt; have fb0 := hh.sure.f0; have fb1 := hh.sure.f1; rw [HSH.out] at b0; rw [HAH.out] at e0; have HX6 := Lib.hid hx6; have HXS := Lib.hid (((Ext.refl w5).alloc _).trans hx6); clear hx6 hh) | ((with_reducible refine (same_known (s := qh) (t := ah) (HR5.out.ext HXS.out) (HH5.out.also.ro.ext HXS.out) (ro_small HR5.out hlq (by omega)) (ro_small HH5.out.also.ro HO.out.as1.2 (by omega)) HV2.out).mono ?_); rintro x w7 ⟨rfl, hx7⟩; have ⟨k0, k1, kl⟩ := got_at (HX6.out.trans hx7); have hh := HH5.out.ext' (HXS.out.trans hx7); have c0 := hh.sure.c0; have c1 := hh.sure.c1; have cl := hh.sure.lt; have fc0 := hh.sure.f0; have fc1 := hh.sure.f1; rw [HSH.out] at c0; have HXT := Lib.hid (HXS.out.trans hx7); clear hx7 hh)))
                      go_region
                      all_goals
                        go_wp2
                        have hU6 := HO.out.up (lc := lc) HW.out HJ5.out HF5.out HR5.out HN5.out HLV.out HCP.out HJN.out HXT.out
                        rw [HQH.out] at hU6
                        unfold wr2 at hU6
                        exact ⟨.inr ⟨t + 1, q6, lo, ln, lc, S6, J6, q5, by go_num, by omega, rfl, hU6.ext' (Ext.refl _).drew⟩, by simp [intOf]; omega⟩
                  · exact absurd hnf hdd.nf
              · have HU5 := Lib.hid hU5
                have UP := Lib.hid (k_up hU5.jp.disk0 (b := true) (by rw [hU5.live.up]; rfl))
                have ht20 : (t : Int) < 20 := by omega
                clear hU5
                go_wp2_with (go_at_call 15; (with_reducible refine UP.out.mono ?_); rintro x w3 ⟨rfl, rfl⟩)
                exact ⟨⟨k + 1, q', so2, sn2, sc2, S5, J5, ps5, by omega, by go_num, rfl, HU5.out⟩, by simp [intOf]; omega⟩
          · have hN0 := hDD.dn hx2 hx4
            have HN := Lib.hid hN0
            have UP0 := Lib.hid (k_up hN0.d (b := false) (by rw [hN0.dead.down]; rfl))
            clear hDD hx2 hx4 hN0
            go_wp2_with (go_at_call 15; (with_reducible refine UP0.out.mono ?_); rintro x w3 ⟨rfl, rfl⟩)
            go_loopw [5, 14] (fun jv tv wx => (∃ t : Nat, tv = .int .i64 t ∧ t ≤ 3 ∧ ∃ so sn sc ao an ac S ss aa qs O, Dn wg p b (wr.heap.size + 1) wr.heap.size wx so sn sc ao an ac S ss aa qs ((k : Int) + 1) xn ko ks.length kc O) ∨ (∃ (t q' : Nat) (so : Option Addr) (sn sc : Nat) (S : St) (J : Jo) (ps : List (List UInt8)), tv = .int .i64 t ∧ t ≤ 4 ∧ jv = .pointer (some ⟨q', 0, none⟩) ∧ Up wg p b wx q' so sn sc S J ps ((k : Int) + 1))) (fun _ tv _ => 20 - (intOf tv).toNat)
            case atStart => exact .inl ⟨0, rfl, by omega, _, _, _, _, _, _, _, _, _, _, _, HN.out⟩
            case round =>
              clear HN UP0
              rcases hrel with ⟨t, rfl, ht, so2, sn2, sc2, ao2, an2, ac2, S5, s5, a5, q5, O5, hN⟩ | ⟨t, q', so2, sn2, sc2, S5, J5, ps5, rfl, ht, rfl, hU5⟩
              · obtain ⟨S1', m1, hst, hmid, hnf⟩ := hN.dead.start
                have UP0 := Lib.hid (k_up hN.d (b := false) (by rw [hN.dead.down]; rfl))
                have ST := Lib.hid (k_start hN.d hst)
                have HO := Lib.hid hN.hold
                have HW := Lib.hid hN.which
                have ht20 : (t : Int) < 20 := by omega
                obtain ⟨sh, hsh⟩ : ∃ sh, s5.headD [] = sh := ⟨_, rfl⟩
                obtain ⟨ah, hah⟩ : ∃ ah, a5.headD [] = ah := ⟨_, rfl⟩
                obtain ⟨qh, hqh⟩ : ∃ qh, q5.headD [] = qh := ⟨_, rfl⟩
                have HSH := Lib.hid hsh
                have HAH := Lib.hid hah
                have HQH := Lib.hid hqh
                have hneq : q5 ≠ [] := by
                  rcases HW.out with rfl | rfl
                  · exact HO.out.ss1.1
                  · exact HO.out.as1.1
                have hlq : (q5.length : Int) ≤ ((k : Int) + 1) + 1 := by
                  rcases HW.out with rfl | rfl
                  · exact HO.out.ss1.2
                  · exact HO.out.as1.2
                clear hN hst
                by_cases h3 : t < 3
                · have h3' : (t : Int) < 3 := by omega
                  have F0 := fail_num xn t (by omega)
                  obtain ⟨hF0, hF1, hF2⟩ := F0
                  obtain ⟨hfl, hmid2⟩ := hmid.fail hF1 ks
                  have HFL := Lib.hid hfl
                  have HUP := Lib.hid hmid2.up
                  clear hfl hmid hnf hF1
                  rcases Mid.look hmid2 with ⟨J6, S6, hop, hlv, hJn, hcp⟩ | ⟨S6, hop, hdd⟩
                  · rw [hqh] at hop
                    have HOP := Lib.hid hop
                    have HLV := Lib.hid hlv
                    have HCP := Lib.hid hcp
                    have HJN := Lib.hid hJn
                    clear hop hlv hcp hJn hmid2 hsh hah hqh
                    by_cases hqs : q5 = s5
                    · have HV1 := Lib.hid (show decide (qh :: q5.tail = sh :: s5.tail) = true from by rw [← HQH.out, ← HSH.out, cons_same hneq HO.out.ss1.1]; exact decide_eq_true hqs)
                      clear hqs hneq
                      go_wp2_with (first | (go_at_call 15; (with_reducible refine UP0.out.mono ?_); rintro x w3 ⟨rfl, rfl⟩) | (go_at_call 17; (with_reducible refine ST.out.mono ?_); rintro x w3 ⟨rfl, hD⟩; have hh := HO.out.fr hD.fr; have x2 := hh.x2; have x4 := hh.x4; have HD3 := Lib.hid hD; have HK3 := Lib.hid (show KeepAt w3 (fun g => g < w.heap.size) ko ks from HX.out.keep.kept (fun g hg => Below.block (Hxg.out.trans hh.ext) g hg)); have HG3 := Lib.hid (show ∀ g, g < w.heap.size → g < w3.heap.size from fun g hg => Nat.lt_of_lt_of_le hg (Hxg.out.trans hh.ext).size); clear hD hh) | (go_at_call 12; (with_reducible refine (k_fail (kc := kc) HD3.out hF2 rfl hxs HK3.out HG3.out HFL.out).mono ?_); rintro x w4 ⟨rfl, hD⟩; have HD4 := Lib.hid hD; clear hD) | (go_at_call 9; (with_reducible refine (open_new HD4.out HUP.out HOP.out).mono ?_); rintro x w5 ⟨q6, lo, ln, lc, rfl, hnc, hro, hJp, hFr, hq6, hnew⟩; have hh := HO.out.fr hFr; have s0 := hh.sure.c0; have s1 := hh.sure.c1; have sl := hh.sure.lt; have a0 := hh.also.c0; have a1 := hh.also.c1; have al := hh.also.lt; have f0 := hh.sure.f0; have f1 := hh.sure.f1; rw [HSH.out] at s0; rw [HAH.out] at a0; have HH5 := Lib.hid hh; have HR5 := Lib.hid hro; have HJ5 := Lib.hid hJp; have HF5 := Lib.hid hFr; have HN5 := Lib.hid (show ∀ g, ob lo = some g → wr.heap.size ≤ g from fun g hg => Nat.le_trans HD4.out.fr.size (hnew g hg)); clear hnc hro hJp hFr hq6 hnew hh) | (go_at_call 18; (with_reducible refine (same_known (s := qh) (t := sh) (HR5.out.ext ((Ext.refl w5).alloc _)) (HH5.out.sure.ro.ext ((Ext.refl w5).alloc _)) (ro_small HR5.out hlq (by omega)) (ro_small HH5.out.sure.ro HO.out.ss1.2 (by omega)) HV1.out).mono ?_); rintro x w6 ⟨rfl, hx6⟩; have ⟨g0, g1, gl⟩ := got_at hx6; have hh := HH5.out.ext' (((Ext.refl w5).alloc _).trans hx6); have b0 := hh.sure.c0; have b1 := hh.sure.c1; have bl := hh.sure.lt; have e0 := hh.also.c0; have e1 := hh.also.c1; have el := hh.also.lt; have fb0 := hh.sure.f0; have fb1 := hh.sure.f1; rw [HSH.out] at b0; rw [HAH.out] at e0; have HX6 := Lib.hid hx6; have HXS := Lib.hid (((Ext.refl w5).alloc _).trans hx6); clear hx6 hh))
                      go_region
                      all_goals
                        go_wp2
                        have hU6 := HO.out.up (lc := lc) HW.out HJ5.out HF5.out HR5.out HN5.out HLV.out HCP.out HJN.out HXS.out
                        rw [HQH.out] at hU6
                        unfold wr2 at hU6
                        exact ⟨.inr ⟨t + 1, q6, lo, ln, lc, S6, J6, q5, by go_num, by omega, rfl, hU6.ext' (Ext.refl _).drew⟩, by simp [intOf]; omega⟩
                    · have HV1 := Lib.hid (show decide (qh :: q5.tail = sh :: s5.tail) = false from by rw [← HQH.out, ← HSH.out, cons_same hneq HO.out.ss1.1]; exact decide_eq_false hqs)
                      have HV2 := Lib.hid (show decide (qh :: q5.tail = ah :: a5.tail) = true from by rw [← HQH.out, ← HAH.out, cons_same hneq HO.out.as1.1]; exact decide_eq_true (HW.out.resolve_left hqs))
                      clear hqs hneq
                      go_wp2_with (first | (go_at_call 15; (with_reducible refine UP0.out.mono ?_); rintro x w3 ⟨rfl, rfl⟩) | (go_at_call 17; (with_reducible refine ST.out.mono ?_); rintro x w3 ⟨rfl, hD⟩; have hh := HO.out.fr hD.fr; have x2 := hh.x2; have x4 := hh.x4; have HD3 := Lib.hid hD; have HK3 := Lib.hid (show KeepAt w3 (fun g => g < w.heap.size) ko ks from HX.out.keep.kept (fun g hg => Below.block (Hxg.out.trans hh.ext) g hg)); have HG3 := Lib.hid (show ∀ g, g < w.heap.size → g < w3.heap.size from fun g hg => Nat.lt_of_lt_of_le hg (Hxg.out.trans hh.ext).size); clear hD hh) | (go_at_call 12; (with_reducible refine (k_fail (kc := kc) HD3.out hF2 rfl hxs HK3.out HG3.out HFL.out).mono ?_); rintro x w4 ⟨rfl, hD⟩; have HD4 := Lib.hid hD; clear hD) | (go_at_call 9; (with_reducible refine (open_new HD4.out HUP.out HOP.out).mono ?_); rintro x w5 ⟨q6, lo, ln, lc, rfl, hnc, hro, hJp, hFr, hq6, hnew⟩; have hh := HO.out.fr hFr; have s0 := hh.sure.c0; have s1 := hh.sure.c1; have sl := hh.sure.lt; have a0 := hh.also.c0; have a1 := hh.also.c1; have al := hh.also.lt; have f0 := hh.sure.f0; have f1 := hh.sure.f1; rw [HSH.out] at s0; rw [HAH.out] at a0; have HH5 := Lib.hid hh; have HR5 := Lib.hid hro; have HJ5 := Lib.hid hJp; have HF5 := Lib.hid hFr; have HN5 := Lib.hid (show ∀ g, ob lo = some g → wr.heap.size ≤ g from fun g hg => Nat.le_trans HD4.out.fr.size (hnew g hg)); clear hnc hro hJp hFr hq6 hnew hh) | (go_at_call 18; first | ((with_reducible refine (same_known (s := qh) (t := sh) (HR5.out.ext ((Ext.refl w5).alloc _)) (HH5.out.sure.ro.ext ((Ext.refl w5).alloc _)) (ro_small HR5.out hlq (by omega)) (ro_small HH5.out.sure.ro HO.out.ss1.2 (by omega)) HV1.out).mono ?_); rintro x w6 ⟨rfl, hx6⟩; have ⟨g0, g1, gl⟩ := got_at hx6; have hh := HH5.out.ext' (((Ext.refl w5).alloc _).trans hx6); have b0 := hh.sure.c0; have b1 := hh.sure.c1; have bl := hh.sure.lt; have e0 := hh.also.c0; have e1 := hh.also.c1; have el := hh.also.lt; have fb0 := hh.sure.f0; have fb1 := hh.sure.f1; rw [HSH.out] at b0; rw [HAH.out] at e0; have HX6 := Lib.hid hx6; have HXS := Lib.hid (((Ext.refl w5).alloc _).trans hx6); clear hx6 hh) | ((with_reducible refine (same_known (s := qh) (t := ah) (HR5.out.ext HXS.out) (HH5.out.also.ro.ext HXS.out) (ro_small HR5.out hlq (by omega)) (ro_small HH5.out.also.ro HO.out.as1.2 (by omega)) HV2.out).mono ?_); rintro x w7 ⟨rfl, hx7⟩; have ⟨k0, k1, kl⟩ := got_at (HX6.out.trans hx7); have hh := HH5.out.ext' (HXS.out.trans hx7); have c0 := hh.sure.c0; have c1 := hh.sure.c1; have cl := hh.sure.lt; have fc0 := hh.sure.f0; have fc1 := hh.sure.f1; rw [HSH.out] at c0; have HXT := Lib.hid (HXS.out.trans hx7); clear hx7 hh)))
                      go_region
                      all_goals
                        go_wp2
                        have hU6 := HO.out.up (lc := lc) HW.out HJ5.out HF5.out HR5.out HN5.out HLV.out HCP.out HJN.out HXT.out
                        rw [HQH.out] at hU6
                        unfold wr2 at hU6
                        exact ⟨.inr ⟨t + 1, q6, lo, ln, lc, S6, J6, q5, by go_num, by omega, rfl, hU6.ext' (Ext.refl _).drew⟩, by simp [intOf]; omega⟩
                  · have HOP := Lib.hid hop
                    have HDD := Lib.hid hdd
                    clear hop hdd hmid2 hsh hah hqh hneq
                    go_wp2_with (first | (go_at_call 15; (with_reducible refine UP0.out.mono ?_); rintro x w3 ⟨rfl, rfl⟩) | (go_at_call 17; (with_reducible refine ST.out.mono ?_); rintro x w3 ⟨rfl, hD⟩; have hh := HO.out.fr hD.fr; have x2 := hh.x2; have x4 := hh.x4; have HD3 := Lib.hid hD; have HK3 := Lib.hid (show KeepAt w3 (fun g => g < w.heap.size) ko ks from HX.out.keep.kept (fun g hg => Below.block (Hxg.out.trans hh.ext) g hg)); have HG3 := Lib.hid (show ∀ g, g < w.heap.size → g < w3.heap.size from fun g hg => Nat.lt_of_lt_of_le hg (Hxg.out.trans hh.ext).size); clear hD hh) | (go_at_call 12; (with_reducible refine (k_fail (kc := kc) HD3.out hF2 rfl hxs HK3.out HG3.out HFL.out).mono ?_); rintro x w4 ⟨rfl, hD⟩; have HD4 := Lib.hid hD; clear hD) | (go_at_call 9; (with_reducible refine (open_bad HD4.out HOP.out).mono ?_); rintro x w5 ⟨rfl, hD⟩; have HD5 := Lib.hid hD; clear hD))
                    exact ⟨.inl ⟨t + 1, by go_num, by omega, so2, sn2, sc2, ao2, an2, ac2, S6, s5, a5, q5, O5, HO.out.again HD5.out HDD.out HW.out⟩, by simp [intOf]; omega⟩
                · have h3' : ¬ (t : Int) < 3 := by omega
                  have HUP := Lib.hid hmid.up
                  rcases Mid.look hmid with ⟨J6, S6, hop, hlv, hJn, hcp⟩ | ⟨S6, hop, hdd⟩
                  · rw [hqh] at hop
                    have HOP := Lib.hid hop
                    have HLV := Lib.hid hlv
                    have HCP := Lib.hid hcp
                    have HJN := Lib.hid hJn
                    clear hop hlv hcp hJn hmid hnf hsh hah hqh
                    by_cases hqs : q5 = s5
                    · have HV1 := Lib.hid (show decide (qh :: q5.tail = sh :: s5.tail) = true from by rw [← HQH.out, ← HSH.out, cons_same hneq HO.out.ss1.1]; exact decide_eq_true hqs)
                      clear hqs hneq
                      go_wp2_with (first | (go_at_call 15; (with_reducible refine UP0.out.mono ?_); rintro x w3 ⟨rfl, rfl⟩) | (go_at_call 17; (with_reducible refine ST.out.mono ?_); rintro x w3 ⟨rfl, hD⟩; have hh := HO.out.fr hD.fr; have x2 := hh.x2; have x4 := hh.x4; have HD3 := Lib.hid hD; have HK3 := Lib.hid (show KeepAt w3 (fun g => g < w.heap.size) ko ks from HX.out.keep.kept (fun g hg => Below.block (Hxg.out.trans hh.ext) g hg)); have HG3 := Lib.hid (show ∀ g, g < w.heap.size → g < w3.heap.size from fun g hg => Nat.lt_of_lt_of_le hg (Hxg.out.trans hh.ext).size); clear hD hh) | (go_at_call 9; (with_reducible refine (open_new HD3.out HUP.out HOP.out).mono ?_); rintro x w5 ⟨q6, lo, ln, lc, rfl, hnc, hro, hJp, hFr, hq6, hnew⟩; have hh := HO.out.fr hFr; have s0 := hh.sure.c0; have s1 := hh.sure.c1; have sl := hh.sure.lt; have a0 := hh.also.c0; have a1 := hh.also.c1; have al := hh.also.lt; have f0 := hh.sure.f0; have f1 := hh.sure.f1; rw [HSH.out] at s0; rw [HAH.out] at a0; have HH5 := Lib.hid hh; have HR5 := Lib.hid hro; have HJ5 := Lib.hid hJp; have HF5 := Lib.hid hFr; have HN5 := Lib.hid (show ∀ g, ob lo = some g → wr.heap.size ≤ g from fun g hg => Nat.le_trans HD3.out.fr.size (hnew g hg)); clear hnc hro hJp hFr hq6 hnew hh) | (go_at_call 18; (with_reducible refine (same_known (s := qh) (t := sh) (HR5.out.ext ((Ext.refl w5).alloc _)) (HH5.out.sure.ro.ext ((Ext.refl w5).alloc _)) (ro_small HR5.out hlq (by omega)) (ro_small HH5.out.sure.ro HO.out.ss1.2 (by omega)) HV1.out).mono ?_); rintro x w6 ⟨rfl, hx6⟩; have ⟨g0, g1, gl⟩ := got_at hx6; have hh := HH5.out.ext' (((Ext.refl w5).alloc _).trans hx6); have b0 := hh.sure.c0; have b1 := hh.sure.c1; have bl := hh.sure.lt; have e0 := hh.also.c0; have e1 := hh.also.c1; have el := hh.also.lt; have fb0 := hh.sure.f0; have fb1 := hh.sure.f1; rw [HSH.out] at b0; rw [HAH.out] at e0; have HX6 := Lib.hid hx6; have HXS := Lib.hid (((Ext.refl w5).alloc _).trans hx6); clear hx6 hh))
                      go_region
                      all_goals
                        go_wp2
                        have hU6 := HO.out.up (lc := lc) HW.out HJ5.out HF5.out HR5.out HN5.out HLV.out HCP.out HJN.out HXS.out
                        rw [HQH.out] at hU6
                        unfold wr2 at hU6
                        exact ⟨.inr ⟨t + 1, q6, lo, ln, lc, S6, J6, q5, by go_num, by omega, rfl, hU6.ext' (Ext.refl _).drew⟩, by simp [intOf]; omega⟩
                    · have HV1 := Lib.hid (show decide (qh :: q5.tail = sh :: s5.tail) = false from by rw [← HQH.out, ← HSH.out, cons_same hneq HO.out.ss1.1]; exact decide_eq_false hqs)
                      have HV2 := Lib.hid (show decide (qh :: q5.tail = ah :: a5.tail) = true from by rw [← HQH.out, ← HAH.out, cons_same hneq HO.out.as1.1]; exact decide_eq_true (HW.out.resolve_left hqs))
                      clear hqs hneq
                      go_wp2_with (first | (go_at_call 15; (with_reducible refine UP0.out.mono ?_); rintro x w3 ⟨rfl, rfl⟩) | (go_at_call 17; (with_reducible refine ST.out.mono ?_); rintro x w3 ⟨rfl, hD⟩; have hh := HO.out.fr hD.fr; have x2 := hh.x2; have x4 := hh.x4; have HD3 := Lib.hid hD; have HK3 := Lib.hid (show KeepAt w3 (fun g => g < w.heap.size) ko ks from HX.out.keep.kept (fun g hg => Below.block (Hxg.out.trans hh.ext) g hg)); have HG3 := Lib.hid (show ∀ g, g < w.heap.size → g < w3.heap.size from fun g hg => Nat.lt_of_lt_of_le hg (Hxg.out.trans hh.ext).size); clear hD hh) | (go_at_call 9; (with_reducible refine (open_new HD3.out HUP.out HOP.out).mono ?_); rintro x w5 ⟨q6, lo, ln, lc, rfl, hnc, hro, hJp, hFr, hq6, hnew⟩; have hh := HO.out.fr hFr; have s0 := hh.sure.c0; have s1 := hh.sure.c1; have sl := hh.sure.lt; have a0 := hh.also.c0; have a1 := hh.also.c1; have al := hh.also.lt; have f0 := hh.sure.f0; have f1 := hh.sure.f1; rw [HSH.out] at s0; rw [HAH.out] at a0; have HH5 := Lib.hid hh; have HR5 := Lib.hid hro; have HJ5 := Lib.hid hJp; have HF5 := Lib.hid hFr; have HN5 := Lib.hid (show ∀ g, ob lo = some g → wr.heap.size ≤ g from fun g hg => Nat.le_trans HD3.out.fr.size (hnew g hg)); clear hnc hro hJp hFr hq6 hnew hh) | (go_at_call 18; first | ((with_reducible refine (same_known (s := qh) (t := sh) (HR5.out.ext ((Ext.refl w5).alloc _)) (HH5.out.sure.ro.ext ((Ext.refl w5).alloc _)) (ro_small HR5.out hlq (by omega)) (ro_small HH5.out.sure.ro HO.out.ss1.2 (by omega)) HV1.out).mono ?_); rintro x w6 ⟨rfl, hx6⟩; have ⟨g0, g1, gl⟩ := got_at hx6; have hh := HH5.out.ext' (((Ext.refl w5).alloc _).trans hx6); have b0 := hh.sure.c0; have b1 := hh.sure.c1; have bl := hh.sure.lt; have e0 := hh.also.c0; have e1 := hh.also.c1; have el := hh.also.lt; have fb0 := hh.sure.f0; have fb1 := hh.sure.f1; rw [HSH.out] at b0; rw [HAH.out] at e0; have HX6 := Lib.hid hx6; have HXS := Lib.hid (((Ext.refl w5).alloc _).trans hx6); clear hx6 hh) | ((with_reducible refine (same_known (s := qh) (t := ah) (HR5.out.ext HXS.out) (HH5.out.also.ro.ext HXS.out) (ro_small HR5.out hlq (by omega)) (ro_small HH5.out.also.ro HO.out.as1.2 (by omega)) HV2.out).mono ?_); rintro x w7 ⟨rfl, hx7⟩; have ⟨k0, k1, kl⟩ := got_at (HX6.out.trans hx7); have hh := HH5.out.ext' (HXS.out.trans hx7); have c0 := hh.sure.c0; have c1 := hh.sure.c1; have cl := hh.sure.lt; have fc0 := hh.sure.f0; have fc1 := hh.sure.f1; rw [HSH.out] at c0; have HXT := Lib.hid (HXS.out.trans hx7); clear hx7 hh)))
                      go_region
                      all_goals
                        go_wp2
                        have hU6 := HO.out.up (lc := lc) HW.out HJ5.out HF5.out HR5.out HN5.out HLV.out HCP.out HJN.out HXT.out
                        rw [HQH.out] at hU6
                        unfold wr2 at hU6
                        exact ⟨.inr ⟨t + 1, q6, lo, ln, lc, S6, J6, q5, by go_num, by omega, rfl, hU6.ext' (Ext.refl _).drew⟩, by simp [intOf]; omega⟩
                  · exact absurd hnf hdd.nf
              · have HU5 := Lib.hid hU5
                have UP := Lib.hid (k_up hU5.jp.disk0 (b := true) (by rw [hU5.live.up]; rfl))
                have ht20 : (t : Int) < 20 := by omega
                clear hU5
                go_wp2_with (go_at_call 15; (with_reducible refine UP.out.mono ?_); rintro x w3 ⟨rfl, rfl⟩)
                exact ⟨⟨k + 1, q', so2, sn2, sc2, S5, J5, ps5, by omega, by go_num, rfl, HU5.out⟩, by simp [intOf]; omega⟩
      · obtain rfl : k = n := by omega
        have hold : ∀ j, ¬ Ob wg b so j → wg.heap.size ≤ j := fun j hj => by
          rcases Nat.lt_or_ge j wg.heap.size with h | h
          · exact absurd (.inl h) hj
          · exact h
        have HOLD := Lib.hid hold
        have HDP := Lib.hid hU.jp.disk0
        have HUP := Lib.hid hU.live.up
        obtain ⟨ph, hph⟩ : ∃ ph, ps.headD [] = ph := ⟨_, rfl⟩
        have HPH := Lib.hid hph
        have hpl := hU.len
        rcases Mid.look hU.live.mid with ⟨J6, S6, hop, _, _, _⟩ | ⟨S6, hop, _⟩
        · rw [hph] at hop
          have HOP := Lib.hid hop
          clear hop hph hold hU
          go_wp2_with (first
            | (go_at_call 9; (with_reducible refine (open_new HDP.out HUP.out HOP.out).mono ?_); rintro x w5 ⟨q6, lo, ln, lc, rfl, hnc, hro, hJp, hFr, hq6, hnew⟩; have hh := HU.out.box.fr hFr (fun hk => hk (.inr (.inl rfl))) (fun g hg hk => hk (.inr (.inr hg))); have s0 := hh.c0; have s1 := hh.c1; have sl := hh.lt; rw [HPH.out] at s0; have HH5 := Lib.hid hh; have HR5 := Lib.hid hro; have HX5 := Lib.hid (Fr.ext HU.out.ext hFr HOLD.out); clear hnc hro hJp hFr hq6 hnew hh)
            | (go_at_call 18; (with_reducible refine (same_known (s := ph) (t := ph) HH5.out.ro HR5.out (ro_small HH5.out.ro hpl (by omega)) (ro_small HR5.out hpl (by omega)) (decide_eq_true rfl)).mono ?_); rintro x w6 ⟨rfl, hx6⟩; have HX6 := Lib.hid (HX5.out.trans hx6); clear hx6)
            | (go_at_call 7; (with_reducible refine (kept_any _).mono ?_); rintro e w9 ⟨rfl, hx9⟩; have HX9 := Lib.hid hx9; clear hx9))
          go_ret
          exact ⟨rfl, Hxg.out.trans (HX6.out.trans HX9.out)⟩
        · have HOP := Lib.hid hop
          clear hop hph hold hU
          go_wp2_with (first
            | (go_at_call 9; (with_reducible refine (open_bad HDP.out HOP.out).mono ?_); rintro x w5 ⟨rfl, hD⟩; have HX5 := Lib.hid (Fr.ext HU.out.ext hD.fr HOLD.out); clear hD)
            | (go_at_call 7; (with_reducible refine (kept_any _).mono ?_); rintro e w9 ⟨rfl, hx9⟩; have HX9 := Lib.hid hx9; clear hx9))
          go_ret
          exact ⟨rfl, Hxg.out.trans (HX5.out.trans HX9.out)⟩
end Go.Proofs.Ytajclcbclbppiaa
