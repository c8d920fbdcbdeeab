/-
  The walks of the document's disk: Crash, sunk, Fail, New.
-/
import Derived.Test.YtajclcbclbppiaaGreatZ12
namespace Go.Dk
theorem Fc_set2 (f : Fl) : ∀ (l : List Fl) (i : Nat) (h : i < l.length), f.n = l[i].n → Fc (l.set i f) = ((Fc l).set (i * 3 + 1) (.string (ofL f.b))).set (i * 3 + 2) (.int .i64 f.s)
  | [], i, h, _ => absurd h (by simp)
  | m :: l, 0, _, e => by
    have e : f.n = m.n := e
    show Fc1 f ++ Fc l = _
    simp only [Fc1, e]
    rfl
  | m :: l, i + 1, h, e => by
    have ih := Fc_set2 f l i (by simpa using h) e
    show Fc1 m ++ Fc (l.set i f) = _
    rw [ih, show (i + 1) * 3 = i * 3 + 3 by omega, show i * 3 + 3 + 1 = i * 3 + 1 + 3 by omega, show i * 3 + 3 + 2 = i * 3 + 2 + 3 by omega]
    rfl
theorem cutTo_length (ks : List Int) (k : Nat) (l : List Fl) : (cutTo ks k l).length = l.length := by
  have := congrArg List.length (cutTo_names ks k l)
  simpa using this
theorem cutTo_set {ks : List Int} {k : Nat} {l : List Fl} (hr : Rise l) (hk : k < l.length) : (cutTo ks k l).set k (cut (ks.getD k 0) l[k]) = cutTo ks (k + 1) l := by
  have h1 := cutTo_next ks k l hr l[k] (List.getElem?_eq_getElem hk)
  rw [← h1]
  have hk' : k < (cutTo ks k l).length := by rw [cutTo_length]; exact hk
  have e : (cutTo ks k l)[k] = l[k] := by
    have := cutTo_at ks k l
    rw [List.getElem?_eq_getElem hk', List.getElem?_eq_getElem hk] at this
    exact Option.some.inj this
  exact (upd_set (rise_names (cutTo_names ks k l).symm hr) hk' (by rw [e]; rfl)).symm
end Go.Dk
namespace Go.Proofs.YtajclcbclbppiaaGreat
open Go.RowKit Go.Maps Go.Dk Go.Shelf
variable {w w' : World} {G G' : Nat → Prop} {q : Nat} {ao : Option Addr} {cap : Nat} {ko : Option Addr} {kc : Nat} {S S' : St} {F : Int} {K : List Int}
theorem rw_setD {g n cap : Nat} {L : List Fl} (h : Rw w 3 (some ⟨g, 0, none⟩) n cap (Fc L)) {i : Nat} (hi : i < L.length) (f : Fl) (hn : f.n = L[i].n) :
    Rw ((w.setCell ⟨g, i * 3 + 1, none⟩ (.string (ofL f.b))).setCell ⟨g, i * 3 + 2, none⟩ (.int .i64 f.s)) 3 (some ⟨g, 0, none⟩) n cap (Fc (L.set i f)) := by
  have hl := h.len
  rw [Fc_length] at hl
  rw [Fc_set2 f L i hi hn]
  exact (h.set (i * 3 + 1) (by omega) _).set (i * 3 + 2) (by omega) _
theorem RfAt.downTo (h : RfAt w G q ao cap ko kc S F K) {S' : St} (hok : Ok S') (hfs : S'.fs = S.fs := by rfl) (hc : S'.cap = S.cap := by rfl) (hs : S'.starts = S.starts := by rfl) (hd : S'.down = true := by rfl) :
    RfAt (((w.setCell ⟨q, 2, none⟩ (.bool true)).setCell ⟨q, 4, none⟩ (.int .i64 0)).setCell ⟨q, 5, none⟩ (.slice none 0 0)) G q ao cap none 0 S' 0 [] ∧ Fr (fun k => k = q) w (((w.setCell ⟨q, 2, none⟩ (.bool true)).setCell ⟨q, 4, none⟩ (.int .i64 0)).setCell ⟨q, 5, none⟩ (.slice none 0 0)) := by
  have hf : Fr (fun k => k = q) w (((w.setCell ⟨q, 2, none⟩ (.bool true)).setCell ⟨q, 4, none⟩ (.int .i64 0)).setCell ⟨q, 5, none⟩ (.slice none 0 0)) :=
    (((Fr.refl _ w).setCell (p := ⟨q, 2, none⟩) (by intro _; rfl) _).setCell (p := ⟨q, 4, none⟩) (by intro _; rfl) _).setCell (p := ⟨q, 5, none⟩) (by intro _; rfl) _
  refine ⟨⟨hok, h.under.mono hf.size, h.own, ?_, ?_, ?_, ?_, ?_, ?_, fun j hj => by rw [World.frozen?_setCell, World.frozen?_setCell, World.frozen?_setCell]; exact h.fz j hj, ?_, h.rowG, .inl rfl, Nat.zero_le _⟩, hf⟩
  · rw [hc, cell_ne _ _ (by decide), cell_ne _ _ (by decide), cell_ne _ _ (by decide)]; exact h.c0
  · rw [hfs, cell_ne _ _ (by decide), cell_ne _ _ (by decide), cell_ne _ _ (by decide)]; exact h.c1
  · rw [hd, cell_ne _ _ (by decide), cell_ne _ _ (by decide)]; exact World.cell?_setCell_same _ _ _ h.c2
  · rw [hs, cell_ne _ _ (by decide), cell_ne _ _ (by decide), cell_ne _ _ (by decide)]; exact h.c3
  · rw [cell_ne _ _ (by decide)]; exact World.cell?_setCell_same _ _ _ ((cell_ne _ _ (by decide)).trans h.c4)
  · exact World.cell?_setCell_same _ _ _ (((cell_ne _ _ (by decide)).trans (cell_ne _ _ (by decide))).trans h.c5)
  · rw [hfs]
    exact h.row.kept hf.size (fun g hg => hf.block g (h.row.lt g hg) (h.rowG g hg).2)
set_option maxHeartbeats 1000000 in
set_option maxRecDepth 100000 in
theorem rcrash_is (h : RfAt w G q ao cap ko kc S F K) (hd : S.down = false) {G2 : Nat → Prop} {jo : Option Addr} {jc : Nat} {ks : List Int} (hks : ks.length ≤ 16777216) (hkeep : KeepAt w G2 jo ks) (hG2 : ∀ g, G2 g → g < w.heap.size) :
    Calls Tryz.prog 61 #[.pointer (some ⟨q, 0, none⟩), .slice jo ks.length jc] w fun e w' => e = .returned (.int .i64 0) ∧
      ∃ G' ao' cap', RfAt w' G' q ao' cap' none 0 (S.crash ks) 0 [] ∧ Tr q G G' w w' := by
  have H := Lib.hid h
  have HK := Lib.hid hkeep
  have HG := Lib.hid hG2
  have c1 := h.c1
  have c2 := h.c2
  rw [hd] at c2
  have hmany := h.ok.many
  have hrise := h.ok.rise
  have hql := h.under q h.own
  clear h hkeep hG2
  go_enter Tryz.func61, Tryz.ntmps61
  go_wp2_with (at_builtin; refine wpList_append_rw rfl (.const (.slice none 0 0)) (.tmp 15) _ _ rfl rfl rfl (append_newF S.fs (src_files H.out.row) (by omega) _) (fun a1 k1 w1 hR => ?_); obtain ⟨hr1, hx1, hn1⟩ := hR; have Hr1 := Lib.hid hr1; have Hx1 := Lib.hid hx1; have Hn1 := Lib.hid hn1; clear hr1 hx1 hn1)
  go_loopw [6] (fun i wr => ∃ k : Nat, k ≤ S.fs.length ∧ i = .int .i64 k ∧ Rw wr 3 a1 S.fs.length k1 (Fc (cutTo ks k S.fs)) ∧ Fr (fun j => ob a1 = some j) w1 wr) (fun i _ => S.fs.length - (intOf i).toNat)
  case atStart =>
    refine ⟨0, by omega, rfl, ?_, Fr.refl _ _⟩
    rw [cutTo_zero]
    exact Hr1.out
  case round =>
    obtain ⟨k, hkl, rfl, hrow, hfr⟩ := hrel
    have HRow := Lib.hid hrow
    have HFr := Lib.hid hfr
    by_cases hlt : k < S.fs.length
    · obtain ⟨g, rfl, hg, hx2, hx3⟩ := hrow.row (by omega)
      have hgn := Hn1.out g rfl
      have hkc : k < (cutTo ks k S.fs).length := by rw [cutTo_length]; exact hlt
      obtain ⟨f, hf⟩ : ∃ f, S.fs[k] = f := ⟨_, rfl⟩
      have he : (cutTo ks k S.fs)[k] = f := by
        have := cutTo_at ks k S.fs
        rw [List.getElem?_eq_getElem hkc, List.getElem?_eq_getElem hlt, hf] at this
        exact Option.some.inj this
      have hfm : f ∈ S.fs := by rw [← hf]; exact List.getElem_mem _
      have b1 := hx2 (k * 3 + 1) (by omega)
      have b2 := hx2 (k * 3 + 2) (by omega)
      have g1 := hx3 (k * 3 + 1) (by omega)
      have g2 := hx3 (k * 3 + 2) (by omega)
      rw [Fc_get _ _ _ hkc (by omega), he] at b1 b2
      simp only [Fc1, List.getElem?_cons_zero, List.getElem?_cons_succ] at b1 b2
      have hs := H.out.ok.sure f hfm
      have hbl : (f.b.length : Int) ≤ 1048576 := by
        have h4 := H.out.ok.cap1
        have h5 := tot_mem hfm
        have h6 := H.out.ok.tot
        omega
      have hcl := cut_length (ks.getD k 0) f hs
      have hcl2 := (cut_s (ks.getD k 0) f hs)
      obtain ⟨L, hL⟩ : ∃ L, (cut (ks.getD k 0) f).b.length = L := ⟨_, rfl⟩
      have hbt : (cut (ks.getD k 0) f).b = f.b.take L := by
        rw [← hL]; unfold cut; simp only [List.length_take]; rw [List.take_eq_take_iff]; omega
      have hst : (cut (ks.getD k 0) f).s = L := by rw [← hL]; exact hcl2.1
      rw [hL] at hcl hcl2
      have hLb : L ≤ f.b.length := hcl2.2
      have hLi : (L : Int) ≤ (f.b.length : Int) := by omega
      have hend := cutTo_set (ks := ks) hrise hlt
      rw [hf] at hend
      have HE := Lib.hid hend
      have HB := Lib.hid hbt
      have HS := Lib.hid hst
      have Hn := Lib.hid (show ∀ kv, (cut kv f).n = (cutTo ks k S.fs)[k].n from fun kv => by rw [he]; rfl)
      clear hx2 hx3 hrow hfr hend hbt hst hL hcl2 hfm he
      by_cases hkk : k < ks.length
      · obtain ⟨g2', o, hjo, hGg, hcs⟩ : ∃ g2' o, jo = some ⟨g2', o, none⟩ ∧ G2 g2' ∧ ∀ j (h : j < ks.length), w.cell? ⟨g2', o + j, none⟩ = some (.int .i64 ks[j]) := by
          rcases HK.out with h0 | h0
          · rw [h0] at hkk; exact absurd hkk (by simp)
          · exact h0
        subst hjo
        have hgl := HG.out _ hGg
        have hck := hcs k hkk
        rw [← Ext.cell Hx1.out (by exact hgl), ← HFr.out.cell (by exact Nat.lt_of_lt_of_le hgl Hx1.out.size) (fun e => by have e2 : g = g2' := Option.some.inj e; omega)] at hck
        obtain ⟨kv, hkv⟩ : ∃ kv, ks[k] = kv := ⟨_, rfl⟩
        rw [hkv] at hck
        have e0 : ks.getD k 0 = kv := by rw [List.getD_eq_getElem?_getD, List.getElem?_eq_getElem hkk, hkv]; rfl
        rw [e0] at hcl HE HB HS
        clear hcs
        by_cases hpos : 0 < kv
        · have hw : IntKind.i64.wrap (↑f.s + min kv (↑f.b.length - ↑f.s)) = (L : Int) := by
            rw [show (f.s : Int) + min kv ((f.b.length : Int) - f.s) = L by omega]; exact IntWalk.i64_in _ ⟨by omega, by omega⟩
          clear hcl
          go_wp2
          go_region
          all_goals
            go_wp2
            go_region
            all_goals
              go_wp2
              have hr := rw_setD HRow.out hkc (cut kv f) (Hn.out kv)
              rw [HB.out, HS.out, HE.out] at hr
              have hfr2 : Fr (fun j => ob (some (⟨g, 0, none⟩ : Addr)) = some j) wr ((wr.setCell ⟨g, k * 3 + 1, none⟩ (.string (ofL (f.b.take L)))).setCell ⟨g, k * 3 + 2, none⟩ (.int .i64 (L : Nat))) := ((Fr.refl _ wr).setCell (p := ⟨g, k * 3 + 1, none⟩) (by intro _; rfl) _).setCell (p := ⟨g, k * 3 + 2, none⟩) (by intro _; rfl) _
              exact ⟨⟨k + 1, by omega, by go_num, hr.ext (Ext.refl _).drew.drew, HFr.out.trans (hfr2.drew.drew) (fun _ _ e => e)⟩, by simp [intOf]; omega⟩
        · obtain rfl : L = f.s := by omega
          clear hcl
          have hw : IntKind.i64.wrap (↑f.s) = (f.s : Int) := IntWalk.i64_in _ ⟨by omega, by omega⟩
          go_wp2
          go_region
          all_goals
            go_wp2
            have hr := rw_setD HRow.out hkc (cut kv f) (Hn.out kv)
            rw [HB.out, HS.out, HE.out] at hr
            have hfr2 : Fr (fun j => ob (some (⟨g, 0, none⟩ : Addr)) = some j) wr ((wr.setCell ⟨g, k * 3 + 1, none⟩ (.string (ofL (f.b.take f.s)))).setCell ⟨g, k * 3 + 2, none⟩ (.int .i64 (f.s : Nat))) := ((Fr.refl _ wr).setCell (p := ⟨g, k * 3 + 1, none⟩) (by intro _; rfl) _).setCell (p := ⟨g, k * 3 + 2, none⟩) (by intro _; rfl) _
            exact ⟨⟨k + 1, by omega, by go_num, hr.ext (Ext.refl _).drew, HFr.out.trans (hfr2.drew) (fun _ _ e => e)⟩, by simp [intOf]; omega⟩
      · have e0 : ks.getD k 0 = 0 := by rw [List.getD_eq_getElem?_getD, List.getElem?_eq_none (by omega)]; rfl
        rw [e0] at hcl HE HB HS
        obtain rfl : L = f.s := by omega
        clear hcl
        have hw : IntKind.i64.wrap (↑f.s) = (f.s : Int) := IntWalk.i64_in _ ⟨by omega, by omega⟩
        go_wp2
        go_region
        all_goals
          go_wp2
          have hr := rw_setD HRow.out hkc (cut 0 f) (Hn.out 0)
          rw [HB.out, HS.out, HE.out] at hr
          have hfr2 : Fr (fun j => ob (some (⟨g, 0, none⟩ : Addr)) = some j) wr ((wr.setCell ⟨g, k * 3 + 1, none⟩ (.string (ofL (f.b.take f.s)))).setCell ⟨g, k * 3 + 2, none⟩ (.int .i64 (f.s : Nat))) := ((Fr.refl _ wr).setCell (p := ⟨g, k * 3 + 1, none⟩) (by intro _; rfl) _).setCell (p := ⟨g, k * 3 + 2, none⟩) (by intro _; rfl) _
          exact ⟨⟨k + 1, by omega, by go_num, hr.ext (Ext.refl _).drew, HFr.out.trans (hfr2.drew) (fun _ _ e => e)⟩, by simp [intOf]; omega⟩
    · obtain rfl : k = S.fs.length := by omega
      rw [cutTo_full] at HRow
      have hxr : Ext w wr := Fr.grownFrom HFr.out Hx1.out (fun k hk => Hn1.out k hk)
      have HR := Lib.hid (H.out.ext hxr)
      have d1 := HR.out.c1
      have d2 := HR.out.c2
      have d4 := HR.out.c4
      have d5 := HR.out.c5
      have e1 := HR.out.fz 1 (by omega)
      have e2 := HR.out.fz 2 (by omega)
      have e4 := HR.out.fz 4 (by omega)
      have e5 := HR.out.fz 5 (by omega)
      clear hrow hfr
      go_wp2
      go_ret
      have hql2 := Nat.lt_of_lt_of_le hql hxr.size
      have hnq : ∀ g, ob a1 = some g → g ≠ q := fun g hg => by have := Hn1.out g hg; omega
      obtain ⟨G', hP, hT⟩ := H.out.put (F1 := wr.setCell ⟨q, 1, none⟩ (.slice a1 S.fs.length k1)) (n := S.fs.length) (L := cuts ks S.fs) hxr (cuts_length ks S.fs) (HRow.out.kept (by rw [setCell_size]; exact Nat.le_refl _) (fun g hg => setCell_other _ _ _ (hnq g hg))) (fun g hg => Hn1.out g hg) ((H.out.ok.crash ks).withDown S.down S.starts |>.withFail H.out.ok.fail)
        ((Fr.refl _ wr).setCell (p := ⟨q, 1, none⟩) (by intro _; exact .inr rfl) _) (World.cell?_setCell_same _ _ _ d1) (fun j hj => cell_ne _ _ hj) (fun j hj => (World.frozen?_setCell _ _ _ _).trans (HR.out.fz j hj))
      obtain ⟨hQ, hF⟩ := hP.downTo (H.out.ok.crash ks)
      exact ⟨rfl, G', _, _, hQ, hT.trans (Tr.same hF (fun k e => e ▸ hP.own))⟩
set_option maxRecDepth 100000 in
theorem rcrash_down (h : RfAt w G q ao cap ko kc S F K) (hd : S.down = true) (v : Value) :
    Calls Tryz.prog 61 #[.pointer (some ⟨q, 0, none⟩), v] w fun e w' => e = .returned (.int .i64 61) ∧ w = w' := by
  have c2 := h.c2
  rw [hd] at c2
  clear h hd
  go_enter Tryz.func61, Tryz.ntmps61
  go_wp2
  go_ret
  exact ⟨rfl, rfl⟩
set_option maxRecDepth 100000 in
theorem sunk_is (h : RfAt w G q ao cap ko kc S F K) (hd : S.down = false) :
    Calls Tryz.prog 27 #[.pointer (some ⟨q, 0, none⟩)] w fun e w' => e = .returned (.int .i64 61) ∧
      ∃ G' ao' cap', RfAt w' G' q ao' cap' none 0 (S.crash K) 0 [] ∧ Tr q G G' w w' := by
  have C := Lib.hid (rcrash_is (jc := kc) h hd h.few h.keep (fun g hg => h.under g hg.1))
  have c5 := h.c5
  clear h
  go_enter Tryz.func27, Tryz.ntmps27
  go_wp2_with (go_at_call 61; (with_reducible refine C.out.mono ?_); rintro e w1 ⟨rfl, hR⟩; have HR := Lib.hid hR; clear hR)
  go_ret
  exact ⟨rfl, HR.out⟩
/-- The document's new disk. -/
theorem rnew_at (w : World) {c : Int} (hc : 0 ≤ c ∧ c ≤ 1048576) (t : TypeId) : RfAt (w.alloc (.cells #[.int .i64 c, .slice none 0 0, .bool false, .int .i64 0, .int .i64 0, .slice none 0 0] t)) (fun k => k = w.heap.size) w.heap.size none 0 none 0 ⟨c, [], false, 0, none⟩ 0 [] := by
  have hb := heap_alloc_new w (.cells #[.int .i64 c, .slice none 0 0, .bool false, .int .i64 0, .int .i64 0, .slice none 0 0] t)
  have hcell : ∀ j, (w.alloc (.cells #[.int .i64 c, .slice none 0 0, .bool false, .int .i64 0, .int .i64 0, .slice none 0 0] t)).cell? ⟨w.heap.size, j, none⟩ = (#[.int .i64 c, .slice none 0 0, .bool false, .int .i64 0, .int .i64 0, .slice none 0 0] : Array Value)[j]? := fun j => by
    simp only [World.cell?, hb]; simp
  exact ⟨⟨hc.1, hc.2, List.Pairwise.nil, hc.1, fun f hf => (by cases hf), fun f hf => (by cases hf), Nat.zero_le _, fun l ks e => (by cases e)⟩, fun k hk => by simp; omega, rfl, hcell 0, hcell 1, hcell 2, hcell 3, hcell 4, hcell 5,
    fun j _ => by simp only [World.frozen?, hb]; simp, Rw.nil _ 3, fun g hg => (by cases hg), .inl rfl, Nat.zero_le _⟩
set_option maxRecDepth 100000 in
theorem rnew_yes (w : World) {c : Int} (hc : 0 ≤ c ∧ c ≤ 1048576) :
    Calls Tryz.prog 6 #[.int .i64 c] w fun e w' => e = .returned (.tuple #[.pointer (some ⟨w.heap.size, 0, none⟩), .int .i64 0]) ∧ RfAt w' (fun k => k = w.heap.size) w.heap.size none 0 none 0 ⟨c, [], false, 0, none⟩ 0 [] ∧ Ext w w' := by
  go_enter Tryz.func6, Tryz.ntmps6
  go_wp2
  all_goals
    go_ret2
    exact ⟨rfl, rnew_at w hc _, (Ext.refl w).alloc _⟩
set_option maxRecDepth 100000 in
theorem rnew_no (w : World) {c : Int} (hc : ¬ (0 ≤ c ∧ c ≤ 1048576)) :
    Calls Tryz.prog 6 #[.int .i64 c] w fun e w' => e = .returned (.tuple #[.pointer none, .int .i64 2]) ∧ w' = w := by
  go_enter Tryz.func6, Tryz.ntmps6
  go_wp2
  all_goals
    go_ret2
    exact ⟨rfl, rfl⟩
end Go.Proofs.YtajclcbclbppiaaGreat
