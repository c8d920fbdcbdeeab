/-
  The walks of the document's disk: with, Crash, sunk, Fail, New.
-/
import Derived.Test.YtfcjjdmfnkiacaaDskRg
import Derived.Deep.RegionLaw
namespace Go.Proofs.Ytfcjjdmfnkiacaa
open Go.RowKit Go.Maps Go.Dk Go.Shelf
variable {w w' : World} {G G' : Nat → Prop} {q : Nat} {ao : Option Addr} {cap : Nat} {ko : Option Addr} {kc : Nat} {S S' : St} {F : Int} {K : List Int}
theorem infoFile : (Try.prog.info? 75).map (fun i => (i.zero, i.size, i.bytes)) = some (some (.agg #[.int .i64 0, .string ByteArray.empty, .int .i64 0]), 3, 32) := by kernel_rfl
/-- append of files. -/
theorem append_files {w : World} {ao : Option Addr} {n cap : Nat} {L : List Fl} (h : Rw w 3 ao n cap (Fc L)) {x : Value} {m : Nat} (N : List Fl) (hs : Src Try.prog 3 50 x m (Fc N) w) (hl : n + m ≤ 16777216) (ty : TypeId) :
    ∃ ao' cap' w', (Builtin.append_ #[50, 50] ty #[.slice ao n cap, x]).run Try.prog w = .ok (.slice ao' (n + m) cap') w' ∧
      (Rw w' 3 ao' (n + m) cap' (Fc (L ++ N)) ∧ Fr (fun k => ob ao = some k) w w' ∧ (ao' = ao ∨ ∃ g, ao' = some ⟨g, 0, none⟩ ∧ w.heap.size ≤ g)) := by
  obtain ⟨ti, hti, hz, hsz, hby⟩ := info_parts infoFile
  obtain ⟨ao', cap', w', h1, h2, h3⟩ := h.append 50 50 ty 75 ti _ 32 Try.underlying50 hti hz hsz hby rfl x m _ hs (by unfold maxLen; omega) (by omega)
  refine ⟨ao', cap', w', h1, ?_, h3⟩
  rw [Fc_append]
  exact h2
/-- append onto nil: a row that is new. -/
theorem append_newF {w : World} {x : Value} {m : Nat} (N : List Fl) (hs : Src Try.prog 3 50 x m (Fc N) w) (hl : m ≤ 16777216) (ty : TypeId) :
    ∃ ao' cap' w', (Builtin.append_ #[50, 50] ty #[.slice none 0 0, x]).run Try.prog w = .ok (.slice ao' m cap') w' ∧
      (Rw w' 3 ao' m cap' (Fc N) ∧ Ext w w' ∧ ∀ g, ob ao' = some g → w.heap.size ≤ g) := by
  obtain ⟨ao', cap', w', h1, h2, h3, h4⟩ := append_files (n := 0) (L := []) (Rw.nil w 3) N hs (by omega) ty
  simp only [List.nil_append, Nat.zero_add] at h1 h2
  refine ⟨ao', cap', w', h1, h2, Fr.grownFrom h3 (Ext.refl w) (fun k hk => by cases hk), fun g hg => ?_⟩
  rcases h4 with rfl | ⟨k, rfl, hk⟩
  · cases hg
  · cases hg; exact hk
/-- A row of files, as what is appended. -/
theorem src_files {w : World} {ao : Option Addr} {n cap : Nat} {L : List Fl} (h : Rw w 3 ao n cap (Fc L)) : Src Try.prog 3 50 (.slice ao n cap) n (Fc L) w := by
  have hl := h.len
  rw [Fc_length] at hl
  rcases h.at_ with ⟨rfl, h0⟩ | ⟨g, rfl, hg, _, _⟩
  · have := h.le
    obtain rfl : n = 0 := by omega
    obtain rfl : L = [] := List.length_eq_zero_iff.1 (by omega)
    exact Src.ofNil w (e' := 75) Try.underlying50 cap
  · have := h.src (e' := 75) Try.underlying50 (Fc_one L) 0 n cap (by omega) (ad := ⟨g, 0, none⟩) (fun _ => by rw [Nat.zero_mul])
    simpa using this
/-- Numbers onto nil. -/
theorem append_newI {w : World} {ko : Option Addr} {kc m : Nat} {ks : List Int} (hm : ks.length = m) (hk : KeepAt w (fun g => g < w.heap.size) ko ks) (hko : ko = none → ks = []) (hl : m ≤ 16777216) (ty : TypeId) :
    ∃ ao' cap' w', (Builtin.append_ #[29, 29] ty #[.slice none 0 0, .slice ko m kc]).run Try.prog w = .ok (.slice ao' m cap') w' ∧
      (Rw w' 1 ao' m cap' (Nums ks) ∧ Ext w w' ∧ ∀ g, ob ao' = some g → w.heap.size ≤ g) := by
  subst hm
  have hs : Src Try.prog 1 29 (.slice ko ks.length kc) ks.length (Nums ks) w := by
    cases ko with
    | none =>
      obtain rfl := hko rfl
      exact Src.ofNil w (e' := 3) Try.underlying29 kc
    | some a => exact KeepAt.src hk
  obtain ⟨ao', cap', w', h1, h2, h3, h4⟩ := append_ints (n := 0) (L := []) (Rw.nil w 1) ks hs (by omega) ty
  simp only [List.nil_append, Nat.zero_add] at h1 h2
  refine ⟨ao', cap', w', h1, h2, Fr.grownFrom h3 (Ext.refl w) (fun k hk => by cases hk), fun g hg => ?_⟩
  rcases h4 with rfl | ⟨k, rfl, hk⟩
  · cases hg
  · cases hg; exact hk
theorem KeepAt.none_nil {G : Nat → Prop} {ks : List Int} (h : KeepAt w G none ks) : ks = [] := by
  rcases h with h | ⟨_, _, e, _⟩
  · exact h
  · cases e
/-- A file of a row is set. -/
theorem rw_setF {g n cap : Nat} {L : List Fl} (h : Rw w 3 (some ⟨g, 0, none⟩) n cap (Fc L)) {i : Nat} (hi : i < L.length) (f : Fl) :
    Rw (((w.setCell ⟨g, i * 3, none⟩ (.int .i64 f.n)).setCell ⟨g, i * 3 + 1, none⟩ (.string (ofL f.b))).setCell ⟨g, i * 3 + 2, none⟩ (.int .i64 f.s)) 3 (some ⟨g, 0, none⟩) n cap (Fc (L.set i f)) := by
  have hl := h.len
  rw [Fc_length] at hl
  rw [Fc_set f L i hi]
  exact ((h.set (i * 3) (by omega) _).set (i * 3 + 1) (by omega) _).set (i * 3 + 2) (by omega) _
theorem cell_oth (w : World) {q g i j : Nat} (u : Value) (h : g ≠ q) : (w.setCell ⟨g, i, none⟩ u).cell? ⟨q, j, none⟩ = w.cell? ⟨q, j, none⟩ := World.cell?_of_block (a := ⟨q, j, none⟩) (setCell_other _ _ _ (fun e => h e.symm))
/-- A list that is new takes the place of the old one. -/
theorem RfAt.put (h : RfAt w G q ao cap ko kc S F K) {W F1 : World} (hx : Ext w W) {ao' : Option Addr} {n cap' : Nat} {L : List Fl} (hn : L.length = n) (hr : Rw F1 3 ao' n cap' (Fc L)) (hnew : ∀ g, ob ao' = some g → w.heap.size ≤ g) (hok : Ok { S with fs := L })
    (hF1 : Fr (fun k => ob ao' = some k ∨ k = q) W F1) (c1 : F1.cell? ⟨q, 1, none⟩ = some (.slice ao' n cap')) (co : ∀ j, j ≠ 1 → F1.cell? ⟨q, j, none⟩ = W.cell? ⟨q, j, none⟩) (fz : ∀ j, j < 6 → F1.frozen? ⟨q, j, none⟩ = false) :
    ∃ G', RfAt F1 G' q ao' cap' ko kc { S with fs := L } F K ∧ Tn G G' w F1 := by
  subst hn
  have H := h.ext hx
  have hql := h.under q h.own
  refine ⟨fun k => G k ∨ ob ao' = some k, ⟨hok, fun k hk => ?_, .inl h.own, (co 0 (by decide)).trans H.c0, c1, (co 2 (by decide)).trans H.c2, (co 3 (by decide)).trans H.c3, (co 4 (by decide)).trans H.c4, (co 5 (by decide)).trans H.c5, fz, hr, fun g hg => ⟨.inr hg, fun e => by have := hnew g hg; omega⟩, ?_, h.few⟩, ⟨?_, fun k hk => hk.imp id (hnew k)⟩⟩
  · rcases hk with hk | hk
    · exact Nat.lt_of_lt_of_le (h.under k hk) (Nat.le_trans hx.size hF1.size)
    · exact hr.lt k hk
  · rcases H.keep.kept (w' := F1) (fun g hg => hF1.block g (H.under g hg.1) (fun e => e.elim (fun e => by have := hnew g e; have := h.under g hg.1; omega) hg.2)) with h | ⟨g, o, e, hg, hc⟩
    · exact .inl h
    · exact .inr ⟨g, o, e, ⟨.inl hg.1, hg.2⟩, hc⟩
  · exact (Fr.of_ext hx : Fr G w W).trans hF1 (fun k hk e => e.elim (fun e => absurd (hnew k e) (by omega)) (fun e => e ▸ h.own))
set_option maxHeartbeats 1000000 in
set_option maxRecDepth 100000 in
theorem with_is (h : RfAt w G q ao cap ko kc S F K) {i : Nat} (hi : i < S.fs.length) (f : Fl) (hok : Ok { S with fs := S.fs.set i f }) :
    Calls Try.prog 58 #[.pointer (some ⟨q, 0, none⟩), .int .i64 i, .agg #[.int .i64 f.n, .string (ofL f.b), .int .i64 f.s]] w fun e w' => e = .returned (.tuple #[]) ∧
      ∃ G' ao' cap', RfAt w' G' q ao' cap' ko kc { S with fs := S.fs.set i f } F K ∧ Tn G G' w w' := by
  have H := Lib.hid h
  have c1 := h.c1
  have f1 := h.fz 1 (by omega)
  have hmany := h.ok.many
  have hql := h.under q h.own
  clear h
  go_enter Try.func58, Try.ntmps58
  go_wp2_with (at_builtin; refine wpList_append_rw rfl (.const (.slice none 0 0)) (.tmp 10) _ _ rfl rfl rfl (append_newF S.fs (src_files (H.out.row.ext ((Ext.refl _).alloc _))) (by omega) _) (fun a1 k1 w2 hR => ?_); obtain ⟨hr1, hx1, hn1⟩ := hR; have Hr1 := Lib.hid hr1; have Hx1 := Lib.hid hx1; have Hn1 := Lib.hid hn1; have d1 := (H.out.ext (((Ext.refl w).alloc _).trans hx1)).c1; have e1 := (H.out.ext (((Ext.refl w).alloc _).trans hx1)).fz 1 (by omega); clear hr1 hx1 hn1)
  obtain ⟨g, rfl, hg, hx2, hx3⟩ := Hr1.out.row (by omega)
  have hgn := Hn1.out g rfl
  rw [World.size_alloc] at hgn
  have hgq : g ≠ q := by omega
  have hgb : g ≠ w.heap.size := by omega
  have hqb : q ≠ w.heap.size := by omega
  have b0 := hx2 (i * 3) (by omega)
  have b1 := hx2 (i * 3 + 1) (by omega)
  have b2 := hx2 (i * 3 + 2) (by omega)
  have g0 := hx3 (i * 3) (by omega)
  have g1 := hx3 (i * 3 + 1) (by omega)
  have g2 := hx3 (i * 3 + 2) (by omega)
  rw [show i * 3 = i * 3 + 0 by omega, Fc_get _ _ _ hi (by omega)] at b0
  rw [Fc_get _ _ _ hi (by omega)] at b1 b2
  simp only [Fc1, List.getElem?_cons_zero, List.getElem?_cons_succ, Nat.add_zero] at b0 b1 b2
  have hbx : ∀ o, w2.cell? ⟨w.heap.size, o, none⟩ = (#[.int .i64 f.n, .string (ofL f.b), .int .i64 f.s] : Array Value)[o]? := fun o => ((Fr.of_ext (F := fun _ => False) Hx1.out).cells (heap_alloc_new w _) (fun h => h)).1 o
  have k0 := hbx 0
  have k1' := hbx 1
  have k2 := hbx 2
  simp at k0 k1' k2
  clear hx2 hx3 hbx
  go_region
  all_goals
    go_wp2
    go_end0
    have hr := rw_setF (Hr1.out.kept (w' := w2.setCell ⟨q, 1, none⟩ (.slice (some ⟨g, 0, none⟩) S.fs.length k1)) (by rw [setCell_size]; exact Nat.le_refl _) (fun k hk => setCell_other w2 ⟨q, 1, none⟩ _ (fun e => hgq ((Option.some.inj hk).trans e)))) hi f
    have hfr : Fr (fun k => ob (some (⟨g, 0, none⟩ : Addr)) = some k ∨ k = q) w2 ((((w2.setCell ⟨q, 1, none⟩ (.slice (some ⟨g, 0, none⟩) S.fs.length k1)).setCell ⟨g, i * 3, none⟩ (.int .i64 f.n)).setCell ⟨g, i * 3 + 1, none⟩ (.string (ofL f.b))).setCell ⟨g, i * 3 + 2, none⟩ (.int .i64 f.s)) :=
      (((Fr.refl _ w2).setCell (p := ⟨q, 1, none⟩) (by intro _; exact .inr rfl) _).setCell (p := ⟨g, i * 3, none⟩) (by intro _; exact .inl rfl) _).setCell (p := ⟨g, i * 3 + 1, none⟩) (by intro _; exact .inl rfl) _ |>.setCell (p := ⟨g, i * 3 + 2, none⟩) (by intro _; exact .inl rfl) _
    obtain ⟨G', hR, hT⟩ := H.out.put (n := S.fs.length) (L := S.fs.set i f) (((Ext.refl w).alloc _).trans Hx1.out) (List.length_set) hr (fun k hk => by have e : g = k := Option.some.inj hk; omega) hok hfr
      (by rw [cell_oth _ _ hgq, cell_oth _ _ hgq, cell_oth _ _ hgq]; exact World.cell?_setCell_same _ _ _ d1) (fun j hj => by rw [cell_oth _ _ hgq, cell_oth _ _ hgq, cell_oth _ _ hgq, cell_ne _ _ hj])
      (fun j hj => by rw [World.frozen?_setCell, World.frozen?_setCell, World.frozen?_setCell, World.frozen?_setCell]; exact (H.out.ext (((Ext.refl w).alloc _).trans Hx1.out)).fz j hj)
    exact ⟨rfl, G', _, _, hR.ext (Ext.refl _).drew, hT.drew⟩
end Go.Proofs.Ytfcjjdmfnkiacaa
