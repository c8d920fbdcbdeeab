/-
  The walks of what the changes do: the closures of Append, Delete and Create.
  The walks of what changes a disk: Create, Append, Sync, Truncate, Delete.
  A disk under one name ('Dp'): its blocks apart from O; of O nothing has turned since W. Its operations; the chapter's disk (filed).
-/
import Derived.Test.YtajclcbclbppiaaGreatZ09
import Derived.Deep.RegionLaw
import Derived.Deep.RegionHeld3
section
namespace Go.Proofs.YtajclcbclbppiaaGreat
open Go.RowKit Go.Maps Go.Dk Go.Shelf
variable {w w' : World} {β : Roles} {p : Nat} {S S' S1 : St}
theorem append_str {w : World} {ao : Option Addr} {n cap : Nat} {l : List UInt8} (h : Rw w 1 ao n cap (U8 l)) (s : List UInt8) (hl : n + s.length ≤ 16777216) (ty : TypeId) :
    ∃ ao' cap' w', (Builtin.append_ #[51, 9] ty #[.slice ao n cap, .string (ofL s)]).run Tryz.prog w = .ok (.slice ao' (n + s.length) cap') w' ∧
      (Rw w' 1 ao' (n + s.length) cap' (U8 (l ++ s)) ∧ Fr (fun k => ob ao = some k) w w' ∧ (ao' = ao ∨ ∃ g, ao' = some ⟨g, 0, none⟩ ∧ w.heap.size ≤ g)) := by
  obtain ⟨ti, hti, hz, hsz, hby⟩ := info_parts infoU8
  obtain ⟨ao', cap', w', h1, h2, h3⟩ := h.append 51 9 ty 5 ti _ 1 Tryz.underlying51 hti hz hsz hby rfl (.string (ofL s)) s.length (U8 s) (Src.ofString w Tryz.underlying9 (ofL s)) (by unfold maxLen; omega) (by omega)
  rw [← U8_append] at h2
  exact ⟨ao', cap', w', h1, h2, h3⟩
theorem Fr.of_drew {F : Nat → Prop} {w w' : World} (h : Fr F w.drew w') : Fr F w w' := ⟨h.os, h.tape, h.output, h.size, h.block⟩
theorem Fr.of_turned {w w' : World} {b : Nat} (h : w.mapTurned w' b) : Fr (fun k => k = b) w w' := ⟨h.grown.os, h.grown.tape, h.grown.output, h.grown.size, fun k hk hn => h.grown.block k hk (fun e => hn (Option.some.inj e))⟩
theorem DiskAt.appendTo (h : DiskAt w β p S) {f : Fl} (hf : f ∈ S.fs) {fb cap : Nat} {ao : Option Addr} (k1 : β (4, f.n) = some fb) (k2 : ∀ g, ob ao = some g → β (5, f.n) = some g) (k3 : FileAt w fb ao cap f) {s : List UInt8} (hs : (tot S.fs : Int) + s.length ≤ S.cap)
    {w2 : World} {ao2 : Option Addr} {c2 : Nat} (hr1 : Rw w2 1 ao2 (f.b.length + s.length) c2 (U8 (f.b ++ s))) (hr2 : Fr (fun k => ob ao = some k) w w2) (hr3 : ao2 = ao ∨ ∃ g, ao2 = some ⟨g, 0, none⟩ ∧ w.heap.size ≤ g) {F : World} (hfr : Fr (fun k => k = fb) w2 F)
    (hF : F.heap = (w2.setCell ⟨fb, 0, none⟩ (Value.slice ao2 (f.b.length + s.length) c2)).heap) : ∃ β', DiskAt F β' p { S with fs := upd ⟨f.n, f.b ++ s, f.s⟩ S.fs } ∧ Tn (Bl β) (Bl β') w F := by
  have hl : (f.b ++ s).length = f.b.length + s.length := List.length_append
  have hok : Ok { S with fs := upd ⟨f.n, f.b ++ s, f.s⟩ S.fs } := h.ok.upd hf rfl (by have := h.ok.sure f hf; show f.s ≤ (f.b ++ s).length; omega) (by show (tot S.fs : Int) + ((f.b ++ s).length : Int) ≤ _; omega)
  have hfl := h.lt _ _ k1
  have hfne : ¬ ob ao = some fb := fun e => by have := h.inj _ _ _ (k2 fb e) k1; simp at this
  have hne : ∀ g, ob ao2 = some g → g ≠ fb := fun g hg e => by
    subst e
    rcases hr3 with rfl | ⟨j, rfl, hj⟩
    · exact hfne hg
    · have : j = g := by simpa [ob] using hg
      omega
  have hA : FileAt F fb ao2 c2 ⟨f.n, f.b ++ s, f.s⟩ := by
    refine FileAt.kept (w := w2.setCell ⟨fb, 0, none⟩ (.slice ao2 (f.b.length + s.length) c2)) ⟨?_, ?_, ?_, ?_, ?_⟩ (by rw [hF]; exact Nat.le_refl _) (by rw [hF]) (fun _ _ => by rw [hF])
    · show _ = some (Value.slice ao2 (f.b ++ s).length c2)
      rw [hl]
      exact World.cell?_setCell_same _ _ _ ((hr2.cell (p := ⟨fb, 0, none⟩) hfl hfne).trans k3.c0)
    · exact (World.cell?_setCell_other _ _ _ _ (by simp)).trans ((hr2.cell (p := ⟨fb, 1, none⟩) hfl hfne).trans k3.c1)
    · rw [World.frozen?_setCell]; exact (hr2.frozen (p := ⟨fb, 0, none⟩) hfl hfne).trans k3.f0
    · rw [World.frozen?_setCell]; exact (hr2.frozen (p := ⟨fb, 1, none⟩) hfl hfne).trans k3.f1
    · show Rw _ 1 ao2 (f.b ++ s).length c2 (U8 (f.b ++ s))
      rw [hl]
      exact hr1.kept (by rw [setCell_size]; exact Nat.le_refl _) (fun g hg => setCell_other _ _ _ (hne g hg))
  obtain ⟨β', hD, hT, _⟩ := h.turnFile (f' := ⟨f.n, f.b ++ s, f.s⟩) (f := f) rfl k1 ((hr2.mono (fun k _ e => .inr (k2 k e))).trans hfr (fun _ _ e => .inl e)) (fun g hg => by
    rcases hr3 with rfl | ⟨j, rfl, hj⟩
    · exact .inl (k2 g hg)
    · have : j = g := by simpa [ob] using hg
      exact .inr (by omega)) hA hok
  exact ⟨β', hD, hT⟩
section
variable {P : Program} {ops : Array Oper} {o : Oper} {a : Act} {K : Act → World → Prop} {Q : Exit → Act → World → Prop} {E : Prop}
/-- delete as one step of a region that draws. -/
theorem step_delete {w : World} (hg : o.guard = none) (m x : Operand) (t k : TypeId) (hop : o.op = Op.call { callee := Callee.builtin Builtin.delete, args := #[m, x], argTypes := #[t, k] })
    {v u : Value} (hv : a.eval m = v) (hu : a.eval x = u) {R : World → Prop}
    (H : ∃ w', (Builtin.delete_ #[t, k] o.type #[v, u]).run P w = .ok (.tuple #[]) w' ∧ R w')
    (hK : ∀ w', R w' → K (a.put o.dst (.tuple #[])) w') :
    if Region.wanted o (yielded ops a.tmps) = true then Oper.wp P o a w K Q else E := by
  have hw : Region.wanted o (yielded ops a.tmps) = true := by simp [Region.wanted, hg]
  rw [if_pos hw]
  obtain ⟨w', hrun, hR⟩ := H
  unfold Oper.wp
  simp [execOp, hop, resolve, invoke, builtin, hv, hu, hrun, Result.andThen]
  exact hK _ hR
end
set_option maxHeartbeats 1000000 in
set_option maxRecDepth 100000 in
theorem append1_is (h : DiskAt w β p S) {f : Fl} (hf : f ∈ S.fs) {fb b c : Nat} (hfb : β (4, f.n) = some fb) (hb : w.cell? ⟨b, 0, none⟩ = some (.pointer (some ⟨fb, 0, none⟩))) (hbl0 : b < w.heap.size) (hbn : ¬ Bl β b) {s : List UInt8} (hc : w.cell? ⟨c, 0, none⟩ = some (.string (ofL s))) (hcn : ¬ Bl β c) (hs : (tot S.fs : Int) + s.length ≤ S.cap) :
    Calls Tryz.prog 29 #[.pointer (some ⟨b, 0, none⟩), .pointer (some ⟨c, 0, none⟩)] w fun e w' => e = .returned (.tuple #[]) ∧ ∃ β', DiskAt w' β' p { S with fs := upd ⟨f.n, f.b ++ s, f.s⟩ S.fs } ∧ Tn (Bl β) (Bl β') w w' := by
  obtain ⟨fb', ao, cap, k1, k2, k3⟩ := h.file f hf
  obtain rfl : fb' = fb := Option.some.inj (k1.symm.trans hfb)
  have hne : b ≠ fb' := fun e => hbn ⟨_, e ▸ k1⟩
  have hne2 : c ≠ fb' := fun e => hcn ⟨_, e ▸ k1⟩
  have b0 := k3.c0
  have bf0 := k3.f0
  have H := Lib.hid h
  have K3 := Lib.hid k3
  have hbl : (f.b.length : Int) + s.length ≤ 1048576 := by have := h.ok.cap1; have := tot_mem hf; omega
  have HX := Lib.hid (fun w2 (hr : Fr (fun k => ob ao = some k) w w2) => (show w2.cell? ⟨b, 0, none⟩ = some (.pointer (some ⟨fb', 0, none⟩)) ∧ w2.cell? ⟨fb', 0, none⟩ = some (.slice ao f.b.length cap) ∧ w2.frozen? ⟨fb', 0, none⟩ = false from
    have hfl := h.lt _ _ k1
    have hfne : ¬ ob ao = some fb' := fun e => by have := h.inj _ _ _ (k2 fb' e) k1; simp at this
    ⟨(hr.cell (p := ⟨b, 0, none⟩) hbl0 (fun e => hbn ⟨_, k2 b e⟩)).trans hb, (hr.cell (p := ⟨fb', 0, none⟩) hfl hfne).trans b0, (hr.frozen (p := ⟨fb', 0, none⟩) hfl hfne).trans bf0⟩))
  clear h k3 hbn hcn
  go_enter Tryz.func29, Tryz.ntmps29
  go_wp2
  go_region_law (refine step_append_rw rfl (.tmp 6) (.tmp 7) _ _ rfl rfl rfl (append_str (K3.out.row.ext (by repeat (first | exact Ext.refl _ | apply Ext.alloc | apply Ext.drew))) _ (by omega) _) (fun ao2 c2 w2 hR => ?_); obtain ⟨hr1, hr2, hr3⟩ := hR; have hr2 := Fr.of_drew hr2; obtain ⟨e1, e2, e3⟩ := HX.out w2 hr2)
  all_goals
    go_wp2
    go_end0
    have hfr : Fr (fun k => k = fb') w2 (w2.setCell ⟨fb', 0, none⟩ (.slice ao2 (f.b.length + s.length) c2)) := (Fr.refl _ w2).setCell (p := ⟨fb', 0, none⟩) (by intro _; rfl) _
    exact ⟨rfl, H.out.appendTo hf k1 k2 K3.out hs hr1 hr2 hr3 hfr rfl⟩
set_option maxHeartbeats 1000000 in
set_option maxRecDepth 100000 in
theorem delete1_is (h : DiskAt w β p S) {n : Int} (hn : (Lit.int .i64 n).wf = true) {b c : Nat} (hb : w.cell? ⟨b, 0, none⟩ = some (.pointer (some ⟨p, 0, none⟩))) (hc : w.cell? ⟨c, 0, none⟩ = some (.int .i64 n)) :
    Calls Tryz.prog 79 #[.pointer (some ⟨b, 0, none⟩), .pointer (some ⟨c, 0, none⟩)] w fun e w' => e = .returned (.tuple #[]) ∧ ∃ β', DiskAt w' β' p { S with fs := del n S.fs } ∧ Tn (Bl β) (Bl β') w w' := by
  obtain ⟨m, fp, hm, h2, hown, _⟩ := h.head
  have c0 := h2.c0
  have H := Lib.hid h
  have HO := Lib.hid hown
  clear h h2 hown
  go_enter Tryz.func79, Tryz.ntmps79
  go_wp2
  go_region_law (refine step_delete rfl (.tmp 5) (.tmp 6) _ _ rfl rfl rfl (World.ownsMap.drop (w := w.drew) HO.out keyedInt Tryz.underlying52 (keyInt hn) _) (fun w2 hR => ?_); obtain ⟨hr1, hr2⟩ := hR)
  all_goals
    go_wp2
    go_end0
    have hfr := Fr.of_drew (Fr.of_turned hr2)
    obtain ⟨hD, hT⟩ := H.out.dropFile n (fun m' hm' => by obtain rfl : m' = m := Option.some.inj (hm'.symm.trans hm); exact ⟨_, hr1⟩) (hfr.mono (fun k _ e => by rw [e]; exact hm)) (H.out.ok.del n)
    exact ⟨rfl, β, hD, hT⟩
set_option maxHeartbeats 1000000 in
set_option maxRecDepth 100000 in
theorem create1_is (h : DiskAt w β p S) {n : Int} (hn : 0 ≤ n ∧ n ≤ 9223372036854775807) (hg : get S.fs n = none) (hl : S.fs.length < 100) {b c : Nat} (hb0 : b < w.heap.size) (hc0 : c < w.heap.size) (hb : w.cell? ⟨b, 0, none⟩ = some (.pointer (some ⟨p, 0, none⟩))) (hc : w.cell? ⟨c, 0, none⟩ = some (.int .i64 n)) :
    Calls Tryz.prog 24 #[.pointer (some ⟨b, 0, none⟩), .pointer (some ⟨c, 0, none⟩)] w fun e w' => e = .returned (.tuple #[]) ∧ ∃ β', DiskAt w' β' p { S with fs := ins ⟨n, [], 0⟩ S.fs } ∧ Tn (Bl β) (Bl β') w w' := by
  obtain ⟨m, fp, hm, h2, hown, _⟩ := h.head
  have c0 := h2.c0
  have H := Lib.hid h
  have HO := Lib.hid hown
  have hml := h.lt _ _ hm
  have hp0 := h2.lt
  have hmx : S.fs.length < maxLen := by unfold maxLen; omega
  have hwf : (Lit.int .i64 n).wf = true := by
    have e : IntKind.i64.min = -9223372036854775808 := rfl
    simp [Lit.wf, e]
    omega
  have hxW : Ext w (w.alloc (.cells #[.slice none 0 0, .int .i64 0] 65)).drew := ((Ext.refl w).alloc _).drew
  obtain ⟨w2, hrun, hr1, hr2⟩ := World.ownsMap.store (w := (w.alloc (.cells #[.slice none 0 0, .int .i64 0] 65)).drew) (ownsMap_block hown (Below.block hxW m hml)) keyedInt Tryz.underlying52 hmx (keyInt hwf) (val := .pointer (some ⟨w.heap.size, 0, none⟩)) (d := .lit (.int .i64 (w.heap.size : Nat))) (ps := []) rfl
  have Hr1 := Lib.hid hr1
  have Hr2 := Lib.hid hr2
  clear hr1 hr2 hxW
  clear h h2 hown
  go_enter Tryz.func24, Tryz.ntmps24
  go_wp2
  go_region
  all_goals
    go_wp2
    go_end0
    have hft := Fr.of_turned Hr2.out
    have hs0 : w.heap.size + 1 ≤ w2.heap.size := by have := hft.size; simpa using this
    have hblk : w2.heap[w.heap.size]? = some (.cells #[.slice none 0 0, .int .i64 0] 65) :=
      (hft.block w.heap.size (by show w.heap.size < (w.alloc _).heap.size; simp) (by omega)).trans (heap_alloc_new w (.cells #[.slice none 0 0, .int .i64 0] 65))
    have hfr : Fr (fun k => β (1, 0) = some k) w w2 := (Fr.of_ext (((Ext.refl w).alloc (.cells #[.slice none 0 0, .int .i64 0] 65)).drew) : Fr (fun k => β (1, 0) = some k) w _).trans hft (fun k _ e => by rw [e]; exact hm)
    obtain ⟨β', hD, hT⟩ := H.out.putFile (f := ⟨n, [], 0⟩) hg (fun m' hm' => by obtain rfl : m' = m := Option.some.inj (hm'.symm.trans hm); exact Hr1.out) hfr (by omega) ⟨by simp only [World.cell?, hblk]; rfl, by simp only [World.cell?, hblk]; rfl, by simp only [World.frozen?, hblk]; simp, by simp only [World.frozen?, hblk]; simp, Rw.nil w2 1⟩ (H.out.ok.ins n hn.1 hn.2 hg hl)
    exact ⟨rfl, β', hD, hT⟩
end Go.Proofs.YtajclcbclbppiaaGreat
end
section
namespace Go.Proofs.YtajclcbclbppiaaGreat
open Go.RowKit Go.Maps Go.Dk Go.Shelf
variable {w w' : World} {β : Roles} {p : Nat} {S S' S1 : St}
theorem new_not_bl (h : DiskAt w β p S) {k : Nat} (hk : w.heap.size ≤ k) : ¬ Bl β k := fun ⟨r, hr⟩ => by have := h.lt r k hr; omega
set_option maxHeartbeats 1000000 in
set_option maxRecDepth 100000 in
theorem sync_is (h : DiskAt w β p S) {n : Int} (hn : (Lit.int .i64 n).wf = true) :
    Calls Tryz.prog 51 #[.pointer (some ⟨p, 0, none⟩), .int .i64 n] w fun e w' => e = .returned (.int .i64 (Dk.sync S n).2) ∧ ∃ β', DiskAt w' β' p (Dk.sync S n).1 ∧ Tn (Bl β) (Bl β') w w' := by
  obtain ⟨v, e, hC, ht⟩ := get_at h hn
  have C := Lib.hid hC
  have H := Lib.hid h
  clear hC h hn
  rcases ht with ⟨hd, rfl, rfl⟩ | ⟨hd, hf, rfl, rfl⟩ | ⟨f, fb, ao, cap, hd, hf, hm, hfn, hfb, _, _, rfl, rfl⟩
  · rw [show Dk.sync S n = (S, 61) by simp [Dk.sync, hd]]
    clear hd
    go_enter Tryz.func51, Tryz.ntmps51
    go_wp2_with (go_at_call 22; (with_reducible refine C.out.mono ?_); rintro e w1 ⟨rfl, rfl⟩)
    go_ret
    exact ⟨rfl, β, H.out.ext ((Ext.refl w).alloc _), Tn.of_ext ((Ext.refl w).alloc _)⟩
  · rw [show Dk.sync S n = (S, 4) by simp [Dk.sync, hd, hf]]
    clear hd hf
    go_enter Tryz.func51, Tryz.ntmps51
    go_wp2_with (go_at_call 22; (with_reducible refine C.out.mono ?_); rintro e w1 ⟨rfl, rfl⟩)
    go_ret
    exact ⟨rfl, β, H.out.ext ((Ext.refl w).alloc _), Tn.of_ext ((Ext.refl w).alloc _)⟩
  · subst hfn
    rw [show Dk.sync S f.n = chg S { S with fs := upd ⟨f.n, f.b, f.b.length⟩ S.fs } false by simp [Dk.sync, hd, hf]]
    have hx := (Ext.refl w).alloc (.cells #[.pointer (some ⟨fb, 0, none⟩)] 60)
    have CH := Lib.hid (change_is (S1 := { S with fs := upd ⟨f.n, f.b, f.b.length⟩ S.fs }) (H.out.ext hx) hd rfl hd false (enters_of Tryz.func73 (by kernel_rfl) rfl) (sync1_is (H.out.ext hx) hm (b := w.heap.size) hfb (by simp) (new_not_bl H.out (Nat.le_refl _))))
    clear hd hf
    go_enter Tryz.func51, Tryz.ntmps51
    go_wp2_with (first | (go_at_call 22; (with_reducible refine C.out.mono ?_); rintro e w1 ⟨rfl, rfl⟩) | (go_at_call 23; (with_reducible refine CH.out.mono ?_); rintro e w2 ⟨rfl, β', hD, hT⟩; have HD := Lib.hid hD; have HT := Lib.hid hT; clear hD hT))
    go_ret
    exact ⟨rfl, β', HD.out, (Tn.of_ext hx).trans HT.out⟩
set_option maxHeartbeats 1000000 in
set_option maxRecDepth 100000 in
theorem truncate_is (h : DiskAt w β p S) {n : Int} (hn : (Lit.int .i64 n).wf = true) (size : Int) :
    Calls Tryz.prog 67 #[.pointer (some ⟨p, 0, none⟩), .int .i64 n, .int .i64 size] w fun e w' => e = .returned (.int .i64 (Dk.truncate S n size).2) ∧ ∃ β', DiskAt w' β' p (Dk.truncate S n size).1 ∧ Tn (Bl β) (Bl β') w w' := by
  have hx0 := (Ext.refl w).alloc (.cells #[.int .i64 size] 3)
  obtain ⟨v, e, hC, ht⟩ := get_at (h.ext hx0) hn
  have C := Lib.hid hC
  have H := Lib.hid h
  clear hC h hn
  rcases ht with ⟨hd, rfl, rfl⟩ | ⟨hd, hf, rfl, rfl⟩ | ⟨f, fb, ao, cap, hd, hf, hm, hfn, hfb, _, hF, rfl, rfl⟩
  · rw [show Dk.truncate S n size = (S, 61) by simp [Dk.truncate, hd]]
    clear hd hx0
    go_enter Tryz.func67, Tryz.ntmps67
    go_wp2_with (go_at_call 22; (with_reducible refine C.out.mono ?_); rintro e w1 ⟨rfl, rfl⟩)
    go_ret
    exact ⟨rfl, β, H.out.ext (((Ext.refl w).alloc _).alloc _), Tn.of_ext (((Ext.refl w).alloc _).alloc _)⟩
  · rw [show Dk.truncate S n size = (S, 4) by simp [Dk.truncate, hd, hf]]
    clear hd hf hx0
    go_enter Tryz.func67, Tryz.ntmps67
    go_wp2_with (go_at_call 22; (with_reducible refine C.out.mono ?_); rintro e w1 ⟨rfl, rfl⟩)
    go_ret
    exact ⟨rfl, β, H.out.ext (((Ext.refl w).alloc _).alloc _), Tn.of_ext (((Ext.refl w).alloc _).alloc _)⟩
  · subst hfn
    have hfl := (H.out.lt _ _ hfb)
    have b0 : w.cell? ⟨fb, 0, none⟩ = some (.slice ao f.b.length cap) := (hx0.cell (p := ⟨fb, 0, none⟩) hfl).symm.trans hF.c0
    clear hF
    by_cases hc : size < 0 ∨ (f.b.length : Int) < size
    · rw [show Dk.truncate S f.n size = (S, 2) by simp [Dk.truncate, hd, hf, hc]]
      clear hd hf hx0
      by_cases h0 : size < 0
      all_goals
        go_enter Tryz.func67, Tryz.ntmps67
        go_wp2_with (go_at_call 22; (with_reducible refine C.out.mono ?_); rintro e w1 ⟨rfl, rfl⟩)
        go_quiet (fail)
        all_goals
          go_wp2
          go_ret
          exact ⟨rfl, β, H.out.ext ((((Ext.refl w).alloc _).alloc _).drewN _), Tn.of_ext ((((Ext.refl w).alloc _).alloc _).drewN _)⟩
    · obtain ⟨z, rfl⟩ : ∃ z : Nat, size = z := ⟨size.toNat, by omega⟩
      rw [show Dk.truncate S f.n z = chg S { S with fs := upd ⟨f.n, f.b.take z, min f.s z⟩ S.fs } false by simp only [Dk.truncate, hd, hf, if_neg hc]; simp]
      have hz : z ≤ f.b.length := by omega
      have hx := hx0.alloc (.cells #[.pointer (some ⟨fb, 0, none⟩)] 60)
      have Hd := Lib.hid hd
      clear hf hc hd
      go_enter Tryz.func67, Tryz.ntmps67
      go_wp2_with (go_at_call 22; (with_reducible refine C.out.mono ?_); rintro e w1 ⟨rfl, rfl⟩)
      go_quiet (fail)
      all_goals
        have hxn := hx.drewN nq
        have CH := Lib.hid (change_is (S1 := { S with fs := upd ⟨f.n, f.b.take z, min f.s z⟩ S.fs }) (H.out.ext hxn) Hd.out rfl Hd.out false (enters_of Tryz.func84 (by kernel_rfl) rfl) (truncate1_is (b := w.heap.size + 1) (c := w.heap.size) (z := z) (H.out.ext hxn) hm hfb (by simp) (new_not_bl H.out (by omega)) (by simp) (new_not_bl H.out (by omega)) hz))
        go_wp2_with (go_at_call 23; (with_reducible refine CH.out.mono ?_); rintro e w2 ⟨rfl, β', hD, hT⟩; have HD := Lib.hid hD; have HT := Lib.hid hT; clear hD hT)
        go_ret
        exact ⟨rfl, β', HD.out, (Tn.of_ext hxn).trans HT.out⟩
set_option maxHeartbeats 1000000 in
set_option maxRecDepth 100000 in
theorem append_is (h : DiskAt w β p S) {n : Int} (hn : (Lit.int .i64 n).wf = true) (s : List UInt8) :
    Calls Tryz.prog 9 #[.pointer (some ⟨p, 0, none⟩), .int .i64 n, .string (ofL s)] w fun e w' => e = .returned (.int .i64 (Dk.append S n s).2) ∧ ∃ β', DiskAt w' β' p (Dk.append S n s).1 ∧ Tn (Bl β) (Bl β') w w' := by
  have hx0 := (Ext.refl w).alloc (.cells #[.string (ofL s)] 9)
  obtain ⟨v, e, hC, ht⟩ := get_at (h.ext hx0) hn
  have C := Lib.hid hC
  have H := Lib.hid h
  clear hC h hn
  rcases ht with ⟨hd, rfl, rfl⟩ | ⟨hd, hf, rfl, rfl⟩ | ⟨f, fb, ao, cap, hd, hf, hm, hfn, hfb, _, hF, rfl, rfl⟩
  · rw [show Dk.append S n s = (S, 61) by simp [Dk.append, hd]]
    clear hd hx0
    go_enter Tryz.func9, Tryz.ntmps9
    go_wp2_with (go_at_call 22; (with_reducible refine C.out.mono ?_); rintro e w1 ⟨rfl, rfl⟩)
    go_ret
    exact ⟨rfl, β, H.out.ext (((Ext.refl w).alloc _).alloc _), Tn.of_ext (((Ext.refl w).alloc _).alloc _)⟩
  · rw [show Dk.append S n s = (S, 4) by simp [Dk.append, hd, hf]]
    clear hd hf hx0
    go_enter Tryz.func9, Tryz.ntmps9
    go_wp2_with (go_at_call 22; (with_reducible refine C.out.mono ?_); rintro e w1 ⟨rfl, rfl⟩)
    go_ret
    exact ⟨rfl, β, H.out.ext (((Ext.refl w).alloc _).alloc _), Tn.of_ext (((Ext.refl w).alloc _).alloc _)⟩
  · subst hfn
    have hx := hx0.alloc (.cells #[.pointer (some ⟨fb, 0, none⟩)] 60)
    clear hF
    have hm2 := H.out.ok.tot
    have hm3 := H.out.ok.cap1
    have hm4 := H.out.ok.cap0
    have Hd := Lib.hid hd
    obtain ⟨W, hW⟩ : ∃ W, (w.alloc (.cells #[.string (ofL s)] 9)).alloc (.cells #[.pointer (some ⟨fb, 0, none⟩)] 60) = W := ⟨_, rfl⟩
    have hxW : Ext w W := hW ▸ hx
    have FR := Lib.hid (fun w' (hx' : Ext W w') => free_is (H.out.ext (hxW.trans hx')))
    have hb : ∀ w', Ext W w' → w'.cell? ⟨w.heap.size, 0, none⟩ = some (.string (ofL s)) := fun w' hx' => by
      rw [hx'.cell (p := ⟨w.heap.size, 0, none⟩) (by rw [← hW]; simp; omega), ← hW]; simp
    have hc : ∀ w', Ext W w' → w'.cell? ⟨w.heap.size + 1, 0, none⟩ = some (.pointer (some ⟨fb, 0, none⟩)) := fun w' hx' => by
      rw [hx'.cell (p := ⟨w.heap.size + 1, 0, none⟩) (by rw [← hW]; simp), ← hW]; simp
    have HB := Lib.hid hb
    have HC := Lib.hid hc
    have hsz : w.heap.size < W.heap.size := by rw [← hW]; simp; omega
    have HW := Lib.hid hW
    clear hb hc hx hx0 hW
    by_cases hfull : S.cap - tot S.fs < s.length
    · rw [show Dk.append S f.n s = (S, 60) by simp [Dk.append, hd, hf, hfull]]
      clear hd hf
      go_enter Tryz.func9, Tryz.ntmps9
      go_wp2_with (go_at_call 22; (with_reducible refine C.out.mono ?_); rintro e w1 ⟨rfl, rfl⟩)
      rw [HW.out]
      have hb := HB.out
      go_region_held3 (fun w' => Ext W w') (first | exact Ext.refl _ | exact (Ext.refl _).drew | assumption) (first | (go_at_call 28; (with_reducible refine (FR.out _ (Ext.refl _).drew).mono ?_); rintro e w2 ⟨rfl, hx2⟩; have hx3 := Ext.of_drew hx2))
      all_goals
        go_wp2
        go_ret
        have hxn := hxW.trans hx3
        exact ⟨rfl, β, H.out.ext hxn, Tn.of_ext hxn⟩
    · rw [show Dk.append S f.n s = chg S { S with fs := upd ⟨f.n, f.b ++ s, f.s⟩ S.fs } true by simp [Dk.append, hd, hf, hfull]]
      clear hd hf
      go_enter Tryz.func9, Tryz.ntmps9
      go_wp2_with (go_at_call 22; (with_reducible refine C.out.mono ?_); rintro e w1 ⟨rfl, rfl⟩)
      rw [HW.out]
      have hb := HB.out
      go_region_held3 (fun w' => Ext W w') (first | exact Ext.refl _ | exact (Ext.refl _).drew | assumption) (first | (go_at_call 28; (with_reducible refine (FR.out _ (Ext.refl _).drew).mono ?_); rintro e w2 ⟨rfl, hx2⟩; have hx3 := Ext.of_drew hx2))
      all_goals
        have hxn := hxW.trans hx3
        have CH := Lib.hid (change_is (S1 := { S with fs := upd ⟨f.n, f.b ++ s, f.s⟩ S.fs }) (H.out.ext hxn) Hd.out rfl Hd.out true (enters_of Tryz.func29 (by kernel_rfl) rfl) (append1_is (b := w.heap.size + 1) (c := w.heap.size) (s := s) (H.out.ext hxn) hm hfb (HC.out w2 hx3) (by have := hx3.size; rw [← HW.out] at this; simp at this; omega) (new_not_bl H.out (by omega)) (HB.out w2 hx3) (new_not_bl H.out (by omega)) (by omega)))
        go_wp2_with (go_at_call 23; (with_reducible refine CH.out.mono ?_); rintro e w3 ⟨rfl, β', hD, hT⟩; have HD := Lib.hid hD; have HT := Lib.hid hT; clear hD hT)
        go_ret
        exact ⟨rfl, β', HD.out, (Tn.of_ext hxn).trans HT.out⟩
set_option maxHeartbeats 1000000 in
set_option maxRecDepth 100000 in
theorem delete_is (h : DiskAt w β p S) {n : Int} (hn : (Lit.int .i64 n).wf = true) :
    Calls Tryz.prog 57 #[.pointer (some ⟨p, 0, none⟩), .int .i64 n] w fun e w' => e = .returned (.int .i64 (Dk.delete S n).2) ∧ ∃ β', DiskAt w' β' p (Dk.delete S n).1 ∧ Tn (Bl β) (Bl β') w w' := by
  have hx := ((Ext.refl w).alloc (.cells #[.pointer (some ⟨p, 0, none⟩)] 24)).alloc (.cells #[.int .i64 n] 3)
  obtain ⟨v, e, hC, ht⟩ := get_at (h.ext hx) hn
  have C := Lib.hid hC
  have H := Lib.hid h
  clear hC h
  rcases ht with ⟨hd, rfl, rfl⟩ | ⟨hd, hf, rfl, rfl⟩ | ⟨f, fb, ao, cap, hd, hf, hm, hfn, hfb, _, hF, rfl, rfl⟩
  · rw [show Dk.delete S n = (S, 61) by simp [Dk.delete, hd]]
    clear hd hx
    go_enter Tryz.func57, Tryz.ntmps57
    go_wp2_with (go_at_call 22; (with_reducible refine C.out.mono ?_); rintro e w1 ⟨rfl, rfl⟩)
    go_ret
    exact ⟨rfl, β, H.out.ext (((Ext.refl w).alloc _).alloc _), Tn.of_ext (((Ext.refl w).alloc _).alloc _)⟩
  · rw [show Dk.delete S n = (S, 4) by simp [Dk.delete, hd, hf]]
    clear hd hf hx
    go_enter Tryz.func57, Tryz.ntmps57
    go_wp2_with (go_at_call 22; (with_reducible refine C.out.mono ?_); rintro e w1 ⟨rfl, rfl⟩)
    go_ret
    exact ⟨rfl, β, H.out.ext (((Ext.refl w).alloc _).alloc _), Tn.of_ext (((Ext.refl w).alloc _).alloc _)⟩
  · rw [show Dk.delete S n = chg S { S with fs := del n S.fs } false by simp [Dk.delete, hd, hf]]
    have CH := Lib.hid (change_is (S1 := { S with fs := del n S.fs }) (H.out.ext hx) hd rfl hd false (enters_of Tryz.func79 (by kernel_rfl) rfl) (delete1_is (b := w.heap.size) (c := w.heap.size + 1) (H.out.ext hx) hn (by simp) (by simp)))
    clear hF hm hf hd
    go_enter Tryz.func57, Tryz.ntmps57
    go_wp2_with (first | (go_at_call 22; (with_reducible refine C.out.mono ?_); rintro e w1 ⟨rfl, rfl⟩) | (go_at_call 23; (with_reducible refine CH.out.mono ?_); rintro e w2 ⟨rfl, β', hD, hT⟩; have HD := Lib.hid hD; have HT := Lib.hid hT; clear hD hT))
    go_ret
    exact ⟨rfl, β', HD.out, (Tn.of_ext hx).trans HT.out⟩
set_option maxHeartbeats 1000000 in
set_option maxRecDepth 100000 in
theorem create_is (h : DiskAt w β p S) {n : Int} (hn : (Lit.int .i64 n).wf = true) :
    Calls Tryz.prog 7 #[.pointer (some ⟨p, 0, none⟩), .int .i64 n] w fun e w' => e = .returned (.int .i64 (Dk.create S n).2) ∧ ∃ β', DiskAt w' β' p (Dk.create S n).1 ∧ Tn (Bl β) (Bl β') w w' := by
  have hx := ((Ext.refl w).alloc (.cells #[.pointer (some ⟨p, 0, none⟩)] 24)).alloc (.cells #[.int .i64 n] 3)
  obtain ⟨v, e, hC, ht⟩ := get_at (h.ext hx) hn
  have C := Lib.hid hC
  have H := Lib.hid h
  have hn1 : n ≤ 9223372036854775807 := by
    have e : IntKind.i64.max = 9223372036854775807 := rfl
    simp [Lit.wf, e] at hn
    omega
  clear hC h hn
  rcases ht with ⟨hd, rfl, rfl⟩ | ⟨hd, hf, rfl, rfl⟩ | ⟨f, fb, ao, cap, hd, hf, hm, hfn, hfb, _, hF, rfl, rfl⟩
  · rw [show Dk.create S n = (S, 61) by simp [Dk.create, hd]]
    clear hd hx
    go_enter Tryz.func7, Tryz.ntmps7
    go_wp2_with (go_at_call 22; (with_reducible refine C.out.mono ?_); rintro e w1 ⟨rfl, rfl⟩)
    go_ret
    exact ⟨rfl, β, H.out.ext (((Ext.refl w).alloc _).alloc _), Tn.of_ext (((Ext.refl w).alloc _).alloc _)⟩
  · by_cases h0 : n < 0
    · rw [show Dk.create S n = (S, 2) by simp [Dk.create, hd, h0]]
      clear hd hx hf
      go_enter Tryz.func7, Tryz.ntmps7
      go_wp2_with (go_at_call 22; (with_reducible refine C.out.mono ?_); rintro e w1 ⟨rfl, rfl⟩)
      go_ret
      exact ⟨rfl, β, H.out.ext (((Ext.refl w).alloc _).alloc _), Tn.of_ext (((Ext.refl w).alloc _).alloc _)⟩
    · obtain ⟨m, fp, hmm, h2, hown, _⟩ := (H.out.ext hx).head
      have c0 := h2.c0
      have HO := Lib.hid hown
      clear h2 hown
      by_cases hl : 100 ≤ S.fs.length
      · rw [show Dk.create S n = (S, 60) by simp [Dk.create, hd, h0, hf, hl]]
        clear hd hx hf
        go_enter Tryz.func7, Tryz.ntmps7
        go_wp2_with (first | (go_at_call 22; (with_reducible refine C.out.mono ?_); rintro e w1 ⟨rfl, rfl⟩) | (at_len; refine wpList_len_own _ rfl _ 52 rfl 3 60 Tryz.underlying52 _ m _ _ rfl HO.out ?_; rw [dat_size]))
        go_ret
        exact ⟨rfl, β, H.out.ext (((Ext.refl w).alloc _).alloc _), Tn.of_ext (((Ext.refl w).alloc _).alloc _)⟩
      · rw [show Dk.create S n = chg S { S with fs := ins ⟨n, [], 0⟩ S.fs } false by simp [Dk.create, hd, h0, hf, hl]]
        have CH := Lib.hid (change_is (S1 := { S with fs := ins ⟨n, [], 0⟩ S.fs }) (H.out.ext hx) hd rfl hd false (enters_of Tryz.func24 (by kernel_rfl) rfl) (create1_is (b := w.heap.size) (c := w.heap.size + 1) (H.out.ext hx) ⟨by omega, hn1⟩ hf (by omega) (by simp; omega) (by simp) (by simp) (by simp)))
        clear hf hd
        go_enter Tryz.func7, Tryz.ntmps7
        go_wp2_with (first | (go_at_call 22; (with_reducible refine C.out.mono ?_); rintro e w1 ⟨rfl, rfl⟩) | (go_at_call 23; (with_reducible refine CH.out.mono ?_); rintro e w2 ⟨rfl, β', hD, hT⟩; have HD := Lib.hid hD; have HT := Lib.hid hT; clear hD hT) | (at_len; refine wpList_len_own _ rfl _ 52 rfl 3 60 Tryz.underlying52 _ m _ _ rfl HO.out ?_; rw [dat_size]))
        go_ret
        exact ⟨rfl, β', HD.out, (Tn.of_ext hx).trans HT.out⟩
  · have h0 : ¬ n < 0 := by have := H.out.ok.names f hm; omega
    rw [show Dk.create S n = (S, 62) by simp [Dk.create, hd, h0, hf]]
    clear hd hx hf hF hm
    go_enter Tryz.func7, Tryz.ntmps7
    go_wp2_with (go_at_call 22; (with_reducible refine C.out.mono ?_); rintro e w1 ⟨rfl, rfl⟩)
    go_ret
    exact ⟨rfl, β, H.out.ext (((Ext.refl w).alloc _).alloc _), Tn.of_ext (((Ext.refl w).alloc _).alloc _)⟩
end Go.Proofs.YtajclcbclbppiaaGreat
end
section
namespace Go.Proofs.YtajclcbclbppiaaGreat
open Go.RowKit Go.Maps Go.Dk Go.Shelf
def Dp (W : World) (O : Nat → Prop) (p : Nat) (S : St) (w : World) : Prop := ∃ β, DiskAt w β p S ∧ Fr (fun k => ¬ O k) W w ∧ Apart O (Bl β) ∧ Under O W
/-- All that there was. -/
def Old (w : World) : Nat → Prop := fun k => k < w.heap.size
theorem Old.under (w : World) : Under (Old w) w := fun _ h => h
theorem old_all {W w : World} (h : Fr (fun k => ¬ Old W k) W w) : Ext W w := Fr.ext (Ext.refl W) h (fun _ hk => Nat.le_of_not_lt hk)
variable {W w w' : World} {O : Nat → Prop} {β : Roles} {p : Nat} {S S' : St}
theorem Dp.fr (h : Dp W O p S w) : Fr (fun k => ¬ O k) W w := by obtain ⟨_, _, h, _⟩ := h; exact h
theorem Dp.all (h : Dp W (Old W) p S w) : Ext W w := old_all h.fr
theorem Dp.ok (h : Dp W O p S w) : Ok S := by obtain ⟨_, h, _⟩ := h; exact h.ok
theorem Dp.ext (h : Dp W O p S w) (hx : Ext w w') : Dp W O p S w' := by
  obtain ⟨β, h1, h2, h3, h4⟩ := h
  exact ⟨β, h1.ext hx, h2.trans (Fr.of_ext (F := fun _ => False) hx) (fun _ _ hf => hf.elim), h3, h4⟩
theorem Dp.turn (hx : Dp W O p S w) (h : ∀ β, DiskAt w β p S → ∃ β', DiskAt w' β' p S' ∧ Tn (Bl β) (Bl β') w w') : Dp W O p S' w' := by
  obtain ⟨β, h1, h2, h3, h4⟩ := hx
  obtain ⟨β', hD, hT⟩ := h β h1
  exact ⟨β', hD, h2.trans hT.fr (fun k _ hk ho => h3 k ho hk), (h3.symm.turn (h4.mono h2.size) hT).symm, h4⟩
/-- What lies in O can be added to. -/
theorem Dp.base (h : Dp W O p S w) {O' : Nat → Prop} (hO : Under O' w') (hx : Ext w w') (h' : ∀ k, O' k → O k ∨ w.heap.size ≤ k) : Dp w' O' p S w' := by
  obtain ⟨β, h1, _, h3, _⟩ := h
  exact ⟨β, h1.ext hx, Fr.refl _ _, fun k hk hb => (h' k hk).elim (fun ho => h3 k ho hb) (fun hs => by obtain ⟨r, hr⟩ := hb; have := h1.lt r k hr; omega), hO⟩
theorem k_new (w : World) (O : Nat → Prop) (hO : Under O w) {c : Int} (hc : 0 ≤ c ∧ c ≤ 1048576) :
    Calls Tryz.prog 5 #[.int .i64 c] w fun e w' => ∃ p, e = .returned (.tuple #[.pointer (some ⟨p, 0, none⟩), .int .i64 0]) ∧ Dp w O p ⟨c, [], false, 0, none⟩ w' ∧ w.heap.size ≤ p :=
  (new_yes w hc).mono fun _ _ ⟨h1, h2, h3⟩ => ⟨_, h1, ⟨_, h2, Fr.of_ext h3, fun k hk hb => by have := hO k hk; have := role0_new hb; omega, hO⟩, by omega⟩
section
variable {n e : Int}

theorem Dp.of {f : FuncId} {args : Array Value} (h : Dp W O p S w) {r : St × Int} (hc : ∀ β, DiskAt w β p S → Calls Tryz.prog f args w fun x w' => x = .returned (.int .i64 r.2) ∧ ∃ β', DiskAt w' β' p r.1 ∧ Tn (Bl β) (Bl β') w w') (hr : r = (S', e)) :
    Calls Tryz.prog f args w fun x w' => x = .returned (.int .i64 e) ∧ Dp W O p S' w' := by
  subst hr
  obtain ⟨β, h1, h2, h3, h4⟩ := h
  exact (hc β h1).mono fun _ _ ⟨hx, β', hD, hT⟩ => ⟨hx, β', hD, h2.trans hT.fr (fun k _ hk ho => h3 k ho hk), (h3.symm.turn (h4.mono h2.size) hT).symm, h4⟩
theorem k_create (h : Dp W O p S w) (hn : (Lit.int .i64 n).wf = true) (hr : Dk.create S n = (S', e)) :
    Calls Tryz.prog 7 #[.pointer (some ⟨p, 0, none⟩), .int .i64 n] w fun x w' => x = .returned (.int .i64 e) ∧ Dp W O p S' w' := h.of (fun _ h1 => create_is h1 hn) hr
theorem k_append (h : Dp W O p S w) (hn : (Lit.int .i64 n).wf = true) {s : List UInt8} (hr : Dk.append S n s = (S', e)) :
    Calls Tryz.prog 9 #[.pointer (some ⟨p, 0, none⟩), .int .i64 n, .string (ofL s)] w fun x w' => x = .returned (.int .i64 e) ∧ Dp W O p S' w' := h.of (fun _ h1 => append_is h1 hn s) hr
theorem k_sync (h : Dp W O p S w) (hn : (Lit.int .i64 n).wf = true) (hr : Dk.sync S n = (S', e)) :
    Calls Tryz.prog 51 #[.pointer (some ⟨p, 0, none⟩), .int .i64 n] w fun x w' => x = .returned (.int .i64 e) ∧ Dp W O p S' w' := h.of (fun _ h1 => sync_is h1 hn) hr
theorem k_truncate (h : Dp W O p S w) (hn : (Lit.int .i64 n).wf = true) {z : Int} (hr : Dk.truncate S n z = (S', e)) :
    Calls Tryz.prog 67 #[.pointer (some ⟨p, 0, none⟩), .int .i64 n, .int .i64 z] w fun x w' => x = .returned (.int .i64 e) ∧ Dp W O p S' w' := h.of (fun _ h1 => truncate_is h1 hn z) hr
theorem k_delete (h : Dp W O p S w) (hn : (Lit.int .i64 n).wf = true) (hr : Dk.delete S n = (S', e)) :
    Calls Tryz.prog 57 #[.pointer (some ⟨p, 0, none⟩), .int .i64 n] w fun x w' => x = .returned (.int .i64 e) ∧ Dp W O p S' w' := h.of (fun _ h1 => delete_is h1 hn) hr
set_option maxRecDepth 100000 in
theorem crash_down {β : Roles} (h : DiskAt w β p S) (hd : S.down = true) (v : Value) :
    Calls Tryz.prog 60 #[.pointer (some ⟨p, 0, none⟩), v] w fun x w' => x = .returned (.int .i64 61) ∧ w = w' := by
  have N := Lib.hid (state_down h hd)
  clear h hd
  go_enter Tryz.func60, Tryz.ntmps60
  go_wp2_with (go_at_call 59; (with_reducible refine N.out.mono ?_); rintro e w1 ⟨rfl, rfl⟩)
  go_ret
  exact ⟨rfl, rfl⟩
theorem crash_any {β : Roles} (h1 : DiskAt w β p S) {G : Nat → Prop} {ko : Option Addr} {kc : Nat} {ks : List Int} (hk : ks.length ≤ 16777216) (hkeep : KeepAt w G ko ks) (hG : ∀ g, G g → g < w.heap.size ∧ ¬ Bl β g) :
    Calls Tryz.prog 60 #[.pointer (some ⟨p, 0, none⟩), .slice ko ks.length kc] w fun x w' => x = .returned (.int .i64 (Dk.crash S ks).2) ∧ ∃ β', DiskAt w' β' p (Dk.crash S ks).1 ∧ Tn (Bl β) (Bl β') w w' := by
  cases hd : S.down
  · rw [show Dk.crash S ks = (S.crash ks, 0) by simp [Dk.crash, hd]]
    exact (crash_is (kc := kc) h1 hd hk hkeep (fun g hg => ⟨(hG g hg).1, fun e => (hG g hg).2 ⟨_, e ▸ h1.p0⟩, fun ⟨_, hf⟩ => (hG g hg).2 ⟨_, hf⟩⟩)).mono fun _ _ ⟨hx, hD, hF⟩ => ⟨hx, β, hD, Tn.same hF (fun _ => fbs_bl h1)⟩
  · rw [show Dk.crash S ks = (S, 61) by simp [Dk.crash, hd]]
    exact (crash_down h1 hd _).mono fun _ _ ⟨hx, hw⟩ => ⟨hx, β, hw ▸ h1, hw ▸ Tn.refl _ _⟩
/-- Crash, with a list that is new since a. -/
theorem k_crash (h : Dp W O p S w) {w2 : World} (hx : Ext w w2) {ko : Option Addr} {kc m : Nat} {ks : List Int} (hm : ks.length = m) (hk : m ≤ 16777216) (hkeep : KeepAt w2 (fun g => w.heap.size ≤ g ∧ g < w2.heap.size) ko ks) (hr : Dk.crash S ks = (S', e)) :
    Calls Tryz.prog 60 #[.pointer (some ⟨p, 0, none⟩), .slice ko m kc] w2 fun x w' => x = .returned (.int .i64 e) ∧ Dp W O p S' w' := by
  subst hm
  obtain ⟨β, h1, h2, h3, h4⟩ := h
  have hD : Dp W O p S w2 := Dp.ext ⟨β, h1, h2, h3, h4⟩ hx
  have hc := crash_any (kc := kc) (h1.ext hx) hk hkeep (fun g hg => ⟨hg.2, fun ⟨r, hb⟩ => by have := h1.lt r g hb; have := hg.1; omega⟩)
  rw [hr] at hc
  have hf2 : Fr (fun k => ¬ O k) W w2 := hD.fr
  exact hc.mono fun _ _ ⟨hx', β', hD', hT⟩ => ⟨hx', β', hD', hf2.trans hT.fr (fun k _ hk ho => h3 k ho hk), (h3.symm.turn (h4.mono hf2.size) hT).symm, h4⟩
/-- Crash, with a list that lies in O. -/
theorem k_crash_in (h : Dp W O p S w) {G : Nat → Prop} {ko : Option Addr} {kc m : Nat} {ks : List Int} (hm : ks.length = m) (hk : m ≤ 16777216) (hkeep : KeepAt w G ko ks) (hG : ∀ g, G g → O g) (hr : Dk.crash S ks = (S', e)) :
    Calls Tryz.prog 60 #[.pointer (some ⟨p, 0, none⟩), .slice ko m kc] w fun x w' => x = .returned (.int .i64 e) ∧ Dp W O p S' w' := by
  subst hm
  obtain ⟨β, h1, h2, h3, h4⟩ := h
  have hc := crash_any (kc := kc) h1 hk hkeep (fun g hg => ⟨Nat.lt_of_lt_of_le (h4 g (hG g hg)) h2.size, h3 g (hG g hg)⟩)
  rw [hr] at hc
  exact hc.mono fun _ _ ⟨hx', β', hD', hT⟩ => ⟨hx', β', hD', h2.trans hT.fr (fun k _ hk ho => h3 k ho hk), (h3.symm.turn (h4.mono h2.size) hT).symm, h4⟩
theorem k_read (h : Dp W O p S w) (hn : (Lit.int .i64 n).wf = true) {a z : Int} {l : List UInt8} (hr : Dk.read S n a z = (l, e)) :
    Calls Tryz.prog 45 #[.pointer (some ⟨p, 0, none⟩), .int .i64 n, .int .i64 a, .int .i64 z] w fun x w' => x = .returned (.tuple #[.string (ofL l), .int .i64 e]) ∧ Ext w w' := by
  obtain ⟨β, h1, _⟩ := h
  have := read_is h1 hn a z
  rw [hr] at this
  exact this
theorem k_size (h : Dp W O p S w) (hn : (Lit.int .i64 n).wf = true) {z : Int} (hr : Dk.size S n = (z, e)) :
    Calls Tryz.prog 33 #[.pointer (some ⟨p, 0, none⟩), .int .i64 n] w fun x w' => x = .returned (.tuple #[.int .i64 z, .int .i64 e]) ∧ w = w' := by
  obtain ⟨β, h1, _⟩ := h
  have := size_is h1 hn
  rw [hr] at this
  exact this
theorem k_free (h : Dp W O p S w) {z : Int} (hr : S.cap - tot S.fs = z) :
    Calls Tryz.prog 28 #[.pointer (some ⟨p, 0, none⟩)] w fun x w' => x = .returned (.int .i64 z) ∧ Ext w w' := by
  obtain ⟨β, h1, _⟩ := h
  have := free_is h1
  rw [hr] at this
  exact this
theorem k_up (h : Dp W O p S w) {b : Bool} (hr : (!S.down) = b) :
    Calls Tryz.prog 32 #[.pointer (some ⟨p, 0, none⟩)] w fun x w' => x = .returned (.bool b) ∧ w = w' := by
  obtain ⟨β, h1, _⟩ := h
  have := up_is h1
  rw [hr] at this
  exact this
theorem k_starts (h : Dp W O p S w) {z : Int} (hr : S.starts = z) :
    Calls Tryz.prog 37 #[.pointer (some ⟨p, 0, none⟩)] w fun x w' => x = .returned (.int .i64 z) ∧ w = w' := by
  obtain ⟨β, h1, _⟩ := h
  have := starts_is h1
  rw [hr] at this
  exact this
theorem k_files (h : Dp W O p S w) {m : Nat} {l : List Int} (hm : S.fs.length = m) (hl : S.fs.map (·.n) = l) :
    Calls Tryz.prog 34 #[.pointer (some ⟨p, 0, none⟩)] w fun x w' => ∃ ao cap, x = .returned (.slice ao m cap) ∧ Rw w' 1 ao m cap (Nums l) ∧ Ext w w' := by
  subst hm
  subst hl
  obtain ⟨β, h1, _⟩ := h
  exact (files_is h1).mono fun _ _ ⟨ao, cap, k1, k2, k3, _⟩ => ⟨ao, cap, k1, k2, k3⟩
theorem k_loose (h : Dp W O p S w) {m : Nat} {l : List Int} (hm : S.fs.length = m) (hl : loose S.fs = l) :
    Calls Tryz.prog 44 #[.pointer (some ⟨p, 0, none⟩)] w fun x w' => ∃ ao cap, x = .returned (.slice ao m cap) ∧ Rw w' 1 ao m cap (Nums l) ∧ Ext w w' := by
  subst hm
  subst hl
  obtain ⟨β, h1, _⟩ := h
  exact loose_is h1
end
end Go.Proofs.YtajclcbclbppiaaGreat
end
