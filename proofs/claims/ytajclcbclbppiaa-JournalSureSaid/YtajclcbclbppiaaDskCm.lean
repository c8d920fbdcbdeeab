/-
  The walks of what the changes do: the closures of Append, Delete and Create.
-/
import Derived.Test.YtajclcbclbppiaaDskCl
import Derived.Deep.RegionLaw
namespace Go.Proofs.Ytajclcbclbppiaa
open Go.RowKit Go.Maps Go.Dk Go.Shelf
variable {w w' : World} {β : Roles} {p : Nat} {S S' S1 : St}
theorem append_str {w : World} {ao : Option Addr} {n cap : Nat} {l : List UInt8} (h : Rw w 1 ao n cap (U8 l)) (s : List UInt8) (hl : n + s.length ≤ 16777216) (ty : TypeId) :
    ∃ ao' cap' w', (Builtin.append_ #[56, 9] ty #[.slice ao n cap, .string (ofL s)]).run Try.prog w = .ok (.slice ao' (n + s.length) cap') w' ∧
      (Rw w' 1 ao' (n + s.length) cap' (U8 (l ++ s)) ∧ Fr (fun k => ob ao = some k) w w' ∧ (ao' = ao ∨ ∃ g, ao' = some ⟨g, 0, none⟩ ∧ w.heap.size ≤ g)) := by
  obtain ⟨ti, hti, hz, hsz, hby⟩ := info_parts infoU8
  obtain ⟨ao', cap', w', h1, h2, h3⟩ := h.append 56 9 ty 5 ti _ 1 Try.underlying56 hti hz hsz hby rfl (.string (ofL s)) s.length (U8 s) (Src.ofString w Try.underlying9 (ofL s)) (by unfold maxLen; omega) (by omega)
  rw [← U8_append] at h2
  exact ⟨ao', cap', w', h1, h2, h3⟩
theorem Fr.of_drew {F : Nat → Prop} {w w' : World} (h : Fr F w.drew w') : Fr F w w' := ⟨h.os, h.tape, h.output, h.size, h.block⟩
theorem Fr.of_turned {w w' : World} {b : Nat} (h : w.mapTurned w' b) : Fr (fun k => k = b) w w' := ⟨h.grown.os, h.grown.tape, h.grown.output, h.grown.size, fun k hk hn => h.grown.block k hk (fun e => hn (Option.some.inj e))⟩
theorem DiskAt.appendTo (h : DiskAt w β p S) {f : Fl} (hf : f ∈ S.fs) {fb cap : Nat} {ao : Option Addr} (k1 : β (4, f.n) = some fb) (k2 : ∀ g, ob ao = some g → β (5, f.n) = some g) (k3 : FileAt w fb ao cap f) {s : List UInt8} (hs : (tot S.fs : Int) + s.length ≤ S.cap)
    {w2 : World} {ao2 : Option Addr} {c2 : Nat} (hr1 : Rw w2 1 ao2 (f.b.length + s.length) c2 (U8 (f.b ++ s))) (hr2 : Fr (fun k => ob ao = some k) w w2) (hr3 : ao2 = ao ∨ ∃ g, ao2 = some ⟨g, 0, none⟩ ∧ w.heap.size ≤ g) {F : World} (hfr : Fr (fun k => k = fb) w2 F)
    (hF : F.heap = (w2.setCell ⟨fb, 0, none⟩ (Value.slice ao2 (f.b.length + s.length) c2)).heap) : ∃ β', DiskAt F β' p { S with fs := upd ⟨f.n, f.b ++ s, f.s⟩ S.fs } ∧ Tn (Bl β) (Bl β') w F := by
  have hl : (f.b ++ s).length = f.b.length + s.length := List.length_append
  have hok : Ok { S with fs := upd ⟨f.n, f.b ++ s, f.s⟩ S.fs } := h.ok.upd hf rfl (by have := h.ok.sure f hf; show f.s ≤ (f.b ++ s).length; omega) (by show (tot S.fs : Int) + ((f.b ++ s).length : Int) ≤ _; omega)
  have hfl := h.lt _ _ k1
  have hfne : ¬ ob ao = some fb := fun e => by have := h.inj _ _ _ (k2 fb e) k1; simp at this
  have hne : ∀ g, ob ao2 = some g → g ≠ fb := fun g hg e => by
    subst e
    rcases hr3 with rfl | ⟨j, rfl, hj⟩
    · exact hfne hg
    · have : j = g := by simpa [ob] using hg
      omega
  have hA : FileAt F fb ao2 c2 ⟨f.n, f.b ++ s, f.s⟩ := by
    refine FileAt.kept (w := w2.setCell ⟨fb, 0, none⟩ (.slice ao2 (f.b.length + s.length) c2)) ⟨?_, ?_, ?_, ?_, ?_⟩ (by rw [hF]; exact Nat.le_refl _) (by rw [hF]) (fun _ _ => by rw [hF])
    · show _ = some (Value.slice ao2 (f.b ++ s).length c2)
      rw [hl]
      exact World.cell?_setCell_same _ _ _ ((hr2.cell (p := ⟨fb, 0, none⟩) hfl hfne).trans k3.c0)
    · exact (World.cell?_setCell_other _ _ _ _ (by simp)).trans ((hr2.cell (p := ⟨fb, 1, none⟩) hfl hfne).trans k3.c1)
    · rw [World.frozen?_setCell]; exact (hr2.frozen (p := ⟨fb, 0, none⟩) hfl hfne).trans k3.f0
    · rw [World.frozen?_setCell]; exact (hr2.frozen (p := ⟨fb, 1, none⟩) hfl hfne).trans k3.f1
    · show Rw _ 1 ao2 (f.b ++ s).length c2 (U8 (f.b ++ s))
      rw [hl]
      exact hr1.kept (by rw [setCell_size]; exact Nat.le_refl _) (fun g hg => setCell_other _ _ _ (hne g hg))
  obtain ⟨β', hD, hT, _⟩ := h.turnFile (f' := ⟨f.n, f.b ++ s, f.s⟩) (f := f) rfl k1 ((hr2.mono (fun k _ e => .inr (k2 k e))).trans hfr (fun _ _ e => .inl e)) (fun g hg => by
    rcases hr3 with rfl | ⟨j, rfl, hj⟩
    · exact .inl (k2 g hg)
    · have : j = g := by simpa [ob] using hg
      exact .inr (by omega)) hA hok
  exact ⟨β', hD, hT⟩
section
variable {P : Program} {ops : Array Oper} {o : Oper} {a : Act} {K : Act → World → Prop} {Q : Exit → Act → World → Prop} {E : Prop}
/-- delete as one step of a region that draws. -/
theorem step_delete {w : World} (hg : o.guard = none) (m x : Operand) (t k : TypeId) (hop : o.op = Op.call { callee := Callee.builtin Builtin.delete, args := #[m, x], argTypes := #[t, k] })
    {v u : Value} (hv : a.eval m = v) (hu : a.eval x = u) {R : World → Prop}
    (H : ∃ w', (Builtin.delete_ #[t, k] o.type #[v, u]).run P w = .ok (.tuple #[]) w' ∧ R w')
    (hK : ∀ w', R w' → K (a.put o.dst (.tuple #[])) w') :
    if Region.wanted o (yielded ops a.tmps) = true then Oper.wp P o a w K Q else E := by
  have hw : Region.wanted o (yielded ops a.tmps) = true := by simp [Region.wanted, hg]
  rw [if_pos hw]
  obtain ⟨w', hrun, hR⟩ := H
  unfold Oper.wp
  simp [execOp, hop, resolve, invoke, builtin, hv, hu, hrun, Result.andThen]
  exact hK _ hR
end
set_option maxHeartbeats 1000000 in
set_option maxRecDepth 100000 in
theorem append1_is (h : DiskAt w β p S) {f : Fl} (hf : f ∈ S.fs) {fb b c : Nat} (hfb : β (4, f.n) = some fb) (hb : w.cell? ⟨b, 0, none⟩ = some (.pointer (some ⟨fb, 0, none⟩))) (hbl0 : b < w.heap.size) (hbn : ¬ Bl β b) {s : List UInt8} (hc : w.cell? ⟨c, 0, none⟩ = some (.string (ofL s))) (hcn : ¬ Bl β c) (hs : (tot S.fs : Int) + s.length ≤ S.cap) :
    Calls Try.prog 59 #[.pointer (some ⟨b, 0, none⟩), .pointer (some ⟨c, 0, none⟩)] w fun e w' => e = .returned (.tuple #[]) ∧ ∃ β', DiskAt w' β' p { S with fs := upd ⟨f.n, f.b ++ s, f.s⟩ S.fs } ∧ Tn (Bl β) (Bl β') w w' := by
  obtain ⟨fb', ao, cap, k1, k2, k3⟩ := h.file f hf
  obtain rfl : fb' = fb := Option.some.inj (k1.symm.trans hfb)
  have hne : b ≠ fb' := fun e => hbn ⟨_, e ▸ k1⟩
  have hne2 : c ≠ fb' := fun e => hcn ⟨_, e ▸ k1⟩
  have b0 := k3.c0
  have bf0 := k3.f0
  have H := Lib.hid h
  have K3 := Lib.hid k3
  have hbl : (f.b.length : Int) + s.length ≤ 1048576 := by have := h.ok.cap1; have := tot_mem hf; omega
  have HX := Lib.hid (fun w2 (hr : Fr (fun k => ob ao = some k) w w2) => (show w2.cell? ⟨b, 0, none⟩ = some (.pointer (some ⟨fb', 0, none⟩)) ∧ w2.cell? ⟨fb', 0, none⟩ = some (.slice ao f.b.length cap) ∧ w2.frozen? ⟨fb', 0, none⟩ = false from
    have hfl := h.lt _ _ k1
    have hfne : ¬ ob ao = some fb' := fun e => by have := h.inj _ _ _ (k2 fb' e) k1; simp at this
    ⟨(hr.cell (p := ⟨b, 0, none⟩) hbl0 (fun e => hbn ⟨_, k2 b e⟩)).trans hb, (hr.cell (p := ⟨fb', 0, none⟩) hfl hfne).trans b0, (hr.frozen (p := ⟨fb', 0, none⟩) hfl hfne).trans bf0⟩))
  clear h k3 hbn hcn
  go_enter Try.func59, Try.ntmps59
  go_wp2
  go_region_law (refine step_append_rw rfl (.tmp 6) (.tmp 7) _ _ rfl rfl rfl (append_str (K3.out.row.ext (by repeat (first | exact Ext.refl _ | apply Ext.alloc | apply Ext.drew))) _ (by omega) _) (fun ao2 c2 w2 hR => ?_); obtain ⟨hr1, hr2, hr3⟩ := hR; have hr2 := Fr.of_drew hr2; obtain ⟨e1, e2, e3⟩ := HX.out w2 hr2)
  all_goals
    go_wp2
    go_end0
    have hfr : Fr (fun k => k = fb') w2 (w2.setCell ⟨fb', 0, none⟩ (.slice ao2 (f.b.length + s.length) c2)) := (Fr.refl _ w2).setCell (p := ⟨fb', 0, none⟩) (by intro _; rfl) _
    exact ⟨rfl, H.out.appendTo hf k1 k2 K3.out hs hr1 hr2 hr3 hfr rfl⟩
set_option maxHeartbeats 1000000 in
set_option maxRecDepth 100000 in
theorem delete1_is (h : DiskAt w β p S) {n : Int} (hn : (Lit.int .i64 n).wf = true) {b c : Nat} (hb : w.cell? ⟨b, 0, none⟩ = some (.pointer (some ⟨p, 0, none⟩))) (hc : w.cell? ⟨c, 0, none⟩ = some (.int .i64 n)) :
    Calls Try.prog 58 #[.pointer (some ⟨b, 0, none⟩), .pointer (some ⟨c, 0, none⟩)] w fun e w' => e = .returned (.tuple #[]) ∧ ∃ β', DiskAt w' β' p { S with fs := del n S.fs } ∧ Tn (Bl β) (Bl β') w w' := by
  obtain ⟨m, fp, hm, h2, hown, _⟩ := h.head
  have c0 := h2.c0
  have H := Lib.hid h
  have HO := Lib.hid hown
  clear h h2 hown
  go_enter Try.func58, Try.ntmps58
  go_wp2
  go_region_law (refine step_delete rfl (.tmp 5) (.tmp 6) _ _ rfl rfl rfl (World.ownsMap.drop (w := w.drew) HO.out keyedInt Try.underlying48 (keyInt hn) _) (fun w2 hR => ?_); obtain ⟨hr1, hr2⟩ := hR)
  all_goals
    go_wp2
    go_end0
    have hfr := Fr.of_drew (Fr.of_turned hr2)
    obtain ⟨hD, hT⟩ := H.out.dropFile n (fun m' hm' => by obtain rfl : m' = m := Option.some.inj (hm'.symm.trans hm); exact ⟨_, hr1⟩) (hfr.mono (fun k _ e => by rw [e]; exact hm)) (H.out.ok.del n)
    exact ⟨rfl, β, hD, hT⟩
set_option maxHeartbeats 1000000 in
set_option maxRecDepth 100000 in
theorem create1_is (h : DiskAt w β p S) {n : Int} (hn : 0 ≤ n ∧ n ≤ 9223372036854775807) (hg : get S.fs n = none) (hl : S.fs.length < 100) {b c : Nat} (hb0 : b < w.heap.size) (hc0 : c < w.heap.size) (hb : w.cell? ⟨b, 0, none⟩ = some (.pointer (some ⟨p, 0, none⟩))) (hc : w.cell? ⟨c, 0, none⟩ = some (.int .i64 n)) :
    Calls Try.prog 67 #[.pointer (some ⟨b, 0, none⟩), .pointer (some ⟨c, 0, none⟩)] w fun e w' => e = .returned (.tuple #[]) ∧ ∃ β', DiskAt w' β' p { S with fs := ins ⟨n, [], 0⟩ S.fs } ∧ Tn (Bl β) (Bl β') w w' := by
  obtain ⟨m, fp, hm, h2, hown, _⟩ := h.head
  have c0 := h2.c0
  have H := Lib.hid h
  have HO := Lib.hid hown
  have hml := h.lt _ _ hm
  have hp0 := h2.lt
  have hmx : S.fs.length < maxLen := by unfold maxLen; omega
  have hwf : (Lit.int .i64 n).wf = true := by
    have e : IntKind.i64.min = -9223372036854775808 := rfl
    simp [Lit.wf, e]
    omega
  have hxW : Ext w (w.alloc (.cells #[.slice none 0 0, .int .i64 0] 75)).drew := ((Ext.refl w).alloc _).drew
  obtain ⟨w2, hrun, hr1, hr2⟩ := World.ownsMap.store (w := (w.alloc (.cells #[.slice none 0 0, .int .i64 0] 75)).drew) (ownsMap_block hown (Below.block hxW m hml)) keyedInt Try.underlying48 hmx (keyInt hwf) (val := .pointer (some ⟨w.heap.size, 0, none⟩)) (d := .lit (.int .i64 (w.heap.size : Nat))) (ps := []) rfl
  have Hr1 := Lib.hid hr1
  have Hr2 := Lib.hid hr2
  clear hr1 hr2 hxW
  clear h h2 hown
  go_enter Try.func67, Try.ntmps67
  go_wp2
  go_region
  all_goals
    go_wp2
    go_end0
    have hft := Fr.of_turned Hr2.out
    have hs0 : w.heap.size + 1 ≤ w2.heap.size := by have := hft.size; simpa using this
    have hblk : w2.heap[w.heap.size]? = some (.cells #[.slice none 0 0, .int .i64 0] 75) :=
      (hft.block w.heap.size (by show w.heap.size < (w.alloc _).heap.size; simp) (by omega)).trans (heap_alloc_new w (.cells #[.slice none 0 0, .int .i64 0] 75))
    have hfr : Fr (fun k => β (1, 0) = some k) w w2 := (Fr.of_ext (((Ext.refl w).alloc (.cells #[.slice none 0 0, .int .i64 0] 75)).drew) : Fr (fun k => β (1, 0) = some k) w _).trans hft (fun k _ e => by rw [e]; exact hm)
    obtain ⟨β', hD, hT⟩ := H.out.putFile (f := ⟨n, [], 0⟩) hg (fun m' hm' => by obtain rfl : m' = m := Option.some.inj (hm'.symm.trans hm); exact Hr1.out) hfr (by omega) ⟨by simp only [World.cell?, hblk]; rfl, by simp only [World.cell?, hblk]; rfl, by simp only [World.frozen?, hblk]; simp, by simp only [World.frozen?, hblk]; simp, Rw.nil w2 1⟩ (H.out.ok.ins n hn.1 hn.2 hg hl)
    exact ⟨rfl, β', hD, hT⟩
end Go.Proofs.Ytajclcbclbppiaa
