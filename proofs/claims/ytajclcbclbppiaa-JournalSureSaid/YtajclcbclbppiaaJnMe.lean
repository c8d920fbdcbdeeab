/-
  The walk of mend: a disk is left with the whole records of one file.
-/
import Derived.Test.YtajclcbclbppiaaJnMd
namespace Go.Proofs.Ytajclcbclbppiaa
open Go.RowKit Go.Maps Go.Dk Go.Rc Go.Jn Go.Shelf
variable {W w w' : World} {O O' B B' : Nat → Prop} {p : Nat} {S S' : St} {n e z : Int}
theorem box_new (w : World) (t : TypeId) (v u : Value) : ((w.alloc (.cells #[v] t)).setCell ⟨w.heap.size, 0, none⟩ u).cell? ⟨w.heap.size, 0, none⟩ = some u :=
  World.cell?_setCell_same _ _ _ (show (w.alloc (.cells #[v] t)).cell? ⟨w.heap.size, 0, none⟩ = some v from by simp)
theorem box_ext (w : World) (t : TypeId) (v u : Value) : Ext w ((w.alloc (.cells #[v] t)).setCell ⟨w.heap.size, 0, none⟩ u) :=
  Fr.grownFrom (F := fun k => k = w.heap.size) ((Fr.refl (fun k => k = w.heap.size) _).setCell (p := ⟨w.heap.size, 0, none⟩) (by intro _; rfl) u) ((Ext.refl w).alloc _) (fun k hk => by omega)
/-- The steps ahead of the loop. -/
def base (n e z : Int) : List (St → St × Int) := (if e < z then [fun S => truncate S n e] else []) ++ [fun S => sync S n]
/-- The steps of so many names. -/
def dels (l : List Int) (n : Int) : List (St → St × Int) := (l.filter (fun k => decide (k ≠ n))).map (fun k S => delete S k)
theorem mends_eq (l : List Int) (n e z : Int) : mends l n e z = base n e z ++ dels l n := rfl
theorem dels_same (l : List Int) (k : Nat) (hk : k < l.length) (h : l[k] = n) : dels (l.take (k + 1)) n = dels (l.take k) n := by
  unfold dels
  rw [List.take_succ_eq_append_getElem hk, List.filter_append]
  simp [h]
theorem dels_more (l : List Int) (k : Nat) (hk : k < l.length) {a : Int} (ha : l[k] = a) (h : a ≠ n) : dels (l.take (k + 1)) n = dels (l.take k) n ++ [fun S => delete S a] := by
  unfold dels
  rw [List.take_succ_eq_append_getElem hk, List.filter_append, List.map_append, ha]
  simp [h]
/-- Where the loop stands. -/
def LoopAt (w wr : World) (p : Nat) (n e z : Int) (names : List Int) (k : Nat) (s : Value) : Prop :=
  ∃ (vs : List Value) (ao : Option Addr) (cap : Nat) (B : Nat → Prop) (fs : List (St → St × Int)), Gath w wr p n B ao cap vs fs ∧ s = .slice ao vs.length cap ∧ vs.length ≤ k + 2 ∧ fs = base n e z ++ dels (names.take k) n
set_option maxHeartbeats 2000000 in
set_option maxRecDepth 100000 in
theorem mend_is (h : Dp W O p S w) {fo : Option Addr} {m fc : Nat} {names : List Int} (hm : names.length = m) (hm2 : m ≤ 1000) (hr : Rw w 1 fo m fc (Nums names)) (hwf : ∀ k ∈ names, (Lit.int .i64 k).wf = true) (hn : (Lit.int .i64 n).wf = true) {r : Int} (hx : runs (mends names n e z) S = (S', r)) :
    Calls Try.prog 25 #[.pointer (some ⟨p, 0, none⟩), .slice fo m fc, .int .i64 n, .int .i64 e, .int .i64 z] w fun x w' => x = .returned (.int .i64 r) ∧ Dp W O p S' w' := by
  have H := Lib.hid h
  have HR := Lib.hid hr
  have HW := Lib.hid hwf
  obtain ⟨V, hV⟩ : ∃ V, V = (((w.alloc (.cells #[.pointer (some ⟨p, 0, none⟩)] 25)).alloc (.cells #[.int .i64 n] 3)).alloc (.cells #[.int .i64 e] 3)) := ⟨_, rfl⟩
  have hs3 : V.heap.size = w.heap.size + 3 := by rw [hV]; simp
  have hE : Ext w V := by rw [hV]; exact (((Ext.refl w).alloc _).alloc _).alloc _
  have e0 : V.cell? ⟨w.heap.size, 0, none⟩ = some (.pointer (some ⟨p, 0, none⟩)) := by rw [hV, World.cell?_alloc_past _ _ _ (by simp only [World.size_alloc]; omega), World.cell?_alloc_past _ _ _ (by simp only [World.size_alloc]; omega)]; exact World.cell?_alloc_at _ _ _ _ rfl
  have e1 : V.cell? ⟨w.heap.size + 1, 0, none⟩ = some (.int .i64 n) := by rw [hV, World.cell?_alloc_past _ _ _ (by simp only [World.size_alloc]; omega)]; exact World.cell?_alloc_at _ _ _ _ (by simp only [World.size_alloc])
  have e2 : V.cell? ⟨w.heap.size + 2, 0, none⟩ = some (.int .i64 e) := by rw [hV]; exact World.cell?_alloc_at _ _ _ _ (by simp only [World.size_alloc])
  have G0 := Lib.hid (show Gath w V p n (fun k => w.heap.size ≤ k ∧ k < w.heap.size + 3) none 0 [] [] from ⟨Rw.nil V 1, Pres.nil _ _ _, fun k hk => ⟨hk.1, by omega⟩, fun g hg => (by cases hg), hE, ⟨by omega, by omega⟩, ⟨by omega, by omega⟩, e0, e1⟩)
  have E2 := Lib.hid e2
  clear h hr hwf e0 e1 hE hs3 e2
  subst hV
  by_cases hez : e < z
  · have hb : base n e z = ([] ++ [fun S => truncate S n e]) ++ [fun S => sync S n] := by unfold base; rw [if_pos hez]; rfl
    go_enter Try.func25, Try.ntmps25
    go_wp2_with (at_builtin; first
      | (refine wpList_append_rw rfl (.tmp 17) (.tmp 19) _ _ rfl rfl rfl (append_fn (G0.out.row.ext ((Ext.refl _).alloc _)) _ (new_fn _ _ (by rfl) _ (by simp)) (by simp) _) (fun ao1 c1 w1 hR => ?_); obtain ⟨hr1, hr2, hr3⟩ := hR; have G1 := Lib.hid (G0.out.app ((Ext.refl _).alloc _) (mend1_pre (b := w.heap.size) (c := w.heap.size + 1) (d := w.heap.size + 2) ⟨by omega, by omega⟩ ⟨by omega, by omega⟩ ⟨by omega, by omega⟩ (G0.out.grow ((Ext.refl _).alloc _)).c0 (G0.out.grow ((Ext.refl _).alloc _)).c1 ((((Ext.refl _).alloc _).cell (p := ⟨w.heap.size + 2, 0, none⟩) (by simp)).trans E2.out) hn) hr1 hr2 hr3); clear hr1 hr2 hr3)
      | (refine wpList_append_rw rfl (.tmp 21) (.tmp 23) _ _ rfl rfl rfl (append_fn (G1.out.row.ext ((Ext.refl _).alloc _)) _ (new_fn _ _ (by rfl) _ (by simp)) (by simp) _) (fun ao2 c2 w2 hR => ?_); obtain ⟨hr1, hr2, hr3⟩ := hR; have G2 := Lib.hid (G1.out.app ((Ext.refl _).alloc _) (mend2_pre (b := w.heap.size) (c := w.heap.size + 1) ⟨by omega, by omega⟩ ⟨by omega, by omega⟩ (G1.out.grow ((Ext.refl _).alloc _)).c0 (G1.out.grow ((Ext.refl _).alloc _)).c1 hn) hr1 hr2 hr3); clear hr1 hr2 hr3))
    go_loopw [11, 27] (fun s i wr => ∃ k : Nat, k ≤ m ∧ i = .int .i64 k ∧ LoopAt w wr p n e z names k s) (fun _ i _ => m - (intOf i).toNat)
    case atStart =>
      exact ⟨0, by omega, rfl, _, _, _, _, _, G2.out, rfl, by simp, by rw [hb]; exact (List.append_nil _).symm⟩
    case round =>
      obtain ⟨k, hk, rfl, vs, ao, cap, B, fs, hG, rfl, hvl, hfs⟩ := hrel
      by_cases hlt : k < m
      · obtain ⟨g, rfl, hg, hx1, hx2⟩ := (HR.out.ext hG.ext).row (by omega)
        have hkn : k < names.length := by omega
        obtain ⟨a, ha⟩ : ∃ a, names[k] = a := ⟨_, rfl⟩
        have c0 := hx1 k (by omega)
        rw [show (Nums names)[k]? = some (.int .i64 a) by simp [Nums, List.getElem?_eq_getElem hkn, ha]] at c0
        have haw := HW.out a (ha ▸ List.getElem_mem hkn)
        have hl1 := (hG.low _ hG.b1).2
        have c7 := hG.c1
        have c8 := (((Ext.refl wr).alloc (.cells #[.int .i64 a] 3)).cell (p := ⟨w.heap.size + 1, 0, none⟩) hl1).trans c7
        have HG := Lib.hid hG
        have HB := Lib.hid hb
        have HX := Lib.hid hx
        clear hG hx1 hx2 G0 E2 hb hx G1 G2
        by_cases hne : a = n
        · go_wp2
          exact ⟨⟨k + 1, by omega, by go_num, vs, ao, cap, _, fs, HG.out.box ((Ext.refl _).alloc _) (Nat.le_refl _) (by simp), rfl, by omega, by rw [hfs, dels_same names k hkn (ha.trans hne)]⟩, by simp [intOf]; omega⟩
        · go_wp2_with (at_builtin; refine wpList_append_rw rfl (.tmp 34) (.tmp 36) _ _ rfl rfl rfl (append_fn (HG.out.row.ext (((Ext.refl _).alloc _).alloc _)) _ (new_fn _ _ (by rfl) _ (by simp)) (by omega) _) (fun ao3 c3 w3 hR => ?_); obtain ⟨hr1, hr2, hr3⟩ := hR; have G3 := Lib.hid ((HG.out.box ((Ext.refl _).alloc (.cells #[.int .i64 a] 3)) (b := wr.heap.size) (Nat.le_refl _) (by simp)).app ((Ext.refl _).alloc _) (mend3_pre (b := w.heap.size) (c := wr.heap.size) (.inl HG.out.b0) (.inr rfl) (HG.out.grow (((Ext.refl _).alloc _).alloc _)).c0 (by simp) haw) hr1 hr2 hr3); clear hr1 hr2 hr3)
          exact ⟨⟨k + 1, by omega, by go_num, _, _, _, _, _, G3.out, by simp, by simp; omega, by rw [hfs, dels_more names k hkn ha hne, List.append_assoc]⟩, by simp [intOf]; omega⟩
      · obtain rfl : k = m := by omega
        have hE := hG.ext
        have hD := H.out.news hE
        have hU : Under (New O w wr) wr := by obtain ⟨_, _, _, _, h⟩ := hD; exact h
        have A := Lib.hid (all_is (hG.pres.steps hU (fun k hb => .inr (hG.low k hb))) rfl hG.row (fun g hg => .inr ⟨(hG.own g hg).1, hG.row.lt g hg⟩) (by omega) hD (show runs fs S = (S', r) by rw [hfs, List.take_of_length_le (by omega)]; exact hx))
        clear hD hU hG hfs
        go_wp2_with (go_at_call 35; (with_reducible refine A.out.mono ?_); rintro x w1 ⟨rfl, hD1⟩; have HD1 := Lib.hid hD1; clear hD1)
        go_ret
        exact ⟨rfl, H.out.back hE HD1.out (fun k hk => .inl hk)⟩
  · have hb : base n e z = [] ++ [fun S => sync S n] := by unfold base; rw [if_neg hez]
    go_enter Try.func25, Try.ntmps25
    go_wp2_with (at_builtin; (refine wpList_append_rw rfl (.tmp 21) (.tmp 23) _ _ rfl rfl rfl (append_fn (G0.out.row.ext ((Ext.refl _).alloc _)) _ (new_fn _ _ (by rfl) _ (by simp)) (by simp) _) (fun ao2 c2 w2 hR => ?_); obtain ⟨hr1, hr2, hr3⟩ := hR; have G2 := Lib.hid (G0.out.app ((Ext.refl _).alloc _) (mend2_pre (b := w.heap.size) (c := w.heap.size + 1) ⟨by omega, by omega⟩ ⟨by omega, by omega⟩ (G0.out.grow ((Ext.refl _).alloc _)).c0 (G0.out.grow ((Ext.refl _).alloc _)).c1 hn) hr1 hr2 hr3); clear hr1 hr2 hr3))
    go_loopw [11, 27] (fun s i wr => ∃ k : Nat, k ≤ m ∧ i = .int .i64 k ∧ LoopAt w wr p n e z names k s) (fun _ i _ => m - (intOf i).toNat)
    case atStart =>
      exact ⟨0, by omega, rfl, _, _, _, _, _, G2.out, rfl, by simp, by rw [hb]; exact (List.append_nil _).symm⟩
    case round =>
      obtain ⟨k, hk, rfl, vs, ao, cap, B, fs, hG, rfl, hvl, hfs⟩ := hrel
      by_cases hlt : k < m
      · obtain ⟨g, rfl, hg, hx1, hx2⟩ := (HR.out.ext hG.ext).row (by omega)
        have hkn : k < names.length := by omega
        obtain ⟨a, ha⟩ : ∃ a, names[k] = a := ⟨_, rfl⟩
        have c0 := hx1 k (by omega)
        rw [show (Nums names)[k]? = some (.int .i64 a) by simp [Nums, List.getElem?_eq_getElem hkn, ha]] at c0
        have haw := HW.out a (ha ▸ List.getElem_mem hkn)
        have hl1 := (hG.low _ hG.b1).2
        have c7 := hG.c1
        have c8 := (((Ext.refl wr).alloc (.cells #[.int .i64 a] 3)).cell (p := ⟨w.heap.size + 1, 0, none⟩) hl1).trans c7
        have HG := Lib.hid hG
        have HB := Lib.hid hb
        have HX := Lib.hid hx
        clear hG hx1 hx2 G0 E2 hb hx G2
        by_cases hne : a = n
        · go_wp2
          exact ⟨⟨k + 1, by omega, by go_num, vs, ao, cap, _, fs, HG.out.box ((Ext.refl _).alloc _) (Nat.le_refl _) (by simp), rfl, by omega, by rw [hfs, dels_same names k hkn (ha.trans hne)]⟩, by simp [intOf]; omega⟩
        · go_wp2_with (at_builtin; refine wpList_append_rw rfl (.tmp 34) (.tmp 36) _ _ rfl rfl rfl (append_fn (HG.out.row.ext (((Ext.refl _).alloc _).alloc _)) _ (new_fn _ _ (by rfl) _ (by simp)) (by omega) _) (fun ao3 c3 w3 hR => ?_); obtain ⟨hr1, hr2, hr3⟩ := hR; have G3 := Lib.hid ((HG.out.box ((Ext.refl _).alloc (.cells #[.int .i64 a] 3)) (b := wr.heap.size) (Nat.le_refl _) (by simp)).app ((Ext.refl _).alloc _) (mend3_pre (b := w.heap.size) (c := wr.heap.size) (.inl HG.out.b0) (.inr rfl) (HG.out.grow (((Ext.refl _).alloc _).alloc _)).c0 (by simp) haw) hr1 hr2 hr3); clear hr1 hr2 hr3)
          exact ⟨⟨k + 1, by omega, by go_num, _, _, _, _, _, G3.out, by simp, by simp; omega, by rw [hfs, dels_more names k hkn ha hne, List.append_assoc]⟩, by simp [intOf]; omega⟩
      · obtain rfl : k = m := by omega
        have hE := hG.ext
        have hD := H.out.news hE
        have hU : Under (New O w wr) wr := by obtain ⟨_, _, _, _, h⟩ := hD; exact h
        have A := Lib.hid (all_is (hG.pres.steps hU (fun k hb => .inr (hG.low k hb))) rfl hG.row (fun g hg => .inr ⟨(hG.own g hg).1, hG.row.lt g hg⟩) (by omega) hD (show runs fs S = (S', r) by rw [hfs, List.take_of_length_le (by omega)]; exact hx))
        clear hD hU hG hfs
        go_wp2_with (go_at_call 35; (with_reducible refine A.out.mono ?_); rintro x w1 ⟨rfl, hD1⟩; have HD1 := Lib.hid hD1; clear hD1)
        go_ret
        exact ⟨rfl, H.out.back hE HD1.out (fun k hk => .inl hk)⟩
end Go.Proofs.Ytajclcbclbppiaa
