/-
  The walk of mend: a disk is left with the whole records of one file.
  The journal as an object ('JoAt', 'Jp'); a journal made where none is.
  The walk of fresh: a journal where none is.
  The walk of Open: the journal of a disk.
-/
import Derived.Test.YtajclcbclbppiaaGreatZ18
import Derived.BigQuiet
section
namespace Go.Proofs.YtajclcbclbppiaaGreat
open Go.RowKit Go.Maps Go.Dk Go.Rc Go.Jn Go.Shelf
variable {W w w' : World} {O O' B B' : Nat → Prop} {p : Nat} {S S' : St} {n e z : Int}
theorem box_new (w : World) (t : TypeId) (v u : Value) : ((w.alloc (.cells #[v] t)).setCell ⟨w.heap.size, 0, none⟩ u).cell? ⟨w.heap.size, 0, none⟩ = some u :=
  World.cell?_setCell_same _ _ _ (show (w.alloc (.cells #[v] t)).cell? ⟨w.heap.size, 0, none⟩ = some v from by simp)
theorem box_ext (w : World) (t : TypeId) (v u : Value) : Ext w ((w.alloc (.cells #[v] t)).setCell ⟨w.heap.size, 0, none⟩ u) :=
  Fr.grownFrom (F := fun k => k = w.heap.size) ((Fr.refl (fun k => k = w.heap.size) _).setCell (p := ⟨w.heap.size, 0, none⟩) (by intro _; rfl) u) ((Ext.refl w).alloc _) (fun k hk => by omega)
/-- The steps ahead of the loop. -/
def base (n e z : Int) : List (St → St × Int) := (if e < z then [fun S => truncate S n e] else []) ++ [fun S => sync S n]
/-- The steps of so many names. -/
def dels (l : List Int) (n : Int) : List (St → St × Int) := (l.filter (fun k => decide (k ≠ n))).map (fun k S => delete S k)
theorem mends_eq (l : List Int) (n e z : Int) : mends l n e z = base n e z ++ dels l n := rfl
theorem dels_same (l : List Int) (k : Nat) (hk : k < l.length) (h : l[k] = n) : dels (l.take (k + 1)) n = dels (l.take k) n := by
  unfold dels
  rw [List.take_succ_eq_append_getElem hk, List.filter_append]
  simp [h]
theorem dels_more (l : List Int) (k : Nat) (hk : k < l.length) {a : Int} (ha : l[k] = a) (h : a ≠ n) : dels (l.take (k + 1)) n = dels (l.take k) n ++ [fun S => delete S a] := by
  unfold dels
  rw [List.take_succ_eq_append_getElem hk, List.filter_append, List.map_append, ha]
  simp [h]
/-- Where the loop stands. -/
def LoopAt (w wr : World) (p : Nat) (n e z : Int) (names : List Int) (k : Nat) (s : Value) : Prop :=
  ∃ (vs : List Value) (ao : Option Addr) (cap : Nat) (B : Nat → Prop) (fs : List (St → St × Int)), Gath w wr p n B ao cap vs fs ∧ s = .slice ao vs.length cap ∧ vs.length ≤ k + 2 ∧ fs = base n e z ++ dels (names.take k) n
set_option maxHeartbeats 2000000 in
set_option maxRecDepth 100000 in
theorem mend_is (h : Dp W O p S w) {fo : Option Addr} {m fc : Nat} {names : List Int} (hm : names.length = m) (hm2 : m ≤ 1000) (hr : Rw w 1 fo m fc (Nums names)) (hwf : ∀ k ∈ names, (Lit.int .i64 k).wf = true) (hn : (Lit.int .i64 n).wf = true) {r : Int} (hx : runs (mends names n e z) S = (S', r)) :
    Calls Tryz.prog 36 #[.pointer (some ⟨p, 0, none⟩), .slice fo m fc, .int .i64 n, .int .i64 e, .int .i64 z] w fun x w' => x = .returned (.int .i64 r) ∧ Dp W O p S' w' := by
  have H := Lib.hid h
  have HR := Lib.hid hr
  have HW := Lib.hid hwf
  obtain ⟨V, hV⟩ : ∃ V, V = (((w.alloc (.cells #[.pointer (some ⟨p, 0, none⟩)] 24)).alloc (.cells #[.int .i64 n] 3)).alloc (.cells #[.int .i64 e] 3)) := ⟨_, rfl⟩
  have hs3 : V.heap.size = w.heap.size + 3 := by rw [hV]; simp
  have hE : Ext w V := by rw [hV]; exact (((Ext.refl w).alloc _).alloc _).alloc _
  have e0 : V.cell? ⟨w.heap.size, 0, none⟩ = some (.pointer (some ⟨p, 0, none⟩)) := by rw [hV, World.cell?_alloc_past _ _ _ (by simp only [World.size_alloc]; omega), World.cell?_alloc_past _ _ _ (by simp only [World.size_alloc]; omega)]; exact World.cell?_alloc_at _ _ _ _ rfl
  have e1 : V.cell? ⟨w.heap.size + 1, 0, none⟩ = some (.int .i64 n) := by rw [hV, World.cell?_alloc_past _ _ _ (by simp only [World.size_alloc]; omega)]; exact World.cell?_alloc_at _ _ _ _ (by simp only [World.size_alloc])
  have e2 : V.cell? ⟨w.heap.size + 2, 0, none⟩ = some (.int .i64 e) := by rw [hV]; exact World.cell?_alloc_at _ _ _ _ (by simp only [World.size_alloc])
  have G0 := Lib.hid (show Gath w V p n (fun k => w.heap.size ≤ k ∧ k < w.heap.size + 3) none 0 [] [] from ⟨Rw.nil V 1, Pres.nil _ _ _, fun k hk => ⟨hk.1, by omega⟩, fun g hg => (by cases hg), hE, ⟨by omega, by omega⟩, ⟨by omega, by omega⟩, e0, e1⟩)
  have E2 := Lib.hid e2
  clear h hr hwf e0 e1 hE hs3 e2
  subst hV
  by_cases hez : e < z
  · have hb : base n e z = ([] ++ [fun S => truncate S n e]) ++ [fun S => sync S n] := by unfold base; rw [if_pos hez]; rfl
    go_enter Tryz.func36, Tryz.ntmps36
    go_wp2_with (at_builtin; first
      | (refine wpList_append_rw rfl (.tmp 17) (.tmp 19) _ _ rfl rfl rfl (append_fn (G0.out.row.ext ((Ext.refl _).alloc _)) _ (new_fn _ _ (by rfl) _ (by simp)) (by simp) _) (fun ao1 c1 w1 hR => ?_); obtain ⟨hr1, hr2, hr3⟩ := hR; have G1 := Lib.hid (G0.out.app ((Ext.refl _).alloc _) (mend1_pre (b := w.heap.size) (c := w.heap.size + 1) (d := w.heap.size + 2) ⟨by omega, by omega⟩ ⟨by omega, by omega⟩ ⟨by omega, by omega⟩ (G0.out.grow ((Ext.refl _).alloc _)).c0 (G0.out.grow ((Ext.refl _).alloc _)).c1 ((((Ext.refl _).alloc _).cell (p := ⟨w.heap.size + 2, 0, none⟩) (by simp)).trans E2.out) hn) hr1 hr2 hr3); clear hr1 hr2 hr3)
      | (refine wpList_append_rw rfl (.tmp 21) (.tmp 23) _ _ rfl rfl rfl (append_fn (G1.out.row.ext ((Ext.refl _).alloc _)) _ (new_fn _ _ (by rfl) _ (by simp)) (by simp) _) (fun ao2 c2 w2 hR => ?_); obtain ⟨hr1, hr2, hr3⟩ := hR; have G2 := Lib.hid (G1.out.app ((Ext.refl _).alloc _) (mend2_pre (b := w.heap.size) (c := w.heap.size + 1) ⟨by omega, by omega⟩ ⟨by omega, by omega⟩ (G1.out.grow ((Ext.refl _).alloc _)).c0 (G1.out.grow ((Ext.refl _).alloc _)).c1 hn) hr1 hr2 hr3); clear hr1 hr2 hr3))
    go_loopw [11, 27] (fun s i wr => ∃ k : Nat, k ≤ m ∧ i = .int .i64 k ∧ LoopAt w wr p n e z names k s) (fun _ i _ => m - (intOf i).toNat)
    case atStart =>
      exact ⟨0, by omega, rfl, _, _, _, _, _, G2.out, rfl, by simp, by rw [hb]; exact (List.append_nil _).symm⟩
    case round =>
      obtain ⟨k, hk, rfl, vs, ao, cap, B, fs, hG, rfl, hvl, hfs⟩ := hrel
      by_cases hlt : k < m
      · obtain ⟨g, rfl, hg, hx1, hx2⟩ := (HR.out.ext hG.ext).row (by omega)
        have hkn : k < names.length := by omega
        obtain ⟨a, ha⟩ : ∃ a, names[k] = a := ⟨_, rfl⟩
        have c0 := hx1 k (by omega)
        rw [show (Nums names)[k]? = some (.int .i64 a) by simp [Nums, List.getElem?_eq_getElem hkn, ha]] at c0
        have haw := HW.out a (ha ▸ List.getElem_mem hkn)
        have hl1 := (hG.low _ hG.b1).2
        have c7 := hG.c1
        have c8 := (((Ext.refl wr).alloc (.cells #[.int .i64 a] 3)).cell (p := ⟨w.heap.size + 1, 0, none⟩) hl1).trans c7
        have HG := Lib.hid hG
        have HB := Lib.hid hb
        have HX := Lib.hid hx
        clear hG hx1 hx2 G0 E2 hb hx G1 G2
        by_cases hne : a = n
        · go_wp2
          exact ⟨⟨k + 1, by omega, by go_num, vs, ao, cap, _, fs, HG.out.box ((Ext.refl _).alloc _) (Nat.le_refl _) (by simp), rfl, by omega, by rw [hfs, dels_same names k hkn (ha.trans hne)]⟩, by simp [intOf]; omega⟩
        · go_wp2_with (at_builtin; refine wpList_append_rw rfl (.tmp 34) (.tmp 36) _ _ rfl rfl rfl (append_fn (HG.out.row.ext (((Ext.refl _).alloc _).alloc _)) _ (new_fn _ _ (by rfl) _ (by simp)) (by omega) _) (fun ao3 c3 w3 hR => ?_); obtain ⟨hr1, hr2, hr3⟩ := hR; have G3 := Lib.hid ((HG.out.box ((Ext.refl _).alloc (.cells #[.int .i64 a] 3)) (b := wr.heap.size) (Nat.le_refl _) (by simp)).app ((Ext.refl _).alloc _) (mend3_pre (b := w.heap.size) (c := wr.heap.size) (.inl HG.out.b0) (.inr rfl) (HG.out.grow (((Ext.refl _).alloc _).alloc _)).c0 (by simp) haw) hr1 hr2 hr3); clear hr1 hr2 hr3)
          exact ⟨⟨k + 1, by omega, by go_num, _, _, _, _, _, G3.out, by simp, by simp; omega, by rw [hfs, dels_more names k hkn ha hne, List.append_assoc]⟩, by simp [intOf]; omega⟩
      · obtain rfl : k = m := by omega
        have hE := hG.ext
        have hD := H.out.news hE
        have hU : Under (New O w wr) wr := by obtain ⟨_, _, _, _, h⟩ := hD; exact h
        have A := Lib.hid (all_is (hG.pres.steps hU (fun k hb => .inr (hG.low k hb))) rfl hG.row (fun g hg => .inr ⟨(hG.own g hg).1, hG.row.lt g hg⟩) (by omega) hD (show runs fs S = (S', r) by rw [hfs, List.take_of_length_le (by omega)]; exact hx))
        clear hD hU hG hfs
        go_wp2_with (go_at_call 48; (with_reducible refine A.out.mono ?_); rintro x w1 ⟨rfl, hD1⟩; have HD1 := Lib.hid hD1; clear hD1)
        go_ret
        exact ⟨rfl, H.out.back hE HD1.out (fun k hk => .inl hk)⟩
  · have hb : base n e z = [] ++ [fun S => sync S n] := by unfold base; rw [if_neg hez]
    go_enter Tryz.func36, Tryz.ntmps36
    go_wp2_with (at_builtin; (refine wpList_append_rw rfl (.tmp 21) (.tmp 23) _ _ rfl rfl rfl (append_fn (G0.out.row.ext ((Ext.refl _).alloc _)) _ (new_fn _ _ (by rfl) _ (by simp)) (by simp) _) (fun ao2 c2 w2 hR => ?_); obtain ⟨hr1, hr2, hr3⟩ := hR; have G2 := Lib.hid (G0.out.app ((Ext.refl _).alloc _) (mend2_pre (b := w.heap.size) (c := w.heap.size + 1) ⟨by omega, by omega⟩ ⟨by omega, by omega⟩ (G0.out.grow ((Ext.refl _).alloc _)).c0 (G0.out.grow ((Ext.refl _).alloc _)).c1 hn) hr1 hr2 hr3); clear hr1 hr2 hr3))
    go_loopw [11, 27] (fun s i wr => ∃ k : Nat, k ≤ m ∧ i = .int .i64 k ∧ LoopAt w wr p n e z names k s) (fun _ i _ => m - (intOf i).toNat)
    case atStart =>
      exact ⟨0, by omega, rfl, _, _, _, _, _, G2.out, rfl, by simp, by rw [hb]; exact (List.append_nil _).symm⟩
    case round =>
      obtain ⟨k, hk, rfl, vs, ao, cap, B, fs, hG, rfl, hvl, hfs⟩ := hrel
      by_cases hlt : k < m
      · obtain ⟨g, rfl, hg, hx1, hx2⟩ := (HR.out.ext hG.ext).row (by omega)
        have hkn : k < names.length := by omega
        obtain ⟨a, ha⟩ : ∃ a, names[k] = a := ⟨_, rfl⟩
        have c0 := hx1 k (by omega)
        rw [show (Nums names)[k]? = some (.int .i64 a) by simp [Nums, List.getElem?_eq_getElem hkn, ha]] at c0
        have haw := HW.out a (ha ▸ List.getElem_mem hkn)
        have hl1 := (hG.low _ hG.b1).2
        have c7 := hG.c1
        have c8 := (((Ext.refl wr).alloc (.cells #[.int .i64 a] 3)).cell (p := ⟨w.heap.size + 1, 0, none⟩) hl1).trans c7
        have HG := Lib.hid hG
        have HB := Lib.hid hb
        have HX := Lib.hid hx
        clear hG hx1 hx2 G0 E2 hb hx G2
        by_cases hne : a = n
        · go_wp2
          exact ⟨⟨k + 1, by omega, by go_num, vs, ao, cap, _, fs, HG.out.box ((Ext.refl _).alloc _) (Nat.le_refl _) (by simp), rfl, by omega, by rw [hfs, dels_same names k hkn (ha.trans hne)]⟩, by simp [intOf]; omega⟩
        · go_wp2_with (at_builtin; refine wpList_append_rw rfl (.tmp 34) (.tmp 36) _ _ rfl rfl rfl (append_fn (HG.out.row.ext (((Ext.refl _).alloc _).alloc _)) _ (new_fn _ _ (by rfl) _ (by simp)) (by omega) _) (fun ao3 c3 w3 hR => ?_); obtain ⟨hr1, hr2, hr3⟩ := hR; have G3 := Lib.hid ((HG.out.box ((Ext.refl _).alloc (.cells #[.int .i64 a] 3)) (b := wr.heap.size) (Nat.le_refl _) (by simp)).app ((Ext.refl _).alloc _) (mend3_pre (b := w.heap.size) (c := wr.heap.size) (.inl HG.out.b0) (.inr rfl) (HG.out.grow (((Ext.refl _).alloc _).alloc _)).c0 (by simp) haw) hr1 hr2 hr3); clear hr1 hr2 hr3)
          exact ⟨⟨k + 1, by omega, by go_num, _, _, _, _, _, G3.out, by simp, by simp; omega, by rw [hfs, dels_more names k hkn ha hne, List.append_assoc]⟩, by simp [intOf]; omega⟩
      · obtain rfl : k = m := by omega
        have hE := hG.ext
        have hD := H.out.news hE
        have hU : Under (New O w wr) wr := by obtain ⟨_, _, _, _, h⟩ := hD; exact h
        have A := Lib.hid (all_is (hG.pres.steps hU (fun k hb => .inr (hG.low k hb))) rfl hG.row (fun g hg => .inr ⟨(hG.own g hg).1, hG.row.lt g hg⟩) (by omega) hD (show runs fs S = (S', r) by rw [hfs, List.take_of_length_le (by omega)]; exact hx))
        clear hD hU hG hfs
        go_wp2_with (go_at_call 48; (with_reducible refine A.out.mono ?_); rintro x w1 ⟨rfl, hD1⟩; have HD1 := Lib.hid hD1; clear hD1)
        go_ret
        exact ⟨rfl, H.out.back hE HD1.out (fun k hk => .inl hk)⟩
end Go.Proofs.YtajclcbclbppiaaGreat
end
section
namespace Go.Proofs.YtajclcbclbppiaaGreat
open Go.RowKit Go.Maps Go.Dk Go.Rc Go.Jn Go.Shelf
variable {W w w' : World} {O O' F : Nat → Prop} {p q : Nat} {S S' : St} {J J' : Jo}
/-- A journal's object. -/
structure JoAt (w : World) (q p : Nat) (J : Jo) : Prop where
  lt : q < w.heap.size
  c0 : w.cell? ⟨q, 0, none⟩ = some (.pointer (some ⟨p, 0, none⟩))
  c1 : w.cell? ⟨q, 1, none⟩ = some (.int .i64 J.n)
  c2 : w.cell? ⟨q, 2, none⟩ = some (.int .i64 J.size)
  c3 : w.cell? ⟨q, 3, none⟩ = some (.int .i64 J.many)
  c4 : w.cell? ⟨q, 4, none⟩ = some (.int .i64 J.starts)
  c5 : w.cell? ⟨q, 5, none⟩ = some (.bool J.dead)
  fz : ∀ j, w.frozen? ⟨q, j, none⟩ = false
theorem JoAt.kept (h : JoAt w q p J) (hs : w.heap.size ≤ w'.heap.size) (hb : w'.heap[q]? = w.heap[q]?) : JoAt w' q p J :=
  ⟨Nat.lt_of_lt_of_le h.lt hs, cell_kept hb h.c0, cell_kept hb h.c1, cell_kept hb h.c2, cell_kept hb h.c3, cell_kept hb h.c4, cell_kept hb h.c5, fun j => (World.frozen?_of_block (a := ⟨q, j, none⟩) hb).trans (h.fz j)⟩
theorem JoAt.fr (h : JoAt w q p J) (hf : Fr F w w') (hn : ¬ F q) : JoAt w' q p J := h.kept hf.size (hf.block q h.lt hn)
theorem JoAt.ext (h : JoAt w q p J) (hx : Ext w w') : JoAt w' q p J := h.kept hx.size (Below.block hx q h.lt)
theorem JoAt.made {t : TypeId} (hb : w.heap[q]? = some (.cells #[.pointer (some ⟨p, 0, none⟩), .int .i64 J.n, .int .i64 J.size, .int .i64 J.many, .int .i64 J.starts, .bool J.dead] t)) : JoAt w q p J := by
  have hg : q < w.heap.size := by
    rcases Nat.lt_or_ge q w.heap.size with h | h
    · exact h
    · rw [Array.getElem?_eq_none h] at hb; cases hb
  refine ⟨hg, ?_, ?_, ?_, ?_, ?_, ?_, fun j => ?_⟩
  all_goals first | (simp only [World.cell?, hb]; rfl) | (simp only [World.frozen?, hb]; simp)
def WithO (O : Nat → Prop) (b : Nat) : Nat → Prop := fun k => O k ∨ k = b
/-- A journal and its disk, apart from O; of O nothing has turned since W. -/
structure Jp (W : World) (O : Nat → Prop) (p q : Nat) (S : St) (J : Jo) (w : World) : Prop where
  d : Dp w (WithO O q) p S w
  j : JoAt w q p J
  out : ¬ O q
  fr : Fr (fun k => ¬ O k) W w
  under : Under O W
theorem Dp.under (h : Dp W O p S w) : Under O W := by obtain ⟨_, _, _, _, h⟩ := h; exact h
theorem Jp.ok (h : Jp W O p q S J w) : Ok S := h.d.ok
theorem Jp.made (h : Dp W O p S w) (hx : Ext w w') (hq : w.heap.size ≤ q) (hj : JoAt w' q p J) : Jp W O p q S J w' := by
  have hs := h.fr.size
  refine ⟨h.base (fun k hk => ?_) hx (fun k hk => hk.imp (fun h => h) (fun e => by omega)), hj, fun ho => ?_, h.fr.trans (Fr.of_ext (F := fun _ => False) hx) (fun _ _ hf => hf.elim), h.under⟩
  · rcases hk with hk | rfl
    · have := h.under k hk; have := hx.size; omega
    · exact hj.lt
  · have := h.under q ho; omega
theorem Jp.ext (h : Jp W O p q S J w) (hx : Ext w w') : Jp W O p q S J w' :=
  ⟨h.d.base (fun k hk => Nat.lt_of_lt_of_le (h.d.under k hk) hx.size) hx (fun _ hk => .inl hk), h.j.ext hx, h.out, h.fr.trans (Fr.of_ext (F := fun _ => False) hx) (fun _ _ hf => hf.elim), h.under⟩
/-- Rebased. -/
theorem Dp.now (h : Dp W O p S w) : Dp w O p S w := by
  obtain ⟨β, h1, h3, h4, h7⟩ := h
  exact ⟨β, h1, Fr.refl _ _, h4, h7.mono h3.size⟩
/-- The disk has turned. -/
theorem Jp.disk (h : Jp W O p q S J w) (h' : Dp w (WithO O q) p S' w') : Jp W O p q S' J w' :=
  ⟨h'.now, h.j.fr h'.fr (fun h => h (.inr rfl)), h.out, h.fr.trans h'.fr (fun _ _ hk ho => hk (.inl ho)), h.under⟩
/-- The journal's own cells have turned. -/
theorem Jp.set (h : Jp W O p q S J w) (hf : Fr (fun k => k = q) w w') (hj : JoAt w' q p J') : Jp W O p q S J' w' := by
  obtain ⟨β, h1, h3, h4, h7⟩ := h.d
  refine ⟨⟨β, h1.fr hf (fun k hk e => h4 k (.inr e) hk), Fr.refl _ _, h4, h7.mono hf.size⟩, hj, h.out, h.fr.trans hf (fun k _ e ho => h.out (e ▸ ho)), h.under⟩
theorem Jp.now (h : Jp W O p q S J w) : Jp w O p q S J w := ⟨h.d, h.j, h.out, Fr.refl _ _, h.under.mono h.fr.size⟩
/-- Other things beside. -/
theorem Jp.base (h : Jp W O p q S J w) (hx : Ext w w') (hO : Under O' w') (h' : ∀ k, O' k → O k ∨ w.heap.size ≤ k) : Jp w' O' p q S J w' := by
  have hj := h.j.lt
  refine ⟨h.d.base (fun k hk => ?_) hx (fun k hk => ?_), h.j.ext hx, fun ho => ?_, Fr.refl _ _, hO⟩
  · rcases hk with hk | rfl
    · exact hO k hk
    · exact Nat.lt_of_lt_of_le hj hx.size
  · rcases hk with hk | rfl
    · exact (h' k hk).imp .inl (fun h => h)
    · exact .inl (.inr rfl)
  · rcases h' q ho with hq | hq
    · exact h.out hq
    · omega
theorem Dp.since (h : Dp W O p S w) (h' : Dp w O p S' w') : Dp W O p S' w' := h.back (Ext.refl w) h' (fun _ h => h)
theorem Jp.since (hf : Fr (fun k => ¬ O k) W w) (hu : Under O W) (h : Jp w O p q S J w') : Jp W O p q S J w' := ⟨h.d, h.j, h.out, hf.trans h.fr (fun _ _ hk => hk), hu⟩
end Go.Proofs.YtajclcbclbppiaaGreat
end
section
namespace Go.Proofs.YtajclcbclbppiaaGreat
open Go.RowKit Go.Maps Go.Dk Go.Rc Go.Jn Go.Shelf
variable {W w w' : World} {O O' F : Nat → Prop} {p q : Nat} {S S' : St} {J J' : Jo}
/-- What fresh answers. -/
def FreshTo (W : World) (O : Nat → Prop) (p : Nat) (S' : St) (e : Int) (w : World) (x : Ending) (w' : World) : Prop :=
  (e ≠ 0 ∧ x = .returned (.tuple #[.pointer none, .int .i64 e]) ∧ Dp W O p S' w') ∨
    (e = 0 ∧ ∃ q, x = .returned (.tuple #[.pointer (some ⟨q, 0, none⟩), .int .i64 0]) ∧ Jp W O p q S' ⟨0, 8, 0, S'.starts, false⟩ w' ∧ w.heap.size ≤ q)
set_option maxHeartbeats 1000000 in
set_option maxRecDepth 100000 in
theorem fresh_is (h : Dp W O p S w) {fo : Option Addr} {m fc : Nat} (hm : S.fs.length = m) {e : Int} (hx : fresh S = (S', e)) :
    Calls Tryz.prog 38 #[.pointer (some ⟨p, 0, none⟩), .slice fo m fc] w (FreshTo W O p S' e w) := by
  have hl8 : (recL []).length = 8 := recL_length []
  have P := Lib.hid (fun w' => rput_yes [] w' (by decide))
  unfold fresh at hx
  obtain ⟨X, hX⟩ : ∃ X, recL [] = X := ⟨_, rfl⟩
  rw [hX] at hx hl8 P
  clear hX
  have wf0 : (Lit.int .i64 0).wf = true := by decide
  have H := Lib.hid h.now
  have H0 := Lib.hid h
  by_cases h0 : m = 0
  · subst h0
    rw [if_pos (List.length_eq_zero_iff.1 hm), List.nil_append] at hx
    clear h hm
    by_cases he : e = 0
    · subst he
      go_enter Tryz.func38, Tryz.ntmps38
      go_wp2_with (first | (go_at_call 47; (with_reducible refine (P.out _).mono ?_); rintro x w1 ⟨rfl, hx1⟩; have Hx1 := Lib.hid hx1; clear hx1) | (go_at_call 56; (with_reducible refine (lay_is (H.out.ext Hx1.out) wf0 hx).mono ?_); rintro x w2 ⟨rfl, hD⟩; have HD := Lib.hid hD; clear hD) | (go_at_call 37; (with_reducible refine (k_starts HD.out rfl).mono ?_); rintro x w3 ⟨rfl, rfl⟩))
      go_ret2
      exact .inr ⟨rfl, _, rfl, (Jp.made HD.out ((Ext.refl _).alloc _) (Nat.le_refl _) (JoAt.made (heap_alloc_new _ _))).since H0.out.fr H0.out.under, HD.out.fr.size⟩
    · go_enter Tryz.func38, Tryz.ntmps38
      go_wp2_with (first | (go_at_call 47; (with_reducible refine (P.out _).mono ?_); rintro x w1 ⟨rfl, hx1⟩; have Hx1 := Lib.hid hx1; clear hx1) | (go_at_call 56; (with_reducible refine (lay_is (H.out.ext Hx1.out) wf0 hx).mono ?_); rintro x w2 ⟨rfl, hD⟩; have HD := Lib.hid hD; clear hD) | (go_at_call 37; (with_reducible refine (k_starts HD.out rfl).mono ?_); rintro x w3 ⟨rfl, rfl⟩))
      go_ret2
      exact .inl ⟨he, rfl, H0.out.since HD.out⟩
  · have hne : ¬ S.fs = [] := fun e => h0 (by rw [← hm, e]; rfl)
    have hm0 : (0 : Int) < m := by omega
    rw [if_neg hne, List.singleton_append, runs_cons] at hx
    obtain ⟨S1, e1, hd⟩ : ∃ S1 e1, delete S 0 = (S1, e1) := ⟨_, _, rfl⟩
    rw [hd] at hx
    clear h hm hne
    by_cases h1 : e1 = 0
    · subst h1
      rw [if_pos rfl] at hx
      by_cases he : e = 0
      · subst he
        go_enter Tryz.func38, Tryz.ntmps38
        go_wp2_with (first | (go_at_call 57; (with_reducible refine (k_delete H.out wf0 hd).mono ?_); rintro x w4 ⟨rfl, hD⟩; have HE := Lib.hid hD; clear hD) | (go_at_call 47; (with_reducible refine (P.out _).mono ?_); rintro x w1 ⟨rfl, hx1⟩; have Hx1 := Lib.hid hx1; clear hx1) | (go_at_call 56; (with_reducible refine (lay_is (HE.out.ext Hx1.out) wf0 hx).mono ?_); rintro x w2 ⟨rfl, hD⟩; have HD := Lib.hid hD; clear hD) | (go_at_call 37; (with_reducible refine (k_starts HD.out rfl).mono ?_); rintro x w3 ⟨rfl, rfl⟩))
        go_ret2
        exact .inr ⟨rfl, _, rfl, (Jp.made HD.out ((Ext.refl _).alloc _) (Nat.le_refl _) (JoAt.made (heap_alloc_new _ _))).since H0.out.fr H0.out.under, HD.out.fr.size⟩
      · go_enter Tryz.func38, Tryz.ntmps38
        go_wp2_with (first | (go_at_call 57; (with_reducible refine (k_delete H.out wf0 hd).mono ?_); rintro x w4 ⟨rfl, hD⟩; have HE := Lib.hid hD; clear hD) | (go_at_call 47; (with_reducible refine (P.out _).mono ?_); rintro x w1 ⟨rfl, hx1⟩; have Hx1 := Lib.hid hx1; clear hx1) | (go_at_call 56; (with_reducible refine (lay_is (HE.out.ext Hx1.out) wf0 hx).mono ?_); rintro x w2 ⟨rfl, hD⟩; have HD := Lib.hid hD; clear hD) | (go_at_call 37; (with_reducible refine (k_starts HD.out rfl).mono ?_); rintro x w3 ⟨rfl, rfl⟩))
        go_ret2
        exact .inl ⟨he, rfl, H0.out.since HD.out⟩
    · rw [if_neg h1] at hx
      obtain ⟨rfl, rfl⟩ := Prod.mk.inj hx
      go_enter Tryz.func38, Tryz.ntmps38
      go_wp2_with ((go_at_call 57; (with_reducible refine (k_delete H.out wf0 hd).mono ?_); rintro x w4 ⟨rfl, hD⟩; have HD := Lib.hid hD; clear hD))
      go_ret2
      exact .inl ⟨h1, rfl, H0.out.since HD.out⟩
end Go.Proofs.YtajclcbclbppiaaGreat
end
section
namespace Go.Jn
open Go.Dk Go.Rc
theorem pick_none : ∀ {l : List Fl}, (∀ g ∈ l, itsAt g.b 0 = []) → pick l = none
  | [], _ => rfl
  | f :: r, h => by
    unfold pick
    rw [pick_none (l := r) (fun g hg => h g (.tail _ hg))]
    show (if itsAt f.b 0 = [] then none else some f) = none
    rw [if_pos (h f (.head _))]
theorem pick_at : ∀ {l : List Fl} {k : Nat} {f : Fl}, l[k]? = some f → itsAt f.b 0 ≠ [] → (∀ g ∈ l.drop (k + 1), itsAt g.b 0 = []) → pick l = some f
  | [], k, f, h, _, _ => by simp at h
  | g :: r, 0, f, h, hne, hl => by
    obtain rfl : g = f := by simpa using h
    unfold pick
    rw [pick_none (l := r) (by simpa using hl)]
    show (if itsAt g.b 0 = [] then none else some g) = some g
    rw [if_neg hne]
  | g :: r, k + 1, f, h, hne, hl => by
    unfold pick
    rw [pick_at (l := r) (k := k) (by simpa using h) hne (by simpa using hl)]
theorem drop_cons {l : List Fl} {k : Nat} {f : Fl} (h : l[k]? = some f) : l.drop k = f :: l.drop (k + 1) := by
  obtain ⟨hk, rfl⟩ := List.getElem?_eq_some_iff.1 h
  exact List.drop_eq_getElem_cons hk
end Go.Jn
namespace Go.Proofs.YtajclcbclbppiaaGreat
open Go.RowKit Go.Maps Go.Dk Go.Rc Go.Jn Go.Shelf
variable {W w w' : World} {O O' F : Nat → Prop} {p q : Nat} {S S' : St} {J J' : Jo}
/-- A row of texts that is only read, at any place. -/
def Ro (w : World) (ao : Option Addr) (n : Nat) (L : List (List UInt8)) : Prop :=
  L.length = n ∧ (n = 0 ∨ ∃ g o, ao = some ⟨g, o, none⟩ ∧ g < w.heap.size ∧ ∀ j, j < n → w.cell? ⟨g, o + j, none⟩ = (Se L)[j]?)
theorem Ro.kept {ao : Option Addr} {n : Nat} {L : List (List UInt8)} (h : Ro w ao n L) (hs : w.heap.size ≤ w'.heap.size) (hb : ∀ g, ob ao = some g → g < w.heap.size → w'.heap[g]? = w.heap[g]?) : Ro w' ao n L := by
  refine ⟨h.1, ?_⟩
  rcases h.2 with h0 | ⟨g, o, rfl, hg, h1⟩
  · exact .inl h0
  · exact .inr ⟨g, o, rfl, Nat.lt_of_lt_of_le hg hs, fun j hj => (World.cell?_of_block (a := ⟨g, o + j, none⟩) (hb g rfl hg)).trans (h1 j hj)⟩
theorem Ro.ext {ao : Option Addr} {n : Nat} {L : List (List UInt8)} (h : Ro w ao n L) (hx : Ext w w') : Ro w' ao n L := h.kept hx.size (fun g _ hg => Below.block hx g hg)
theorem Ro.fr {ao : Option Addr} {n : Nat} {L : List (List UInt8)} (h : Ro w ao n L) (hf : Fr F w w') (hn : ∀ g, ob ao = some g → ¬ F g) : Ro w' ao n L := h.kept hf.size (fun g h1 hg => hf.block g hg (hn g h1))
/-- O, and a row's block. -/
def WithRow (O : Nat → Prop) (ao : Option Addr) : Nat → Prop := fun k => O k ∨ ob ao = some k
/-- What Open answers. -/
def OpenTo (W : World) (O : Nat → Prop) (p : Nat) (R : Jn.Op) (w : World) (x : Ending) (w' : World) : Prop :=
  (R.j = none ∧ x = .returned (.tuple #[.pointer none, .string (ofL []), .slice none 0 0, .int .i64 R.e]) ∧ Dp W O p R.S w') ∨
    (∃ J q ao n cap, R.j = some J ∧ x = .returned (.tuple #[.pointer (some ⟨q, 0, none⟩), .string (ofL R.snap), .slice ao n cap, .int .i64 0]) ∧ R.e = 0 ∧ n ≤ cap ∧ Ro w' ao n R.l ∧ Jp w' (WithRow O ao) p q R.S J w' ∧ Fr (fun k => ¬ O k) W w' ∧ w.heap.size ≤ q ∧ ∀ g, ob ao = some g → w.heap.size ≤ g)
set_option maxHeartbeats 1000000 in
set_option maxRecDepth 100000 in
theorem open_down (h : Dp W O p S w) (hd : S.down = true) :
    Calls Tryz.prog 11 #[.pointer (some ⟨p, 0, none⟩)] w (OpenTo W O p (open_ S) w) := by
  have U := Lib.hid (k_up h (b := false) (by rw [hd]; rfl))
  have Z := Lib.hid (k_size h (n := 0) (by decide) (z := 0) (e := 61) (by simp [Dk.size, hd]))
  have H := Lib.hid h
  have hO : open_ S = ⟨S, none, [], [], 61⟩ := by unfold open_; rw [if_pos hd]
  rw [hO]
  clear h hd hO
  go_enter Tryz.func11, Tryz.ntmps11
  go_wp2_with (first | (go_at_call 32; (with_reducible refine U.out.mono ?_); rintro x w1 ⟨rfl, rfl⟩) | (go_at_call 33; (with_reducible refine Z.out.mono ?_); rintro x w2 ⟨rfl, rfl⟩))
  go_returns
  exact .inl ⟨rfl, rfl, H.out⟩
set_option maxHeartbeats 2000000 in
set_option maxRecDepth 100000 in
theorem open_up (h : Dp W O p S w) (hd : S.down = false) :
    Calls Tryz.prog 11 #[.pointer (some ⟨p, 0, none⟩)] w (OpenTo W O p (open_ S) w) := by
  have U := Lib.hid (k_up h (b := true) (by rw [hd]; rfl))
  obtain ⟨m, hm⟩ : ∃ m, S.fs.length = m := ⟨_, rfl⟩
  obtain ⟨names, hnm⟩ : ∃ names, S.fs.map (·.n) = names := ⟨_, rfl⟩
  have hm2 : m ≤ 100 := by have := h.ok.many; omega
  have hnl : names.length = m := by rw [← hnm, List.length_map]; exact hm
  have FI := Lib.hid (show Calls Tryz.prog 34 #[.pointer (some ⟨p, 0, none⟩)] w fun x w' => ∃ ao cap, x = .returned (.slice ao m cap) ∧ Rw w' 1 ao m cap (Nums names) ∧ Ext w w' ∧ ∀ g, ob ao = some g → w.heap.size ≤ g from by
    subst hm; subst hnm
    obtain ⟨β, h1, _⟩ := h
    exact files_is h1)
  have H := Lib.hid h
  have hw1 : IntKind.i64.wrap ((m : Int) - 1) = (m : Int) - 1 := IntWalk.i64_in _ (by omega)
  clear h
  go_enter Tryz.func11, Tryz.ntmps11
  go_wp2_with (first | (go_at_call 32; (with_reducible refine U.out.mono ?_); rintro x w1 ⟨rfl, rfl⟩) | (go_at_call 34; (with_reducible refine FI.out.mono ?_); rintro x w1 ⟨fo, fc, rfl, hr, hx, hn⟩; have HR := Lib.hid hr; have HX := Lib.hid hx; have HN := Lib.hid hn; clear hr hx hn))
  go_loopw [9] (fun i wr => ∃ (k : Nat) (j : Int), k ≤ m ∧ j = (k : Int) - 1 ∧ i = .int .i64 j ∧ (∀ f ∈ S.fs.drop k, itsAt f.b 0 = []) ∧ Ext w1 wr) (fun i _ => (intOf i + 1).toNat)
  case atStart => exact ⟨m, _, Nat.le_refl _, rfl, rfl, fun f hf => (by rw [List.drop_of_length_le (by omega)] at hf; cases hf), Ext.refl _⟩
  case round =>
    obtain ⟨k, j, hk, hj, rfl, hl, hx⟩ := hrel
    have hxw : Ext w wr := HX.out.trans hx
    have HD := Lib.hid (H.out.ext hxw)
    have HL := Lib.hid hl
    have HF := Lib.hid hnm
    clear hl
    by_cases hk0 : k = 0
    · subst hk0
      obtain rfl : j = -1 := by omega
      have hpk : pick S.fs = none := pick_none (fun g hg => HL.out g (by simpa using hg))
      clear hj
      obtain ⟨S', r, hfx⟩ : ∃ S' r, fresh S = (S', r) := ⟨_, _, rfl⟩
      by_cases hbroke : 1 < m ∨ m = 1 ∧ names.headD 0 ≠ 0
      · have hop : open_ S = ⟨S, none, [], [], 63⟩ := by
          unfold open_
          rw [if_neg (by rw [hd]; decide), hpk]
          dsimp only
          rw [hnm, hm, if_pos hbroke]
        have HOP := Lib.hid hop
        clear hop hpk hfx
        by_cases h1 : 1 < m
        · have h1' : (1 : Int) < (m : Int) := by omega
          clear hbroke
          go_wp2_with fail
          go_returns
          rw [HOP.out]
          exact .inl ⟨rfl, rfl, HD.out⟩
        · obtain ⟨rfl, hn0⟩ : m = 1 ∧ names.headD 0 ≠ 0 := hbroke.resolve_left h1
          obtain ⟨n0, rfl⟩ : ∃ n0, names = [n0] := List.length_eq_one_iff.1 hnl
          obtain ⟨g, rfl, hg, hx1, hx2⟩ := (HR.out.ext hx).row (by omega)
          have c0 := hx1 0 (by omega)
          rw [show (Nums [n0])[0]? = some (.int .i64 n0) from rfl] at c0
          have hn0 : ¬ n0 = 0 := hn0
          clear hx1 hx2
          go_wp2_with fail
          go_returns
          rw [HOP.out]
          exact .inl ⟨rfl, rfl, HD.out⟩
      · have hop : open_ S = if r = 0 then ⟨S', some ⟨0, 8, 0, S'.starts, false⟩, [], [], 0⟩ else ⟨S', none, [], [], r⟩ := by
          unfold open_
          rw [if_neg (by rw [hd]; decide), hpk]
          dsimp only
          rw [hnm, hm, if_neg hbroke, hfx]
        have HOP := Lib.hid hop
        have HB := Lib.hid hbroke
        have hm1 : m ≤ 1 := by
          rcases Nat.lt_or_ge 1 m with h | h
          · exact absurd (.inl h) hbroke
          · exact h
        clear hop hpk hbroke
        have fin : ∀ x w', FreshTo W O p S' r wr x w' → ∀ v1 v2, x = .returned (.tuple #[v1, v2]) → OpenTo W O p (open_ S) w (.returned (.tuple #[v1, .string (ofL []), .slice none 0 0, v2])) w' := by
          intro x w' h v1 v2 hxe
          rw [HOP.out]
          rcases h with ⟨h1, rfl, h3⟩ | ⟨rfl, q, rfl, h3, h4⟩
          · simp only [Ending.returned.injEq, Value.tuple.injEq, Array.mk.injEq, List.cons.injEq, and_true] at hxe
            obtain ⟨rfl, rfl⟩ := hxe
            rw [if_neg h1]
            exact .inl ⟨rfl, rfl, h3⟩
          · simp only [Ending.returned.injEq, Value.tuple.injEq, Array.mk.injEq, List.cons.injEq, and_true] at hxe
            obtain ⟨rfl, rfl⟩ := hxe
            rw [if_pos rfl]
            have hwr := (H.out.ext hxw)
            have h5 : Jp w' (WithRow O none) p q S' ⟨0, 8, 0, S'.starts, false⟩ w' := by
              have := h3.base (O' := WithRow O none) (Ext.refl _) (fun k hk => hk.elim (fun e => Nat.lt_of_lt_of_le (h3.under k e) h3.fr.size) (fun e => by cases e)) (fun k hk => hk.elim .inl (fun e => by cases e))
              exact this
            exact .inr ⟨_, q, none, 0, 0, rfl, rfl, rfl, Nat.le_refl _, ⟨rfl, .inl rfl⟩, h5, h3.fr, by have := hxw.size; omega, fun g hg => by cases hg⟩
        have FIN := Lib.hid fin
        have FRC := Lib.hid (fresh_is (fo := fo) (fc := fc) HD.out hm hfx)
        clear fin
        by_cases h0 : m = 0
        · subst h0
          go_wp2_with (go_at_call 38; (with_reducible refine FRC.out.mono ?_); intro x w3 hF; obtain ⟨v1, v2, hxe⟩ : ∃ v1 v2, x = .returned (.tuple #[v1, v2]) := (hF.elim (fun h => ⟨_, _, h.2.1⟩) (fun ⟨_, q, h, _⟩ => ⟨_, _, h⟩)); have HF3 := Lib.hid hF; clear hF; subst hxe)
          go_returns
          exact FIN.out _ _ HF3.out _ _ rfl
        · obtain rfl : m = 1 := by omega
          obtain ⟨n0, rfl⟩ : ∃ n0, names = [n0] := List.length_eq_one_iff.1 hnl
          obtain ⟨g, rfl, hg, hx1, hx2⟩ := (HR.out.ext hx).row (by omega)
          have c0 := hx1 0 (by omega)
          rw [show (Nums [n0])[0]? = some (.int .i64 n0) from rfl] at c0
          have hn0 : n0 = 0 := by
            rcases Classical.em (n0 = 0) with h | h
            · exact h
            · exact absurd (.inr ⟨rfl, h⟩) HB.out
          clear hx1 hx2
          go_wp2_with (go_at_call 38; (with_reducible refine FRC.out.mono ?_); intro x w3 hF; obtain ⟨v1, v2, hxe⟩ : ∃ v1 v2, x = .returned (.tuple #[v1, v2]) := (hF.elim (fun h => ⟨_, _, h.2.1⟩) (fun ⟨_, q, h, _⟩ => ⟨_, _, h⟩)); have HF3 := Lib.hid hF; clear hF; subst hxe)
          go_returns
          exact FIN.out _ _ HF3.out _ _ rfl
    · obtain ⟨k, rfl⟩ : ∃ k', k = k' + 1 := ⟨k - 1, by omega⟩
      obtain rfl : j = (k : Int) := by omega
      clear hj
      have hkl : k < S.fs.length := by omega
      obtain ⟨f, hf⟩ : ∃ f, S.fs[k]? = some f := ⟨_, List.getElem?_eq_getElem hkl⟩
      have hfm := List.mem_of_getElem? hf
      obtain ⟨g, rfl, hg, hx1, hx2⟩ := (HR.out.ext hx).row (by omega)
      have c0 := hx1 k (by omega)
      rw [show (Nums names)[k]? = some (.int .i64 f.n) by rw [← hnm]; simp [Nums, hf]] at c0
      have hwk : IntKind.i64.wrap ((k : Int) - 1) = (k : Int) - 1 := IntWalk.i64_in _ (by omega)
      clear hx1 hx2
      by_cases hp : itsAt f.b 0 = []
      · have C := load_is HD.out hd hfm
        rw [hp] at C
        have C := Lib.hid C
        have HP := Lib.hid hp
        clear hp
        go_wp2_with (go_at_call 35; (with_reducible refine C.out.mono ?_); rintro x w2 ⟨po, pc, rfl, hr, hx2, hn⟩; have HX2 := Lib.hid hx2; clear hr hx2 hn)
        exact ⟨⟨k, _, by omega, rfl, rfl, fun g hg => by rw [drop_cons hf] at hg; rcases List.mem_cons.1 hg with rfl | hg; exact HP.out; exact HL.out g hg, hx.trans HX2.out⟩, show ((k : Int) - 1 + 1).toNat < ((k : Int) + 1).toNat by omega⟩
      · obtain ⟨pn, hpn⟩ : ∃ pn, (itsAt f.b 0).length = pn := ⟨_, rfl⟩
        have hpn0 : 0 < pn := by
          rcases Nat.eq_zero_or_pos pn with h0 | h0
          · exact absurd (List.length_eq_zero_iff.1 (hpn.trans h0)) hp
          · exact h0
        have hpk : pick S.fs = some f := pick_at hf hp HL.out
        obtain ⟨e, he⟩ : ∃ e : Nat, endOf (itsAt f.b 0) = e := ⟨_, rfl⟩
        obtain ⟨z, hz⟩ : ∃ z : Nat, f.b.length = z := ⟨_, rfl⟩
        obtain ⟨S', r, hmx⟩ : ∃ S' r, runs (mends names f.n e z) S = (S', r) := ⟨_, _, rfl⟩
        have hpl : (pays f.b).length = pn := by unfold pays; rw [List.length_map]; exact hpn
        have hpm : pn ≤ 1048576 := by have := itsAt_length f.b 0; have := tot_mem hfm; have := H.out.ok.tot; have := H.out.ok.cap1; omega
        have hop : open_ S = if r = 0 then ⟨S', some ⟨f.n, e, (pn : Int) - 1, S'.starts, false⟩, (pays f.b).headD [], (pays f.b).tail, 0⟩ else ⟨S', none, [], [], r⟩ := by
          unfold open_
          rw [if_neg (by rw [hd]; decide), hpk]
          dsimp only
          rw [hnm, he, hz, hpn, hmx]
        have C := load_is HD.out hd hfm
        rw [hpn, he, hz] at C
        have C := Lib.hid C
        have hfw := wf_of (H.out.ok.names f hfm)
        have HNW := Lib.hid (fun k hk => wf_of (by
          rw [← hnm] at hk
          obtain ⟨f', hf', rfl⟩ := List.mem_map.1 hk
          exact H.out.ok.names f' hf' : 0 ≤ k ∧ k ≤ 9223372036854775807) : ∀ k ∈ names, (Lit.int .i64 k).wf = true)
        have hw2 : IntKind.i64.wrap ((pn : Int) - 1) = (pn : Int) - 1 := IntWalk.i64_in _ (by omega)
        have HPL := Lib.hid hpl
        clear hpk hpl
        by_cases hr0 : r = 0
        · subst hr0
          rw [if_pos rfl] at hop
          rw [hop]
          clear hop
          go_wp2_with (first
            | (go_at_call 35; (with_reducible refine C.out.mono ?_); rintro x w2 ⟨po, pc, rfl, hr, hx2, hn⟩; have HX2 := Lib.hid hx2; have c2 := (hx2.cell (p := ⟨g, k, none⟩) hg).trans c0; have HPR := Lib.hid hr; have HPN := Lib.hid hn; clear hr hx2 hn)
            | (go_at_call 36; (with_reducible refine (mend_is (H.out.news (hxw.trans HX2.out)) hnl (by omega) (HR.out.ext (hx.trans HX2.out)) HNW.out hfw hmx).mono ?_); rintro x w3 ⟨rfl, hD⟩; have HD3 := Lib.hid hD; clear hD))
          have hsz2 : wr.heap.size ≤ w2.heap.size := HX2.out.size
          have HF3 := HD3.out.fr
          have hcg : ∀ w', Fr (fun k => ¬ New O w w2 k) w2 w' → w'.cell? ⟨g, k, none⟩ = some (.int .i64 f.n) := fun w' h => (h.cell (p := ⟨g, k, none⟩) (show g < w2.heap.size by omega) (fun h => h (.inr ⟨HN.out g rfl, show g < w2.heap.size by omega⟩))).trans c2
          have hki : (0 : Int) ≤ (k : Int) := by omega
          have hkm : (k : Int) < (m : Int) := by omega
          obtain ⟨gp, rfl, hgp, hp1, hp2⟩ := HPR.out.row (by omega)
          have hgn : New O w w2 gp := .inr ⟨Nat.le_trans hxw.size (HPN.out gp rfl), hgp⟩
          obtain ⟨hd0, tl, hpd⟩ : ∃ hd0 tl, pays f.b = hd0 :: tl := List.exists_cons_of_length_pos (by rw [HPL.out]; exact hpn0)
          have hcp : w3.cell? ⟨gp, 0, none⟩ = some (.string (ofL hd0)) := (HF3.cell (p := ⟨gp, 0, none⟩) hgp (fun h => h hgn)).trans ((hp1 0 (by omega)).trans (by rw [hpd]; rfl))
          have hgp3 : gp < w3.heap.size := Nat.lt_of_lt_of_le hgp HF3.size
          have hpc := HPR.out.le
          have HP1 := Lib.hid hp1
          clear hp1 hp2
          go_region_held3 (fun w' => Fr (fun k => ¬ New O w w2 k) w2 w') (first | exact Fr.drew HF3 | assumption | exact Fr.alloc (by assumption) _) (first | (go_at_call 37; (with_reducible refine (k_starts (HD3.out.ext (Ext.refl _).drew) rfl).mono ?_); rintro x w4 ⟨rfl, rfl⟩))
          all_goals
            go_wp2_with fail
            go_quiet (fail)
            all_goals go_wp2_with fail
            all_goals
              go_returns
              have hE5 := (((Ext.refl w3).alloc (.cells #[.pointer (some ⟨p, 0, none⟩), .int .i64 f.n, .int .i64 e, .int .i64 ((pn : Int) - 1), .int .i64 S'.starts, .bool false] 78)).drewN (1 + nq))
              have hjo : JoAt (w3.alloc (.cells #[.pointer (some ⟨p, 0, none⟩), .int .i64 f.n, .int .i64 e, .int .i64 ((pn : Int) - 1), .int .i64 S'.starts, .bool false] 78)) w3.heap.size p ⟨f.n, e, (pn : Int) - 1, S'.starts, false⟩ := JoAt.made (heap_alloc_new w3 _)
              have hJ := Jp.made HD3.out hE5 (Nat.le_refl _) (hjo.ext ((Ext.refl _).drewN (1 + nq)))
              have hsub : ∀ ao, (ao = some ⟨gp, 0, none⟩ ∨ ao = some ⟨gp, 1, none⟩) → ∀ k, WithRow O ao k → New O w w2 k := by
                rintro ao (rfl | rfl) k hk
                · exact hk.elim .inl (fun e => by obtain rfl : gp = k := by simpa [ob] using e
                                                  exact hgn)
                · exact hk.elim .inl (fun e => by obtain rfl : gp = k := by simpa [ob] using e
                                                  exact hgn)
              have hs5 := hE5.size
              have hs3 := HF3.size
              refine .inr ⟨_, _, _, _, _, rfl, rfl, rfl, by omega, ⟨?_, ?_⟩, hJ.base (Ext.refl _) (fun k hk => Nat.lt_of_lt_of_le (hJ.under k (hsub _ (by simp) k hk)) (Nat.le_trans hs3 hs5)) (fun k hk => .inl (hsub _ (by simp) k hk)), ((H.out.fr.trans (Fr.of_ext (F := fun _ => False) (hxw.trans HX2.out)) (fun _ _ hf => hf.elim)).trans HF3 (fun k _ hk ho => hk (.inl ho))).trans (Fr.of_ext (F := fun _ => False) hE5) (fun _ _ hf => hf.elim), by have := hxw.size; omega, by
                intro k hk
                obtain rfl : gp = k := by simpa [ob] using hk
                exact Nat.le_trans hxw.size (HPN.out gp rfl)⟩
              · have := HPL.out
                rw [hpd] at this
                simp at this
                show tl.length = pn - 1
                omega
              · rcases Nat.eq_zero_or_pos (pn - 1) with h0 | h0
                · exact .inl h0
                · refine .inr ⟨gp, 1, (by first | rfl | (exfalso; omega)), by omega, fun j hj => ?_⟩
                  rw [hE5.cell (p := ⟨gp, 1 + j, none⟩) hgp3, HF3.cell (p := ⟨gp, 1 + j, none⟩) hgp (fun h => h hgn), HP1.out (1 + j) (by omega), hpd]
                  show _ = (Se tl)[j]?
                  rw [show Se (hd0 :: tl) = .string (ofL hd0) :: Se tl from rfl, Nat.add_comm 1 j, List.getElem?_cons_succ]
        · rw [if_neg hr0] at hop
          rw [hop]
          clear hop
          go_wp2_with (first | (go_at_call 35; (with_reducible refine C.out.mono ?_); rintro x w2 ⟨po, pc, rfl, hr, hx2, hn⟩; have HX2 := Lib.hid hx2; have c2 := (hx2.cell (p := ⟨g, k, none⟩) hg).trans c0; clear hr hx2 hn) | (go_at_call 36; (with_reducible refine (mend_is (HD.out.ext HX2.out) hnl (by omega) (HR.out.ext (hx.trans HX2.out)) HNW.out hfw hmx).mono ?_); rintro x w3 ⟨rfl, hD⟩; have HD3 := Lib.hid hD; clear hD))
          go_returns
          exact .inl ⟨rfl, rfl, HD3.out⟩
end Go.Proofs.YtajclcbclbppiaaGreat
end
