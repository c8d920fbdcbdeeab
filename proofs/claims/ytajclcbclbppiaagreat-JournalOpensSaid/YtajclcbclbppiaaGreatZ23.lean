/-
  The document's disk and journal, each under one name ('Rp', 'Rj'): their blocks apart from O; of O nothing has turned since W. The disk's operations.
  The document's journal: a file laid; a journal where none is.
  The document's journal: is it over; what is told; Append, Compact.
  The document's journal: Append.
  The document's journal: Compact.
-/
import Derived.Test.YtajclcbclbppiaaGreatZ17
import Derived.Test.YtajclcbclbppiaaGreatZ22
import Derived.BigQuiet
import Derived.Deep.RegionHeld3
section
namespace Go.Dk
theorem chg_fail {S S1 : St} (early : Bool) (h : S.fail = none) (h1 : S1.fail = none) : (chg S S1 early).1.fail = none := by
  unfold chg
  rw [h]
  exact h1
theorem create_fail {S : St} (n : Int) (h : S.fail = none) : (create S n).1.fail = none := by
  unfold create
  repeat' split
  all_goals first | exact h | exact chg_fail _ h h
theorem append_fail {S : St} (n : Int) (s : List UInt8) (h : S.fail = none) : (append S n s).1.fail = none := by
  unfold append
  repeat' split
  all_goals first | exact h | exact chg_fail _ h h
theorem sync_fail {S : St} (n : Int) (h : S.fail = none) : (sync S n).1.fail = none := by
  unfold sync
  repeat' split
  all_goals first | exact h | exact chg_fail _ h h
theorem truncate_fail {S : St} (n z : Int) (h : S.fail = none) : (truncate S n z).1.fail = none := by
  unfold truncate
  repeat' split
  all_goals first | exact h | exact chg_fail _ h h
theorem delete_fail {S : St} (n : Int) (h : S.fail = none) : (delete S n).1.fail = none := by
  unfold delete
  repeat' split
  all_goals first | exact h | exact chg_fail _ h h
end Go.Dk
namespace Go.Proofs.YtajclcbclbppiaaGreat
open Go.RowKit Go.Maps Go.Dk Go.Rc Go.Jn Go.Shelf
variable {W w w' V : World} {O O' F G : Nat → Prop} {p q jr : Nat} {T T' S S' : St} {J J' : Jo} {n e : Int}
theorem RP.free (h : RP w G q T 1000) (hf : T.fail = none) (m : Nat) : RP w G q T m := by
  obtain ⟨ao, cap, ko, kc, F, K, h1, h2⟩ := h
  refine ⟨ao, cap, ko, kc, F, K, h1, ?_⟩
  rw [hf] at h2 ⊢
  exact h2
/-- The document's disk, apart from O; no failure is to come. -/
def Rp (W : World) (O : Nat → Prop) (q : Nat) (T : St) (w : World) : Prop := ∃ G, RP w G q T 1000 ∧ T.fail = none ∧ Fr (fun k => ¬ O k) W w ∧ Apart O G ∧ Under O W
theorem RP.own {m : Nat} (h : RP w G q T m) : G q := by
  obtain ⟨_, _, _, _, _, _, h, _⟩ := h
  exact h.own
theorem Rp.fr (h : Rp W O q T w) : Fr (fun k => ¬ O k) W w := by obtain ⟨_, _, _, h, _⟩ := h; exact h
theorem Rp.under (h : Rp W O q T w) : Under O W := by obtain ⟨_, _, _, _, _, h⟩ := h; exact h
theorem Rp.fail (h : Rp W O q T w) : T.fail = none := by obtain ⟨_, _, h, _⟩ := h; exact h
theorem Rp.ok (h : Rp W O q T w) : Ok T := by
  obtain ⟨_, ⟨_, _, _, _, _, _, h, _⟩, _⟩ := h
  exact h.ok
theorem Rp.ext (h : Rp W O q T w) (hx : Ext w w') : Rp W O q T w' := by
  obtain ⟨G, h1, h2, h3, h4, h5⟩ := h
  exact ⟨G, h1.ext hx, h2, h3.trans (Fr.of_ext (F := fun _ => False) hx) (fun _ _ hf => hf.elim), h4, h5⟩
theorem Rp.now (h : Rp W O q T w) : Rp w O q T w := by
  obtain ⟨G, h1, h2, h3, h4, h5⟩ := h
  exact ⟨G, h1, h2, Fr.refl _ _, h4, h5.mono h3.size⟩
theorem Rp.lt (h : Rp W O q T w) : q < w.heap.size := by
  obtain ⟨G, h1, _⟩ := h
  exact h1.under q h1.own
theorem Rp.outO (h : Rp W O q T w) : ¬ O q := by
  obtain ⟨G, h1, _, _, h4, _⟩ := h
  exact fun ho => h4 q ho h1.own
theorem Rp.since (h : Rp W O q T w) (h' : Rp w O q T' w') : Rp W O q T' w' := by
  obtain ⟨G, k1, k2, k3, k4, _⟩ := h'
  exact ⟨G, k1, k2, h.fr.trans k3 (fun _ _ h => h), k4, h.under⟩
theorem Rp.base (h : Rp W O q T w) (hO : Under O' w') (hx : Ext w w') (h' : ∀ k, O' k → O k ∨ w.heap.size ≤ k) : Rp w' O' q T w' := by
  obtain ⟨G, h1, h2, _, h4, _⟩ := h
  exact ⟨G, h1.ext hx, h2, Fr.refl _ _, fun k hk hb => (h' k hk).elim (fun ho => h4 k ho hb) (fun hs => by have := h1.under k hb; omega), hO⟩
theorem Rp.less (h : Rp W O q T w) (hO : ∀ k, O' k → O k) : Rp W O' q T w := by
  obtain ⟨G, h1, h2, h3, h4, h5⟩ := h
  exact ⟨G, h1, h2, h3.mono (fun k _ hk ho => hk (hO k ho)), fun k hk => h4 k (hO k hk), fun k hk => h5 k (hO k hk)⟩
theorem Rp.of {f : FuncId} {args : Array Value} (h : Rp W O q T w) {r : St × Int} (hc : ∀ G, RP w G q T 1001 → Calls Tryz.prog f args w fun x w' => x = .returned (.int .i64 r.2) ∧ ∃ G', RP w' G' q r.1 1000 ∧ Tr q G G' w w') (hf : T.fail = none → r.1.fail = none) (hr : r = (T', e)) :
    Calls Tryz.prog f args w fun x w' => x = .returned (.int .i64 e) ∧ Rp W O q T' w' ∧ Fr (fun k => k = q) w w' := by
  subst hr
  obtain ⟨G, h1, h2, h3, h4, h5⟩ := h
  have hq := h1.own
  exact (hc G (h1.free h2 _)).mono fun _ _ ⟨hx, G', hD, hT⟩ => ⟨hx, ⟨G', hD, hf h2, h3.trans hT.fr (fun k _ e ho => h4 k ho (e ▸ hq)), (h4.symm.turn (h5.mono h3.size) (hT.tn hq)).symm, h5⟩, hT.fr⟩
theorem r_create (h : Rp W O q T w) (hn : (Lit.int .i64 n).wf = true) (hr : Dk.create T n = (T', e)) :
    Calls Tryz.prog 8 #[.pointer (some ⟨q, 0, none⟩), .int .i64 n] w fun x w' => x = .returned (.int .i64 e) ∧ Rp W O q T' w' ∧ Fr (fun k => k = q) w w' :=
  h.of (fun _ h1 => by obtain ⟨_, _, _, _, _, _, k1, k2⟩ := h1; exact rcreate_is k1 k2 n hn) (create_fail n) hr
theorem r_append (h : Rp W O q T w) (n : Int) (s : List UInt8) (hr : Dk.append T n s = (T', e)) :
    Calls Tryz.prog 10 #[.pointer (some ⟨q, 0, none⟩), .int .i64 n, .string (ofL s)] w fun x w' => x = .returned (.int .i64 e) ∧ Rp W O q T' w' ∧ Fr (fun k => k = q) w w' :=
  h.of (fun _ h1 => by obtain ⟨_, _, _, _, _, _, k1, k2⟩ := h1; exact rappend_is k1 k2 n s) (append_fail n s) hr
theorem r_sync (h : Rp W O q T w) (n : Int) (hr : Dk.sync T n = (T', e)) :
    Calls Tryz.prog 42 #[.pointer (some ⟨q, 0, none⟩), .int .i64 n] w fun x w' => x = .returned (.int .i64 e) ∧ Rp W O q T' w' ∧ Fr (fun k => k = q) w w' :=
  h.of (fun _ h1 => by obtain ⟨_, _, _, _, _, _, k1, k2⟩ := h1; exact rsync_is k1 k2 n) (sync_fail n) hr
theorem r_truncate (h : Rp W O q T w) (n z : Int) (hr : Dk.truncate T n z = (T', e)) :
    Calls Tryz.prog 41 #[.pointer (some ⟨q, 0, none⟩), .int .i64 n, .int .i64 z] w fun x w' => x = .returned (.int .i64 e) ∧ Rp W O q T' w' ∧ Fr (fun k => k = q) w w' :=
  h.of (fun _ h1 => by obtain ⟨_, _, _, _, _, _, k1, k2⟩ := h1; exact rtruncate_is k1 k2 n z) (truncate_fail n z) hr
theorem r_delete (h : Rp W O q T w) (n : Int) (hr : Dk.delete T n = (T', e)) :
    Calls Tryz.prog 43 #[.pointer (some ⟨q, 0, none⟩), .int .i64 n] w fun x w' => x = .returned (.int .i64 e) ∧ Rp W O q T' w' ∧ Fr (fun k => k = q) w w' :=
  h.of (fun _ h1 => by obtain ⟨_, _, _, _, _, _, k1, k2⟩ := h1; exact rdelete_is k1 k2 n) (delete_fail n) hr
theorem r_free (h : Rp W O q T w) {z : Int} (hr : T.cap - tot T.fs = z) :
    Calls Tryz.prog 30 #[.pointer (some ⟨q, 0, none⟩)] w fun x w' => x = .returned (.int .i64 z) ∧ w = w' := by
  subst hr
  obtain ⟨G, ⟨_, _, _, _, _, _, h1, _⟩, _⟩ := h
  exact rfree_is h1
theorem r_new (w : World) (hO : Under O w) {c : Int} (hc : 0 ≤ c ∧ c ≤ 1048576) :
    Calls Tryz.prog 6 #[.int .i64 c] w fun e w' => ∃ q, e = .returned (.tuple #[.pointer (some ⟨q, 0, none⟩), .int .i64 0]) ∧ Rp w O q ⟨c, [], false, 0, none⟩ w' ∧ Ext w w' :=
  (rnew_yes w hc).mono fun _ _ ⟨h1, h2, h3⟩ => ⟨_, h1, ⟨_, ⟨_, _, _, _, _, _, h2, rfl, rfl⟩, rfl, Fr.of_ext h3, fun k hk e => by have e' : k = w.heap.size := e; have := hO k hk; omega, hO⟩, h3⟩
/-- What is read of the document's disk: its head, its files. -/
structure RSee (w : World) (q : Nat) (T : St) (ao : Option Addr) (cap : Nat) : Prop where
  lt : q < w.heap.size
  c1 : w.cell? ⟨q, 1, none⟩ = some (.slice ao T.fs.length cap)
  c2 : w.cell? ⟨q, 2, none⟩ = some (.bool T.down)
  c3 : w.cell? ⟨q, 3, none⟩ = some (.int .i64 T.starts)
  row : Rw w 3 ao T.fs.length cap (Fc T.fs)
  rowq : ∀ g, ob ao = some g → g ≠ q
theorem Rp.see (h : Rp W O q T w) : ∃ ao cap, RSee w q T ao cap := by
  obtain ⟨G, ⟨ao, cap, _, _, _, _, h, _⟩, _⟩ := h
  exact ⟨ao, cap, h.under q h.own, h.c1, h.c2, h.c3, h.row, fun g hg => (h.rowG g hg).2⟩
theorem RSee.ext {ao : Option Addr} {cap : Nat} (h : RSee w q T ao cap) (hx : Ext w w') : RSee w' q T ao cap :=
  ⟨Nat.lt_of_lt_of_le h.lt hx.size, (hx.cell (p := ⟨q, 1, none⟩) h.lt).trans h.c1, (hx.cell (p := ⟨q, 2, none⟩) h.lt).trans h.c2, (hx.cell (p := ⟨q, 3, none⟩) h.lt).trans h.c3, h.row.ext hx, h.rowq⟩
/-- The document's journal, and its disk. -/
structure Rj (W : World) (O : Nat → Prop) (q jr : Nat) (T : St) (J : Jo) (w : World) : Prop where
  d : Rp w (WithO O jr) q T w
  j : JoAt w jr q J
  out : ¬ O jr
  fr : Fr (fun k => ¬ O k) W w
  under : Under O W
theorem Rj.ok (h : Rj W O q jr T J w) : Ok T := h.d.ok
theorem Rj.made (h : Rp W O q T w) (hx : Ext w w') (hq : w.heap.size ≤ jr) (hj : JoAt w' jr q J) : Rj W O q jr T J w' := by
  have hs := h.fr.size
  refine ⟨h.base (fun k hk => ?_) hx (fun k hk => hk.imp (fun h => h) (fun e => by omega)), hj, fun ho => ?_, h.fr.trans (Fr.of_ext (F := fun _ => False) hx) (fun _ _ hf => hf.elim), h.under⟩
  · rcases hk with hk | rfl
    · have := h.under k hk; have := hx.size; omega
    · exact hj.lt
  · have := h.under jr ho; omega
theorem Rj.ext (h : Rj W O q jr T J w) (hx : Ext w w') : Rj W O q jr T J w' :=
  ⟨h.d.base (fun k hk => Nat.lt_of_lt_of_le (h.d.under k hk) hx.size) hx (fun _ hk => .inl hk), h.j.ext hx, h.out, h.fr.trans (Fr.of_ext (F := fun _ => False) hx) (fun _ _ hf => hf.elim), h.under⟩
/-- The disk has turned. -/
theorem Rj.disk (h : Rj W O q jr T J w) (h' : Rp w (WithO O jr) q T' w') : Rj W O q jr T' J w' :=
  ⟨h'.now, h.j.fr h'.fr (fun h => h (.inr rfl)), h.out, h.fr.trans h'.fr (fun _ _ hk ho => hk (.inl ho)), h.under⟩
/-- The journal's own cells have turned. -/
theorem Rj.set (h : Rj W O q jr T J w) (hf : Fr (fun k => k = jr) w w') (hj : JoAt w' jr q J') : Rj W O q jr T J' w' := by
  obtain ⟨G, h1, h2, h3, h4, h5⟩ := h.d
  exact ⟨⟨G, h1.fr hf (fun k hk e => h4 k (.inr e) hk), h2, Fr.refl _ _, h4, h5.mono hf.size⟩, hj, h.out, h.fr.trans hf (fun k _ e ho => h.out (e ▸ ho)), h.under⟩
theorem Rj.now (h : Rj W O q jr T J w) : Rj w O q jr T J w := ⟨h.d, h.j, h.out, Fr.refl _ _, h.under.mono h.fr.size⟩
theorem Rj.since (hf : Fr (fun k => ¬ O k) W w) (hu : Under O W) (h : Rj w O q jr T J w') : Rj W O q jr T J w' := ⟨h.d, h.j, h.out, hf.trans h.fr (fun _ _ hk => hk), hu⟩
end Go.Proofs.YtajclcbclbppiaaGreat
end
section
namespace Go.Jn
open Go.Dk Go.Rc
theorem runs_one {f : St → St × Int} {S S' : St} {e : Int} (h : runs [f] S = (S', e)) : f S = (S', e) := by
  rw [runs_cons] at h
  by_cases h0 : (f S).2 = 0
  · rw [if_pos h0, runs_nil] at h
    rw [← h, ← h0]
  · rwa [if_neg h0] at h
end Go.Jn
namespace Go.Proofs.YtajclcbclbppiaaGreat
open Go.RowKit Go.Maps Go.Dk Go.Rc Go.Jn Go.Shelf
variable {W w w' V : World} {O O' F G : Nat → Prop} {p q jr : Nat} {T T' S S' : St} {J J' : Jo} {n e : Int}
set_option maxHeartbeats 1000000 in
set_option maxRecDepth 100000 in
theorem rlay_is (h : Rp W O q T w) (hn : (Lit.int .i64 n).wf = true) {r : List UInt8} (hr : runs (lays n r) T = (T', e)) :
    Calls Tryz.prog 58 #[.pointer (some ⟨q, 0, none⟩), .int .i64 n, .string (ofL r)] w fun x w' => x = .returned (.int .i64 e) ∧ Rp W O q T' w' := by
  obtain ⟨T1, e1, h1⟩ : ∃ T1 e1, create T n = (T1, e1) := ⟨_, _, rfl⟩
  have C1 := Lib.hid (r_create h hn h1)
  unfold lays at hr
  rw [runs_cons, h1] at hr
  clear h
  by_cases he1 : e1 = 0
  · subst he1
    rw [if_pos rfl] at hr
    obtain ⟨T2, e2, h2⟩ : ∃ T2 e2, append T1 n r = (T2, e2) := ⟨_, _, rfl⟩
    rw [runs_cons, h2] at hr
    have H2 := Lib.hid h2
    clear h1 h2
    by_cases he2 : e2 = 0
    · subst he2
      rw [if_pos rfl] at hr
      have H3 := Lib.hid (runs_one hr)
      clear hr
      go_enter Tryz.func58, Tryz.ntmps58
      go_wp2_with (first | (go_at_call 8; (with_reducible refine C1.out.mono ?_); rintro x w1 ⟨rfl, hD, _⟩; have HD1 := Lib.hid hD; clear hD) | (go_at_call 10; (with_reducible refine (r_append HD1.out n r H2.out).mono ?_); rintro x w2 ⟨rfl, hD, _⟩; have HD2 := Lib.hid hD; clear hD) | (go_at_call 42; (with_reducible refine (r_sync HD2.out n H3.out).mono ?_); rintro x w3 ⟨rfl, hD, _⟩; have HD3 := Lib.hid hD; clear hD))
      go_ret
      exact ⟨rfl, HD3.out⟩
    · rw [if_neg he2] at hr
      cases hr
      go_enter Tryz.func58, Tryz.ntmps58
      go_wp2_with (first | (go_at_call 8; (with_reducible refine C1.out.mono ?_); rintro x w1 ⟨rfl, hD, _⟩; have HD1 := Lib.hid hD; clear hD) | (go_at_call 10; (with_reducible refine (r_append HD1.out n r H2.out).mono ?_); rintro x w2 ⟨rfl, hD, _⟩; have HD2 := Lib.hid hD; clear hD))
      go_ret
      exact ⟨rfl, HD2.out⟩
  · rw [if_neg he1] at hr
    cases hr
    clear h1
    go_enter Tryz.func58, Tryz.ntmps58
    go_wp2_with (first | (go_at_call 8; (with_reducible refine C1.out.mono ?_); rintro x w1 ⟨rfl, hD, _⟩; have HD1 := Lib.hid hD; clear hD))
    go_ret
    exact ⟨rfl, HD1.out⟩
/-- What fresh answers. -/
def RFreshTo (W : World) (O : Nat → Prop) (q : Nat) (T' : St) (e : Int) (w : World) (x : Ending) (w' : World) : Prop :=
  (e ≠ 0 ∧ x = .returned (.tuple #[.pointer none, .int .i64 e]) ∧ Rp W O q T' w') ∨
    (e = 0 ∧ ∃ jr, x = .returned (.tuple #[.pointer (some ⟨jr, 0, none⟩), .int .i64 0]) ∧ Rj W O q jr T' ⟨0, 8, 0, T'.starts, false⟩ w' ∧ w.heap.size ≤ jr)
set_option maxHeartbeats 1000000 in
set_option maxRecDepth 100000 in
theorem rfresh_is (h : Rp W O q T w) {m : Nat} (hm : T.fs.length = m) {e : Int} (hx : fresh T = (T', e)) :
    Calls Tryz.prog 40 #[.pointer (some ⟨q, 0, none⟩)] w (RFreshTo W O q T' e w) := by
  have hl8 : (recL []).length = 8 := recL_length []
  have P := Lib.hid (fun w' => refRput_yes [] w' (by decide))
  unfold fresh at hx
  obtain ⟨X, hX⟩ : ∃ X, recL [] = X := ⟨_, rfl⟩
  rw [hX] at hx hl8 P
  clear hX
  have wf0 : (Lit.int .i64 0).wf = true := by decide
  have H := Lib.hid h.now
  have H0 := Lib.hid h
  obtain ⟨ao, cap, hs⟩ := h.see
  have c1 := hs.c1
  rw [hm] at c1
  clear hs
  by_cases h0 : m = 0
  · subst h0
    rw [if_pos (List.length_eq_zero_iff.1 hm), List.nil_append] at hx
    clear h hm
    by_cases he : e = 0
    · subst he
      go_enter Tryz.func40, Tryz.ntmps40
      go_wp2_with (first | (go_at_call 54; (with_reducible refine (P.out _).mono ?_); rintro x w1 ⟨rfl, hx1⟩; have Hx1 := Lib.hid hx1; clear hx1) | (go_at_call 58; (with_reducible refine (rlay_is (H.out.ext Hx1.out) wf0 hx).mono ?_); rintro x w2 ⟨rfl, hD⟩; obtain ⟨_, _, hs2⟩ := hD.see; have c3 := hs2.c3; have HD := Lib.hid hD; clear hD hs2))
      go_ret2
      exact .inr ⟨rfl, _, rfl, (Rj.made HD.out ((Ext.refl _).alloc _) (Nat.le_refl _) (JoAt.made (heap_alloc_new _ _))).since H0.out.fr H0.out.under, HD.out.fr.size⟩
    · go_enter Tryz.func40, Tryz.ntmps40
      go_wp2_with (first | (go_at_call 54; (with_reducible refine (P.out _).mono ?_); rintro x w1 ⟨rfl, hx1⟩; have Hx1 := Lib.hid hx1; clear hx1) | (go_at_call 58; (with_reducible refine (rlay_is (H.out.ext Hx1.out) wf0 hx).mono ?_); rintro x w2 ⟨rfl, hD⟩; have HD := Lib.hid hD; clear hD))
      go_ret2
      exact .inl ⟨he, rfl, H0.out.since HD.out⟩
  · have hne : ¬ T.fs = [] := fun e => h0 (by rw [← hm, e]; rfl)
    have hm0 : (0 : Int) < m := by omega
    rw [if_neg hne, List.singleton_append, runs_cons] at hx
    obtain ⟨T1, e1, hd⟩ : ∃ T1 e1, delete T 0 = (T1, e1) := ⟨_, _, rfl⟩
    rw [hd] at hx
    have HDL := Lib.hid hd
    clear h hm hne hd
    by_cases h1 : e1 = 0
    · subst h1
      rw [if_pos rfl] at hx
      have HX := Lib.hid hx
      clear hx
      by_cases he : e = 0
      · subst he
        go_enter Tryz.func40, Tryz.ntmps40
        go_wp2_with (first | (go_at_call 43; (with_reducible refine (r_delete H.out 0 HDL.out).mono ?_); rintro x w4 ⟨rfl, hD, _⟩; have HE := Lib.hid hD; clear hD) | (go_at_call 54; (with_reducible refine (P.out _).mono ?_); rintro x w1 ⟨rfl, hx1⟩; have Hx1 := Lib.hid hx1; clear hx1) | (go_at_call 58; (with_reducible refine (rlay_is (HE.out.ext Hx1.out) wf0 HX.out).mono ?_); rintro x w2 ⟨rfl, hD⟩; obtain ⟨_, _, hs2⟩ := hD.see; have c3 := hs2.c3; have HD := Lib.hid hD; clear hD hs2))
        go_ret2
        exact .inr ⟨rfl, _, rfl, (Rj.made HD.out ((Ext.refl _).alloc _) (Nat.le_refl _) (JoAt.made (heap_alloc_new _ _))).since H0.out.fr H0.out.under, HD.out.fr.size⟩
      · go_enter Tryz.func40, Tryz.ntmps40
        go_wp2_with (first | (go_at_call 43; (with_reducible refine (r_delete H.out 0 HDL.out).mono ?_); rintro x w4 ⟨rfl, hD, _⟩; have HE := Lib.hid hD; clear hD) | (go_at_call 54; (with_reducible refine (P.out _).mono ?_); rintro x w1 ⟨rfl, hx1⟩; have Hx1 := Lib.hid hx1; clear hx1) | (go_at_call 58; (with_reducible refine (rlay_is (HE.out.ext Hx1.out) wf0 HX.out).mono ?_); rintro x w2 ⟨rfl, hD⟩; have HD := Lib.hid hD; clear hD))
        go_ret2
        exact .inl ⟨he, rfl, H0.out.since HD.out⟩
    · rw [if_neg h1] at hx
      obtain ⟨rfl, rfl⟩ := Prod.mk.inj hx
      go_enter Tryz.func40, Tryz.ntmps40
      go_wp2_with (first | (go_at_call 43; (with_reducible refine (r_delete H.out 0 HDL.out).mono ?_); rintro x w4 ⟨rfl, hD, _⟩; have HD := Lib.hid hD; clear hD) | (go_at_call 54; (with_reducible refine (P.out _).mono ?_); rintro x w1 ⟨rfl, hx1⟩; have Hx1 := Lib.hid hx1; clear hx1))
      go_ret2
      exact .inl ⟨h1, rfl, (H0.out.since HD.out).ext Hx1.out⟩
end Go.Proofs.YtajclcbclbppiaaGreat
end
section
namespace Go.Jn
open Go.Dk Go.Rc
theorem over_no {S : St} {J : Jo} (h : over S J = false) : { J with dead := false } = J := by
  simp only [over, Bool.or_eq_false_iff] at h
  cases J
  simp only at h
  simp [h.1.1]
end Go.Jn
namespace Go.Proofs.YtajclcbclbppiaaGreat
open Go.RowKit Go.Maps Go.Dk Go.Rc Go.Jn Go.Shelf
variable {W w w' V : World} {O O' F G : Nat → Prop} {p q jr : Nat} {T T' S S' : St} {J J' : Jo} {n e : Int}
theorem Rj.dead (h : Rj W O q jr T J w) (b : Bool) : Rj W O q jr T { J with dead := b } (w.setCell ⟨jr, 5, none⟩ (.bool b)) :=
  h.set ((Fr.refl (fun k => k = jr) w).setCell (p := ⟨jr, 5, none⟩) (by intro _; rfl) _) (h.j.dead b)
set_option maxHeartbeats 1000000 in
set_option maxRecDepth 100000 in
theorem rover_is (h : Rj W O q jr T J w) :
    Calls Tryz.prog 53 #[.pointer (some ⟨jr, 0, none⟩)] w fun x w' => x = .returned (.bool (over T J)) ∧ Rj W O q jr T { J with dead := over T J } w' := by
  have c0 := h.j.c0
  have c4 := h.j.c4
  have c5 := h.j.c5
  have f5 := h.j.fz 5
  have H := Lib.hid h
  obtain ⟨ao, cap, hs⟩ := h.d.see
  have s2 := hs.c2
  have s3 := hs.c3
  clear h hs
  cases hd : J.dead
  · cases hdn : T.down
    · by_cases hst : T.starts = J.starts
      · rw [show over T J = false by simp [over, hd, hdn, hst]]
        rw [hst] at s3
        rw [hd] at c5
        rw [hdn] at s2
        clear hd hdn hst
        go_enter Tryz.func53, Tryz.ntmps53
        go_wp2_with fail
        go_region
        all_goals
          go_wp2
          go_ret
          exact ⟨rfl, (H.out.dead false).ext (Ext.refl _).drew⟩
      · rw [show over T J = true by simp [over, hst]]
        rw [hd] at c5
        rw [hdn] at s2
        have hsb : (T.starts != J.starts) = true := by simp [hst]
        clear hd hdn
        go_enter Tryz.func53, Tryz.ntmps53
        go_wp2_with fail
        go_region
        all_goals
          go_wp2
          go_ret
          exact ⟨rfl, (H.out.dead true).ext (Ext.refl _).drew⟩
    · rw [show over T J = true by simp [over, hdn]]
      rw [hd] at c5
      rw [hdn] at s2
      clear hd hdn
      go_enter Tryz.func53, Tryz.ntmps53
      go_wp2_with fail
      go_region
      all_goals
        go_wp2
        go_ret
        exact ⟨rfl, (H.out.dead true).ext (Ext.refl _).drew⟩
  · rw [show over T J = true by simp [over, hd]]
    rw [hd] at c5
    clear hd
    go_enter Tryz.func53, Tryz.ntmps53
    go_wp2_with fail
    go_region
    all_goals
      go_wp2
      go_ret
      exact ⟨rfl, (H.out.dead true).ext (Ext.refl _).drew⟩
theorem rover_no (h : Rj W O q jr T J w) (hov : over T J = false) :
    Calls Tryz.prog 53 #[.pointer (some ⟨jr, 0, none⟩)] w fun x w' => x = .returned (.bool false) ∧ Rj W O q jr T J w' := by
  have C := rover_is h
  rw [hov, over_no hov] at C
  exact C
theorem rover_yes (h : Rj W O q jr T J w) (hov : over T J = true) :
    Calls Tryz.prog 53 #[.pointer (some ⟨jr, 0, none⟩)] w fun x w' => x = .returned (.bool true) ∧ Rj W O q jr T { J with dead := true } w' := by
  have C := rover_is h
  rw [hov] at C
  exact C
set_option maxHeartbeats 1000000 in
set_option maxRecDepth 100000 in
theorem rtold_is (h : Rj W O q jr T J w) (e : Int) :
    Calls Tryz.prog 55 #[.pointer (some ⟨jr, 0, none⟩), .int .i64 e] w fun x w' => x = .returned (.int .i64 e) ∧ Rj W O q jr T (told J e) w' := by
  have c5 := h.j.c5
  have f5 := h.j.fz 5
  have H := Lib.hid h
  clear h
  obtain ⟨d, hd⟩ : ∃ d, J.dead = d := ⟨_, rfl⟩
  rw [hd] at c5
  have ht : told J e = { J with dead := d || decide (e = 61) } := by unfold told; rw [hd]
  rw [ht]
  clear ht
  by_cases he : e = 61
  · subst he
    cases d
    all_goals
      go_enter Tryz.func55, Tryz.ntmps55
      go_wp2
      go_ret
      first | exact ⟨rfl, H.out.dead true⟩ | exact ⟨rfl, H.out.dead false⟩
  · have hb : decide (e = 61) = false := decide_eq_false he
    rw [hb]
    cases d
    all_goals
      go_enter Tryz.func55, Tryz.ntmps55
      go_wp2
      go_ret
      first | exact ⟨rfl, H.out.dead true⟩ | exact ⟨rfl, H.out.dead false⟩ | (rw [show (e == 61) = false from beq_false_of_ne he]; exact ⟨rfl, H.out.dead false⟩)
end Go.Proofs.YtajclcbclbppiaaGreat
end
section
namespace Go.Proofs.YtajclcbclbppiaaGreat
open Go.RowKit Go.Maps Go.Dk Go.Rc Go.Jn Go.Shelf
variable {W w w' V : World} {O O' F G : Nat → Prop} {p q jr : Nat} {T T' T1 S S' : St} {J J' : Jo} {n e : Int} {x : List UInt8}
theorem Rj.sized (h : Rj W O q jr T J w) (z m : Int) : Rj W O q jr T { J with size := z, many := m } ((w.setCell ⟨jr, 2, none⟩ (.int .i64 z)).setCell ⟨jr, 3, none⟩ (.int .i64 m)) :=
  h.set (((Fr.refl (fun k => k = jr) w).setCell (p := ⟨jr, 2, none⟩) (by intro _; rfl) _).setCell (p := ⟨jr, 3, none⟩) (by intro _; rfl) _) (h.j.sized z m)
set_option maxHeartbeats 1000000 in
set_option maxRecDepth 100000 in
theorem rappend_over (h : Rj W O q jr T J w) (hov : over T J = true) (x : List UInt8) :
    Calls Tryz.prog 16 #[.pointer (some ⟨jr, 0, none⟩), .string (ofL x)] w fun r w' => r = .returned (.int .i64 61) ∧ Rj W O q jr T { J with dead := true } w' := by
  have R := Lib.hid (rover_yes h hov)
  clear h hov
  go_enter Tryz.func16, Tryz.ntmps16
  go_wp2_with (go_at_call 53; (with_reducible refine R.out.mono ?_); rintro r w1 ⟨rfl, hJ⟩; have HJ := Lib.hid hJ; clear hJ)
  go_ret
  exact ⟨rfl, HJ.out⟩
set_option maxHeartbeats 1000000 in
set_option maxRecDepth 100000 in
theorem rappend_long (h : Rj W O q jr T J w) (hov : over T J = false) (h1 : 65536 < x.length) (h2 : x.length ≤ 16777216) :
    Calls Tryz.prog 16 #[.pointer (some ⟨jr, 0, none⟩), .string (ofL x)] w fun r w' => r = .returned (.int .i64 3) ∧ Rj W O q jr T J w' := by
  have R := Lib.hid (rover_no h hov)
  have P := Lib.hid (fun w' => refRput_no x w' h1 h2)
  clear h hov
  go_enter Tryz.func16, Tryz.ntmps16
  go_wp2_with (first | (go_at_call 53; (with_reducible refine R.out.mono ?_); rintro r w1 ⟨rfl, hJ⟩; have HJ := Lib.hid hJ; clear hJ) | (go_at_call 54; (with_reducible refine (P.out _).mono ?_); rintro r w2 ⟨rfl, hx2⟩; have HX2 := Lib.hid hx2; clear hx2))
  go_ret
  exact ⟨rfl, HJ.out.ext HX2.out⟩
set_option maxHeartbeats 1000000 in
set_option maxRecDepth 100000 in
theorem rappend_full (h : Rj W O q jr T J w) (hov : over T J = false) (h1 : x.length ≤ 65536) (hf : T.cap - tot T.fs - (x.length + 8) < 70000) :
    Calls Tryz.prog 16 #[.pointer (some ⟨jr, 0, none⟩), .string (ofL x)] w fun r w' => r = .returned (.int .i64 60) ∧ Rj W O q jr T J w' := by
  have R := Lib.hid (rover_no h hov)
  have P := Lib.hid (fun w' => refRput_yes x w' h1)
  have hl : (recL x).length = x.length + 8 := recL_length x
  obtain ⟨X, hX⟩ : ∃ X, recL x = X := ⟨_, rfl⟩
  rw [hX] at P hl
  obtain ⟨z, hz⟩ : ∃ z : Int, T.cap - tot T.fs = z := ⟨_, rfl⟩
  have hb1 := h.ok.cap1
  have hb2 := h.ok.tot
  have hb3 := h.ok.cap0
  obtain ⟨xl, hxl⟩ : ∃ xl : Nat, X.length = xl := ⟨_, rfl⟩
  have hxb : xl ≤ 65544 := by omega
  have hw : IntKind.i64.wrap (z - (xl : Int)) = z - (xl : Int) := IntWalk.i64_in _ (by omega)
  have hlt : z - (xl : Int) < 70000 := by omega
  have HZ := Lib.hid hz
  clear h hov hf hX hb1 hb2 hb3 hl hz
  go_enter Tryz.func16, Tryz.ntmps16
  go_wp2_with (first | (go_at_call 53; (with_reducible refine R.out.mono ?_); rintro r w1 ⟨rfl, hJ⟩; have HJ := Lib.hid hJ; clear hJ) | (go_at_call 54; (with_reducible refine (P.out _).mono ?_); rintro r w2 ⟨rfl, hx2⟩; have HJ2 := Lib.hid (HJ.out.ext hx2); have c0 := HJ2.out.j.c0; clear hx2) | (go_at_call 30; (with_reducible refine (r_free HJ2.out.d HZ.out).mono ?_); rintro r w3 ⟨rfl, rfl⟩))
  go_ret
  exact ⟨rfl, HJ2.out⟩
set_option maxHeartbeats 2000000 in
set_option maxRecDepth 100000 in
theorem rappend_yes (h : Rj W O q jr T J w) (hsm : Small J) (hov : over T J = false) (h1 : x.length ≤ 65536) (hf : ¬ T.cap - tot T.fs - (x.length + 8) < 70000) (hx : runs [fun S => append S J.n (recL x), fun S => sync S J.n] T = (T', e)) :
    Calls Tryz.prog 16 #[.pointer (some ⟨jr, 0, none⟩), .string (ofL x)] w fun r w' => r = .returned (.int .i64 e) ∧ Rj W O q jr T' (told (if e = 0 then { J with size := J.size + (x.length + 8), many := J.many + 1 } else J) e) w' := by
  have R := Lib.hid (rover_no h hov)
  have P := Lib.hid (fun w' => refRput_yes x w' h1)
  have hl : (recL x).length = x.length + 8 := recL_length x
  obtain ⟨X, hX⟩ : ∃ X, recL x = X := ⟨_, rfl⟩
  rw [hX] at P hl hx
  obtain ⟨z, hz⟩ : ∃ z : Int, T.cap - tot T.fs = z := ⟨_, rfl⟩
  have hb1 := h.ok.cap1
  have hb2 := h.ok.tot
  have hb3 := h.ok.cap0
  obtain ⟨xl, hxl⟩ : ∃ xl : Nat, X.length = xl := ⟨_, rfl⟩
  have hxb : xl ≤ 65544 := by omega
  have hw : IntKind.i64.wrap (z - (xl : Int)) = z - (xl : Int) := IntWalk.i64_in _ (by omega)
  have hlt : ¬ z - (xl : Int) < 70000 := by omega
  rw [show (x.length : Int) + 8 = (xl : Int) by omega]
  have HZ := Lib.hid hz
  have hw2 : IntKind.i64.wrap (J.size + (xl : Int)) = J.size + (xl : Int) := IntWalk.i64_in _ (by have := hsm.s0; have := hsm.s1; omega)
  have hw3 : IntKind.i64.wrap (J.many + 1) = J.many + 1 := IntWalk.i64_in _ (by have := hsm.m0; have := hsm.m1; omega)
  obtain ⟨T1, e1, ha⟩ : ∃ T1 e1, append T J.n X = (T1, e1) := ⟨_, _, rfl⟩
  rw [runs_cons, ha] at hx
  have HA := Lib.hid ha
  clear h hov hf hX hb1 hb2 hb3 hl hz ha
  go_enter Tryz.func16, Tryz.ntmps16
  go_wp2_with (first | (go_at_call 53; (with_reducible refine R.out.mono ?_); rintro r w1 ⟨rfl, hJ⟩; have HJ := Lib.hid hJ; clear hJ) | (go_at_call 54; (with_reducible refine (P.out _).mono ?_); rintro r w2 ⟨rfl, hx2⟩; have HJ2 := Lib.hid (HJ.out.ext hx2); have c0 := HJ2.out.j.c0; clear hx2) | (go_at_call 30; (with_reducible refine (r_free HJ2.out.d HZ.out).mono ?_); rintro r w3 ⟨rfl, rfl⟩))
  have d0 : ∀ w', Fr (fun k => ¬ WithO O jr k) w2 w' → w'.cell? ⟨jr, 0, none⟩ = some (.pointer (some ⟨q, 0, none⟩)) := fun w' hf => (hf.cell (p := ⟨jr, 0, none⟩) HJ2.out.j.lt (fun h => h (.inr rfl))).trans HJ2.out.j.c0
  have d1 : ∀ w', Fr (fun k => ¬ WithO O jr k) w2 w' → w'.cell? ⟨jr, 1, none⟩ = some (.int .i64 J.n) := fun w' hf => (hf.cell (p := ⟨jr, 1, none⟩) HJ2.out.j.lt (fun h => h (.inr rfl))).trans HJ2.out.j.c1
  have L := Lib.hid (r_append (HJ2.out.d.ext (Ext.refl _).drew) J.n X HA.out)
  clear c0
  go_region_held3 (fun w' => Fr (fun k => ¬ WithO O jr k) w2 w') (first | exact Fr.drew (Fr.refl _ _) | assumption) (first | (go_at_call 10; (with_reducible refine L.out.mono ?_); rintro r w4 ⟨rfl, hD4, _⟩; have hF4 := hD4.fr; have HJ4 := Lib.hid (HJ2.out.disk hD4); clear hD4))
  all_goals
    clear d0 d1
    by_cases he1 : e1 = 0
    · subst he1
      rw [if_pos rfl] at hx
      have HS := Lib.hid (runs_one hx)
      clear hx
      have d0 : ∀ w', Fr (fun k => ¬ WithO O jr k) w4 w' → w'.cell? ⟨jr, 0, none⟩ = some (.pointer (some ⟨q, 0, none⟩)) := fun w' hf => (hf.cell (p := ⟨jr, 0, none⟩) HJ4.out.j.lt (fun h => h (.inr rfl))).trans HJ4.out.j.c0
      have d1 : ∀ w', Fr (fun k => ¬ WithO O jr k) w4 w' → w'.cell? ⟨jr, 1, none⟩ = some (.int .i64 J.n) := fun w' hf => (hf.cell (p := ⟨jr, 1, none⟩) HJ4.out.j.lt (fun h => h (.inr rfl))).trans HJ4.out.j.c1
      have L2 := Lib.hid (r_sync (HJ4.out.d.ext (Ext.refl _).drew) J.n HS.out)
      go_wp2_with fail
      go_region_held3 (fun w' => Fr (fun k => ¬ WithO O jr k) w4 w') (first | exact Fr.drew (Fr.refl _ _) | assumption) (first | (go_at_call 42; (with_reducible refine L2.out.mono ?_); rintro r w5 ⟨rfl, hD5, _⟩; have hF5 := hD5.fr; have HJ5 := Lib.hid (HJ4.out.disk hD5); clear hD5))
      all_goals
        clear d0 d1
        by_cases he : e = 0
        · subst he
          have q2 := HJ5.out.j.c2
          have q3 := HJ5.out.j.c3
          have qf2 := HJ5.out.j.fz 2
          have qf3 := HJ5.out.j.fz 3
          go_wp2_with fail
          go_region
          all_goals
            go_wp2_with (go_at_call 55; (with_reducible refine (rtold_is ((HJ5.out.sized (J.size + xl) (J.many + 1)).ext (Ext.refl _).drew) 0).mono ?_); rintro r w6 ⟨rfl, hJ6⟩; have HJ6 := Lib.hid hJ6; clear hJ6)
            go_ret
            exact ⟨rfl, HJ6.out⟩
        · go_wp2_with (go_at_call 55; (with_reducible refine (rtold_is HJ5.out e).mono ?_); rintro r w6 ⟨rfl, hJ6⟩; have HJ6 := Lib.hid hJ6; clear hJ6)
          go_ret
          exact ⟨rfl, HJ6.out⟩
    · rw [if_neg he1] at hx
      cases hx
      go_wp2_with (go_at_call 55; (with_reducible refine (rtold_is HJ4.out _).mono ?_); rintro r w6 ⟨rfl, hJ6⟩; have HJ6 := Lib.hid hJ6; clear hJ6)
      go_ret
      exact ⟨rfl, HJ6.out⟩
/-- Append. -/
theorem rj_append (h : Rj W O q jr T J w) (hsm : Small J) (hx : x.length ≤ 16777216) (hr : appendJ T J x = (T', J', e)) :
    Calls Tryz.prog 16 #[.pointer (some ⟨jr, 0, none⟩), .string (ofL x)] w fun r w' => r = .returned (.int .i64 e) ∧ Rj W O q jr T' J' w' := by
  unfold appendJ at hr
  cases hov : over T J
  · rw [hov] at hr
    rw [if_neg (by decide)] at hr
    by_cases h1 : 65536 < x.length
    · rw [if_pos h1] at hr
      cases hr
      exact rappend_long h hov h1 hx
    · rw [if_neg h1] at hr
      by_cases hf : T.cap - tot T.fs - (x.length + 8) < 70000
      · rw [if_pos hf] at hr
        cases hr
        exact rappend_full h hov (by omega) hf
      · rw [if_neg hf] at hr
        obtain ⟨S1, e1, hx1⟩ : ∃ S1 e1, runs [fun S => append S J.n (recL x), fun S => sync S J.n] T = (S1, e1) := ⟨_, _, rfl⟩
        rw [hx1] at hr
        cases hr
        exact rappend_yes h hsm hov (by omega) hf hx1
  · rw [hov] at hr
    rw [if_pos rfl] at hr
    cases hr
    exact rappend_over h hov x
end Go.Proofs.YtajclcbclbppiaaGreat
end
section
namespace Go.Proofs.YtajclcbclbppiaaGreat
open Go.RowKit Go.Maps Go.Dk Go.Rc Go.Jn Go.Shelf
variable {W w w' V : World} {O O' F G : Nat → Prop} {p q jr : Nat} {T T' T1 S S' : St} {J J' : Jo} {n e t : Int} {x : List UInt8}
theorem Rj.moved (h : Rj W O q jr T J w) (n z m : Int) : Rj W O q jr T { J with n := n, size := z, many := m } (((w.setCell ⟨jr, 1, none⟩ (.int .i64 n)).setCell ⟨jr, 2, none⟩ (.int .i64 z)).setCell ⟨jr, 3, none⟩ (.int .i64 m)) :=
  h.set ((((Fr.refl (fun k => k = jr) w).setCell (p := ⟨jr, 1, none⟩) (by intro _; rfl) _).setCell (p := ⟨jr, 2, none⟩) (by intro _; rfl) _).setCell (p := ⟨jr, 3, none⟩) (by intro _; rfl) _) (h.j.moved n z m)
set_option maxHeartbeats 1000000 in
set_option maxRecDepth 100000 in
theorem rcompact_over (h : Rj W O q jr T J w) (hov : over T J = true) (x : List UInt8) :
    Calls Tryz.prog 18 #[.pointer (some ⟨jr, 0, none⟩), .string (ofL x)] w fun r w' => r = .returned (.int .i64 61) ∧ Rj W O q jr T { J with dead := true } w' := by
  have R := Lib.hid (rover_yes h hov)
  clear h hov
  go_enter Tryz.func18, Tryz.ntmps18
  go_wp2_with (go_at_call 53; (with_reducible refine R.out.mono ?_); rintro r w1 ⟨rfl, hJ⟩; have HJ := Lib.hid hJ; clear hJ)
  go_ret
  exact ⟨rfl, HJ.out⟩
set_option maxHeartbeats 1000000 in
set_option maxRecDepth 100000 in
theorem rcompact_long (h : Rj W O q jr T J w) (hov : over T J = false) (h1 : 65536 < x.length) (h2 : x.length ≤ 16777216) :
    Calls Tryz.prog 18 #[.pointer (some ⟨jr, 0, none⟩), .string (ofL x)] w fun r w' => r = .returned (.int .i64 3) ∧ Rj W O q jr T J w' := by
  have R := Lib.hid (rover_no h hov)
  have P := Lib.hid (fun w' => refRput_no x w' h1 h2)
  clear h hov
  go_enter Tryz.func18, Tryz.ntmps18
  go_wp2_with (first | (go_at_call 53; (with_reducible refine R.out.mono ?_); rintro r w1 ⟨rfl, hJ⟩; have HJ := Lib.hid hJ; clear hJ) | (go_at_call 54; (with_reducible refine (P.out _).mono ?_); rintro r w2 ⟨rfl, hx2⟩; have HX2 := Lib.hid hx2; clear hx2))
  go_ret
  exact ⟨rfl, HJ.out.ext HX2.out⟩
set_option maxHeartbeats 1000000 in
set_option maxRecDepth 100000 in
theorem rcompact_full (h : Rj W O q jr T J w) (hov : over T J = false) (h1 : x.length ≤ 65536) (hf : T.cap - tot T.fs < x.length + 8) :
    Calls Tryz.prog 18 #[.pointer (some ⟨jr, 0, none⟩), .string (ofL x)] w fun r w' => r = .returned (.int .i64 60) ∧ Rj W O q jr T J w' := by
  have R := Lib.hid (rover_no h hov)
  have P := Lib.hid (fun w' => refRput_yes x w' h1)
  have hl : (recL x).length = x.length + 8 := recL_length x
  obtain ⟨X, hX⟩ : ∃ X, recL x = X := ⟨_, rfl⟩
  rw [hX] at P hl
  obtain ⟨z, hz⟩ : ∃ z : Int, T.cap - tot T.fs = z := ⟨_, rfl⟩
  obtain ⟨xl, hxl⟩ : ∃ xl : Nat, X.length = xl := ⟨_, rfl⟩
  have hlt : z < (xl : Int) := by omega
  have HZ := Lib.hid hz
  clear h hov hf hX hl hz
  go_enter Tryz.func18, Tryz.ntmps18
  go_wp2_with (first | (go_at_call 53; (with_reducible refine R.out.mono ?_); rintro r w1 ⟨rfl, hJ⟩; have HJ := Lib.hid hJ; clear hJ) | (go_at_call 54; (with_reducible refine (P.out _).mono ?_); rintro r w2 ⟨rfl, hx2⟩; have HJ2 := Lib.hid (HJ.out.ext hx2); have c0 := HJ2.out.j.c0; clear hx2) | (go_at_call 30; (with_reducible refine (r_free HJ2.out.d HZ.out).mono ?_); rintro r w3 ⟨rfl, rfl⟩))
  go_ret
  exact ⟨rfl, HJ2.out⟩
set_option maxHeartbeats 2000000 in
set_option maxRecDepth 100000 in
theorem rcompact_yes (h : Rj W O q jr T J w) (hwn : IntKind.i64.wrap (J.n + 1) = t) (hwf : (Lit.int .i64 t).wf = true) (hov : over T J = false) (h1 : x.length ≤ 65536) (hf : ¬ T.cap - tot T.fs < x.length + 8) (hx : runs (lays t (recL x)) T = (T1, e)) :
    Calls Tryz.prog 18 #[.pointer (some ⟨jr, 0, none⟩), .string (ofL x)] w fun r w' => (e ≠ 0 ∧ r = .returned (.int .i64 e) ∧ Rj W O q jr T1 (told J e) w') ∨ (e = 0 ∧ r = .returned (.int .i64 (delete T1 J.n).2) ∧ Rj W O q jr (delete T1 J.n).1 (told { J with n := t, size := x.length + 8, many := 0 } (delete T1 J.n).2) w') := by
  have R := Lib.hid (rover_no h hov)
  have P := Lib.hid (fun w' => refRput_yes x w' h1)
  have hl : (recL x).length = x.length + 8 := recL_length x
  obtain ⟨X, hX⟩ : ∃ X, recL x = X := ⟨_, rfl⟩
  rw [hX] at P hl hx
  obtain ⟨z, hz⟩ : ∃ z : Int, T.cap - tot T.fs = z := ⟨_, rfl⟩
  obtain ⟨xl, hxl⟩ : ∃ xl : Nat, X.length = xl := ⟨_, rfl⟩
  have hlt : ¬ z < (xl : Int) := by omega
  rw [show (x.length : Int) + 8 = (xl : Int) by omega]
  have HZ := Lib.hid hz
  have HX := Lib.hid hx
  obtain ⟨T2, e2, hdel⟩ : ∃ T2 e2, delete T1 J.n = (T2, e2) := ⟨_, _, rfl⟩
  rw [hdel]
  have HDL := Lib.hid hdel
  clear h hov hf hX hl hz hx hdel
  go_enter Tryz.func18, Tryz.ntmps18
  go_wp2_with (first | (go_at_call 53; (with_reducible refine R.out.mono ?_); rintro r w1 ⟨rfl, hJ⟩; have HJ := Lib.hid hJ; clear hJ) | (go_at_call 54; (with_reducible refine (P.out _).mono ?_); rintro r w2 ⟨rfl, hx2⟩; have HJ2 := Lib.hid (HJ.out.ext hx2); have c0 := HJ2.out.j.c0; clear hx2) | (go_at_call 30; (with_reducible refine (r_free HJ2.out.d HZ.out).mono ?_); rintro r w3 ⟨rfl, rfl⟩))
  have d0 : ∀ w', Fr (fun k => ¬ WithO O jr k) w2 w' → w'.cell? ⟨jr, 0, none⟩ = some (.pointer (some ⟨q, 0, none⟩)) := fun w' hf => (hf.cell (p := ⟨jr, 0, none⟩) HJ2.out.j.lt (fun h => h (.inr rfl))).trans HJ2.out.j.c0
  have d1 : ∀ w', Fr (fun k => ¬ WithO O jr k) w2 w' → w'.cell? ⟨jr, 1, none⟩ = some (.int .i64 J.n) := fun w' hf => (hf.cell (p := ⟨jr, 1, none⟩) HJ2.out.j.lt (fun h => h (.inr rfl))).trans HJ2.out.j.c1
  have L := Lib.hid (rlay_is (HJ2.out.d.ext (Ext.refl _).drew) hwf HX.out)
  clear c0
  go_region_held3 (fun w' => Fr (fun k => ¬ WithO O jr k) w2 w') (first | exact Fr.drew (Fr.refl _ _) | assumption) (first | (go_at_call 58; (with_reducible refine L.out.mono ?_); rintro r w4 ⟨rfl, hD4⟩; have hF4 := hD4.fr; have HJ4 := Lib.hid (HJ2.out.disk hD4); clear hD4))
  all_goals
    have q0 := HJ4.out.j.c0
    have q1 := HJ4.out.j.c1
    have q2 := HJ4.out.j.c2
    have q3 := HJ4.out.j.c3
    have f1 := HJ4.out.j.fz 1
    have f2 := HJ4.out.j.fz 2
    have f3 := HJ4.out.j.fz 3
    clear d0 d1
    by_cases he : e = 0
    · subst he
      go_wp2_with (first | (go_at_call 43; (with_reducible refine (r_delete (HJ4.out.moved t xl 0).d J.n HDL.out).mono ?_); rintro r w5 ⟨rfl, hD5, _⟩; have HJ5 := Lib.hid ((HJ4.out.moved t xl 0).disk hD5); clear hD5) | (go_at_call 55; (with_reducible refine (rtold_is HJ5.out e2).mono ?_); rintro r w6 ⟨rfl, hJ6⟩; have HJ6 := Lib.hid hJ6; clear hJ6))
      go_ret
      exact ⟨rfl, HJ6.out⟩
    · go_wp2_with (go_at_call 55; (with_reducible refine (rtold_is HJ4.out e).mono ?_); rintro r w6 ⟨rfl, hJ6⟩; have HJ6 := Lib.hid hJ6; clear hJ6)
      go_ret
      exact .inl ⟨he, rfl, HJ6.out⟩
/-- Compact. -/
theorem rj_compact (h : Rj W O q jr T J w) (hwn : IntKind.i64.wrap (J.n + 1) = t) (hwf : (Lit.int .i64 t).wf = true) (hx : x.length ≤ 16777216) (hr : compactN T J x t = (T', J', e)) :
    Calls Tryz.prog 18 #[.pointer (some ⟨jr, 0, none⟩), .string (ofL x)] w fun r w' => r = .returned (.int .i64 e) ∧ Rj W O q jr T' J' w' := by
  unfold compactN at hr
  cases hov : over T J
  · rw [hov] at hr
    rw [if_neg (by decide)] at hr
    by_cases h1 : 65536 < x.length
    · rw [if_pos h1] at hr
      cases hr
      exact rcompact_long h hov h1 hx
    · rw [if_neg h1] at hr
      by_cases hf : T.cap - tot T.fs < x.length + 8
      · rw [if_pos hf] at hr
        cases hr
        exact rcompact_full h hov (by omega) hf
      · rw [if_neg hf] at hr
        obtain ⟨S1, e1, hx1⟩ : ∃ S1 e1, runs (lays t (recL x)) T = (S1, e1) := ⟨_, _, rfl⟩
        rw [hx1] at hr
        refine (rcompact_yes h hwn hwf hov (by omega) hf hx1).mono fun r w' hq => ?_
        by_cases he : e1 = 0
        · subst he
          rcases hq with ⟨h0, _⟩ | ⟨_, rfl, h3⟩
          · exact absurd rfl h0
          · rw [if_neg (by simp)] at hr
            cases hr
            exact ⟨rfl, h3⟩
        · rcases hq with ⟨_, rfl, h3⟩ | ⟨h0, _⟩
          · rw [if_pos he] at hr
            cases hr
            exact ⟨rfl, h3⟩
          · exact absurd h0 he
  · rw [hov] at hr
    rw [if_pos rfl] at hr
    cases hr
    exact rcompact_over h hov x
end Go.Proofs.YtajclcbclbppiaaGreat
end
