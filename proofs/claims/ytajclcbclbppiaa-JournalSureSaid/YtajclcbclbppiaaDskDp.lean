/-
  A disk under one name ('Dp'): its blocks apart from O; of O nothing has turned since W. Its operations; the chapter's disk (filed).
-/
import Derived.Test.YtajclcbclbppiaaDskOp
namespace Go.Proofs.Ytajclcbclbppiaa
open Go.RowKit Go.Maps Go.Dk Go.Shelf
def Dp (W : World) (O : Nat → Prop) (p : Nat) (S : St) (w : World) : Prop := ∃ β, DiskAt w β p S ∧ Fr (fun k => ¬ O k) W w ∧ Apart O (Bl β) ∧ Under O W
/-- All that there was. -/
def Old (w : World) : Nat → Prop := fun k => k < w.heap.size
theorem Old.under (w : World) : Under (Old w) w := fun _ h => h
theorem old_all {W w : World} (h : Fr (fun k => ¬ Old W k) W w) : Ext W w := Fr.ext (Ext.refl W) h (fun _ hk => Nat.le_of_not_lt hk)
variable {W w w' : World} {O : Nat → Prop} {β : Roles} {p : Nat} {S S' : St}
theorem Dp.fr (h : Dp W O p S w) : Fr (fun k => ¬ O k) W w := by obtain ⟨_, _, h, _⟩ := h; exact h
theorem Dp.all (h : Dp W (Old W) p S w) : Ext W w := old_all h.fr
theorem Dp.ok (h : Dp W O p S w) : Ok S := by obtain ⟨_, h, _⟩ := h; exact h.ok
theorem Dp.ext (h : Dp W O p S w) (hx : Ext w w') : Dp W O p S w' := by
  obtain ⟨β, h1, h2, h3, h4⟩ := h
  exact ⟨β, h1.ext hx, h2.trans (Fr.of_ext (F := fun _ => False) hx) (fun _ _ hf => hf.elim), h3, h4⟩
theorem Dp.turn (hx : Dp W O p S w) (h : ∀ β, DiskAt w β p S → ∃ β', DiskAt w' β' p S' ∧ Tn (Bl β) (Bl β') w w') : Dp W O p S' w' := by
  obtain ⟨β, h1, h2, h3, h4⟩ := hx
  obtain ⟨β', hD, hT⟩ := h β h1
  exact ⟨β', hD, h2.trans hT.fr (fun k _ hk ho => h3 k ho hk), (h3.symm.turn (h4.mono h2.size) hT).symm, h4⟩
/-- What lies in O can be added to. -/
theorem Dp.base (h : Dp W O p S w) {O' : Nat → Prop} (hO : Under O' w') (hx : Ext w w') (h' : ∀ k, O' k → O k ∨ w.heap.size ≤ k) : Dp w' O' p S w' := by
  obtain ⟨β, h1, _, h3, _⟩ := h
  exact ⟨β, h1.ext hx, Fr.refl _ _, fun k hk hb => (h' k hk).elim (fun ho => h3 k ho hb) (fun hs => by obtain ⟨r, hr⟩ := hb; have := h1.lt r k hr; omega), hO⟩
theorem k_new (w : World) (O : Nat → Prop) (hO : Under O w) {c : Int} (hc : 0 ≤ c ∧ c ≤ 1048576) :
    Calls Try.prog 8 #[.int .i64 c] w fun e w' => ∃ p, e = .returned (.tuple #[.pointer (some ⟨p, 0, none⟩), .int .i64 0]) ∧ Dp w O p ⟨c, [], false, 0, none⟩ w' ∧ w.heap.size ≤ p :=
  (new_yes w hc).mono fun _ _ ⟨h1, h2, h3⟩ => ⟨_, h1, ⟨_, h2, Fr.of_ext h3, fun k hk hb => by have := hO k hk; have := role0_new hb; omega, hO⟩, by omega⟩
section
variable {n e : Int}

theorem Dp.of {f : FuncId} {args : Array Value} (h : Dp W O p S w) {r : St × Int} (hc : ∀ β, DiskAt w β p S → Calls Try.prog f args w fun x w' => x = .returned (.int .i64 r.2) ∧ ∃ β', DiskAt w' β' p r.1 ∧ Tn (Bl β) (Bl β') w w') (hr : r = (S', e)) :
    Calls Try.prog f args w fun x w' => x = .returned (.int .i64 e) ∧ Dp W O p S' w' := by
  subst hr
  obtain ⟨β, h1, h2, h3, h4⟩ := h
  exact (hc β h1).mono fun _ _ ⟨hx, β', hD, hT⟩ => ⟨hx, β', hD, h2.trans hT.fr (fun k _ hk ho => h3 k ho hk), (h3.symm.turn (h4.mono h2.size) hT).symm, h4⟩
theorem k_create (h : Dp W O p S w) (hn : (Lit.int .i64 n).wf = true) (hr : Dk.create S n = (S', e)) :
    Calls Try.prog 54 #[.pointer (some ⟨p, 0, none⟩), .int .i64 n] w fun x w' => x = .returned (.int .i64 e) ∧ Dp W O p S' w' := h.of (fun _ h1 => create_is h1 hn) hr
theorem k_append (h : Dp W O p S w) (hn : (Lit.int .i64 n).wf = true) {s : List UInt8} (hr : Dk.append S n s = (S', e)) :
    Calls Try.prog 37 #[.pointer (some ⟨p, 0, none⟩), .int .i64 n, .string (ofL s)] w fun x w' => x = .returned (.int .i64 e) ∧ Dp W O p S' w' := h.of (fun _ h1 => append_is h1 hn s) hr
theorem k_sync (h : Dp W O p S w) (hn : (Lit.int .i64 n).wf = true) (hr : Dk.sync S n = (S', e)) :
    Calls Try.prog 39 #[.pointer (some ⟨p, 0, none⟩), .int .i64 n] w fun x w' => x = .returned (.int .i64 e) ∧ Dp W O p S' w' := h.of (fun _ h1 => sync_is h1 hn) hr
theorem k_truncate (h : Dp W O p S w) (hn : (Lit.int .i64 n).wf = true) {z : Int} (hr : Dk.truncate S n z = (S', e)) :
    Calls Try.prog 48 #[.pointer (some ⟨p, 0, none⟩), .int .i64 n, .int .i64 z] w fun x w' => x = .returned (.int .i64 e) ∧ Dp W O p S' w' := h.of (fun _ h1 => truncate_is h1 hn z) hr
theorem k_delete (h : Dp W O p S w) (hn : (Lit.int .i64 n).wf = true) (hr : Dk.delete S n = (S', e)) :
    Calls Try.prog 32 #[.pointer (some ⟨p, 0, none⟩), .int .i64 n] w fun x w' => x = .returned (.int .i64 e) ∧ Dp W O p S' w' := h.of (fun _ h1 => delete_is h1 hn) hr
theorem k_start (h : Dp W O p S w) (hr : Dk.start S = (S', e)) :
    Calls Try.prog 17 #[.pointer (some ⟨p, 0, none⟩)] w fun x w' => x = .returned (.int .i64 e) ∧ Dp W O p S' w' :=
  h.of (fun _ h1 => (start_is h1).mono fun _ _ ⟨hx, hD, hF⟩ => ⟨hx, _, hD, Tn.same hF (fun _ hk => ⟨(0, 0), by rw [hk]; exact h1.p0⟩)⟩) hr
theorem k_fail (h : Dp W O p S w) (hn : n ≤ 9223372036854775807) {G : Nat → Prop} {ko : Option Addr} {kc m : Nat} {ks : List Int} (hm : ks.length = m) (hk : m ≤ 16777216) (hkeep : KeepAt w G ko ks) (hG : ∀ g, G g → g < w.heap.size) (hr : Dk.fail S n ks = (S', e)) :
    Calls Try.prog 12 #[.pointer (some ⟨p, 0, none⟩), .int .i64 n, .slice ko m kc] w fun x w' => x = .returned (.int .i64 e) ∧ Dp W O p S' w' := by
  subst hm
  exact h.of (fun _ h1 => fail_is h1 hn hk hkeep hG) hr
set_option maxRecDepth 100000 in
theorem crash_down {β : Roles} (h : DiskAt w β p S) (hd : S.down = true) (v : Value) :
    Calls Try.prog 11 #[.pointer (some ⟨p, 0, none⟩), v] w fun x w' => x = .returned (.int .i64 61) ∧ w = w' := by
  have N := Lib.hid (state_down h hd)
  clear h hd
  go_enter Try.func11, Try.ntmps11
  go_wp2_with (go_at_call 33; (with_reducible refine N.out.mono ?_); rintro e w1 ⟨rfl, rfl⟩)
  go_ret
  exact ⟨rfl, rfl⟩
theorem crash_any {β : Roles} (h1 : DiskAt w β p S) {G : Nat → Prop} {ko : Option Addr} {kc : Nat} {ks : List Int} (hk : ks.length ≤ 16777216) (hkeep : KeepAt w G ko ks) (hG : ∀ g, G g → g < w.heap.size ∧ ¬ Bl β g) :
    Calls Try.prog 11 #[.pointer (some ⟨p, 0, none⟩), .slice ko ks.length kc] w fun x w' => x = .returned (.int .i64 (Dk.crash S ks).2) ∧ ∃ β', DiskAt w' β' p (Dk.crash S ks).1 ∧ Tn (Bl β) (Bl β') w w' := by
  cases hd : S.down
  · rw [show Dk.crash S ks = (S.crash ks, 0) by simp [Dk.crash, hd]]
    exact (crash_is (kc := kc) h1 hd hk hkeep (fun g hg => ⟨(hG g hg).1, fun e => (hG g hg).2 ⟨_, e ▸ h1.p0⟩, fun ⟨_, hf⟩ => (hG g hg).2 ⟨_, hf⟩⟩)).mono fun _ _ ⟨hx, hD, hF⟩ => ⟨hx, β, hD, Tn.same hF (fun _ => fbs_bl h1)⟩
  · rw [show Dk.crash S ks = (S, 61) by simp [Dk.crash, hd]]
    exact (crash_down h1 hd _).mono fun _ _ ⟨hx, hw⟩ => ⟨hx, β, hw ▸ h1, hw ▸ Tn.refl _ _⟩
/-- Crash, with a list that is new since a. -/
theorem k_crash (h : Dp W O p S w) {w2 : World} (hx : Ext w w2) {ko : Option Addr} {kc m : Nat} {ks : List Int} (hm : ks.length = m) (hk : m ≤ 16777216) (hkeep : KeepAt w2 (fun g => w.heap.size ≤ g ∧ g < w2.heap.size) ko ks) (hr : Dk.crash S ks = (S', e)) :
    Calls Try.prog 11 #[.pointer (some ⟨p, 0, none⟩), .slice ko m kc] w2 fun x w' => x = .returned (.int .i64 e) ∧ Dp W O p S' w' := by
  subst hm
  obtain ⟨β, h1, h2, h3, h4⟩ := h
  have hD : Dp W O p S w2 := Dp.ext ⟨β, h1, h2, h3, h4⟩ hx
  have hc := crash_any (kc := kc) (h1.ext hx) hk hkeep (fun g hg => ⟨hg.2, fun ⟨r, hb⟩ => by have := h1.lt r g hb; have := hg.1; omega⟩)
  rw [hr] at hc
  have hf2 : Fr (fun k => ¬ O k) W w2 := hD.fr
  exact hc.mono fun _ _ ⟨hx', β', hD', hT⟩ => ⟨hx', β', hD', hf2.trans hT.fr (fun k _ hk ho => h3 k ho hk), (h3.symm.turn (h4.mono hf2.size) hT).symm, h4⟩
/-- Crash, with a list that lies in O. -/
theorem k_crash_in (h : Dp W O p S w) {G : Nat → Prop} {ko : Option Addr} {kc m : Nat} {ks : List Int} (hm : ks.length = m) (hk : m ≤ 16777216) (hkeep : KeepAt w G ko ks) (hG : ∀ g, G g → O g) (hr : Dk.crash S ks = (S', e)) :
    Calls Try.prog 11 #[.pointer (some ⟨p, 0, none⟩), .slice ko m kc] w fun x w' => x = .returned (.int .i64 e) ∧ Dp W O p S' w' := by
  subst hm
  obtain ⟨β, h1, h2, h3, h4⟩ := h
  have hc := crash_any (kc := kc) h1 hk hkeep (fun g hg => ⟨Nat.lt_of_lt_of_le (h4 g (hG g hg)) h2.size, h3 g (hG g hg)⟩)
  rw [hr] at hc
  exact hc.mono fun _ _ ⟨hx', β', hD', hT⟩ => ⟨hx', β', hD', h2.trans hT.fr (fun k _ hk ho => h3 k ho hk), (h3.symm.turn (h4.mono h2.size) hT).symm, h4⟩
theorem k_read (h : Dp W O p S w) (hn : (Lit.int .i64 n).wf = true) {a z : Int} {l : List UInt8} (hr : Dk.read S n a z = (l, e)) :
    Calls Try.prog 45 #[.pointer (some ⟨p, 0, none⟩), .int .i64 n, .int .i64 a, .int .i64 z] w fun x w' => x = .returned (.tuple #[.string (ofL l), .int .i64 e]) ∧ Ext w w' := by
  obtain ⟨β, h1, _⟩ := h
  have := read_is h1 hn a z
  rw [hr] at this
  exact this
theorem k_size (h : Dp W O p S w) (hn : (Lit.int .i64 n).wf = true) {z : Int} (hr : Dk.size S n = (z, e)) :
    Calls Try.prog 22 #[.pointer (some ⟨p, 0, none⟩), .int .i64 n] w fun x w' => x = .returned (.tuple #[.int .i64 z, .int .i64 e]) ∧ w = w' := by
  obtain ⟨β, h1, _⟩ := h
  have := size_is h1 hn
  rw [hr] at this
  exact this
theorem k_free (h : Dp W O p S w) {z : Int} (hr : S.cap - tot S.fs = z) :
    Calls Try.prog 20 #[.pointer (some ⟨p, 0, none⟩)] w fun x w' => x = .returned (.int .i64 z) ∧ Ext w w' := by
  obtain ⟨β, h1, _⟩ := h
  have := free_is h1
  rw [hr] at this
  exact this
theorem k_up (h : Dp W O p S w) {b : Bool} (hr : (!S.down) = b) :
    Calls Try.prog 15 #[.pointer (some ⟨p, 0, none⟩)] w fun x w' => x = .returned (.bool b) ∧ w = w' := by
  obtain ⟨β, h1, _⟩ := h
  have := up_is h1
  rw [hr] at this
  exact this
theorem k_starts (h : Dp W O p S w) {z : Int} (hr : S.starts = z) :
    Calls Try.prog 26 #[.pointer (some ⟨p, 0, none⟩)] w fun x w' => x = .returned (.int .i64 z) ∧ w = w' := by
  obtain ⟨β, h1, _⟩ := h
  have := starts_is h1
  rw [hr] at this
  exact this
theorem k_files (h : Dp W O p S w) {m : Nat} {l : List Int} (hm : S.fs.length = m) (hl : S.fs.map (·.n) = l) :
    Calls Try.prog 23 #[.pointer (some ⟨p, 0, none⟩)] w fun x w' => ∃ ao cap, x = .returned (.slice ao m cap) ∧ Rw w' 1 ao m cap (Nums l) ∧ Ext w w' := by
  subst hm
  subst hl
  obtain ⟨β, h1, _⟩ := h
  exact (files_is h1).mono fun _ _ ⟨ao, cap, k1, k2, k3, _⟩ => ⟨ao, cap, k1, k2, k3⟩
end
end Go.Proofs.Ytajclcbclbppiaa
