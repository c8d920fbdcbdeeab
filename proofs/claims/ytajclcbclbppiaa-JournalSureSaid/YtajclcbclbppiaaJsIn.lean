/-
  What JournalSure holds between two acts: 'Up' (the disk is up, the journal goes on) and 'Down'; how a failure, a crash, a start lead on.
-/
import Derived.Test.YtajclcbclbppiaaJsSt
namespace Go.Jn
open Go.Dk Go.Rc
variable {F : Prop} {N n : Int} {ps qs : List (List UInt8)} {cap starts : Int} {S S1 : St} {J : Jo}
theorem Dead.weak (h : Dead F N ps cap S) : Dead False N ps cap S := ⟨h.down, h.rise, h.led, h.bound, h.cap, h.fail, fun h => h⟩
theorem Dead.more {M : Int} (h : Dead F N ps cap S) (hM : N ≤ M) : Dead F M ps cap S := ⟨h.down, h.rise, h.led, fun g hg => ⟨(h.bound g hg).1, by have := (h.bound g hg).2; omega⟩, h.cap, h.fail, h.nf⟩
theorem Live.crash (h : Live S J ps) (hN : J.n ≤ N) (ks : List Int) : Dk.crash S ks = (S.crash ks, 0) ∧ Dead False N ps S.cap (S.crash ks) := by
  have hm := h.mid
  have e : (S.crash ks).fs = S.fs := cuts_sure ks hm.led.sure
  refine ⟨by unfold Dk.crash; rw [if_neg (by rw [h.up]; decide)], rfl, by rw [e]; exact hm.rise, ⟨J.n, hm.led.crash ks⟩, fun g hg => ?_, rfl, rfl, fun h => h⟩
  rw [e] at hg
  have := hm.bound g hg
  omega
theorem Live.fail (h : Live S J ps) {m : Int} (hm : 0 ≤ m) (ks : List Int) : Dk.fail S m ks = ({ S with fail := some (m, ks) }, 0) ∧ Live { S with fail := some (m, ks) } J ps :=
  ⟨by unfold Dk.fail; rw [if_neg (by rw [h.up]; decide), if_neg (by omega)], h.fs, h.up, h.size, h.many, h.starts, h.dead, h.ne, h.small, h.n0⟩
theorem Dead.start (h : Dead F N ps cap S) : ∃ S1 n, Dk.start S = (S1, 0) ∧ Mid (S1.fail = none) N n ps cap S1.starts S1 ∧ S1.fail = none := by
  obtain ⟨n, hl⟩ := h.led
  refine ⟨{ S with down := false, starts := IntKind.i64.wrap (S.starts + 1) }, n, by unfold Dk.start; rw [if_pos h.down], ⟨rfl, h.rise, hl, h.bound, h.cap, rfl, fun h => h⟩, h.fail⟩
theorem Mid.fail (h : Mid F N n ps cap starts S) {m : Int} (hm : 0 ≤ m) (ks : List Int) : Dk.fail S m ks = ({ S with fail := some (m, ks) }, 0) ∧ Mid False N n ps cap starts { S with fail := some (m, ks) } :=
  ⟨by unfold Dk.fail; rw [if_neg (by rw [h.up]; decide), if_neg (by omega)], h.up, h.rise, h.led, h.bound, h.cap, h.starts, fun h => h.elim⟩
theorem Mid.n_le (h : Mid F N n ps cap starts S) : n ≤ N := by
  obtain ⟨f, hf, hn, _⟩ := h.led.file
  have := (h.bound f hf).2
  omega
end Go.Jn
namespace Go.Proofs.Ytajclcbclbppiaa
open Go.RowKit Go.Maps Go.Dk Go.Rc Go.Jn Go.Shelf
variable {W V w w' : World} {O O' F : Nat → Prop} {p q b : Nat} {S S' S2 : St} {J J' : Jo} {ps qs : List (List UInt8)}
/-- A box that holds a state: a snapshot, entries. -/
structure BoxAt (w : World) (b : Nat) (so : Option Addr) (sn sc : Nat) (ps : List (List UInt8)) : Prop where
  lt : b < w.heap.size
  c0 : w.cell? ⟨b, 0, none⟩ = some (.string (ofL (ps.headD [])))
  c1 : w.cell? ⟨b, 1, none⟩ = some (.slice so sn sc)
  f0 : w.frozen? ⟨b, 0, none⟩ = false
  f1 : w.frozen? ⟨b, 1, none⟩ = false
  ro : Ro w so sn ps.tail
theorem BoxAt.kept {so : Option Addr} {sn sc : Nat} (h : BoxAt w b so sn sc ps) (hs : w.heap.size ≤ w'.heap.size) (hb : w'.heap[b]? = w.heap[b]?) (hr : ∀ g, ob so = some g → w'.heap[g]? = w.heap[g]?) : BoxAt w' b so sn sc ps :=
  ⟨Nat.lt_of_lt_of_le h.lt hs, cell_kept hb h.c0, cell_kept hb h.c1, (World.frozen?_of_block (a := ⟨b, 0, none⟩) hb).trans h.f0, (World.frozen?_of_block (a := ⟨b, 1, none⟩) hb).trans h.f1, h.ro.kept hs (fun g hg _ => hr g hg)⟩
theorem BoxAt.ext {so : Option Addr} {sn sc : Nat} (h : BoxAt w b so sn sc ps) (hx : Ext w w') : BoxAt w' b so sn sc ps :=
  ⟨Nat.lt_of_lt_of_le h.lt hx.size, (hx.cell (p := ⟨b, 0, none⟩) h.lt).trans h.c0, (hx.cell (p := ⟨b, 1, none⟩) h.lt).trans h.c1, (World.frozen?_of_block (a := ⟨b, 0, none⟩) (Below.block hx b h.lt)).trans h.f0, (World.frozen?_of_block (a := ⟨b, 1, none⟩) (Below.block hx b h.lt)).trans h.f1, h.ro.ext hx⟩
theorem BoxAt.fr {so : Option Addr} {sn sc : Nat} (h : BoxAt w b so sn sc ps) (hf : Fr F w w') (hb : ¬ F b) (hr : ∀ g, ob so = some g → ¬ F g) : BoxAt w' b so sn sc ps :=
  ⟨Nat.lt_of_lt_of_le h.lt hf.size, (hf.cell (p := ⟨b, 0, none⟩) h.lt hb).trans h.c0, (hf.cell (p := ⟨b, 1, none⟩) h.lt hb).trans h.c1, (hf.frozen (p := ⟨b, 0, none⟩) h.lt hb).trans h.f0, (hf.frozen (p := ⟨b, 1, none⟩) h.lt hb).trans h.f1, h.ro.fr hf hr⟩
/-- A box is written. -/
def wr2 (w : World) (b : Nat) (h : List UInt8) (so : Option Addr) (sn sc : Nat) : World := (w.setCell ⟨b, 0, none⟩ (.string (ofL h))).setCell ⟨b, 1, none⟩ (.slice so sn sc)
theorem wr2_fr (w : World) (b : Nat) (h : List UInt8) (so : Option Addr) (sn sc : Nat) : Fr (fun k => k = b) w (wr2 w b h so sn sc) :=
  ((Fr.refl (fun k => k = b) w).setCell (p := ⟨b, 0, none⟩) (by intro _; rfl) _).setCell (p := ⟨b, 1, none⟩) (by intro _; rfl) _
theorem BoxAt.wr {so eo : Option Addr} {sn sc tn tc : Nat} (h : BoxAt w b so sn sc ps) (hr : Ro w eo tn qs.tail) (hb : ∀ g, ob eo = some g → g ≠ b) : BoxAt (wr2 w b (qs.headD []) eo tn tc) b eo tn tc qs := by
  refine ⟨by unfold wr2; rw [setCell_size, setCell_size]; exact h.lt, ?_, ?_, ?_, ?_, hr.fr (wr2_fr w b _ eo tn tc) (fun g hg e => hb g hg e)⟩
  · exact (World.cell?_setCell_other _ _ _ _ (by simp)).trans (World.cell?_setCell_same _ _ _ h.c0)
  · exact World.cell?_setCell_same _ _ _ ((World.cell?_setCell_other _ _ _ _ (by simp)).trans h.c1)
  · exact (World.frozen?_setCell _ _ _ _).trans ((World.frozen?_setCell _ _ _ _).trans h.f0)
  · exact (World.frozen?_setCell _ _ _ _).trans ((World.frozen?_setCell _ _ _ _).trans h.f1)
theorem Jp.store (h : Jp W O p q S J w) (hf : Fr F w w') (hF : ∀ k, F k → O k) : Jp w' O p q S J w' := by
  obtain ⟨β, h1, _, h4, h7⟩ := h.d
  exact ⟨⟨β, h1.fr hf (fun k hb hk => h4 k (.inl (hF k hk)) hb), Fr.refl _ _, h4, h7.mono hf.size⟩, h.j.fr hf (fun hq => h.out (hF q hq)), h.out, Fr.refl _ _, h.under.mono (Nat.le_trans h.fr.size hf.size)⟩
theorem Dp.store (h : Dp W O p S w) (hf : Fr F w w') (hF : ∀ k, F k → O k) : Dp w' O p S w' := by
  obtain ⟨β, h1, h3, h4, h7⟩ := h
  exact ⟨β, h1.fr hf (fun k hb hk => h4 k (hF k hk) hb), Fr.refl _ _, h4, h7.mono (Nat.le_trans h3.size hf.size)⟩
/-- What is kept apart: what there was, a box, its row. -/
def Ob (w : World) (b : Nat) (so : Option Addr) : Nat → Prop := fun k => Old w k ∨ k = b ∨ ob so = some k
/-- Between two acts. -/
structure Up (w : World) (p b : Nat) (wr : World) (q : Nat) (so : Option Addr) (sn sc : Nat) (S : St) (J : Jo) (ps : List (List UInt8)) (k : Int) : Prop where
  jp : Jp wr (Ob w b so) p q S J wr
  box : BoxAt wr b so sn sc ps
  live : Live S J ps
  cap : S.cap = 300000
  n : J.n ≤ k
  len : (ps.length : Int) ≤ k + 1
  ext : Ext w wr
  new : w.heap.size ≤ b
  row : ∀ g, ob so = some g → g ≠ b
theorem Up.small {so : Option Addr} {sn sc : Nat} {k : Int} {wr : World} (h : Up w p b wr q so sn sc S J ps k) (hk : k ≤ 1000) : Small J := live_smalls h.live h.jp.ok (by have := h.n; omega)
/-- Behind an act that took the disk down: what is sure, what may be, too. -/
structure Down (w : World) (p b a xb : Nat) (wr : World) (so : Option Addr) (sn sc : Nat) (ao : Option Addr) (an ac : Nat) (S : St) (ss aa qs : List (List UInt8)) (k : Int) (O : Nat → Prop) : Prop where
  d : Dp wr O p S wr
  sure : BoxAt wr b so sn sc ss
  also : BoxAt wr a ao an ac aa
  dead : Dead False k qs 300000 S
  which : qs = ss ∨ qs = aa
  old : ∀ k, Old w k → O k
  hbo : O b
  hao : O a
  hxo : O xb
  hso : ∀ g, ob so = some g → O g
  hro : ∀ g, ob ao = some g → O g
  ne1 : a ≠ b
  ss1 : ss ≠ [] ∧ (ss.length : Int) ≤ k + 1
  as1 : aa ≠ [] ∧ (aa.length : Int) ≤ k + 1
  ext : Ext w wr
  new : w.heap.size ≤ b
theorem up_start {t : TypeId} (h : Jp w (Old w) p q S J V) (hl : Live S J [[]]) (hc : S.cap = 300000) (hn : J.n = 0) :
    Up w p V.heap.size (V.alloc (.cells #[.string (ofL []), .slice none 0 0] t)) q none 0 0 S J [[]] 0 := by
  have hx := (Ext.refl V).alloc (.cells #[.string (ofL []), .slice none 0 0] t)
  have hb := heap_alloc_new V (.cells #[.string (ofL []), .slice none 0 0] t)
  have hE := old_all h.fr
  have hs := hE.size
  refine ⟨h.base hx (fun k hk => ?_) (fun k hk => ?_), ⟨by simp, by simp only [World.cell?, hb]; rfl, by simp only [World.cell?, hb]; rfl, by simp only [World.frozen?, hb]; simp, by simp only [World.frozen?, hb]; simp, rfl, .inl rfl⟩, hl, hc, by omega, by simp, hE.trans hx, hs, fun g hg => by cases hg⟩
  · rcases hk with hk | rfl | hk
    · have := hx.size; have : k < w.heap.size := hk; omega
    · simp
    · cases hk
  · rcases hk with hk | rfl | hk
    · exact .inl hk
    · exact .inr (Nat.le_refl _)
    · cases hk
/-- Behind an act that was done: what is to be is what the disk leads to. -/
structure AtU (w : World) (p b a : Nat) (wr : World) (q : Nat) (eo : Option Addr) (en ec : Nat) (S : St) (J : Jo) (qs : List (List UInt8)) (k : Int) (O : Nat → Prop) : Prop where
  jp : Jp wr O p q S J wr
  sure : ∃ so sn sc ps, BoxAt wr b so sn sc ps
  also : BoxAt wr a eo en ec qs
  live : Live S J qs
  cap : S.cap = 300000
  n : J.n ≤ k
  len : (qs.length : Int) ≤ k + 1
  old : ∀ k, Old w k → O k
  hbo : O b
  hro : ∀ g, ob eo = some g → O g
  row : ∀ g, ob eo = some g → g ≠ b
  ne : a ≠ b
  ext : Ext w wr
  new : w.heap.size ≤ b
theorem AtU.store {w wr : World} {p b a q : Nat} {eo : Option Addr} {en ec : Nat} {S : St} {J : Jo} {qs : List (List UInt8)} {k : Int} {O : Nat → Prop} (h : AtU w p b a wr q eo en ec S J qs k O) :
    Up w p b (wr2 wr b (qs.headD []) eo en ec) q eo en ec S J qs k := by
  have hf := wr2_fr wr b (qs.headD []) eo en ec
  have hj := h.jp.store hf (fun k e => by rw [e]; exact h.hbo)
  obtain ⟨so, sn, sc, ps, hs⟩ := h.sure
  refine ⟨hj.base (Ext.refl _) (fun k hk => hj.under k ?_) (fun k hk => .inl ?_), hs.wr h.also.ro h.row, h.live, h.cap, h.n, h.len, hf.grownFrom h.ext (fun k e => by rw [e]; exact h.new), h.new, h.row⟩
  · rcases hk with hk | rfl | hk
    · exact h.old k hk
    · exact h.hbo
    · exact h.hro k hk
  · rcases hk with hk | rfl | hk
    · exact h.old k hk
    · exact h.hbo
    · exact h.hro k hk
theorem Down.store {w wr : World} {p b a xb : Nat} {so ao : Option Addr} {sn sc an ac : Nat} {S : St} {ss aa qs : List (List UInt8)} {k : Int} {O : Nat → Prop} (h : Down w p b a xb wr so sn sc ao an ac S ss aa qs k O) (hq : qs = aa) (hr : ∀ g, ob ao = some g → g ≠ b) :
    Down w p b a xb (wr2 wr b (aa.headD []) ao an ac) ao an ac ao an ac S aa aa qs k O := by
  have hf := wr2_fr wr b (aa.headD []) ao an ac
  exact ⟨h.d.store hf (fun k e => by rw [e]; exact h.hbo), h.sure.wr h.also.ro hr, h.also.fr hf h.ne1 hr, h.dead, .inl hq, h.old, h.hbo, h.hao, h.hxo, h.hro, h.hro, h.ne1, h.as1, h.as1, hf.grownFrom h.ext (fun k e => by rw [e]; exact h.new), h.new⟩
/-- What an act leaves: up, or down. -/
def After (w : World) (p b q : Nat) (xb ab : Nat) (k : Int) (xn : Int) (ko : Option Addr) (kl kc : Nat) (gv : Value) (wx : World) : Prop :=
  (∃ eo en ec S J qs O, gv = .int .i64 0 ∧ AtU w p b ab wx q eo en ec S J qs k O) ∨
  (∃ so sn sc S J ps, gv = .int .i64 60 ∧ Up w p b wx q so sn sc S J ps k) ∨
  (∃ so sn sc ao an ac S ss aa qs O, gv = .int .i64 0 ∧ qs = aa ∧ (∀ g, ob ao = some g → g ≠ b) ∧ Down w p b ab xb wx so sn sc ao an ac S ss aa qs k O ∧ wx.cell? ⟨xb, 2, none⟩ = some (.int .i64 xn) ∧ wx.cell? ⟨xb, 4, none⟩ = some (.slice ko kl kc)) ∨
  (∃ so sn sc ao an ac S ss aa qs O, gv = .int .i64 61 ∧ Down w p b ab xb wx so sn sc ao an ac S ss aa qs k O ∧ wx.cell? ⟨xb, 2, none⟩ = some (.int .i64 xn) ∧ wx.cell? ⟨xb, 4, none⟩ = some (.slice ko kl kc))
/-- Two boxes more. -/
def O2 (w : World) (b : Nat) (so : Option Addr) (wr : World) : Nat → Prop := fun k => Ob w b so k ∨ k = wr.heap.size ∨ k = wr.heap.size + 1
/-- Where an act begins: the boxes of the act and of what is to be, too. -/
structure Beg (w : World) (p b : Nat) (wr V : World) (q : Nat) (so : Option Addr) (sn sc : Nat) (S : St) (J : Jo) (ps : List (List UInt8)) (k : Int) (kind : Int) (xs : List UInt8) (xn xz : Int) (ko : Option Addr) (kl kc : Nat) : Prop where
  jp : Jp V (O2 w b so wr) p q S J V
  sure : BoxAt V b so sn sc ps
  also : BoxAt V (wr.heap.size + 1) so sn sc ps
  live : Live S J ps
  cap : S.cap = 300000
  n : J.n ≤ k
  len : (ps.length : Int) ≤ k + 1
  ext : Ext w V
  new : w.heap.size ≤ b
  lt : b < wr.heap.size
  row : ∀ g, ob so = some g → g ≠ b ∧ g < wr.heap.size
  x0 : V.cell? ⟨wr.heap.size, 0, none⟩ = some (.int .u8 kind)
  x1 : V.cell? ⟨wr.heap.size, 1, none⟩ = some (.string (ofL xs))
  x2 : V.cell? ⟨wr.heap.size, 2, none⟩ = some (.int .i64 xn)
  x3 : V.cell? ⟨wr.heap.size, 3, none⟩ = some (.int .i64 xz)
  x4 : V.cell? ⟨wr.heap.size, 4, none⟩ = some (.slice ko kl kc)
theorem beg_of {wr : World} {so : Option Addr} {sn sc : Nat} {k : Int} {kind : Int} {xs : List UInt8} {xn xz : Int} {ko : Option Addr} {kl kc : Nat} {t u : TypeId} {h0 : List UInt8} {t0 : List (List UInt8)} (h : Up w p b wr q so sn sc S J (h0 :: t0) k) :
    Beg w p b wr ((wr.alloc (.cells #[.int .u8 kind, .string (ofL xs), .int .i64 xn, .int .i64 xz, .slice ko kl kc] t)).alloc (.cells #[.string (ofL h0), .slice so sn sc] u)) q so sn sc S J (h0 :: t0) k kind xs xn xz ko kl kc := by
  have hx : Ext wr ((wr.alloc (.cells #[.int .u8 kind, .string (ofL xs), .int .i64 xn, .int .i64 xz, .slice ko kl kc] t)).alloc (.cells #[.string (ofL h0), .slice so sn sc] u)) := ((Ext.refl wr).alloc _).alloc _
  have hb2 := heap_alloc_new (wr.alloc (.cells #[.int .u8 kind, .string (ofL xs), .int .i64 xn, .int .i64 xz, .slice ko kl kc] t)) (.cells #[.string (ofL h0), .slice so sn sc] u)
  rw [World.size_alloc] at hb2
  have hb1 : ((wr.alloc (.cells #[.int .u8 kind, .string (ofL xs), .int .i64 xn, .int .i64 xz, .slice ko kl kc] t)).alloc (.cells #[.string (ofL h0), .slice so sn sc] u)).heap[wr.heap.size]? = some (.cells #[.int .u8 kind, .string (ofL xs), .int .i64 xn, .int .i64 xz, .slice ko kl kc] t) := by
    rw [Below.heap_alloc _ _ _ (by simp)]
    exact heap_alloc_new wr _
  refine ⟨h.jp.base hx (fun k hk => ?_) (fun k hk => ?_), h.box.ext hx, ⟨by simp, by simp only [World.cell?, hb2]; rfl, by simp only [World.cell?, hb2]; rfl, by simp only [World.frozen?, hb2]; simp, by simp only [World.frozen?, hb2]; simp, h.box.ro.ext hx⟩, h.live, h.cap, h.n, h.len, h.ext.trans hx, h.new, h.box.lt, fun g hg => ⟨h.row g hg, h.jp.under g (.inr (.inr hg))⟩, ?_, ?_, ?_, ?_, ?_⟩
  · rcases hk with hk | rfl | rfl
    · exact Nat.lt_of_lt_of_le (h.jp.under k hk) hx.size
    · simp only [World.size_alloc]; omega
    · simp only [World.size_alloc]; omega
  · rcases hk with hk | rfl | rfl
    · exact .inl hk
    · exact .inr (Nat.le_refl _)
    · exact .inr (by omega)
  all_goals (simp only [World.cell?, hb1]; rfl)
end Go.Proofs.Ytajclcbclbppiaa
namespace Go.Proofs.Ytajclcbclbppiaa
open Go.RowKit Go.Maps Go.Dk Go.Rc Go.Jn Go.Shelf
section
variable {w wr V w3 w4 : World} {p q b : Nat} {so eo ko : Option Addr} {sn sc en ec kl kc : Nat} {S S' : St} {J J' : Jo} {ps qs rs : List (List UInt8)} {k kind xn xz : Int} {xs : List UInt8} {O : Nat → Prop}
theorem o2b (w : World) (b : Nat) (so : Option Addr) (wr : World) : O2 w b so wr b := .inl (.inr (.inl rfl))
theorem o2a (w : World) (b : Nat) (so : Option Addr) (wr : World) : O2 w b so wr (wr.heap.size + 1) := .inr (.inr rfl)
theorem o2x (w : World) (b : Nat) (so : Option Addr) (wr : World) : O2 w b so wr wr.heap.size := .inr (.inl rfl)
theorem o2s {w : World} {b : Nat} {so : Option Addr} {wr : World} {g : Nat} (h : ob so = some g) : O2 w b so wr g := .inl (.inr (.inr h))
/-- What stays while a disk turns. -/
structure Stays (w : World) (b : Nat) (wr : World) (so : Option Addr) (sn sc : Nat) (ps : List (List UInt8)) (xs : List UInt8) (xn : Int) (ko : Option Addr) (kl kc : Nat) (w3 : World) : Prop where
  sure : BoxAt w3 b so sn sc ps
  also : BoxAt w3 (wr.heap.size + 1) so sn sc ps
  x1 : w3.cell? ⟨wr.heap.size, 1, none⟩ = some (.string (ofL xs))
  x2 : w3.cell? ⟨wr.heap.size, 2, none⟩ = some (.int .i64 xn)
  x4 : w3.cell? ⟨wr.heap.size, 4, none⟩ = some (.slice ko kl kc)
  ext : Ext w w3
  lt : wr.heap.size < w3.heap.size
theorem Beg.stays (h : Beg w p b wr V q so sn sc S J ps k kind xs xn xz ko kl kc) (hf : Fr (fun k => ¬ O2 w b so wr k) V w3) : Stays w b wr so sn sc ps xs xn ko kl kc w3 := by
  have hl : wr.heap.size < V.heap.size := by have := h.also.lt; omega
  have hn : ∀ {i : Nat} {v : Value}, V.cell? ⟨wr.heap.size, i, none⟩ = some v → w3.cell? ⟨wr.heap.size, i, none⟩ = some v := fun {i v} e => (hf.cell (p := ⟨wr.heap.size, i, none⟩) hl (fun h => h (o2x w b so wr))).trans e
  refine ⟨h.sure.fr hf (fun hk => hk (o2b w b so wr)) (fun g hg hk => hk (o2s hg)), h.also.fr hf (fun hk => hk (o2a w b so wr)) (fun g hg hk => hk (o2s hg)), hn h.x1, hn h.x2, hn h.x4, ?_, Nat.lt_of_lt_of_le hl hf.size⟩
  exact Fr.ext h.ext (F := fun k => ¬ O2 w b so wr k) hf (fun k hk => by
    rcases Nat.lt_or_ge k w.heap.size with h | h
    · exact absurd (.inl (.inl h)) hk
    · exact h)
theorem Stays.ext' (h : Stays w b wr so sn sc ps xs xn ko kl kc w3) (hx : Ext w3 w4) : Stays w b wr so sn sc ps xs xn ko kl kc w4 :=
  ⟨h.sure.ext hx, h.also.ext hx, (hx.cell (p := ⟨wr.heap.size, 1, none⟩) h.lt).trans h.x1, (hx.cell (p := ⟨wr.heap.size, 2, none⟩) h.lt).trans h.x2, (hx.cell (p := ⟨wr.heap.size, 4, none⟩) h.lt).trans h.x4, h.ext.trans hx, Nat.lt_of_lt_of_le h.lt hx.size⟩
/-- A row that may lie in what is to be. -/
def Rowed (w : World) (b : Nat) (so : Option Addr) (wr w3 w4 : World) (eo : Option Addr) : Prop := ∀ g, ob eo = some g → (g ≠ b ∧ g ≠ wr.heap.size + 1 ∧ g ≠ wr.heap.size) ∧ g < w4.heap.size ∧ (O2 w b so wr g ∨ w3.heap.size ≤ g)
theorem wr2_size (w : World) (b : Nat) (h : List UInt8) (so : Option Addr) (sn sc : Nat) : (wr2 w b h so sn sc).heap.size = w.heap.size := by unfold wr2; rw [setCell_size, setCell_size]
variable (hB : Beg w p b wr V q so sn sc S J ps k kind xs xn xz ko kl kc)
include hB
theorem Beg.ne : wr.heap.size + 1 ≠ b ∧ wr.heap.size ≠ b := by have := hB.lt; omega
/-- The sure one is as it was; what is to be has been written. -/
theorem Beg.upFull (hJ : Jp V (O2 w b so wr) p q S' J' w3) (hx : Ext w3 w4) (hl : Live S' J' ps) (hc : S'.cap = 300000) (hn : J'.n ≤ k) (hd : List UInt8) (eo : Option Addr) (en ec : Nat) :
    Up w p b (wr2 w4 (wr.heap.size + 1) hd eo en ec) q so sn sc S' J' ps (k + 1) := by
  have hS := (hB.stays hJ.fr).ext' hx
  have hne := hB.ne
  have hfr := wr2_fr w4 (wr.heap.size + 1) hd eo en ec
  have hj := (hJ.now.ext hx).now.store hfr (fun k e => by rw [e]; exact o2a w b so wr)
  refine ⟨hj.base (Ext.refl _) (fun k hk => hj.under k (.inl hk)) (fun k hk => .inl (.inl hk)), hS.sure.fr hfr (fun e => hne.1 e.symm) (fun g hg e => by have := (hB.row g hg).2; omega), hl, hc, by omega, by have := hB.len; omega, hfr.grownFrom hS.ext (fun k e => by have := hB.new; have := hB.lt; omega), hB.new, fun g hg => (hB.row g hg).1⟩
/-- What is to be has been written. -/
theorem Beg.atAlso (hJ : Jp V (O2 w b so wr) p q S' J' w3) (hx : Ext w3 w4) (hl : Live S' J' qs) (hc : S'.cap = 300000) (hn : J'.n ≤ k + 1) (hlen : (qs.length : Int) ≤ k + 2) (hr : Ro w4 eo en qs.tail) (he : Rowed w b so wr w3 w4 eo) :
    AtU w p b (wr.heap.size + 1) (wr2 w4 (wr.heap.size + 1) (qs.headD []) eo en ec) q eo en ec S' J' qs (k + 1) (fun k => O2 w b so wr k ∨ ob eo = some k) := by
  have hS := (hB.stays hJ.fr).ext' hx
  have hne := hB.ne
  have hf1 := wr2_fr w4 (wr.heap.size + 1) (qs.headD []) eo en ec
  have hj1 : Jp w4 (fun k => O2 w b so wr k ∨ ob eo = some k) p q S' J' w4 := hJ.now.base hx (fun k hk => by
    rcases hk with hk | hk
    · exact Nat.lt_of_lt_of_le (hJ.now.under k hk) hx.size
    · exact (he k hk).2.1) (fun k hk => hk.elim .inl (fun h => (he k h).2.2))
  exact ⟨hj1.store hf1 (fun k e => by rw [e]; exact .inl (o2a w b so wr)), ⟨so, sn, sc, ps, hS.sure.fr hf1 (fun e => hne.1 e.symm) (fun g hg e => by have := (hB.row g hg).2; omega)⟩, hS.also.wr hr (fun g hg => (he g hg).1.2.1), hl, hc, hn, by omega, fun k hk => .inl (.inl (.inl hk)), .inl (o2b w b so wr), fun g hg => .inr hg, fun g hg => (he g hg).1.1, hne.1, hf1.grownFrom hS.ext (fun k e => by have := hB.new; have := hB.lt; omega), hB.new⟩
/-- Nothing has become of the entries. -/
theorem Beg.atSame (hJ : Jp V (O2 w b so wr) p q S' J' w3) (hl : Live S' J' ps) (hc : S'.cap = 300000) (hn : J'.n ≤ k) :
    AtU w p b (wr.heap.size + 1) w3 q so sn sc S' J' ps (k + 1) (O2 w b so wr) := by
  have hS := hB.stays hJ.fr
  exact ⟨hJ.now, ⟨so, sn, sc, ps, hS.sure⟩, hS.also, hl, hc, by omega, by have := hB.len; omega, fun k hk => .inl (.inl hk), o2b w b so wr, fun g hg => o2s hg, fun g hg => (hB.row g hg).1, hB.ne.1, hS.ext, hB.new⟩
/-- The disk is down; what is to be has been written. -/
theorem Beg.downAlso (hD : Dp V (O2 w b so wr) p S' w3) (hx : Ext w3 w4) (hd : Dead False (k + 1) qs 300000 S') (hq : qs = ps ∨ qs = rs) (hps : ps ≠ []) (hrs : rs ≠ [] ∧ (rs.length : Int) ≤ k + 2) (hr : Ro w4 eo en rs.tail) (he : Rowed w b so wr w3 w4 eo) :
    Down w p b (wr.heap.size + 1) wr.heap.size (wr2 w4 (wr.heap.size + 1) (rs.headD []) eo en ec) so sn sc eo en ec S' ps rs qs (k + 1) (fun k => O2 w b so wr k ∨ ob eo = some k) ∧
      (wr2 w4 (wr.heap.size + 1) (rs.headD []) eo en ec).cell? ⟨wr.heap.size, 2, none⟩ = some (.int .i64 xn) ∧ (wr2 w4 (wr.heap.size + 1) (rs.headD []) eo en ec).cell? ⟨wr.heap.size, 4, none⟩ = some (.slice ko kl kc) := by
  have hS := (hB.stays hD.fr).ext' hx
  have hne := hB.ne
  have hf1 := wr2_fr w4 (wr.heap.size + 1) (rs.headD []) eo en ec
  have hd1 : Dp w4 (fun k => O2 w b so wr k ∨ ob eo = some k) p S' w4 := hD.now.base (fun k hk => by
    rcases hk with hk | hk
    · exact Nat.lt_of_lt_of_le (hD.now.under k hk) hx.size
    · exact (he k hk).2.1) hx (fun k hk => hk.elim .inl (fun h => (he k h).2.2))
  refine ⟨⟨hd1.store hf1 (fun k e => by rw [e]; exact .inl (o2a w b so wr)), hS.sure.fr hf1 (fun e => hne.1 e.symm) (fun g hg e => by have := (hB.row g hg).2; omega), hS.also.wr hr (fun g hg => (he g hg).1.2.1), hd, hq, fun k hk => .inl (.inl (.inl hk)), .inl (o2b w b so wr), .inl (o2a w b so wr), .inl (o2x w b so wr), fun g hg => .inl (o2s hg), fun g hg => .inr hg, hne.1, ⟨hps, by have := hB.len; omega⟩, ⟨hrs.1, by have := hrs.2; omega⟩, hf1.grownFrom hS.ext (fun k e => by have := hB.new; have := hB.lt; omega), hB.new⟩, ?_, ?_⟩
  · exact (hf1.cell (p := ⟨wr.heap.size, 2, none⟩) hS.lt (show ¬ wr.heap.size = wr.heap.size + 1 by omega)).trans hS.x2
  · exact (hf1.cell (p := ⟨wr.heap.size, 4, none⟩) hS.lt (show ¬ wr.heap.size = wr.heap.size + 1 by omega)).trans hS.x4
/-- The disk is down by a crash. -/
theorem Beg.downSame (hD : Dp V (O2 w b so wr) p S' w3) (hd : Dead False (k + 1) ps 300000 S') (hps : ps ≠ []) :
    Down w p b (wr.heap.size + 1) wr.heap.size w3 so sn sc so sn sc S' ps ps ps (k + 1) (O2 w b so wr) ∧ w3.cell? ⟨wr.heap.size, 2, none⟩ = some (.int .i64 xn) ∧ w3.cell? ⟨wr.heap.size, 4, none⟩ = some (.slice ko kl kc) := by
  have hS := hB.stays hD.fr
  exact ⟨⟨hD.now, hS.sure, hS.also, hd, .inl rfl, fun k hk => .inl (.inl hk), o2b w b so wr, o2a w b so wr, o2x w b so wr, fun g hg => o2s hg, fun g hg => o2s hg, hB.ne.1, ⟨hps, by have := hB.len; omega⟩, ⟨hps, by have := hB.len; omega⟩, hS.ext, hB.new⟩, hS.x2, hS.x4⟩
end
end Go.Proofs.Ytajclcbclbppiaa
namespace Go.Proofs.Ytajclcbclbppiaa
open Go.RowKit Go.Maps Go.Dk Go.Rc Go.Jn Go.Shelf
section
variable {w wx w1 w2 w4 w6 : World} {p q b a xb : Nat} {so ao ko lo : Option Addr} {sn sc an ac kl kc ln lc : Nat} {S S1 S2 : St} {J : Jo} {ss aa qs : List (List UInt8)} {k xn : Int} {O : Nat → Prop}
/-- What is held while the disk turns. -/
structure Hold (w : World) (b a xb : Nat) (wx : World) (so : Option Addr) (sn sc : Nat) (ao : Option Addr) (an ac : Nat) (ss aa : List (List UInt8)) (k xn : Int) (ko : Option Addr) (kl kc : Nat) (O : Nat → Prop) : Prop where
  sure : BoxAt wx b so sn sc ss
  also : BoxAt wx a ao an ac aa
  x2 : wx.cell? ⟨xb, 2, none⟩ = some (.int .i64 xn)
  x4 : wx.cell? ⟨xb, 4, none⟩ = some (.slice ko kl kc)
  xlt : xb < wx.heap.size
  old : ∀ k, Old w k → O k
  hbo : O b
  hao : O a
  hxo : O xb
  hso : ∀ g, ob so = some g → O g
  hro : ∀ g, ob ao = some g → O g
  ss1 : ss ≠ [] ∧ (ss.length : Int) ≤ k + 1
  as1 : aa ≠ [] ∧ (aa.length : Int) ≤ k + 1
  ext : Ext w wx
  new : w.heap.size ≤ b
theorem Hold.fr (h : Hold w b a xb wx so sn sc ao an ac ss aa k xn ko kl kc O) (hf : Fr (fun k => ¬ O k) wx w1) : Hold w b a xb w1 so sn sc ao an ac ss aa k xn ko kl kc O :=
  ⟨h.sure.fr hf (fun hk => hk h.hbo) (fun g hg hk => hk (h.hso g hg)), h.also.fr hf (fun hk => hk h.hao) (fun g hg hk => hk (h.hro g hg)),
    (hf.cell (p := ⟨xb, 2, none⟩) h.xlt (fun hk => hk h.hxo)).trans h.x2, (hf.cell (p := ⟨xb, 4, none⟩) h.xlt (fun hk => hk h.hxo)).trans h.x4, Nat.lt_of_lt_of_le h.xlt hf.size,
    h.old, h.hbo, h.hao, h.hxo, h.hso, h.hro, h.ss1, h.as1, Fr.ext h.ext (F := fun k => ¬ O k) hf (fun k hk => by
      rcases Nat.lt_or_ge k w.heap.size with h' | h'
      · exact absurd (h.old k h') hk
      · exact h'), h.new⟩
theorem Hold.ext' (h : Hold w b a xb wx so sn sc ao an ac ss aa k xn ko kl kc O) (hx : Ext wx w1) : Hold w b a xb w1 so sn sc ao an ac ss aa k xn ko kl kc O :=
  ⟨h.sure.ext hx, h.also.ext hx, (hx.cell (p := ⟨xb, 2, none⟩) h.xlt).trans h.x2, (hx.cell (p := ⟨xb, 4, none⟩) h.xlt).trans h.x4, Nat.lt_of_lt_of_le h.xlt hx.size,
    h.old, h.hbo, h.hao, h.hxo, h.hso, h.hro, h.ss1, h.as1, h.ext.trans hx, h.new⟩
/-- Down: the disk, and what is held. -/
structure Dn (w : World) (p b a xb : Nat) (wx : World) (so : Option Addr) (sn sc : Nat) (ao : Option Addr) (an ac : Nat) (S : St) (ss aa qs : List (List UInt8)) (k xn : Int) (ko : Option Addr) (kl kc : Nat) (O : Nat → Prop) : Prop where
  d : Dp wx O p S wx
  hold : Hold w b a xb wx so sn sc ao an ac ss aa k xn ko kl kc O
  dead : Dead False k qs 300000 S
  which : qs = ss ∨ qs = aa
theorem Down.dn (h : Down w p b a xb wx so sn sc ao an ac S ss aa qs k O) (x2 : wx.cell? ⟨xb, 2, none⟩ = some (.int .i64 xn)) (x4 : wx.cell? ⟨xb, 4, none⟩ = some (.slice ko kl kc)) : Dn w p b a xb wx so sn sc ao an ac S ss aa qs k xn ko kl kc O := by
  refine ⟨h.d, ⟨h.sure, h.also, x2, x4, h.d.under xb h.hxo, h.old, h.hbo, h.hao, h.hxo, h.hso, h.hro, h.ss1, h.as1, h.ext, h.new⟩, h.dead, h.which⟩
/-- The same when the sure one has been written. -/
theorem Down.dn_store (h : Down w p b a xb wx so sn sc ao an ac S ss aa qs k O) (hq : qs = aa) (hr : ∀ g, ob ao = some g → g ≠ b) (hne : xb ≠ b) (x2 : wx.cell? ⟨xb, 2, none⟩ = some (.int .i64 xn)) (x4 : wx.cell? ⟨xb, 4, none⟩ = some (.slice ko kl kc)) :
    Dn w p b a xb (wr2 wx b (aa.headD []) ao an ac) ao an ac ao an ac S aa aa qs k xn ko kl kc O := by
  have hf := wr2_fr wx b (aa.headD []) ao an ac
  have hl := h.d.under xb h.hxo
  exact (h.store hq hr).dn ((hf.cell (p := ⟨xb, 2, none⟩) hl hne).trans x2) ((hf.cell (p := ⟨xb, 4, none⟩) hl hne).trans x4)
/-- Still down. -/
theorem Hold.again (h : Hold w b a xb wx so sn sc ao an ac ss aa k xn ko kl kc O) (hd : Dp wx O p S1 w1) (hD : Dead False k qs 300000 S1) (hw : qs = ss ∨ qs = aa) : Dn w p b a xb w1 so sn sc ao an ac S1 ss aa qs k xn ko kl kc O :=
  ⟨hd.now, h.fr hd.fr, hD, hw⟩
/-- Up again: what was found is what is sure. -/
theorem Hold.up (h : Hold w b a xb wx so sn sc ao an ac ss aa k xn ko kl kc O) (hw : qs = ss ∨ qs = aa) (hj : Jp w4 (WithRow O lo) p q S2 J w4) (hf : Fr (fun k => ¬ O k) wx w4) (hr : Ro w4 lo ln qs.tail) (hn : ∀ g, ob lo = some g → wx.heap.size ≤ g) (hl : Live S2 J qs) (hc : S2.cap = 300000) (hJ : J.n ≤ k) (hx : Ext w4 w6) :
    Up w p b (wr2 w6 b (qs.headD []) lo ln lc) q lo ln lc S2 J qs k := by
  have h6 := (h.fr hf).ext' hx
  have hwf := wr2_fr w6 b (qs.headD []) lo ln lc
  have hlb : b < wx.heap.size := h.sure.lt
  have hj6 := ((hj.ext hx).now.store hwf (fun k e => by rw [e]; exact .inl h.hbo))
  have hne : ∀ g, ob lo = some g → g ≠ b := fun g hg => by have := hn g hg; omega
  have hO : ∀ k, Ob w b lo k → WithRow O lo k := fun k hk => by
    rcases hk with hk | rfl | hk
    · exact .inl (h.old k hk)
    · exact .inl h.hbo
    · exact .inr hk
  refine ⟨hj6.base (Ext.refl _) (fun k hk => hj6.under k (hO k hk)) (fun k hk => .inl (hO k hk)), h6.sure.wr (hr.ext hx) hne, hl, hc, hJ, ?_, hwf.grownFrom h6.ext (fun k e => by rw [e]; exact h.new), h.new, hne⟩
  rcases hw with rfl | rfl
  · exact h.ss1.2
  · exact h.as1.2
theorem Up.ext' {J : Jo} {wr : World} (h : Up w p b wr q so sn sc S J qs k) (hx : Ext wr w1) : Up w p b w1 q so sn sc S J qs k :=
  ⟨(h.jp.ext hx).now, h.box.ext hx, h.live, h.cap, h.n, h.len, h.ext.trans hx, h.new, h.row⟩
/-- Where the failure would strike. -/
theorem fail_num (n : Int) (t : Nat) (ht : t ≤ 3) : IntKind.i64.wrap (bits .and .i64 n 3 + (t : Int)) = bits .and .i64 n 3 + (t : Int) ∧ 0 ≤ bits .and .i64 n 3 + (t : Int) ∧ bits .and .i64 n 3 + (t : Int) ≤ 9223372036854775807 := by
  have h : 0 ≤ bits .and .i64 n 3 ∧ bits .and .i64 n 3 ≤ 3 := and_low n 3 (by decide)
  exact ⟨IntWalk.i64_in _ ⟨by omega, by omega⟩, by omega, by omega⟩
theorem same_known {ao bo : Option Addr} {n m ca cb : Nat} {s t : List UInt8} {A B : List (List UInt8)} (ha : Ro w ao n A) (hb : Ro w bo m B) (hn : n ≤ 16777216) (hm : m ≤ 16777216) {v : Bool} (hv : decide (s :: A = t :: B) = v) :
    Calls Try.prog 18 #[.agg #[.string (ofL s), .slice ao n ca], .agg #[.string (ofL t), .slice bo m cb]] w fun e w' => e = .returned (.bool v) ∧ Ext w w' := by
  subst hv
  exact same_is ha hb hn hm
/-- A state in a box that was new. -/
theorem got_at {u v : Value} {t : TypeId} (hx : Ext (w.alloc (.cells #[u, v] t)) w1) : w1.cell? ⟨w.heap.size, 0, none⟩ = some u ∧ w1.cell? ⟨w.heap.size, 1, none⟩ = some v ∧ w.heap.size < w1.heap.size := by
  have hl : w.heap.size < (w.alloc (.cells #[u, v] t)).heap.size := by simp
  have hb := heap_alloc_new w (.cells #[u, v] t)
  exact ⟨(hx.cell (p := ⟨w.heap.size, 0, none⟩) hl).trans (by simp only [World.cell?, hb]; rfl), (hx.cell (p := ⟨w.heap.size, 1, none⟩) hl).trans (by simp only [World.cell?, hb]; rfl), Nat.lt_of_lt_of_le hl hx.size⟩
theorem cons_same {A B : List (List UInt8)} (hA : A ≠ []) (hB : B ≠ []) : decide (A.headD [] :: A.tail = B.headD [] :: B.tail) = decide (A = B) := by
  cases A with
  | nil => exact absurd rfl hA
  | cons a l =>
    cases B with
    | nil => exact absurd rfl hB
    | cons b r => rfl
theorem ro_small {ao : Option Addr} {n : Nat} {L : List (List UInt8)} (h : Ro w ao n L.tail) {k : Int} (hl : (L.length : Int) ≤ k + 1) (hk : k ≤ 1000) : n ≤ 16777216 := by
  have h1 := h.1
  rw [List.length_tail] at h1
  omega
theorem Mid.look {F : Prop} {N n cap starts : Int} {S : St} {ps : List (List UInt8)} (h : Mid F N n ps cap starts S) : (∃ J S2, open_ S = ⟨S2, some J, ps.headD [], ps.tail, 0⟩ ∧ Live S2 J ps ∧ J.n ≤ N ∧ S2.cap = cap) ∨ (∃ S2, open_ S = ⟨S2, none, [], [], 61⟩ ∧ Dead F N ps cap S2) := by
  rcases open_led h with ⟨J, S2, h1, h2, h3, h4, _⟩ | h'
  · exact .inl ⟨J, S2, h1, h2, by rw [h3]; exact h.n_le, h4⟩
  · exact .inr h'
end
end Go.Proofs.Ytajclcbclbppiaa
