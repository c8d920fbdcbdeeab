/-
  Both disks: apart from each other, and from O; of O nothing has turned since W.
  Same: of both disks, when they have the same.
  Both disks: each operation's contract; Act.do: both answer alike, and have the same.
-/
import Derived.Test.YtajclcbclbppiaaGreatZ15
import Derived.Test.YtajclcbclbppiaaGreatZ10
import Derived.Test.YtajclcbclbppiaaGreatZ11
import Derived.Deep.RegionHeld3
import Derived.Test.YtajclcbclbppiaaGreatZ16
section
namespace Go.Proofs.YtajclcbclbppiaaGreat
open Go.RowKit Go.Maps Go.Dk Go.Shelf
variable {W w w' V : World} {O G G' : Nat → Prop} {p q m m' : Nat} {S S' T T' : St}
/-- Both disks: the one's state is S, the document's T. -/
def Td (W : World) (O : Nat → Prop) (p q : Nat) (S T : St) (m : Nat) (w : World) : Prop :=
  ∃ β G, DiskAt w β p S ∧ RP w G q T m ∧ Fr (fun k => ¬ O k) W w ∧ Apart O (Bl β) ∧ Apart O G ∧ Apart (Bl β) G ∧ Under O W
theorem RP.under (h : RP w G q S m) : Under G w := by
  obtain ⟨_, _, _, _, _, _, h, _⟩ := h
  exact h.under
theorem RP.fr {F : Nat → Prop} (h : RP w G q S m) (hf : Fr F w w') (ha : ∀ k, G k → ¬ F k) : RP w' G q S m := by
  obtain ⟨ao, cap, ko, kc, F', K, h1, h2⟩ := h
  exact ⟨ao, cap, ko, kc, F', K, h1.kept hf.size (fun k hk => hf.block k (h1.under k hk) (ha k hk)), h2⟩
theorem Td.fr (h : Td W O p q S T m w) : Fr (fun k => ¬ O k) W w := by obtain ⟨_, _, _, _, h, _⟩ := h; exact h
theorem Td.ok (h : Td W O p q S T m w) : Ok S := by obtain ⟨_, _, h, _⟩ := h; exact h.ok
theorem Td.ext (h : Td W O p q S T m w) (hx : Ext w w') : Td W O p q S T m w' := by
  obtain ⟨β, G, h1, h2, h3, h4, h5, h6, h7⟩ := h
  exact ⟨β, G, h1.ext hx, h2.ext hx, h3.trans (Fr.of_ext (F := fun _ => False) hx) (fun _ _ hf => hf.elim), h4, h5, h6, h7⟩
theorem Td.less (h : Td W O p q S T m w) (hm : m' ≤ m) : Td W O p q S T m' w := by
  obtain ⟨β, G, h1, h2, h3⟩ := h
  exact ⟨β, G, h1, h2.less hm, h3⟩
section
variable {f : FuncId} {args : Array Value} {v : Value}
theorem Td.left (h : Td W O p q S T m w) (hc : ∀ β, DiskAt w β p S → Calls Tryz.prog f args w fun x w' => x = .returned v ∧ ∃ β', DiskAt w' β' p S' ∧ Tn (Bl β) (Bl β') w w') :
    Calls Tryz.prog f args w fun x w' => x = .returned v ∧ Td W O p q S' T m w' := by
  obtain ⟨β, G, h1, h2, h3, h4, h5, h6, h7⟩ := h
  exact (hc β h1).mono fun _ _ ⟨hx, β', hD, hT⟩ => ⟨hx, β', G, hD, h2.fr hT.fr (fun k hk hb => h6 k hb hk), h3.trans hT.fr (fun k _ hk ho => h4 k ho hk), (h4.symm.turn (h7.mono h3.size) hT).symm, h5, h6.turn h2.under hT, h7⟩
theorem Td.right (h : Td W O p q S T m w) (hc : ∀ G, RP w G q T m → Calls Tryz.prog f args w fun x w' => x = .returned v ∧ ∃ G', RP w' G' q T' m' ∧ Tr q G G' w w') :
    Calls Tryz.prog f args w fun x w' => x = .returned v ∧ Td W O p q S T' m' w' := by
  obtain ⟨β, G, h1, h2, h3, h4, h5, h6, h7⟩ := h
  have hown : G q := by obtain ⟨_, _, _, _, _, _, k, _⟩ := h2; exact k.own
  exact (hc G h2).mono fun _ _ ⟨hx, G', hD, hT0⟩ => have hT := hT0.tn hown; ⟨hx, β, G', h1.fr hT.fr (fun k hk hg => h6 k hk hg), hD, h3.trans hT.fr (fun k _ hk ho => h5 k ho hk), h4, (h5.symm.turn (h7.mono h3.size) hT).symm, (h6.symm.turn h1.under hT).symm, h7⟩
theorem Td.seeL (h : Td W O p q S T m w) (hc : ∀ β, DiskAt w β p S → Calls Tryz.prog f args w fun x w' => x = .returned v ∧ Ext w w') :
    Calls Tryz.prog f args w fun x w' => x = .returned v ∧ Td W O p q S T m w' := by
  obtain ⟨β, G, h1, h2⟩ := id h
  exact (hc β h1).mono fun _ _ ⟨hx, hE⟩ => ⟨hx, h.ext hE⟩
theorem Td.seeR (h : Td W O p q S T m w) (hc : ∀ G, RP w G q T m → Calls Tryz.prog f args w fun x w' => x = .returned v ∧ w = w') :
    Calls Tryz.prog f args w fun x w' => x = .returned v ∧ Td W O p q S T m w' := by
  obtain ⟨β, G, h1, h2, _⟩ := id h
  exact (hc G h2).mono fun _ _ ⟨hx, hE⟩ => ⟨hx, hE ▸ h⟩
end
/-- O, and one block more. -/
def With (O : Nat → Prop) (b : Nat) : Nat → Prop := fun k => O k ∨ k = b
theorem With.new (O : Nat → Prop) (b : Nat) : With O b b := Or.inr rfl
theorem Td.plus (h : Td W O p q S T m w) (o : Obj) : Td (w.alloc o) (With O w.heap.size) p q S T m (w.alloc o) := by
  obtain ⟨β, G, h1, h2, h3, h4, h5, h6, h7⟩ := h
  refine ⟨β, G, h1.ext ((Ext.refl _).alloc _), h2.ext ((Ext.refl _).alloc _), Fr.refl _ _, fun k hk hb => ?_, fun k hk hb => ?_, h6, fun k hk => ?_⟩
  · rcases hk with hk | rfl
    · exact h4 k hk hb
    · exact absurd (h1.under _ hb) (by omega)
  · rcases hk with hk | rfl
    · exact h5 k hk hb
    · exact absurd (h2.under _ hb) (by omega)
  · rw [World.size_alloc]
    rcases hk with hk | rfl
    · have := h7 k hk; have := h3.size; omega
    · omega
theorem Td.back (h : Td W O p q S T m w) (hx : Ext w V) {b : Nat} (h' : Td V (With O b) p q S' T' m' w') : Td W O p q S' T' m' w' := by
  obtain ⟨_, _, _, _, h3, _, _, _, h7⟩ := h
  obtain ⟨β, G, k1, k2, k3, k4, k5, k6, _⟩ := h'
  exact ⟨β, G, k1, k2, (h3.trans (Fr.of_ext (F := fun _ => False) hx) (fun _ _ hf => hf.elim)).trans k3 (fun _ _ hk ho => hk (.inl ho)), fun k hk => k4 k (.inl hk), fun k hk => k5 k (.inl hk), k6, h7⟩
/-- What is read of O. -/
theorem Td.cells {A : Nat → Prop} {w0 w1 : World} (h : Fr (fun k => ¬ A k) w0 w1) {g : Nat} {a : Array Value} {t : TypeId} (hb : w0.heap[g]? = some (.cells a t)) (hn : A g) : ∀ o, w1.cell? ⟨g, o, none⟩ = a[o]? := (h.cells hb (fun h => h hn)).1
end Go.Proofs.YtajclcbclbppiaaGreat
end
section
namespace Go.Proofs.YtajclcbclbppiaaGreat
open Go.RowKit Go.Maps Go.Dk Go.Shelf
variable {W w w' : World} {O : Nat → Prop} {p q m : Nat} {S : St}
set_option maxHeartbeats 4000000 in
set_option maxRecDepth 100000 in
theorem same_yes (h : Td W O p q S S m w) :
    Calls Tryz.prog 14 #[.pointer (some ⟨p, 0, none⟩), .pointer (some ⟨q, 0, none⟩)] w fun e w' => e = .returned (.bool true) ∧ Td W O p q S S m w' := by
  have H := Lib.hid h
  obtain ⟨β, G, h1, h2, _⟩ := h
  obtain ⟨ao, cap, ko, kc, F, K, h3, _⟩ := h2
  have HD := Lib.hid h1
  have HR := Lib.hid h3
  have FI := Lib.hid (files_is h1)
  have LO := Lib.hid (fun w1 (hx : Ext w w1) => loose_is (h1.ext hx))
  have hmany := h1.ok.many
  clear h1 h3
  go_enter Tryz.func14, Tryz.ntmps14
  go_wp2_with (first | (go_at_call 34; (with_reducible refine FI.out.mono ?_); rintro e w1 ⟨bo, bc, rfl, hr, hx1, _⟩; have HF := Lib.hid hr; have HX1 := Lib.hid hx1; clear hr hx1) | (go_at_call 44; (with_reducible refine (LO.out _ HX1.out).mono ?_); rintro e w2 ⟨co, cc, rfl, hr, hx2⟩; have HL := Lib.hid hr; have HX2 := Lib.hid hx2; clear hr hx2))
  have hx := HX1.out.trans HX2.out
  have FR := Lib.hid (fun w' (h : Ext w2 w') => (free_is (HD.out.ext (hx.trans h))).mono (fun _ _ k => (⟨k.1, h.trans k.2⟩ : _ ∧ Ext w2 _)))
  have RF := Lib.hid (fun w' (h : Ext w2 w') => (rfree_is (HR.out.ext (hx.trans h))).mono (fun _ _ k => (⟨k.1, k.2 ▸ h⟩ : _ ∧ Ext w2 _)))
  have UP := Lib.hid (fun w' (h : Ext w2 w') => (up_is (HD.out.ext (hx.trans h))).mono (fun _ _ k => (⟨k.1, k.2 ▸ h⟩ : _ ∧ Ext w2 _)))
  have ST := Lib.hid (fun w' (h : Ext w2 w') => (starts_is (HD.out.ext (hx.trans h))).mono (fun _ _ k => (⟨k.1, k.2 ▸ h⟩ : _ ∧ Ext w2 _)))
  have r1 : ∀ w', Ext w2 w' → w'.cell? ⟨q, 1, none⟩ = some (.slice ao S.fs.length cap) := fun w' h => (HR.out.ext (hx.trans h)).c1
  have r2 : ∀ w', Ext w2 w' → w'.cell? ⟨q, 2, none⟩ = some (.bool S.down) := fun w' h => (HR.out.ext (hx.trans h)).c2
  have r3 : ∀ w', Ext w2 w' → w'.cell? ⟨q, 3, none⟩ = some (.int .i64 S.starts) := fun w' h => (HR.out.ext (hx.trans h)).c3
  have R1 := Lib.hid r1
  have R2 := Lib.hid r2
  go_region_held3 (fun w' => Ext w2 w') (first | exact Ext.refl _ | exact (Ext.refl _).drew | assumption) (first | (go_at_call 28; (with_reducible refine (FR.out _ (by first | exact Ext.refl _ | exact (Ext.refl _).drew | assumption)).mono ?_); rintro e w3 ⟨rfl, hs3⟩) | (go_at_call 30; (with_reducible refine (RF.out _ (by first | exact Ext.refl _ | exact (Ext.refl _).drew | assumption)).mono ?_); rintro e w4 ⟨rfl, hs4⟩) | (go_at_call 32; (with_reducible refine (UP.out _ (by first | exact Ext.refl _ | exact (Ext.refl _).drew | assumption)).mono ?_); rintro e w5 ⟨rfl, hs5⟩) | (go_at_call 37; (with_reducible refine (ST.out _ (by first | exact Ext.refl _ | exact (Ext.refl _).drew | assumption)).mono ?_); rintro e w6 ⟨rfl, hs6⟩))
  all_goals
    clear r1 r2 r3
    go_wp2
    go_loopw [7] (fun i wr => (∃ k : Nat, k ≤ S.fs.length ∧ i = .int .i64 k) ∧ Ext w2 wr) (fun i _ => S.fs.length - (intOf i).toNat)
    case atStart => exact ⟨⟨0, by omega, rfl⟩, by assumption⟩
    case round =>
      obtain ⟨⟨k, hk, rfl⟩, hE⟩ := hrel
      by_cases hlt : k < S.fs.length
      · obtain ⟨f, hff⟩ : ∃ f, S.fs[k] = f := ⟨_, rfl⟩
        have hfm : f ∈ S.fs := by rw [← hff]; exact List.getElem_mem _
        have hbl : (f.b.length : Int) ≤ 1048576 := by have := HR.out.ok.tot; have := HR.out.ok.cap1; have := tot_mem hfm; omega
        have hss := HR.out.ok.sure f hfm
        have hE0 := hx.trans hE
        obtain ⟨g, rfl, hg, _, _, d0, d1, d2⟩ := (HR.out.ext hE0).file (k := k) hlt
        rw [hff] at d0 d1 d2
        obtain ⟨gf, rfl, hgf, hf2, _⟩ := (HF.out.ext (HX2.out.trans hE)).row (by omega)
        obtain ⟨gl, rfl, hgl, hl2, _⟩ := (HL.out.ext hE).row (by omega)
        have e1 := hf2 k (by omega)
        have e2 := hl2 k (by omega)
        rw [show (Nums (S.fs.map (·.n)))[k]? = some (.int .i64 f.n) by simp [Nums, List.getElem?_eq_getElem hlt, hff]] at e1
        rw [show (Nums (loose S.fs))[k]? = some (.int .i64 ((f.b.length : Int) - f.s)) by simp [Nums, loose, List.getElem?_eq_getElem hlt, hff]] at e2
        have q1 := R1.out wr hE
        have q2 := (R2.out _ (hE.alloc (.cells #[.int .i64 f.n, .string (ofL f.b), .int .i64 f.s] 69)))
        have hwf := ok_wf HR.out.ok hfm
        have hget := get_of_mem HR.out.ok.rise hfm
        have hql := (HR.out.ext hE0).under q HR.out.own
        have hX : Ext wr (wr.alloc (.cells #[.int .i64 f.n, .string (ofL f.b), .int .i64 f.s] 69)) := (Ext.refl wr).alloc _
        have hB : ∀ w', Ext (wr.alloc (.cells #[.int .i64 f.n, .string (ofL f.b), .int .i64 f.s] 69)) w' → ∀ o, w'.cell? ⟨wr.heap.size, o, none⟩ = (#[.int .i64 f.n, .string (ofL f.b), .int .i64 f.s] : Array Value)[o]? := fun w' hx => ((Fr.of_ext (F := fun _ => False) hx).cells (heap_alloc_new wr _) (fun h => h)).1
        have HB := Lib.hid hB
        clear hf2 hl2 hff hB
        obtain hd | hd : S.down = false ∨ S.down = true := by cases S.down <;> simp
        · have hz : Dk.size S f.n = ((f.b.length : Int), 0) := by simp [Dk.size, hd, hget]
          have hrd : Dk.read S f.n 0 f.b.length = (f.b, 0) := by
            have e : ¬ ((f.b.length : Int) < 0) := by omega
            simp [Dk.read, hd, hget, e]
          have SZ := Lib.hid (fun w' (h : Ext wr w') => (show Calls Tryz.prog 33 #[.pointer (some ⟨p, 0, none⟩), .int .i64 f.n] w' fun x w2 => x = .returned (.tuple #[.int .i64 (f.b.length : Int), .int .i64 0]) ∧ w' = w2 from by have := size_is (HD.out.ext (hE0.trans h)) hwf; rw [hz] at this; exact this))
          have RD := Lib.hid (fun w' (h : Ext wr w') => (show Calls Tryz.prog 45 #[.pointer (some ⟨p, 0, none⟩), .int .i64 f.n, .int .i64 0, .int .i64 (f.b.length : Int)] w' fun x w2 => x = .returned (.tuple #[.string (ofL f.b), .int .i64 0]) ∧ Ext w' w2 from by have := read_is (HD.out.ext (hE0.trans h)) hwf 0 f.b.length; rw [hrd] at this; exact this))
          rw [hd] at q2
          clear hd hz hrd
          go_wp2
          go_quiet (fail)
          all_goals
            go_wp2_with (first | (go_at_call 33; (with_reducible refine (SZ.out _ (hX.drewN _)).mono ?_); rintro e v1 ⟨rfl, rfl⟩) | (go_at_call 45; (with_reducible refine (RD.out _ (hX.drewN _)).mono ?_); rintro e v2 ⟨rfl, hx2⟩; have b1 := HB.out v2 (((Ext.refl _).drewN _).trans hx2) 1; simp at b1))
            go_wp2
            exact ⟨⟨⟨k + 1, by omega, by go_num⟩, hE.trans ((hX.drewN _).trans hx2)⟩, by simp [intOf]; omega⟩
        · rw [hd] at q2
          clear hd
          go_wp2
          go_quiet (fail)
          all_goals
            go_wp2
            exact ⟨⟨⟨k + 1, by omega, by go_num⟩, hE.trans (hX.drewN _)⟩, by simp [intOf]; omega⟩
      · obtain rfl : k = S.fs.length := by omega
        go_wp2
        go_ret
        exact ⟨rfl, H.out.ext (hx.trans hE)⟩
end Go.Proofs.YtajclcbclbppiaaGreat
end
section
namespace Go.Proofs.YtajclcbclbppiaaGreat
open Go.RowKit Go.Maps Go.Dk Go.Shelf
section
variable {W w w' V : World} {O G G' : Nat → Prop} {p q m m' : Nat} {S S' T T' : St} {n : Int}
theorem Mt.start {x : Option (Int × List Int)} {F : Int} {K : List Int} (h : Mt x F K (m + 1)) : Mt x F K m := h.less (Nat.le_succ m)

theorem td_create (h : Td W O p q S T m w) (hn : (Lit.int .i64 n).wf = true) :
    Calls Tryz.prog 7 #[.pointer (some ⟨p, 0, none⟩), .int .i64 n] w fun x w' => x = .returned (.int .i64 (Dk.create S n).2) ∧ Td W O p q (Dk.create S n).1 T m w' := h.left (fun _ h1 => create_is h1 hn)
theorem tr_create (h : Td W O p q S T (m + 1) w) (hn : (Lit.int .i64 n).wf = true) :
    Calls Tryz.prog 8 #[.pointer (some ⟨q, 0, none⟩), .int .i64 n] w fun x w' => x = .returned (.int .i64 (Dk.create T n).2) ∧ Td W O p q S (Dk.create T n).1 m w' :=
  h.right (fun _ h1 => by obtain ⟨_, _, _, _, _, _, k1, k2⟩ := h1; exact rcreate_is k1 k2 n hn)
theorem td_append (h : Td W O p q S T m w) (hn : (Lit.int .i64 n).wf = true) (s : List UInt8) :
    Calls Tryz.prog 9 #[.pointer (some ⟨p, 0, none⟩), .int .i64 n, .string (ofL s)] w fun x w' => x = .returned (.int .i64 (Dk.append S n s).2) ∧ Td W O p q (Dk.append S n s).1 T m w' := h.left (fun _ h1 => append_is h1 hn s)
theorem tr_append (h : Td W O p q S T (m + 1) w) (n : Int) (s : List UInt8) :
    Calls Tryz.prog 10 #[.pointer (some ⟨q, 0, none⟩), .int .i64 n, .string (ofL s)] w fun x w' => x = .returned (.int .i64 (Dk.append T n s).2) ∧ Td W O p q S (Dk.append T n s).1 m w' :=
  h.right (fun _ h1 => by obtain ⟨_, _, _, _, _, _, k1, k2⟩ := h1; exact rappend_is k1 k2 n s)
theorem td_sync (h : Td W O p q S T m w) (hn : (Lit.int .i64 n).wf = true) :
    Calls Tryz.prog 51 #[.pointer (some ⟨p, 0, none⟩), .int .i64 n] w fun x w' => x = .returned (.int .i64 (Dk.sync S n).2) ∧ Td W O p q (Dk.sync S n).1 T m w' := h.left (fun _ h1 => sync_is h1 hn)
theorem tr_sync (h : Td W O p q S T (m + 1) w) (n : Int) :
    Calls Tryz.prog 42 #[.pointer (some ⟨q, 0, none⟩), .int .i64 n] w fun x w' => x = .returned (.int .i64 (Dk.sync T n).2) ∧ Td W O p q S (Dk.sync T n).1 m w' :=
  h.right (fun _ h1 => by obtain ⟨_, _, _, _, _, _, k1, k2⟩ := h1; exact rsync_is k1 k2 n)
theorem td_truncate (h : Td W O p q S T m w) (hn : (Lit.int .i64 n).wf = true) (z : Int) :
    Calls Tryz.prog 67 #[.pointer (some ⟨p, 0, none⟩), .int .i64 n, .int .i64 z] w fun x w' => x = .returned (.int .i64 (Dk.truncate S n z).2) ∧ Td W O p q (Dk.truncate S n z).1 T m w' := h.left (fun _ h1 => truncate_is h1 hn z)
theorem tr_truncate (h : Td W O p q S T (m + 1) w) (n z : Int) :
    Calls Tryz.prog 41 #[.pointer (some ⟨q, 0, none⟩), .int .i64 n, .int .i64 z] w fun x w' => x = .returned (.int .i64 (Dk.truncate T n z).2) ∧ Td W O p q S (Dk.truncate T n z).1 m w' :=
  h.right (fun _ h1 => by obtain ⟨_, _, _, _, _, _, k1, k2⟩ := h1; exact rtruncate_is k1 k2 n z)
theorem td_delete (h : Td W O p q S T m w) (hn : (Lit.int .i64 n).wf = true) :
    Calls Tryz.prog 57 #[.pointer (some ⟨p, 0, none⟩), .int .i64 n] w fun x w' => x = .returned (.int .i64 (Dk.delete S n).2) ∧ Td W O p q (Dk.delete S n).1 T m w' := h.left (fun _ h1 => delete_is h1 hn)
theorem tr_delete (h : Td W O p q S T (m + 1) w) (n : Int) :
    Calls Tryz.prog 43 #[.pointer (some ⟨q, 0, none⟩), .int .i64 n] w fun x w' => x = .returned (.int .i64 (Dk.delete T n).2) ∧ Td W O p q S (Dk.delete T n).1 m w' :=
  h.right (fun _ h1 => by obtain ⟨_, _, _, _, _, _, k1, k2⟩ := h1; exact rdelete_is k1 k2 n)
theorem start_fail (S : St) : (Dk.start S).1.fail = S.fail := by unfold Dk.start; split <;> rfl
theorem td_read (h : Td W O p q S T m w) (hn : (Lit.int .i64 n).wf = true) (a z : Int) :
    Calls Tryz.prog 45 #[.pointer (some ⟨p, 0, none⟩), .int .i64 n, .int .i64 a, .int .i64 z] w fun x w' => x = .returned (.tuple #[.string (ofL (Dk.read S n a z).1), .int .i64 (Dk.read S n a z).2]) ∧ Td W O p q S T m w' := h.seeL (fun _ h1 => read_is h1 hn a z)
theorem td_size (h : Td W O p q S T m w) (hn : (Lit.int .i64 n).wf = true) :
    Calls Tryz.prog 33 #[.pointer (some ⟨p, 0, none⟩), .int .i64 n] w fun x w' => x = .returned (.tuple #[.int .i64 (Dk.size S n).1, .int .i64 (Dk.size S n).2]) ∧ Td W O p q S T m w' := h.seeL (fun _ h1 => (size_is h1 hn).mono fun _ _ ⟨hx, hw⟩ => ⟨hx, hw ▸ Ext.refl _⟩)
/-- A list that lies in O. -/
theorem Td.keepLt (h : Td W O p q S T m w) {ko : Option Addr} {ks : List Int} (hk : KeepAt w O ko ks) : KeepAt w (fun g => g < w.heap.size) ko ks := by
  obtain ⟨_, _, _, _, h3, _, _, _, h7⟩ := h
  rcases hk with hk | ⟨g, o, e, hg, hc⟩
  · exact .inl hk
  · exact .inr ⟨g, o, e, Nat.lt_of_lt_of_le (h7 g hg) h3.size, hc⟩
theorem td_crash (h : Td W O p q S T m w) {ko : Option Addr} {kc : Nat} {ks : List Int} (hl : ks.length ≤ 16777216) (hk : KeepAt w O ko ks) :
    Calls Tryz.prog 60 #[.pointer (some ⟨p, 0, none⟩), .slice ko ks.length kc] w fun x w' => x = .returned (.int .i64 (Dk.crash S ks).2) ∧ Td W O p q (Dk.crash S ks).1 T m w' := by
  obtain ⟨β, G, h1, h2, h3, h4, h5, h6, h7⟩ := h
  exact (crash_any (kc := kc) h1 hl hk (fun g hg => ⟨Nat.lt_of_lt_of_le (h7 g hg) h3.size, h4 g hg⟩)).mono fun _ _ ⟨hx, β', hD, hT⟩ => ⟨hx, β', G, hD, h2.fr hT.fr (fun k hk hb => h6 k hb hk), h3.trans hT.fr (fun k _ hk ho => h4 k ho hk), (h4.symm.turn (h7.mono h3.size) hT).symm, h5, h6.turn h2.under hT, h7⟩
theorem tr_crash (h : Td W O p q S T (m + 1) w) {ko : Option Addr} {kc : Nat} {ks : List Int} (hl : ks.length ≤ 16777216) (hk : KeepAt w O ko ks) :
    Calls Tryz.prog 61 #[.pointer (some ⟨q, 0, none⟩), .slice ko ks.length kc] w fun x w' => x = .returned (.int .i64 (Dk.crash T ks).2) ∧ Td W O p q S (Dk.crash T ks).1 m w' :=
  h.right (fun G h1 => by
    obtain ⟨ao, cap, ko', kc', F, K, k1, k2⟩ := h1
    cases hd : T.down
    · rw [show Dk.crash T ks = (T.crash ks, 0) by simp [Dk.crash, hd]]
      exact (rcrash_is k1 hd hl (h.keepLt hk) (fun _ hg => hg)).mono fun x w' ⟨hx, G', a2, c2, hR, hT⟩ => ⟨hx, G', ⟨_, _, _, _, _, _, hR, rfl, rfl⟩, hT⟩
    · rw [show Dk.crash T ks = (T, 61) by simp [Dk.crash, hd]]
      exact (rcrash_down k1 hd _).mono fun x w' ⟨hx, hw⟩ => ⟨hx, G, ⟨ao, cap, ko', kc', F, K, hw ▸ k1, k2.less (Nat.le_succ m)⟩, hw ▸ Tr.refl _ _ _⟩)
theorem KeepAt.later {A B : Nat → Prop} {ko : Option Addr} {ks : List Int} (h : KeepAt w A ko ks) (hA : ∀ k, A k → B k) (hb : ∀ k, A k → w'.heap[k]? = w.heap[k]?) : KeepAt w' B ko ks := by
  rcases h.kept hb with h | ⟨g, o, e, hg, hc⟩
  · exact .inl h
  · exact .inr ⟨g, o, e, hA g hg, hc⟩
end
section
variable {W w w' V : World} {O : Nat → Prop} {p q m kc : Nat} {S : St} {kind n at_ size : Int} {s : List UInt8} {ko : Option Addr} {ks : List Int}

end
end Go.Proofs.YtajclcbclbppiaaGreat
end
