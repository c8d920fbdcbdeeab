/-
  Same: of both disks, when they have the same.
-/
import Derived.Test.YtfcjjdmfnkiacaaDskTw
import Derived.Deep.RegionHeld3
namespace Go.Proofs.Ytfcjjdmfnkiacaa
open Go.RowKit Go.Maps Go.Dk Go.Shelf
variable {W w w' : World} {O : Nat → Prop} {p q m : Nat} {S : St}
set_option maxHeartbeats 4000000 in
set_option maxRecDepth 100000 in
theorem same_yes (h : Td W O p q S S m w) :
    Calls Try.prog 26 #[.pointer (some ⟨p, 0, none⟩), .pointer (some ⟨q, 0, none⟩)] w fun e w' => e = .returned (.bool true) ∧ Td W O p q S S m w' := by
  have H := Lib.hid h
  obtain ⟨β, G, h1, h2, _⟩ := h
  obtain ⟨ao, cap, ko, kc, F, K, h3, _⟩ := h2
  have HD := Lib.hid h1
  have HR := Lib.hid h3
  have FI := Lib.hid (files_is h1)
  have LO := Lib.hid (fun w1 (hx : Ext w w1) => loose_is (h1.ext hx))
  have hmany := h1.ok.many
  clear h1 h3
  go_enter Try.func26, Try.ntmps26
  go_wp2_with (first | (go_at_call 17; (with_reducible refine FI.out.mono ?_); rintro e w1 ⟨bo, bc, rfl, hr, hx1, _⟩; have HF := Lib.hid hr; have HX1 := Lib.hid hx1; clear hr hx1) | (go_at_call 21; (with_reducible refine (LO.out _ HX1.out).mono ?_); rintro e w2 ⟨co, cc, rfl, hr, hx2⟩; have HL := Lib.hid hr; have HX2 := Lib.hid hx2; clear hr hx2))
  have hx := HX1.out.trans HX2.out
  have FR := Lib.hid (fun w' (h : Ext w2 w') => (free_is (HD.out.ext (hx.trans h))).mono (fun _ _ k => (⟨k.1, h.trans k.2⟩ : _ ∧ Ext w2 _)))
  have RF := Lib.hid (fun w' (h : Ext w2 w') => (rfree_is (HR.out.ext (hx.trans h))).mono (fun _ _ k => (⟨k.1, k.2 ▸ h⟩ : _ ∧ Ext w2 _)))
  have UP := Lib.hid (fun w' (h : Ext w2 w') => (up_is (HD.out.ext (hx.trans h))).mono (fun _ _ k => (⟨k.1, k.2 ▸ h⟩ : _ ∧ Ext w2 _)))
  have ST := Lib.hid (fun w' (h : Ext w2 w') => (starts_is (HD.out.ext (hx.trans h))).mono (fun _ _ k => (⟨k.1, k.2 ▸ h⟩ : _ ∧ Ext w2 _)))
  have r1 : ∀ w', Ext w2 w' → w'.cell? ⟨q, 1, none⟩ = some (.slice ao S.fs.length cap) := fun w' h => (HR.out.ext (hx.trans h)).c1
  have r2 : ∀ w', Ext w2 w' → w'.cell? ⟨q, 2, none⟩ = some (.bool S.down) := fun w' h => (HR.out.ext (hx.trans h)).c2
  have r3 : ∀ w', Ext w2 w' → w'.cell? ⟨q, 3, none⟩ = some (.int .i64 S.starts) := fun w' h => (HR.out.ext (hx.trans h)).c3
  have R1 := Lib.hid r1
  have R2 := Lib.hid r2
  go_region_held3 (fun w' => Ext w2 w') (first | exact Ext.refl _ | exact (Ext.refl _).drew | assumption) (first | (go_at_call 28; (with_reducible refine (FR.out _ (by first | exact Ext.refl _ | exact (Ext.refl _).drew | assumption)).mono ?_); rintro e w3 ⟨rfl, hs3⟩) | (go_at_call 51; (with_reducible refine (RF.out _ (by first | exact Ext.refl _ | exact (Ext.refl _).drew | assumption)).mono ?_); rintro e w4 ⟨rfl, hs4⟩) | (go_at_call 14; (with_reducible refine (UP.out _ (by first | exact Ext.refl _ | exact (Ext.refl _).drew | assumption)).mono ?_); rintro e w5 ⟨rfl, hs5⟩) | (go_at_call 29; (with_reducible refine (ST.out _ (by first | exact Ext.refl _ | exact (Ext.refl _).drew | assumption)).mono ?_); rintro e w6 ⟨rfl, hs6⟩))
  all_goals
    clear r1 r2 r3
    go_wp2
    go_loopw [7] (fun i wr => (∃ k : Nat, k ≤ S.fs.length ∧ i = .int .i64 k) ∧ Ext w2 wr) (fun i _ => S.fs.length - (intOf i).toNat)
    case atStart => exact ⟨⟨0, by omega, rfl⟩, by assumption⟩
    case round =>
      obtain ⟨⟨k, hk, rfl⟩, hE⟩ := hrel
      by_cases hlt : k < S.fs.length
      · obtain ⟨f, hff⟩ : ∃ f, S.fs[k] = f := ⟨_, rfl⟩
        have hfm : f ∈ S.fs := by rw [← hff]; exact List.getElem_mem _
        have hbl : (f.b.length : Int) ≤ 1048576 := by have := HR.out.ok.tot; have := HR.out.ok.cap1; have := tot_mem hfm; omega
        have hss := HR.out.ok.sure f hfm
        have hE0 := hx.trans hE
        obtain ⟨g, rfl, hg, _, _, d0, d1, d2⟩ := (HR.out.ext hE0).file (k := k) hlt
        rw [hff] at d0 d1 d2
        obtain ⟨gf, rfl, hgf, hf2, _⟩ := (HF.out.ext (HX2.out.trans hE)).row (by omega)
        obtain ⟨gl, rfl, hgl, hl2, _⟩ := (HL.out.ext hE).row (by omega)
        have e1 := hf2 k (by omega)
        have e2 := hl2 k (by omega)
        rw [show (Nums (S.fs.map (·.n)))[k]? = some (.int .i64 f.n) by simp [Nums, List.getElem?_eq_getElem hlt, hff]] at e1
        rw [show (Nums (loose S.fs))[k]? = some (.int .i64 ((f.b.length : Int) - f.s)) by simp [Nums, loose, List.getElem?_eq_getElem hlt, hff]] at e2
        have q1 := R1.out wr hE
        have q2 := (R2.out _ (hE.alloc (.cells #[.int .i64 f.n, .string (ofL f.b), .int .i64 f.s] 75)))
        have hwf := ok_wf HR.out.ok hfm
        have hget := get_of_mem HR.out.ok.rise hfm
        have hql := (HR.out.ext hE0).under q HR.out.own
        have hX : Ext wr (wr.alloc (.cells #[.int .i64 f.n, .string (ofL f.b), .int .i64 f.s] 75)) := (Ext.refl wr).alloc _
        have hB : ∀ w', Ext (wr.alloc (.cells #[.int .i64 f.n, .string (ofL f.b), .int .i64 f.s] 75)) w' → ∀ o, w'.cell? ⟨wr.heap.size, o, none⟩ = (#[.int .i64 f.n, .string (ofL f.b), .int .i64 f.s] : Array Value)[o]? := fun w' hx => ((Fr.of_ext (F := fun _ => False) hx).cells (heap_alloc_new wr _) (fun h => h)).1
        have HB := Lib.hid hB
        clear hf2 hl2 hff hB
        obtain hd | hd : S.down = false ∨ S.down = true := by cases S.down <;> simp
        · have hz : Dk.size S f.n = ((f.b.length : Int), 0) := by simp [Dk.size, hd, hget]
          have hrd : Dk.read S f.n 0 f.b.length = (f.b, 0) := by
            have e : ¬ ((f.b.length : Int) < 0) := by omega
            simp [Dk.read, hd, hget, e]
          have SZ := Lib.hid (fun w' (h : Ext wr w') => (show Calls Try.prog 19 #[.pointer (some ⟨p, 0, none⟩), .int .i64 f.n] w' fun x w2 => x = .returned (.tuple #[.int .i64 (f.b.length : Int), .int .i64 0]) ∧ w' = w2 from by have := size_is (HD.out.ext (hE0.trans h)) hwf; rw [hz] at this; exact this))
          have RD := Lib.hid (fun w' (h : Ext wr w') => (show Calls Try.prog 18 #[.pointer (some ⟨p, 0, none⟩), .int .i64 f.n, .int .i64 0, .int .i64 (f.b.length : Int)] w' fun x w2 => x = .returned (.tuple #[.string (ofL f.b), .int .i64 0]) ∧ Ext w' w2 from by have := read_is (HD.out.ext (hE0.trans h)) hwf 0 f.b.length; rw [hrd] at this; exact this))
          rw [hd] at q2
          clear hd hz hrd
          go_wp2
          go_quiet (fail)
          all_goals
            go_wp2_with (first | (go_at_call 19; (with_reducible refine (SZ.out _ (hX.drewN _)).mono ?_); rintro e v1 ⟨rfl, rfl⟩) | (go_at_call 18; (with_reducible refine (RD.out _ (hX.drewN _)).mono ?_); rintro e v2 ⟨rfl, hx2⟩; have b1 := HB.out v2 (((Ext.refl _).drewN _).trans hx2) 1; simp at b1))
            go_wp2
            exact ⟨⟨⟨k + 1, by omega, by go_num⟩, hE.trans ((hX.drewN _).trans hx2)⟩, by simp [intOf]; omega⟩
        · rw [hd] at q2
          clear hd
          go_wp2
          go_quiet (fail)
          all_goals
            go_wp2
            exact ⟨⟨⟨k + 1, by omega, by go_num⟩, hE.trans (hX.drewN _)⟩, by simp [intOf]; omega⟩
      · obtain rfl : k = S.fs.length := by omega
        go_wp2
        go_ret
        exact ⟨rfl, H.out.ext (hx.trans hE)⟩
end Go.Proofs.Ytfcjjdmfnkiacaa
