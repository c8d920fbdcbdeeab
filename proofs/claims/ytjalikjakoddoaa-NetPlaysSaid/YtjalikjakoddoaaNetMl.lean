/-
  The chapter's net (mailed).
-/
import Derived.Test.YtjalikjakoddoaaNetLw
import Derived.Deep.RegionHeld3
import Derived.Deep.Cut
namespace Go.Proofs.Ytjalikjakoddoaa
open Go.RowKit Go.Nt
/-- All that there was. -/
def Old (W : World) : Nat → Prop := fun k => k < W.heap.size
theorem Kp.all {W : World} {p : Nat} {L : List Msg} {w : World} (h : Kp W (Old W) p L w) : Ext W w := by
  have f := h.fr
  exact ⟨f.os, f.tape, f.output, f.size, fun k hk => f.block k hk (fun h => h hk)⟩
theorem k_new' (W : World) : Calls Try.prog 8 #[] W fun e w' => ∃ p, e = .returned (.pointer (some ⟨p, 0, none⟩)) ∧ Kp W (Old W) p [] w' :=
  (k_new W (Old W) (fun _ h => h)).mono fun _ _ ⟨h1, h2, _⟩ => ⟨_, h1, h2⟩
/-- A list of three messages that is laid out. -/
theorem lit_row {w : World} {g : Nat} (L : List Msg) (n : Nat) (hn : L.length = n) (hm : n ≤ 16777216) {t : TypeId} (hb : w.heap[g]? = some (.cells (Ml L).toArray t)) : Rw w 7 (some ⟨g, 0, none⟩) n n (Ml L) := by
  subst hn
  have hg : g < w.heap.size := by
    rcases Nat.lt_or_ge g w.heap.size with h | h
    · exact h
    · rw [Array.getElem?_eq_none h] at hb; cases hb
  refine ⟨Ml_length L, Nat.le_refl _, by unfold maxLen; omega, .inr ⟨g, rfl, hg, fun j hj => ⟨?_, ?_⟩, fun j hj => ?_⟩⟩
  · rw [← Ml_length] at hj
    simp only [World.cell?, hb]; simp [List.getElem?_eq_getElem hj]
  · simp only [World.frozen?, hb]; simp
  · simp only [World.cell?, hb]; simp
theorem lit3 {w : World} {g : Nat} {t : TypeId} {a1 b1 c1 d1 e1 f1 a2 b2 c2 d2 e2 f2 a3 b3 c3 d3 e3 f3 : Int} {s1 s2 s3 : List UInt8} (hb : w.heap[g]? = some (.cells #[.int .i64 a1, .int .i64 b1, .int .i64 c1, .string (ofL s1), .int .i64 d1, .int .i64 e1, .int .i64 f1, .int .i64 a2, .int .i64 b2, .int .i64 c2, .string (ofL s2), .int .i64 d2, .int .i64 e2, .int .i64 f2, .int .i64 a3, .int .i64 b3, .int .i64 c3, .string (ofL s3), .int .i64 d3, .int .i64 e3, .int .i64 f3] t)) : Rw w 7 (some ⟨g, 0, none⟩) 3 3 (Ml [(a1, b1, c1, s1, d1, e1, f1), (a2, b2, c2, s2, d2, e2, f2), (a3, b3, c3, s3, d3, e3, f3)]) :=
  lit_row [(a1, b1, c1, s1, d1, e1, f1), (a2, b2, c2, s2, d2, e2, f2), (a3, b3, c3, s3, d3, e3, f3)] 3 rfl (by decide) (t := t) hb
theorem lit1 {w : World} {g : Nat} {t : TypeId} {a1 b1 c1 d1 e1 f1 : Int} {s1 : List UInt8} (hb : w.heap[g]? = some (.cells #[.int .i64 a1, .int .i64 b1, .int .i64 c1, .string (ofL s1), .int .i64 d1, .int .i64 e1, .int .i64 f1] t)) : Rw w 7 (some ⟨g, 0, none⟩) 1 1 (Ml [(a1, b1, c1, s1, d1, e1, f1)]) :=
  lit_row [(a1, b1, c1, s1, d1, e1, f1)] 1 rfl (by decide) (t := t) hb
/-- One block more that is kept. -/
def Plus (W : World) (b : Nat) : Nat → Prop := fun k => k < W.heap.size ∨ k = b
theorem Kp.plus {W : World} {p : Nat} {L : List Msg} {w : World} (h : Kp W (Old W) p L w) (o : Obj) : Kp (w.alloc o) (Plus W w.heap.size) p L (w.alloc o) := by
  obtain ⟨ao, cap, h1, h2, h3, h4⟩ := h
  refine ⟨ao, cap, h1.ext ((Ext.refl w).alloc o), Fr.refl _ _, fun k hk ho => ?_, fun k hk => ?_⟩
  · rcases hk with hk | rfl
    · exact h3 k hk ho
    · rcases ho with ho | ho
      · exact absurd h1.lt (by omega)
      · exact absurd (h1.row.lt _ ho) (by omega)
  · have := h2.size
    rcases hk with hk | rfl
    · simp; omega
    · simp
theorem Plus.new (W : World) (b : Nat) : Plus W b b := Or.inr rfl
theorem Plus.back {W V w : World} {b : Nat} (hx : Ext W V) (h : Fr (fun k => ¬ Plus W b k) V w) : Ext W w := Fr.grownFrom h hx (fun k hk => by
  rcases Nat.lt_or_ge k W.heap.size with h | h
  · exact absurd (.inl h) hk
  · exact h)
theorem at_new {w w' : World} {o : Obj} (hx : Ext (w.alloc o) w') : w'.heap[w.heap.size]? = some o := (Below.block hx _ (by simp)).trans (heap_alloc_new _ _)
set_option maxHeartbeats 2000000 in
set_option maxRecDepth 100000 in
theorem mailed_any (w : World) : Calls Try.prog 7 #[] w fun e w' => e = .returned (.bool true) ∧ Ext w w' := by
  obtain ⟨W, hW⟩ : ∃ W, W = (w.alloc (.cells #[.int .i64 1, .int .i64 0, .int .i64 0, .string (ofL []), .int .i64 0, .int .i64 0, .int .i64 0] 32)).alloc (.cells #[.int .i64 2, .int .i64 0, .int .i64 0, .string (ofL []), .int .i64 0, .int .i64 0, .int .i64 0] 32) := ⟨_, rfl⟩
  have HW := Lib.hid hW
  have hE : Ext w W := by rw [hW]; exact ((Ext.refl w).alloc _).alloc _
  have hA : ∀ w', Ext W w' → ∀ o, w'.cell? ⟨w.heap.size, o, none⟩ = (#[.int .i64 1, .int .i64 0, .int .i64 0, .string (ofL []), .int .i64 0, .int .i64 0, .int .i64 0] : Array Value)[o]? := fun w' hx => by
    have hb : W.heap[w.heap.size]? = some (.cells #[.int .i64 1, .int .i64 0, .int .i64 0, .string (ofL []), .int .i64 0, .int .i64 0, .int .i64 0] 32) := by rw [hW]; exact heap_two_first _ _ _
    exact ((Fr.of_ext (F := fun _ => False) hx).cells hb (fun h => h)).1
  have hB : ∀ w', Ext W w' → ∀ o, w'.cell? ⟨w.heap.size + 1, o, none⟩ = (#[.int .i64 2, .int .i64 0, .int .i64 0, .string (ofL []), .int .i64 0, .int .i64 0, .int .i64 0] : Array Value)[o]? := fun w' hx => by
    have hb : W.heap[w.heap.size + 1]? = some (.cells #[.int .i64 2, .int .i64 0, .int .i64 0, .string (ofL []), .int .i64 0, .int .i64 0, .int .i64 0] 32) := by rw [hW]; exact heap_two_second _ _ _
    exact ((Fr.of_ext (F := fun _ => False) hx).cells hb (fun h => h)).1
  have HA := Lib.hid hA
  have HB := Lib.hid hB
  have HE := Lib.hid hE
  clear hA hB hE hW
  go_enter Try.func7, Try.ntmps7
  go_wp2_with (go_at_call 8; rw [← HW.out]; with_reducible refine (k_new' W).mono ?_; rintro e w1 ⟨p, rfl, hK⟩; have hx1 := hK.all; have HK := Lib.hid hK; clear hK)
  go_cut [40] from 11 (fun c wx => c = .bool false ∧ Kp W (Old W) p [(2, 0, 0, [], 0, 0, 0), (1, 0, 0, [], 0, 0, 0), (1, 0, 0, [], 0, 0, 0)] wx)
  case first =>
    have hA := HA.out
    have hB := HB.out
    go_region_held3 (fun w' => Ext W w') (first | exact hx1 | exact hx1.drew | assumption | exact Ext.alloc (by assumption) _) (first | (go_at_call 14; with_reducible refine (k_send' HK2.out (M := [(1, 0, 0, [], 0, 0, 0), (2, 0, 0, [], 0, 0, 0)]) (by decide) rfl).mono ?_; rintro e w3 ⟨rfl, hK⟩; have hx3 := hK.all; have HK3 := Lib.hid hK; clear hK) | (go_at_call 14; with_reducible refine (k_send' (HK.out.ext (Ext.refl w1).drew) (M := [(1, 0, 0, [], 0, 0, 0)]) (by decide) rfl).mono ?_; rintro e w2 ⟨rfl, hK⟩; have hx2 := hK.all; have HK2 := Lib.hid hK; clear hK) | (go_at_call 12; with_reducible refine (k_double HK3.out 0 0 rfl (by decide) (by decide) (M := [(1, 0, 0, [], 0, 0, 0), (2, 0, 0, [], 0, 0, 0), (1, 0, 0, [], 0, 0, 0)]) rfl).mono ?_; rintro e w4 ⟨rfl, hK⟩; have hx4 := hK.all; have HK4 := Lib.hid hK; clear hK) | (go_at_call 9; with_reducible refine (k_mail (HK4.out.ext (by first | exact Ext.refl _ | exact (Ext.refl _).alloc _)) (n := 3) rfl (by decide)).mono ?_; rintro e w5 ⟨g, rfl, hg, hr, hK, hx⟩; have Hr := Lib.hid hr; have Hx := Lib.hid hx; have hx5 := hK.all; have HK5 := Lib.hid hK; clear hK hr hx) | (go_at_call 19; with_reducible refine (same_yes (L := [(1, 0, 0, [], 0, 0, 0), (2, 0, 0, [], 0, 0, 0), (1, 0, 0, [], 0, 0, 0)]) (Hr.out.ext (by first | exact Ext.refl _ | exact (Ext.refl _).alloc _)) (lit3 (by first | exact heap_alloc_new _ _ | exact at_new Hx.out)) (by decide)).mono ?_; rintro e w6 ⟨rfl, hx⟩; have hK := HK5.out.ext (Ext.trans (by first | exact Ext.refl _ | exact (Ext.refl _).alloc _) hx); have hx6 := hK.all; have HK6 := Lib.hid hK; clear hK hx) | (go_at_call 13; with_reducible refine (k_turn HK6.out 0 1 0 1 rfl rfl (by decide) (by decide) (by decide) (M := [(2, 0, 0, [], 0, 0, 0), (1, 0, 0, [], 0, 0, 0), (1, 0, 0, [], 0, 0, 0)]) rfl).mono ?_; rintro e w7 ⟨rfl, hK⟩; have hx7 := hK.all; have HK7 := Lib.hid hK; clear hK))
    all_goals
      go_wp2_with fail
      go_meet
      exact ⟨rfl, HK7.out⟩
  case rest =>
    obtain ⟨rfl, hK⟩ := hcut
    rename_i v wx
    have HK := Lib.hid hK
    clear hK
    go_wp2_with (go_at_call 10; with_reducible refine (k_deliver' HK.out 0 0 rfl (by decide) (by decide) (M := [(1, 0, 0, [], 0, 0, 0), (1, 0, 0, [], 0, 0, 0)]) rfl rfl).mono ?_; rintro e w8 ⟨rfl, hK⟩; have hx8 := hK.all; have HK8 := Lib.hid hK; clear hK)
    have hE9 : Ext W (w8.alloc (.cells #[.int .i64 2, .int .i64 0, .int .i64 0, .string (ofL []), .int .i64 0, .int .i64 0, .int .i64 0] 32)) := hx8.alloc _
    have HP := Lib.hid (HK8.out.plus (.cells #[.int .i64 2, .int .i64 0, .int .i64 0, .string (ofL []), .int .i64 0, .int .i64 0, .int .i64 0] 32))
    have hA : ∀ w', Fr (fun k => ¬ Plus W w8.heap.size k) (w8.alloc (.cells #[.int .i64 2, .int .i64 0, .int .i64 0, .string (ofL []), .int .i64 0, .int .i64 0, .int .i64 0] 32)) w' → ∀ o, w'.cell? ⟨w.heap.size, o, none⟩ = (#[.int .i64 1, .int .i64 0, .int .i64 0, .string (ofL []), .int .i64 0, .int .i64 0, .int .i64 0] : Array Value)[o]? := fun w' h => HA.out w' (Plus.back hE9 h)
    have hB : ∀ w', Fr (fun k => ¬ Plus W w8.heap.size k) (w8.alloc (.cells #[.int .i64 2, .int .i64 0, .int .i64 0, .string (ofL []), .int .i64 0, .int .i64 0, .int .i64 0] 32)) w' → ∀ o, w'.cell? ⟨w.heap.size + 1, o, none⟩ = (#[.int .i64 2, .int .i64 0, .int .i64 0, .string (ofL []), .int .i64 0, .int .i64 0, .int .i64 0] : Array Value)[o]? := fun w' h => HB.out w' (Plus.back hE9 h)
    have hM : ∀ w', Fr (fun k => ¬ Plus W w8.heap.size k) (w8.alloc (.cells #[.int .i64 2, .int .i64 0, .int .i64 0, .string (ofL []), .int .i64 0, .int .i64 0, .int .i64 0] 32)) w' → ∀ o, w'.cell? ⟨w8.heap.size, o, none⟩ = (#[.int .i64 2, .int .i64 0, .int .i64 0, .string (ofL []), .int .i64 0, .int .i64 0, .int .i64 0] : Array Value)[o]? := fun w' h => Kp.cells h (heap_alloc_new _ _) (.inr rfl)
    have h00 : Fr (fun k => ¬ Plus W w8.heap.size k) (w8.alloc (.cells #[.int .i64 2, .int .i64 0, .int .i64 0, .string (ofL []), .int .i64 0, .int .i64 0, .int .i64 0] 32)) (w8.alloc (.cells #[.int .i64 2, .int .i64 0, .int .i64 0, .string (ofL []), .int .i64 0, .int .i64 0, .int .i64 0] 32)) := Fr.refl _ _
    go_cut [65] from 46 (fun c wx => c = .bool false ∧ Ext W wx ∧ Kp (w8.alloc (.cells #[.int .i64 2, .int .i64 0, .int .i64 0, .string (ofL []), .int .i64 0, .int .i64 0, .int .i64 0] 32)) (Plus W w8.heap.size) p [(1, 0, 0, [], 0, 0, 0)] wx)
    case first =>
      go_region_held3 (fun w' => Fr (fun k => ¬ Plus W w8.heap.size k) (w8.alloc (.cells #[.int .i64 2, .int .i64 0, .int .i64 0, .string (ofL []), .int .i64 0, .int .i64 0, .int .i64 0] 32)) w') (first | exact h00 | exact h00.drew | assumption | exact Fr.alloc (by assumption) _) (first | (go_at_call 11; with_reducible refine (k_drop (HP.out.ext (Ext.refl _).drew) 1 1 rfl (by decide) (by decide) (M := [(1, 0, 0, [], 0, 0, 0)]) rfl).mono ?_; rintro e w4 ⟨rfl, hK⟩; have hx4 := hK.fr; have HK4 := Lib.hid hK; clear hK) | (go_at_call 9; with_reducible refine (k_mail (HK4.out.ext (by first | exact Ext.refl _ | exact (Ext.refl _).alloc _)) (n := 1) rfl (by decide)).mono ?_; rintro e w5 ⟨g, rfl, hg, hr, hK, hx⟩; have Hr := Lib.hid hr; have Hx := Lib.hid hx; have hx5 := hK.fr; have HK5 := Lib.hid hK; clear hK hr hx) | (go_at_call 19; with_reducible refine (same_yes (L := [(1, 0, 0, [], 0, 0, 0)]) (Hr.out.ext (by first | exact Ext.refl _ | exact (Ext.refl _).alloc _)) (lit1 (by first | exact heap_alloc_new _ _ | exact at_new Hx.out)) (by decide)).mono ?_; rintro e w6 ⟨rfl, hx⟩; have hK := HK5.out.ext (Ext.trans (by first | exact Ext.refl _ | exact (Ext.refl _).alloc _) hx); have hx6 := hK.fr; have HK6 := Lib.hid hK; clear hK hx))
      all_goals
        go_wp2_with fail
        go_meet
        exact ⟨rfl, Plus.back hE9 hx6, HK6.out⟩
    case rest =>
      obtain ⟨rfl, hx9, hK⟩ := hcut
      have HK9 := Lib.hid hK
      clear hK hA hB hM h00
      go_wp2_with (first | (go_at_call 10; with_reducible refine (k_deliver_no' HK9.out 1 (by decide)).mono ?_; rintro e w10 ⟨rfl, hK⟩; have HK10 := Lib.hid hK; clear hK) | (go_at_call 13; with_reducible refine (k_turn_no (HK10.out.ext ((Ext.refl _).alloc _)) 0 1 (by decide)).mono ?_; rintro e w11 ⟨rfl, hK⟩; have HK11 := Lib.hid hK; clear hK))
      go_ret
      exact ⟨rfl, HE.out.trans (Plus.back hE9 HK11.out.fr)⟩
end Go.Proofs.Ytjalikjakoddoaa
