/-
  The walk of DiskPlays.
-/
import Derived.Test.YtfcjjdmfnkiacaaDskPy
import Derived.Deep.RegionHeld3
namespace Go.Proofs.Ytfcjjdmfnkiacaa
open Go.RowKit Go.Maps Go.Dk Go.Shelf
theorem act_cells {w' : World} {g o : Nat} {kind n a z : Int} {s : List UInt8} {ko : Option Addr} {kc : Nat} {ks : List Int} (h : ∀ j, j < 6 → w'.cell? ⟨g, o + j, none⟩ = (Dc ⟨kind, n, a, z, s, ko, kc, ks⟩)[j]?) :
    w'.cell? ⟨g, o, none⟩ = some (.int .u8 kind) ∧ w'.cell? ⟨g, o + 1, none⟩ = some (.int .i64 n) ∧ w'.cell? ⟨g, o + 2, none⟩ = some (.int .i64 a) ∧ w'.cell? ⟨g, o + 3, none⟩ = some (.int .i64 z) ∧ w'.cell? ⟨g, o + 4, none⟩ = some (.string (ofL s)) ∧ w'.cell? ⟨g, o + 5, none⟩ = some (.slice ko ks.length kc) :=
  ⟨h 0 (by omega), h 1 (by omega), h 2 (by omega), h 3 (by omega), h 4 (by omega), h 5 (by omega)⟩
/-- O, and what lies between. -/
def Be (O : Nat → Prop) (a b : Nat) : Nat → Prop := fun k => O k ∨ (a ≤ k ∧ k < b)
theorem old_of {w0 W w : World} {O : Nat → Prop} (hx : Ext w0 W) (h : Fr (fun k => ¬ O k) W w) (hO : ∀ k, Old w0 k → O k) : Ext w0 w :=
  Fr.ext (Ext.refl w0) (F := fun k => ¬ Old w0 k) ((Fr.of_ext hx : Fr (fun k => ¬ Old w0 k) w0 W).trans h (fun k _ hn ho => hn (hO k ho))) (fun _ hk => Nat.le_of_not_lt hk)
open Classical in
set_option maxHeartbeats 8000000 in
set_option maxRecDepth 100000 in
theorem diskPlays_any (w : World) (c : Int) (v : Value) (l : List Da) (hA : Acts w v l) : Calls Try.prog 5 #[.int .i64 c, v] w fun e w' => e = .returned (.bool true) ∧ Ext w w' := by
  obtain ⟨ao, n, cap, hv, hn⟩ : ∃ ao n cap, v = .slice ao n cap ∧ l.length = n := by
    rcases hA.2.2 with ⟨ao, cap, rfl, rfl⟩ | ⟨g, o, cap, rfl, _⟩
    · exact ⟨_, _, _, rfl, rfl⟩
    · exact ⟨_, _, _, rfl, rfl⟩
  subst hv
  have HG := Lib.hid (great_any hA hn 120 120 rfl)
  by_cases hgr : Gr l 120
  · rw [show decide (Gr l 120) = true from decide_eq_true hgr] at HG
    clear hgr hA
    go_enter Try.func5, Try.ntmps5
    go_wp2_with (first | (go_at_call 23; (with_reducible refine HG.out.mono ?_); rintro e w1 ⟨rfl, hx⟩) | (go_at_call 20; (with_reducible refine (filed_true _).mono ?_); rintro e w9 ⟨rfl, hx9⟩))
    go_ret
    exact ⟨rfl, hx.trans hx9⟩
  rw [show decide (Gr l 120) = false from decide_eq_false hgr] at HG
  have hn120 : n ≤ 120 := by
    rcases Nat.lt_or_ge 120 n with h | h
    · exact absurd (.inr (by omega)) hgr
    · exact h
  have hall : ∀ a ∈ l, a.ks.length ≤ 100 := fun a ha => by
    rcases Nat.lt_or_ge 100 a.ks.length with h | h
    · exact absurd (.inl ⟨a, ha, .inr h⟩) hgr
    · exact h
  have HA := Lib.hid hA
  have HL := Lib.hid hall
  clear hgr hA hall
  by_cases hcap : 0 ≤ c ∧ c ≤ 1048576
  case neg =>
    go_enter Try.func5, Try.ntmps5
    go_wp2_with (first | (go_at_call 23; (with_reducible refine HG.out.mono ?_); rintro e w1 ⟨rfl, hx⟩) | (go_at_call 7; (with_reducible refine (new_no _ hcap).mono ?_); rintro e w2 ⟨rfl, rfl⟩) | (go_at_call 24; (with_reducible refine (rnew_no _ hcap).mono ?_); rintro e w3 ⟨rfl, rfl⟩) | (go_at_call 20; (with_reducible refine (filed_true _).mono ?_); rintro e w9 ⟨rfl, hx9⟩))
    go_ret
    exact ⟨rfl, hx.trans hx9⟩
  go_enter Try.func5, Try.ntmps5
  go_wp2_with (first | (go_at_call 23; (with_reducible refine HG.out.mono ?_); rintro e w0 ⟨rfl, hx⟩; have Hx0 := Lib.hid hx; clear hx) | (go_at_call 7; (with_reducible refine (k_new _ (Old _) (Old.under _) hcap).mono ?_); rintro e w1 ⟨p, rfl, hK, _⟩; have K1 := Lib.hid hK; clear hK) | (go_at_call 24; (with_reducible refine (rnew_yes _ hcap).mono ?_); rintro e w2 ⟨rfl, hR, hx⟩; have HT := Lib.hid (Td.start K1.out hR rfl hx (fun k hk => Nat.le_of_eq hk.symm) 122); clear hR hx))
  obtain ⟨q, hq⟩ : ∃ q, w1.heap.size = q := ⟨_, rfl⟩
  rw [hq] at HT ⊢
  clear hq K1 HG
  go_loopw [9] (fun i wr => ∃ (k : Nat) (S : St), k ≤ n ∧ i = .int .i64 k ∧ Td w0 (Old w0) p q S S (122 - k) wr) (fun i _ => n - (intOf i).toNat)
  case atStart => exact ⟨0, _, by omega, rfl, HT.out⟩
  case round =>
    obtain ⟨k, S, hk, rfl, hT⟩ := hrel
    have HE := Lib.hid (Hx0.out.trans (old_all hT.fr))
    have H1 := Lib.hid hT
    clear hT HT
    by_cases hlt : k < n
    · obtain ⟨g0, o0, hao, _, hcA⟩ := HA.out.at hn k (by omega)
      subst hao
      obtain ⟨a, hae⟩ : ∃ a, a = l[k] := ⟨_, rfl⟩
      have okA := HA.out.1 a (by rw [hae]; exact List.getElem_mem _)
      have hks := HL.out a (by rw [hae]; exact List.getElem_mem _)
      rw [← hae] at hcA
      clear hae
      obtain ⟨kind, an, aat, asz, ab, ako, akc, aks⟩ := a
      have HcA := Lib.hid (fun (w' : World) (hx : Ext w w') => act_cells (hcA w' hx))
      have OkA := Lib.hid okA
      obtain ⟨c0, c1, c2, c3, c4, c5⟩ := HcA.out wr HE.out
      have kp : KeepAt w (fun g => g < w.heap.size) ako aks := okA.keep
      have hko : ako = none → aks = [] := fun e => by subst e; exact kp.none_nil
      have KP := Lib.hid (fun (w' : World) (hx : Ext w w') => kp.up hx)
      clear hcA okA kp
      change aks.length ≤ 100 at hks
      have hbx : ∀ w', Ext (wr.alloc (.cells #[.int .u8 kind, .int .i64 an, .int .i64 aat, .int .i64 asz, .string (ofL ab), .slice ako aks.length akc] 48)) w' → (∀ o, w'.cell? ⟨wr.heap.size, o, none⟩ = (#[.int .u8 kind, .int .i64 an, .int .i64 aat, .int .i64 asz, .string (ofL ab), .slice ako aks.length akc] : Array Value)[o]?) ∧ (∀ o, w'.frozen? ⟨wr.heap.size, o, none⟩ = false) := fun w' hx => by
        have := (Fr.of_ext (F := fun _ => False) hx).cells (heap_alloc_new wr _) (fun h => h)
        exact this
      have HB := Lib.hid hbx
      clear hbx
      have hcA := HcA.out (wr.alloc (.cells #[.int .u8 kind, .int .i64 an, .int .i64 aat, .int .i64 asz, .string (ofL ab), .slice ako aks.length akc] 48)) (HE.out.alloc _)
      have hc5 := hcA.2.2.2.2.2
      clear hcA
      go_wp2_with (at_builtin; refine wpList_append_rw rfl (.const (.slice none 0 0)) (.tmp 56) _ _ rfl rfl rfl (append_newI rfl (KP.out _ (HE.out.alloc _)) hko (by omega) _) (fun a1 k1 w1 hR => ?_); obtain ⟨hr1, hx1, hn1⟩ := hR; have Hr1 := Lib.hid hr1; have Hx1 := Lib.hid hx1; have Hn1 := Lib.hid hn1; have d5 := (HB.out _ hx1).1 5; have e5 := (HB.out _ hx1).2 5; clear hr1 hx1 hn1)
      obtain ⟨m, hm⟩ : ∃ m, 122 - k = m + 1 := ⟨121 - k, by omega⟩
      rw [hm] at H1
      have hx13 : Ext wr (w1.setCell ⟨wr.heap.size, 5, none⟩ (.slice a1 aks.length k1)) := (((Ext.refl wr).alloc _).trans Hx1.out).setCell (Nat.le_refl _) _
      have hf13 : Fr (fun k => k = wr.heap.size) w1 (w1.setCell ⟨wr.heap.size, 5, none⟩ (.slice a1 aks.length k1)) := (Fr.refl _ w1).setCell (by intro _; rfl) _
      have hnB : ∀ g, ob a1 = some g → wr.heap.size < g := fun g hg => by have := Hn1.out g hg; rw [World.size_alloc] at this; omega
      have hr3 := Hr1.out.fr hf13 (fun g hg e => by have := hnB g hg; omega)
      have hB0 := (HB.out _ Hx1.out).1
      have hB3 : wr.heap.size < (w1.setCell ⟨wr.heap.size, 5, none⟩ (.slice a1 aks.length k1)).heap.size := by have := Hx1.out.size; have := hf13.size; rw [World.size_alloc] at *; omega
      have b0 : (w1.setCell ⟨wr.heap.size, 5, none⟩ (.slice a1 aks.length k1)).cell? ⟨wr.heap.size, 0, none⟩ = some (.int .u8 kind) := by rw [cell_ne _ _ (by decide)]; exact hB0 0
      have b1 : (w1.setCell ⟨wr.heap.size, 5, none⟩ (.slice a1 aks.length k1)).cell? ⟨wr.heap.size, 1, none⟩ = some (.int .i64 an) := by rw [cell_ne _ _ (by decide)]; exact hB0 1
      have b2 : (w1.setCell ⟨wr.heap.size, 5, none⟩ (.slice a1 aks.length k1)).cell? ⟨wr.heap.size, 2, none⟩ = some (.int .i64 aat) := by rw [cell_ne _ _ (by decide)]; exact hB0 2
      have b3 : (w1.setCell ⟨wr.heap.size, 5, none⟩ (.slice a1 aks.length k1)).cell? ⟨wr.heap.size, 3, none⟩ = some (.int .i64 asz) := by rw [cell_ne _ _ (by decide)]; exact hB0 3
      have b4 : (w1.setCell ⟨wr.heap.size, 5, none⟩ (.slice a1 aks.length k1)).cell? ⟨wr.heap.size, 4, none⟩ = some (.string (ofL ab)) := by rw [cell_ne _ _ (by decide)]; exact hB0 4
      have b5 : (w1.setCell ⟨wr.heap.size, 5, none⟩ (.slice a1 aks.length k1)).cell? ⟨wr.heap.size, 5, none⟩ = some (.slice a1 aks.length k1) := World.cell?_setCell_same _ _ _ (hB0 5)
      obtain ⟨w3, hw3⟩ : ∃ w3, w1.setCell ⟨wr.heap.size, 5, none⟩ (.slice a1 aks.length k1) = w3 := ⟨_, rfl⟩
      have hOu : Under (Be (Old w0) wr.heap.size w3.heap.size) w3 := fun k hk => hk.elim (fun h => Nat.lt_of_lt_of_le h (by have := (old_all H1.out.fr).size; have := hx13.size; rw [hw3] at this; omega)) (fun h => h.2)
      have hOu' : ∀ g, Be (Old w0) wr.heap.size w3.heap.size g → g < w3.heap.size := fun g hg => hOu g hg
      have hmx : aks.length ≤ maxLen := by unfold maxLen; omega
      rw [hw3] at hx13 hr3 hB3 b0 b1 b2 b3 b4 b5 ⊢
      have hO : ∀ k, Old w0 k → Be (Old w0) wr.heap.size w3.heap.size k := fun k h => .inl h
      have hBe : Be (Old w0) wr.heap.size w3.heap.size wr.heap.size := .inr ⟨Nat.le_refl _, hB3⟩
      have hgO : ∀ g, ob a1 = some g → Be (Old w0) wr.heap.size w3.heap.size g := fun g hg => .inr ⟨Nat.le_of_lt (hnB g hg), hr3.lt g hg⟩
      have H3 := Lib.hid (H1.out.base hx13 hOu (fun k hk => hk.imp id (fun h => h.1)))
      have hE3 : Ext w w3 := HE.out.trans hx13
      have hx03 : Ext w0 w3 := (old_all H1.out.fr).trans hx13
      have hnB' : ∀ g, ob a1 = some g → g ≠ wr.heap.size ∧ w0.heap.size ≤ g := fun g hg => by have := hnB g hg; have := (old_all H1.out.fr).size; omega
      obtain ⟨B, hB⟩ : ∃ B, wr.heap.size = B := ⟨_, rfl⟩
      rw [hB] at hOu' hB3 b0 b1 b2 b3 b4 b5 hO hBe hgO H3 hnB' ⊢
      obtain ⟨O, hOe⟩ : ∃ O, Be (Old w0) B w3.heap.size = O := ⟨_, rfl⟩
      rw [hOe] at hO hBe hgO H3
      have hC : ∀ w', Fr (fun k => ¬ O k) w3 w' → ∀ o, w'.cell? ⟨B, o, none⟩ = w3.cell? ⟨B, o, none⟩ := fun w' h o => h.cell (p := ⟨B, o, none⟩) hB3 (fun hn => hn hBe)
      have s0 : ∀ w', Fr (fun k => ¬ O k) w3 w' → w'.cell? ⟨B, 0, none⟩ = some (.int .u8 kind) := fun w' h => (hC w' h 0).trans b0
      have s1 : ∀ w', Fr (fun k => ¬ O k) w3 w' → w'.cell? ⟨B, 1, none⟩ = some (.int .i64 an) := fun w' h => (hC w' h 1).trans b1
      have s2 : ∀ w', Fr (fun k => ¬ O k) w3 w' → w'.cell? ⟨B, 2, none⟩ = some (.int .i64 aat) := fun w' h => (hC w' h 2).trans b2
      have s3 : ∀ w', Fr (fun k => ¬ O k) w3 w' → w'.cell? ⟨B, 3, none⟩ = some (.int .i64 asz) := fun w' h => (hC w' h 3).trans b3
      have s4 : ∀ w', Fr (fun k => ¬ O k) w3 w' → w'.cell? ⟨B, 4, none⟩ = some (.string (ofL ab)) := fun w' h => (hC w' h 4).trans b4
      have s5 : ∀ w', Fr (fun k => ¬ O k) w3 w' → w'.cell? ⟨B, 5, none⟩ = some (.slice a1 aks.length k1) := fun w' h => (hC w' h 5).trans b5
      have s6 : ∀ w', Fr (fun k => ¬ O k) w3 w' → w'.cell? ⟨g0, o0 + k * 6 + 5, none⟩ = some (.slice ako aks.length akc) := fun w' h => (HcA.out w' (Hx0.out.trans (old_of hx03 h hO))).2.2.2.2.2
      have hkpO : KeepAt w3 O a1 aks := KeepAt.of_row hr3 hgO
      have hOlt : ∀ g, O g → g < w3.heap.size := fun g hg => by rw [← hOe] at hg; exact hOu' g hg
      have K1 := Lib.hid (fun (w' : World) (h : Fr (fun k => ¬ O k) w3 w') => (show KeepAt w' O a1 aks from hkpO.later (w' := w') (fun _ hk => hk) (fun g hg => h.block g (hOlt g hg) (fun hn => hn hg))))
      have K2 := Lib.hid (fun (w' : World) (h : Fr (fun k => ¬ O k) w3 w') => (show KeepAt w' (fun g => g < w'.heap.size) a1 aks from hkpO.later (w' := w') (fun g hg => Nat.lt_of_lt_of_le (hOlt g hg) h.size) (fun g hg => h.block g (hOlt g hg) (fun hn => hn hg))))
      have K3 := Lib.hid (fun (w' : World) (h : Fr (fun k => ¬ O k) w3 w') => (show KeepAt w' (fun g => g < w'.heap.size) ako aks from KP.out w' (Hx0.out.trans (old_of hx03 h hO))))
      have HR := Lib.hid (fun (w' : World) (h : Fr (fun k => ¬ O k) w3 w') => hr3.fr h (fun g hg hn => hn (hgO g hg)))
      have HX := Lib.hid (fun (w' : World) (h : Fr (fun k => ¬ O k) w3 w') => old_of hx03 h hO)
      have S5 := Lib.hid s5
      have hx3 : Fr (fun k => ¬ O k) w3 w3 := Fr.refl _ _
      have kw := OkA.out.kind
      have hu := OkA.out.n
      have ha := OkA.out.at_
      change 0 ≤ kind ∧ kind < 256 at kw
      change In64 an at hu
      change In64 aat at ha
      clear hx13 hf13 hw3 hr3 hB0 b0 b1 b2 b3 b4 b5 d5 e5 hC hkpO hnB c0 c1 c2 c3 c4 c5 hc5 HB Hr1 Hx1 Hn1 hko HcA OkA KP hE3 hx03 hcap hOu hOu' hOlt
      go_region_held3 (fun w' => Fr (fun k => ¬ O k) w3 w') (first | exact hx3 | exact hx3.drew | assumption) (first | (go_at_call 25; (with_reducible refine (do_any (H3.out.ext (Ext.refl _).drew) kw.1 hu ha (by omega) (by omega) (K1.out _ hx3.drew)).mono ?_); rintro e w4 ⟨rfl, S1, hT⟩; have hs4 := hT.fr; have H4 := Lib.hid hT; clear hT) | (go_at_call 26; (with_reducible refine (same_yes H4.out).mono ?_); rintro e w5 ⟨rfl, hT⟩; have hs5 := hT.fr; have H5 := Lib.hid hT; clear hT) | (go_at_call 16; (with_reducible refine (ints_yes (K2.out _ hs5) (K3.out _ hs5) rfl hmx).mono ?_); rintro e w6 ⟨rfl, hx⟩; have hs6 := (H5.out.ext hx).fr; have H6 := Lib.hid (H5.out.ext hx); clear hx))
      all_goals
        go_wp2_with fail
        clear s0 s1 s2 s3 s4 s5 s6 hu ha kw hx3
        go_loopw [11] (fun j wx => ∃ (i : Nat) (cs : List Value), i ≤ aks.length ∧ j = .int .i64 i ∧ Rw wx 1 a1 aks.length k1 cs ∧ wx.cell? ⟨B, 5, none⟩ = some (.slice a1 aks.length k1) ∧ Td wx O p q S1 S1 m wx ∧ Ext w0 wx) (fun j _ => aks.length - (intOf j).toNat)
        case atStart => exact ⟨0, _, by omega, rfl, HR.out _ hs6, S5.out _ hs6, H6.out.now, HX.out _ hs6⟩
        case round =>
          obtain ⟨i, cs, hi, rfl, hr, t5, hT, hE⟩ := hrel
          have H7 := Lib.hid hT
          have HR7 := Lib.hid hr
          have HE7 := Lib.hid hE
          clear hT hE
          by_cases hlt2 : i < aks.length
          · obtain ⟨g1, rfl, hg1, hy1, hy2⟩ := hr.row (by omega)
            have f1 := hy2 i (by omega)
            have f2 := hy1 i (by omega)
            obtain ⟨y, hy⟩ : ∃ y, cs[i]? = some y := ⟨_, List.getElem?_eq_getElem (by have := hr.len; omega)⟩
            rw [hy] at f2
            have hBx : B < wr.heap.size := by
              obtain ⟨_, _, _, _, _, _, _, _, h7⟩ := H7.out
              exact h7 B hBe
            clear hy1 hy2 hr hy
            go_wp2_with fail
            have hfs : Fr (fun k => k = g1) wr (wr.setCell ⟨g1, i, none⟩ (.int .i64 99)) := (Fr.refl _ wr).setCell (by intro _; rfl) _
            have hg1B := hnB' g1 rfl
            exact ⟨⟨i + 1, cs.set i (.int .i64 99), by omega, by go_num, HR7.out.set i (by omega) _, (hfs.cell (p := ⟨B, 5, none⟩) hBx (fun e => hg1B.1 e.symm)).trans t5, (H7.out.store hfs (fun k e => e ▸ hgO g1 rfl)), hfs.grownFrom HE7.out (fun k e => e ▸ hg1B.2)⟩, by simp [intOf]; omega⟩
          · obtain rfl : i = aks.length := by omega
            clear hr
            go_wp2_with fail
            exact ⟨⟨k + 1, S1, by omega, by go_num, by rw [show 122 - (k + 1) = m by omega]; exact H7.out.toOld hO HE7.out⟩, by simp [intOf]; omega⟩
    · obtain rfl : k = n := by omega
      obtain ⟨m, hm⟩ : ∃ m, 122 - k = m + 1 := ⟨121 - k, by omega⟩
      rw [hm] at H1
      have H1' := Lib.hid (H1.out.less (Nat.le_succ m))
      have q2 := H1.out.down
      obtain hd | hd : S.down = false ∨ S.down = true := by cases S.down <;> simp
      · rw [hd] at q2
        clear hd hcap
        go_wp2_with (first | (go_at_call 26; (with_reducible refine (same_yes H1'.out).mono ?_); rintro e w5 ⟨rfl, hT⟩; have H5 := Lib.hid hT; clear hT) | (go_at_call 20; (with_reducible refine (filed_true _).mono ?_); rintro e w9 ⟨rfl, hx9⟩))
        go_ret
        exact ⟨rfl, (Hx0.out.trans (old_all H5.out.fr)).trans hx9⟩
      · rw [hd] at q2
        clear hd hcap
        go_wp2_with (first | (go_at_call 15; (with_reducible refine (td_start H1.out).mono ?_); rintro e w3 ⟨rfl, hT⟩; have H3 := Lib.hid hT; clear hT) | (go_at_call 27; (with_reducible refine (tr_start H3.out).mono ?_); rintro e w4 ⟨rfl, hT⟩; have H4 := Lib.hid hT; clear hT) | (go_at_call 26; (with_reducible refine (same_yes H4.out).mono ?_); rintro e w5 ⟨rfl, hT⟩; have H5 := Lib.hid hT; clear hT) | (go_at_call 20; (with_reducible refine (filed_true _).mono ?_); rintro e w9 ⟨rfl, hx9⟩))
        go_ret
        exact ⟨rfl, (Hx0.out.trans (old_all H5.out.fr)).trans hx9⟩
end Go.Proofs.Ytfcjjdmfnkiacaa
