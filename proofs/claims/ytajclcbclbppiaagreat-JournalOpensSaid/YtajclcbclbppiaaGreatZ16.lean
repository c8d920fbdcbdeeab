/-
  The walk of the document's Create.
-/
import Derived.Test.YtajclcbclbppiaaGreatZ15
namespace Go.Proofs.YtajclcbclbppiaaGreat
open Go.RowKit Go.Maps Go.Dk Go.Shelf
variable {w w' : World} {G G' : Nat → Prop} {q : Nat} {ao : Option Addr} {cap : Nat} {ko : Option Addr} {kc : Nat} {S S' : St} {F : Int} {K : List Int} {m : Nat}
theorem step_two {a1 a2 : Option Addr} {wr W2 w3 : World} (hf : Fr (fun k => ob a1 = some k) W2 w3) (hx : Ext wr W2) (h1 : ∀ g, ob a1 = some g → wr.heap.size ≤ g) (h2 : a2 = a1 ∨ ∃ g, a2 = some ⟨g, 0, none⟩ ∧ W2.heap.size ≤ g) :
    Ext wr w3 ∧ ∀ g, ob a2 = some g → wr.heap.size ≤ g :=
  ⟨Fr.grownFrom hf hx (fun k hk => h1 k hk), fun g hg => h2.elim (fun h => h1 g (h ▸ hg)) (fun ⟨j, h, hj⟩ => by subst h; have e : j = g := Option.some.inj hg; have := hx.size; omega)⟩
set_option maxHeartbeats 8000000 in
set_option maxRecDepth 100000 in
theorem rcreate_is (h : RfAt w G q ao cap ko kc S F K) (hm : Mt S.fail F K (m + 1)) (n : Int) (hn : (Lit.int .i64 n).wf = true) :
    Calls Tryz.prog 8 #[.pointer (some ⟨q, 0, none⟩), .int .i64 n] w fun e w' => e = .returned (.int .i64 (Dk.create S n).2) ∧ ∃ G', RP w' G' q (Dk.create S n).1 m ∧ Tr q G G' w w' := by
  obtain ⟨v, hC, ht⟩ := find_at h n
  have C := Lib.hid hC
  have c1 := h.c1
  have c2 := h.c2
  have H := Lib.hid h
  have hmany := h.ok.many
  have hm0 := Lib.hid (hm.less (Nat.le_succ m))
  obtain ⟨b, x, F', hFC, hcase⟩ := fails_at h hm
  have FC := Lib.hid hFC
  have hn1 : n ≤ 9223372036854775807 := by
    have e : IntKind.i64.max = 9223372036854775807 := rfl
    simp [Lit.wf, e] at hn
    omega
  clear hC h hm hFC hn
  cases hd : S.down
  · rw [hd] at c2
    have hd0 := Lib.hid hd
    by_cases h0 : n < 0
    · rw [show Dk.create S n = (S, 2) by simp [Dk.create, hd, h0]]
      clear hd ht hcase
      go_enter Tryz.func8, Tryz.ntmps8
      go_wp2_with (first | (go_at_call 25; (with_reducible refine C.out.mono ?_); rintro e w0 ⟨rfl, rfl⟩))
      go_ret
      exact ⟨rfl, G, ⟨ao, cap, ko, kc, F, K, H.out, hm0.out⟩, Tr.refl _ _ _⟩
    rcases ht with ⟨rfl, hf⟩ | ⟨i, hi, rfl, hni, hf⟩
    · by_cases hl : 100 ≤ S.fs.length
      · rw [show Dk.create S n = (S, 60) by simp [Dk.create, hd, h0, hf, hl]]
        clear hd hf hcase
        go_enter Tryz.func8, Tryz.ntmps8
        go_wp2_with (first | (go_at_call 25; (with_reducible refine C.out.mono ?_); rintro e w0 ⟨rfl, rfl⟩))
        go_ret
        exact ⟨rfl, G, ⟨ao, cap, ko, kc, F, K, H.out, hm0.out⟩, Tr.refl _ _ _⟩
      · rw [show Dk.create S n = chg S { S with fs := ins ⟨n, [], 0⟩ S.fs } false by simp [Dk.create, hd, h0, hf, hl]]
        have hok : Ok { S with fs := ins ⟨n, [], 0⟩ S.fs } := H.out.ok.ins n (by omega) hn1 hf (by omega)
        have HF := Lib.hid hf
        rcases hcase with ⟨rfl, hx⟩ | ⟨rfl, hch, hMt⟩
        · rw [show chg S { S with fs := ins ⟨n, [], 0⟩ S.fs } false = (S.crash K, 61) by simp [chg, hx]]
          clear hd hf hx
          go_enter Tryz.func8, Tryz.ntmps8
          go_wp2_with (first | (go_at_call 25; (with_reducible refine C.out.mono ?_); rintro e w0 ⟨rfl, rfl⟩) | (go_at_call 26; (with_reducible refine (FC.out _ _ _ _ _ (by first | exact H.out | exact H.out.ext ((Ext.refl _).alloc _) | exact HR2.out) (by rfl)).mono ?_); rintro e w1 ⟨rfl, hR, hT⟩; have HR := Lib.hid hR; have HT := Lib.hid hT; clear hR hT) | (go_at_call 27; (with_reducible refine (sunk_is HR.out hd0.out).mono ?_); rintro e w2 ⟨rfl, G2, a2, c2', hR2, hT2⟩; have HR2 := Lib.hid hR2; have HT2 := Lib.hid hT2; clear hR2 hT2))
          go_ret
          exact ⟨rfl, G2, ⟨_, _, _, _, _, _, HR2.out, rfl, rfl⟩, HT.out.trans HT2.out⟩
        · rw [hch S { S with fs := ins ⟨n, [], 0⟩ S.fs } false rfl rfl]
          clear hd hf hch
          go_enter Tryz.func8, Tryz.ntmps8
          go_wp2_with (first | (go_at_call 25; (with_reducible refine C.out.mono ?_); rintro e w0 ⟨rfl, rfl⟩) | (go_at_call 26; (with_reducible refine (FC.out _ _ _ _ _ (by first | exact H.out | exact H.out.ext ((Ext.refl _).alloc _) | exact HR2.out) (by rfl)).mono ?_); rintro e w1 ⟨rfl, hR, hT⟩; have HR := Lib.hid hR; have HT := Lib.hid hT; have k1 := hR.c1; have hql := hR.under q hR.own; have RW := Lib.hid (fun w' (hx : Ext w1 w') => (show Rw w' 3 _ S.fs.length _ (Fc S.fs) from (hR.ext hx).row)); clear hR hT))
          go_loopw [5] (fun v wr => (∃ k : Nat, k ≤ S.fs.length ∧ v = .int .i64 k ∧ ∀ j (hj : j < S.fs.length), j < k → S.fs[j].n < n) ∧ wr = w1) (fun v _ => S.fs.length - (intOf v).toNat)
          case atStart => exact ⟨⟨0, by omega, rfl, fun j _ h => absurd h (by omega)⟩, rfl⟩
          case round =>
            obtain ⟨⟨k, hk, rfl, hlow⟩, rfl⟩ := hrel
            have HLow := Lib.hid hlow
            clear hlow
            have hlen := H.out.row.le
            have hkc : k ≤ cap := by omega
            by_cases hlt : k < S.fs.length
            · obtain ⟨g, rfl, hg, _, hgq, d0, _, _⟩ := HR.out.file (k := k) hlt
              obtain ⟨fn, hfn⟩ : ∃ fn, S.fs[k].n = fn := ⟨_, rfl⟩
              have d0 : wr.cell? ⟨g, k * 3, none⟩ = some (.int .i64 fn) := by rw [← hfn]; exact d0
              by_cases hc : fn < n
              · go_wp2
                exact ⟨⟨⟨k + 1, by omega, by go_num, fun j hj hjk => by
                  rcases Nat.lt_or_ge j k with h | h
                  · exact HLow.out j hj h
                  · obtain rfl : j = k := by omega
                    rw [hfn]; exact hc⟩, trivial⟩, by simp [intOf]; omega⟩
              · have hne : fn ≠ n := by rw [← hfn]; exact get_none HF.out _ (List.getElem_mem _)
                have HI := Lib.hid (ins_at (f := ⟨n, [], 0⟩) hk (fun j hj hjk => HLow.out j hj hjk) (fun h => by show n < S.fs[k].n; rw [hfn]; omega)).symm
                have hck : ¬ cap = k := by omega
                go_wp2
                go_region_law (first | (refine step_append_rw rfl (.const (.slice none 0 0)) (.tmp 53) _ _ rfl rfl rfl (append_newF (S.fs.take k) (src_front (RW.out _ (by repeat (first | exact Ext.refl _ | apply Ext.drew | apply Ext.alloc))) k hk) (by omega) _) (fun a1 k1 w2 hR => ?_); obtain ⟨hr1, hy1, hn1⟩ := hR; have Hy1 := Lib.hid hy1; have hx1 : Ext wr w2 := Ext.trans (by repeat (first | exact Ext.refl _ | apply Ext.drew | apply Ext.alloc)) hy1; have p1 := (HR.out.ext hx1).c1; have hq2 : q < w2.heap.size := Nat.lt_of_lt_of_le hql hx1.size; have Hr1 := Lib.hid hr1; have Hx1 := Lib.hid hx1; have Hn1 := Lib.hid (show ∀ g, ob a1 = some g → wr.heap.size ≤ g from fun g hg => Nat.le_trans (Ext.size (by repeat (first | exact Ext.refl _ | apply Ext.drew | apply Ext.alloc))) (hn1 g hg)); clear hr1 hy1 hx1 hn1) | (refine step_append_rw rfl (.tmp 54) (.tmp 57) _ _ rfl rfl rfl (append_files (n := k) (L := S.fs.take k) (Hr1.out.ext (by first | exact Ext.refl _ | exact (Ext.refl _).alloc _)) [⟨n, [], 0⟩] (new_file_at ⟨n, [], 0⟩ _ (by first | exact heap_alloc_new _ _ | exact (Below.block Hy1.out _ (by simp)).trans (heap_alloc_new _ _))) (by omega) _) (fun a2 k2 w3 hR => ?_); obtain ⟨hr2, hf2, hn2⟩ := hR; have ⟨hx3, hn3⟩ := step_two hf2 (Hx1.out.trans (by first | exact Ext.refl _ | exact (Ext.refl _).alloc _)) Hn1.out hn2; have p2 := (HR.out.ext hx3).c1; have hq3 : q < w3.heap.size := Nat.lt_of_lt_of_le hql hx3.size; have Hr2 := Lib.hid hr2; have Hx3 := Lib.hid hx3; have Hn3 := Lib.hid hn3; clear hr2 hf2 hn2 hx3 hn3) | (refine step_append_rw rfl (.tmp 58) (.tmp 64) _ _ rfl rfl rfl (append_files (n := k + 1) (L := S.fs.take k ++ [⟨n, [], 0⟩]) Hr2.out (S.fs.drop k) (src_back (RW.out _ Hx3.out) k hk _ _ (fun g' h0 e0 => by first | omega | (cases e0; rfl))) (by omega) _) (fun a3 k3 w4 hR => ?_); obtain ⟨hr3, hf3, hn4⟩ := hR; have hx4 : Ext wr w4 := Fr.grownFrom hf3 Hx3.out (fun k hk => Hn3.out k hk); have hn5 : ∀ g, ob a3 = some g → wr.heap.size ≤ g := fun g hg => hn4.elim (fun h2 => Hn3.out g (h2 ▸ hg)) (fun ⟨j, h2, hj⟩ => by subst h2; have e : j = g := Option.some.inj hg; have := Hx3.out.size; omega); have p3 := (HR.out.ext hx4).c1; have p4 := (HR.out.ext hx4).fz 1 (by omega); have Hr3 := Lib.hid hr3; have Hx4 := Lib.hid hx4; have Hn5 := Lib.hid hn5; clear hr3 hf3 hn4 hx4 hn5))
                all_goals
                  go_wp2
                  go_ret
                  have hl2 : (S.fs.take k ++ [⟨n, [], 0⟩] ++ S.fs.drop k : List Fl).length = k + 1 + (S.fs.length - k) := by rw [List.length_append, List.length_append, List.length_take, List.length_drop]; simp; omega
                  obtain ⟨G', hP, hT2⟩ := HR.out.putRow Hx4.out hl2 Hr3.out Hn5.out (by rw [HI.out]; exact hok.withFail HR.out.ok.fail)
                  rw [HI.out] at hP
                  exact ⟨rfl, G', ⟨_, _, _, _, _, _, hP, hMt⟩, HT.out.trans hT2⟩
            · have hkl : S.fs.length ≤ k := by omega
              have hkk : k = S.fs.length := by omega
              have HI := Lib.hid (show S.fs.take k ++ [⟨n, [], 0⟩] ++ [] = ins ⟨n, [], 0⟩ S.fs by
                have e := ins_at (f := ⟨n, [], 0⟩) hk (fun j hj hjk => HLow.out j hj hjk) (fun h => by omega)
                rw [List.drop_of_length_le hkl] at e
                exact e.symm)
              subst hkk
              by_cases hck : cap = S.fs.length
              · subst hck
                go_wp2
                go_region_law (first | (refine step_append_rw rfl (.const (.slice none 0 0)) (.tmp 53) _ _ rfl rfl rfl (append_newF (S.fs.take S.fs.length) (src_front (RW.out _ (by repeat (first | exact Ext.refl _ | apply Ext.drew | apply Ext.alloc))) S.fs.length (Nat.le_refl _)) (by omega) _) (fun a1 k1 w2 hR => ?_); obtain ⟨hr1, hy1, hn1⟩ := hR; have Hy1 := Lib.hid hy1; have hx1 : Ext wr w2 := Ext.trans (by repeat (first | exact Ext.refl _ | apply Ext.drew | apply Ext.alloc)) hy1; have p1 := (HR.out.ext hx1).c1; have hq2 : q < w2.heap.size := Nat.lt_of_lt_of_le hql hx1.size; have Hr1 := Lib.hid hr1; have Hx1 := Lib.hid hx1; have Hn1 := Lib.hid (show ∀ g, ob a1 = some g → wr.heap.size ≤ g from fun g hg => Nat.le_trans (Ext.size (by repeat (first | exact Ext.refl _ | apply Ext.drew | apply Ext.alloc))) (hn1 g hg)); clear hr1 hy1 hx1 hn1) | (refine step_append_rw rfl (.tmp 54) (.tmp 57) _ _ rfl rfl rfl (append_files (n := S.fs.length) (L := S.fs.take S.fs.length) (Hr1.out.ext (by first | exact Ext.refl _ | exact (Ext.refl _).alloc _)) [⟨n, [], 0⟩] (new_file_at ⟨n, [], 0⟩ _ (by first | exact heap_alloc_new _ _ | exact (Below.block Hy1.out _ (by simp)).trans (heap_alloc_new _ _))) (by omega) _) (fun a2 k2 w3 hR => ?_); obtain ⟨hr2, hf2, hn2⟩ := hR; have ⟨hx3, hn3⟩ := step_two hf2 (Hx1.out.trans (by first | exact Ext.refl _ | exact (Ext.refl _).alloc _)) Hn1.out hn2; have p2 := (HR.out.ext hx3).c1; have hq3 : q < w3.heap.size := Nat.lt_of_lt_of_le hql hx3.size; have Hr2 := Lib.hid hr2; have Hx3 := Lib.hid hx3; have Hn3 := Lib.hid hn3; clear hr2 hf2 hn2 hx3 hn3) | (refine step_append_rw rfl (.tmp 58) (.tmp 64) _ _ rfl rfl rfl (append_files (n := S.fs.length + 1) (L := S.fs.take S.fs.length ++ [⟨n, [], 0⟩]) Hr2.out [] (src_empty _ _) (by omega) _) (fun a3 k3 w4 hR => ?_); obtain ⟨hr3, hf3, hn4⟩ := hR; have hx4 : Ext wr w4 := Fr.grownFrom hf3 Hx3.out (fun k hk => Hn3.out k hk); have hn5 : ∀ g, ob a3 = some g → wr.heap.size ≤ g := fun g hg => hn4.elim (fun h2 => Hn3.out g (h2 ▸ hg)) (fun ⟨j, h2, hj⟩ => by subst h2; have e : j = g := Option.some.inj hg; have := Hx3.out.size; omega); have p3 := (HR.out.ext hx4).c1; have p4 := (HR.out.ext hx4).fz 1 (by omega); have Hr3 := Lib.hid hr3; have Hx4 := Lib.hid hx4; have Hn5 := Lib.hid hn5; clear hr3 hf3 hn4 hx4 hn5))
                all_goals
                  go_wp2
                  go_ret
                  have hl2 : (S.fs.take S.fs.length ++ [⟨n, [], 0⟩] ++ [] : List Fl).length = S.fs.length + 1 + 0 := by rw [List.append_nil, List.length_append, List.length_take]; simp
                  obtain ⟨G', hP, hT2⟩ := HR.out.putRow Hx4.out hl2 Hr3.out Hn5.out (by rw [HI.out]; exact hok.withFail HR.out.ok.fail)
                  rw [HI.out] at hP
                  exact ⟨rfl, G', ⟨_, _, _, _, _, _, hP, hMt⟩, HT.out.trans hT2⟩
              · obtain ⟨g, rfl⟩ : ∃ g, ao = some ⟨g, 0, none⟩ := by
                  rcases H.out.row.at_ with ⟨_, h⟩ | ⟨g, h, _⟩
                  · omega
                  · exact ⟨g, h⟩
                go_wp2
                go_region_law (first | (refine step_append_rw rfl (.const (.slice none 0 0)) (.tmp 53) _ _ rfl rfl rfl (append_newF (S.fs.take S.fs.length) (src_front (RW.out _ (by repeat (first | exact Ext.refl _ | apply Ext.drew | apply Ext.alloc))) S.fs.length (Nat.le_refl _)) (by omega) _) (fun a1 k1 w2 hR => ?_); obtain ⟨hr1, hy1, hn1⟩ := hR; have Hy1 := Lib.hid hy1; have hx1 : Ext wr w2 := Ext.trans (by repeat (first | exact Ext.refl _ | apply Ext.drew | apply Ext.alloc)) hy1; have p1 := (HR.out.ext hx1).c1; have hq2 : q < w2.heap.size := Nat.lt_of_lt_of_le hql hx1.size; have Hr1 := Lib.hid hr1; have Hx1 := Lib.hid hx1; have Hn1 := Lib.hid (show ∀ g, ob a1 = some g → wr.heap.size ≤ g from fun g hg => Nat.le_trans (Ext.size (by repeat (first | exact Ext.refl _ | apply Ext.drew | apply Ext.alloc))) (hn1 g hg)); clear hr1 hy1 hx1 hn1) | (refine step_append_rw rfl (.tmp 54) (.tmp 57) _ _ rfl rfl rfl (append_files (n := S.fs.length) (L := S.fs.take S.fs.length) (Hr1.out.ext (by first | exact Ext.refl _ | exact (Ext.refl _).alloc _)) [⟨n, [], 0⟩] (new_file_at ⟨n, [], 0⟩ _ (by first | exact heap_alloc_new _ _ | exact (Below.block Hy1.out _ (by simp)).trans (heap_alloc_new _ _))) (by omega) _) (fun a2 k2 w3 hR => ?_); obtain ⟨hr2, hf2, hn2⟩ := hR; have ⟨hx3, hn3⟩ := step_two hf2 (Hx1.out.trans (by first | exact Ext.refl _ | exact (Ext.refl _).alloc _)) Hn1.out hn2; have p2 := (HR.out.ext hx3).c1; have hq3 : q < w3.heap.size := Nat.lt_of_lt_of_le hql hx3.size; have Hr2 := Lib.hid hr2; have Hx3 := Lib.hid hx3; have Hn3 := Lib.hid hn3; clear hr2 hf2 hn2 hx3 hn3) | (refine step_append_rw rfl (.tmp 58) (.tmp 64) _ _ rfl rfl rfl (append_files (n := S.fs.length + 1) (L := S.fs.take S.fs.length ++ [⟨n, [], 0⟩]) Hr2.out [] (src_empty _ _) (by omega) _) (fun a3 k3 w4 hR => ?_); obtain ⟨hr3, hf3, hn4⟩ := hR; have hx4 : Ext wr w4 := Fr.grownFrom hf3 Hx3.out (fun k hk => Hn3.out k hk); have hn5 : ∀ g, ob a3 = some g → wr.heap.size ≤ g := fun g hg => hn4.elim (fun h2 => Hn3.out g (h2 ▸ hg)) (fun ⟨j, h2, hj⟩ => by subst h2; have e : j = g := Option.some.inj hg; have := Hx3.out.size; omega); have p3 := (HR.out.ext hx4).c1; have p4 := (HR.out.ext hx4).fz 1 (by omega); have Hr3 := Lib.hid hr3; have Hx4 := Lib.hid hx4; have Hn5 := Lib.hid hn5; clear hr3 hf3 hn4 hx4 hn5))
                all_goals
                  go_wp2
                  go_ret
                  have hl2 : (S.fs.take S.fs.length ++ [⟨n, [], 0⟩] ++ [] : List Fl).length = S.fs.length + 1 + 0 := by rw [List.append_nil, List.length_append, List.length_take]; simp
                  obtain ⟨G', hP, hT2⟩ := HR.out.putRow Hx4.out hl2 Hr3.out Hn5.out (by rw [HI.out]; exact hok.withFail HR.out.ok.fail)
                  rw [HI.out] at hP
                  exact ⟨rfl, G', ⟨_, _, _, _, _, _, hP, hMt⟩, HT.out.trans hT2⟩
    · have h0' : ¬ n < 0 := h0
      rw [show Dk.create S n = (S, 62) by simp [Dk.create, hd, h0', hf]]
      clear hd hf hcase
      go_enter Tryz.func8, Tryz.ntmps8
      go_wp2_with (first | (go_at_call 25; (with_reducible refine C.out.mono ?_); rintro e w0 ⟨rfl, rfl⟩))
      go_ret
      exact ⟨rfl, G, ⟨ao, cap, ko, kc, F, K, H.out, hm0.out⟩, Tr.refl _ _ _⟩
  · rw [hd] at c2
    rw [show Dk.create S n = (S, 61) by simp [Dk.create, hd]]
    clear hd ht hcase
    go_enter Tryz.func8, Tryz.ntmps8
    go_wp2_with (first | (go_at_call 25; (with_reducible refine C.out.mono ?_); rintro e w0 ⟨rfl, rfl⟩))
    go_ret
    exact ⟨rfl, G, ⟨ao, cap, ko, kc, F, K, H.out, hm0.out⟩, Tr.refl _ _ _⟩
end Go.Proofs.YtajclcbclbppiaaGreat
