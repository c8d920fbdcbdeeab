/-
  The walks of the document's disk: Delete, Create.
-/
import Derived.Test.YtajclcbclbppiaaGreatZ14
import Derived.Deep.RegionLaw
namespace Go.Dk
/-- Where a new file comes to stand. -/
theorem ins_at {l : List Fl} {k : Nat} (hk : k ≤ l.length) {f : Fl} (h1 : ∀ j (hj : j < l.length), j < k → l[j].n < f.n) (h2 : ∀ h : k < l.length, f.n < l[k].n) : ins f l = l.take k ++ [f] ++ l.drop k := by
  induction l generalizing k with
  | nil =>
    obtain rfl : k = 0 := by simpa using hk
    rfl
  | cons g r ih =>
    cases k with
    | zero =>
      have := h2 (by simp)
      simp only [List.getElem_cons_zero] at this
      simp [ins, this]
    | succ k =>
      have hg := h1 0 (by simp) (by omega)
      simp only [List.getElem_cons_zero] at hg
      have e : ¬ f.n < g.n := by omega
      have := ih (k := k) (by simpa using hk) (fun j hj hjk => by have := h1 (j + 1) (by simpa using hj) (by omega); simpa using this) (fun h => by have := h2 (by simpa using h); simpa using this)
      simp [ins, e, this]
end Go.Dk
namespace Go.Proofs.YtajclcbclbppiaaGreat
open Go.RowKit Go.Maps Go.Dk Go.Shelf
variable {w w' : World} {G G' : Nat → Prop} {q : Nat} {ao : Option Addr} {cap : Nat} {ko : Option Addr} {kc : Nat} {S S' : St} {F : Int} {K : List Int} {m : Nat}
theorem src_front {n : Nat} {L : List Fl} (h : Rw w 3 ao n cap (Fc L)) (k : Nat) (hk : k ≤ n) : Src Tryz.prog 3 56 (.slice ao k cap) k (Fc (L.take k)) w := by
  have hl := h.len
  have hle := h.le
  rw [Fc_length] at hl
  by_cases h0 : 0 < n
  · rw [Fc_take]
    have := h.front k cap (by omega) (Nat.le_refl _) hk h0
    rw [← Fc_take] at this ⊢
    exact src_files this
  · obtain rfl : n = 0 := by omega
    obtain rfl : k = 0 := by omega
    obtain rfl : L = [] := List.length_eq_zero_iff.1 (by omega)
    exact src_files h
theorem src_back {n : Nat} {L : List Fl} (h : Rw w 3 ao n cap (Fc L)) (k : Nat) (hk : k ≤ n) (ad : Option Addr) (c : Nat) (had : ∀ g, 0 < n - k → ao = some ⟨g, 0, none⟩ → ad = some ⟨g, k * 3, none⟩) : Src Tryz.prog 3 56 (.slice ad (n - k) c) (n - k) (Fc (L.drop k)) w := by
  have hl := h.len
  rw [Fc_length] at hl
  rw [Fc_drop]
  by_cases h0 : 0 < n - k
  · obtain ⟨g, rfl, _, _, _⟩ := h.row (by omega)
    rw [had g h0 rfl]
    exact h.src (e' := 69) Tryz.underlying56 (Fc_one L) k (n - k) c (by omega) (fun _ => rfl)
  · have e : (Fc L).drop (k * 3) = [] := List.drop_eq_nil_iff.2 (by rw [Fc_length]; omega)
    rw [e]
    have e2 : n - k = 0 := by omega
    rw [e2]
    cases ad with
    | none => exact Src.ofNil w (e' := 69) Tryz.underlying56 c
    | some a => exact Src.ofSlice w (e' := 69) Tryz.underlying56 a 0 c [] (by simp) (fun j u hj => by simp at hj) (fun u hu => by cases hu)
theorem src_empty (ad : Option Addr) (c : Nat) : Src Tryz.prog 3 56 (.slice ad 0 c) 0 (Fc []) w := by
  cases ad with
  | none => exact Src.ofNil w (e' := 69) Tryz.underlying56 c
  | some a => exact Src.ofSlice w (e' := 69) Tryz.underlying56 a 0 c [] (by simp) (fun j u hj => by simp at hj) (fun u hu => by cases hu)
theorem RfAt.putRow (h : RfAt w G q ao cap ko kc S F K) {W : World} (hx : Ext w W) {ao' : Option Addr} {n cap' : Nat} {L : List Fl} (hn : L.length = n) (hr : Rw W 3 ao' n cap' (Fc L)) (hnew : ∀ g, ob ao' = some g → w.heap.size ≤ g) (hok : Ok { S with fs := L }) :
    ∃ G', RfAt (W.setCell ⟨q, 1, none⟩ (.slice ao' n cap')) G' q ao' cap' ko kc { S with fs := L } F K ∧ Tr q G G' w (W.setCell ⟨q, 1, none⟩ (.slice ao' n cap')) := by
  have hql := h.under q h.own
  exact h.put hx hn (hr.kept (by rw [setCell_size]; exact Nat.le_refl _) (fun g hg => setCell_other _ _ _ (by show g ≠ q; have := hnew g hg; omega))) hnew hok ((Fr.refl _ W).setCell (p := ⟨q, 1, none⟩) (by intro _; exact .inr rfl) _)
    (World.cell?_setCell_same _ _ _ (h.ext hx).c1) (fun j hj => cell_ne _ _ hj) (fun j hj => (World.frozen?_setCell _ _ _ _).trans ((h.ext hx).fz j hj))
theorem new_file_at {W : World} (f : Fl) (g : Nat) (hb : W.heap[g]? = some (.cells (Fc1 f).toArray 69)) : Src Tryz.prog 3 56 (.slice (some ⟨g, 0, none⟩) 1 1) 1 (Fc [f]) W := by
  refine Src.ofSlice _ (e' := 69) Tryz.underlying56 _ 1 1 (Fc [f]) (Fc_length [f]) (fun j u hj => ?_) (Fc_one [f])
  have hj' : (Fc1 f)[j]? = some u := by simpa [Fc] using hj
  have : (⟨g, 0, none⟩ : Addr).add j = ⟨g, j, none⟩ := by unfold Addr.add; split <;> simp_all
  rw [this]
  simp only [World.cell?, hb]
  simpa using hj'
set_option maxHeartbeats 4000000 in
set_option maxRecDepth 100000 in
theorem rdelete_is (h : RfAt w G q ao cap ko kc S F K) (hm : Mt S.fail F K (m + 1)) (n : Int) :
    Calls Tryz.prog 43 #[.pointer (some ⟨q, 0, none⟩), .int .i64 n] w fun e w' => e = .returned (.int .i64 (Dk.delete S n).2) ∧ ∃ G', RP w' G' q (Dk.delete S n).1 m ∧ Tr q G G' w w' := by
  obtain ⟨v, hC, ht⟩ := find_at h n
  have C := Lib.hid hC
  have c1 := h.c1
  have c2 := h.c2
  have H := Lib.hid h
  have hmany := h.ok.many
  have hm0 := Lib.hid (hm.less (Nat.le_succ m))
  obtain ⟨b, x, F', hFC, hcase⟩ := fails_at h hm
  have FC := Lib.hid hFC
  clear hC h hm hFC
  cases hd : S.down
  · rw [hd] at c2
    have hd0 := Lib.hid hd
    rcases ht with ⟨rfl, hf⟩ | ⟨i, hi, rfl, hn, hf⟩
    · rw [show Dk.delete S n = (S, 4) by simp [Dk.delete, hd, hf]]
      clear hd hf hcase
      go_enter Tryz.func43, Tryz.ntmps43
      go_wp2_with (first | (go_at_call 25; (with_reducible refine C.out.mono ?_); rintro e w0 ⟨rfl, rfl⟩))
      go_ret
      exact ⟨rfl, G, ⟨ao, cap, ko, kc, F, K, H.out, hm0.out⟩, Tr.refl _ _ _⟩
    · subst hn
      obtain ⟨f, hff⟩ : ∃ f, S.fs[i] = f := ⟨_, rfl⟩
      have hfm : f ∈ S.fs := by rw [← hff]; exact List.getElem_mem _
      have hbl : (f.b.length : Int) ≤ 1048576 := by have := H.out.ok.tot; have := H.out.ok.cap1; have := tot_mem hfm; omega
      have HFF := Lib.hid hff
      rw [hff] at C hf ⊢
      rw [show Dk.delete S f.n = chg S { S with fs := del f.n S.fs } false by simp [Dk.delete, hd, hf]]
      have hdel0 : S.fs.take i ++ S.fs.drop (i + 1) = del f.n S.fs := by rw [← hff, ← List.eraseIdx_eq_take_drop_succ]; exact (del_erase H.out.ok.rise hi).symm
      have hok : Ok { S with fs := del f.n S.fs } := H.out.ok.del f.n
      rcases hcase with ⟨rfl, hx⟩ | ⟨rfl, hch, hMt⟩
      · rw [show chg S { S with fs := del f.n S.fs } false = (S.crash K, 61) by simp [chg, hx]]
        clear hd hf hx hff
        go_enter Tryz.func43, Tryz.ntmps43
        go_wp2_with (first | (go_at_call 25; (with_reducible refine C.out.mono ?_); rintro e w0 ⟨rfl, rfl⟩) | (go_at_call 26; (with_reducible refine (FC.out _ _ _ _ _ (by first | exact H.out | exact H.out.ext ((Ext.refl _).alloc _) | exact HR2.out) (by rfl)).mono ?_); rintro e w1 ⟨rfl, hR, hT⟩; have HR := Lib.hid hR; have HT := Lib.hid hT; clear hR hT) | (go_at_call 27; (with_reducible refine (sunk_is HR.out hd0.out).mono ?_); rintro e w2 ⟨rfl, G2, a2, c2', hR2, hT2⟩; have HR2 := Lib.hid hR2; have HT2 := Lib.hid hT2; clear hR2 hT2))
        go_ret
        exact ⟨rfl, G2, ⟨_, _, _, _, _, _, HR2.out, rfl, rfl⟩, HT.out.trans HT2.out⟩
      · rw [hch S { S with fs := del f.n S.fs } false rfl rfl]
        clear hd hf hch hff
        have hlen := H.out.row.le
        obtain ⟨e1, he⟩ : ∃ e1, i + 1 = e1 := ⟨_, rfl⟩
        have hwi : IntKind.i64.wrap ((i : Int) + 1) = (e1 : Int) := by rw [← he]; exact IntWalk.i64_in _ ⟨by omega, by omega⟩
        have hic : i ≤ cap := by omega
        have hi1 : e1 ≤ S.fs.length := by omega
        have hie : i ≤ e1 := by omega
        have HEE := Lib.hid he
        rw [he] at hdel0
        clear he
        obtain ⟨g, rfl⟩ : ∃ g, ao = some ⟨g, 0, none⟩ := by
          rcases H.out.row.at_ with ⟨_, h⟩ | ⟨g, h, _⟩
          · omega
          · exact ⟨g, h⟩
        by_cases hck : cap = e1
        · have hle0 : S.fs.length ≤ e1 := by omega
          rw [List.drop_of_length_le hle0] at hdel0
          subst hck
          go_enter Tryz.func43, Tryz.ntmps43
          go_wp2_with (first | (go_at_call 25; (with_reducible refine C.out.mono ?_); rintro e w0 ⟨rfl, rfl⟩) | (go_at_call 26; (with_reducible refine (FC.out _ _ _ _ _ (by first | exact H.out | exact H.out.ext ((Ext.refl _).alloc _) | exact HR2.out) (by rfl)).mono ?_); rintro e w1 ⟨rfl, hR, hT⟩; have HR := Lib.hid hR; have HT := Lib.hid hT; have k1 := hR.c1; have hql := hR.under q hR.own; have RW := Lib.hid (fun w' (hx : Ext w1 w') => (show Rw w' 3 _ S.fs.length _ (Fc S.fs) from (hR.ext hx).row)); clear hR hT))
          go_region_law (first | (refine step_append_rw rfl (.const (.slice none 0 0)) (.tmp 25) _ _ rfl rfl rfl (append_newF (S.fs.take i) (src_front (RW.out _ (by repeat (first | exact Ext.refl _ | apply Ext.drew | apply Ext.alloc))) i (Nat.le_of_lt hi)) (by omega) _) (fun a1 k1 w2 hR => ?_); obtain ⟨hr1, hx1, hn1⟩ := hR; have hx1 := Ext.of_drew hx1; have p1 := (HR.out.ext hx1).c1; have Hr1 := Lib.hid hr1; have Hx1 := Lib.hid hx1; have Hn1 := Lib.hid (show ∀ g, ob a1 = some g → w1.heap.size ≤ g from hn1); clear hr1 hx1 hn1) | (refine step_append_rw rfl (.tmp 26) (.tmp 33) _ _ rfl rfl rfl (append_files (n := i) (L := S.fs.take i) Hr1.out [] (src_empty _ _) (by omega) _) (fun a2 k2 w3 hR => ?_); obtain ⟨hr2, hf2, hn2⟩ := hR; have hx3 : Ext w1 w3 := Fr.grownFrom hf2 Hx1.out (fun k hk => Hn1.out k hk); have hn3 : ∀ g, ob a2 = some g → w1.heap.size ≤ g := fun g hg => hn2.elim (fun h2 => Hn1.out g (h2 ▸ hg)) (fun ⟨j, h2, hj⟩ => by subst h2; have e : j = g := Option.some.inj hg; have := Hx1.out.size; omega); have p3 := (HR.out.ext hx3).c1; have p4 := (HR.out.ext hx3).fz 1 (by omega); have Hr2 := Lib.hid hr2; have Hx3 := Lib.hid hx3; have Hn3 := Lib.hid hn3; clear hr2 hf2 hn2 hx3 hn3))
          all_goals
            go_wp2
            go_ret
            have hl : (S.fs.take i ++ []).length = i + 0 := by rw [List.append_nil, List.length_take]; omega
            obtain ⟨G', hP, hT2⟩ := HR.out.putRow Hx3.out hl Hr2.out Hn3.out (by rw [hdel0]; exact hok.withFail HR.out.ok.fail)
            rw [hdel0] at hP
            exact ⟨rfl, G', ⟨_, _, _, _, _, _, hP, hMt⟩, HT.out.trans hT2⟩
        · skip
          go_enter Tryz.func43, Tryz.ntmps43
          go_wp2_with (first | (go_at_call 25; (with_reducible refine C.out.mono ?_); rintro e w0 ⟨rfl, rfl⟩) | (go_at_call 26; (with_reducible refine (FC.out _ _ _ _ _ (by first | exact H.out | exact H.out.ext ((Ext.refl _).alloc _) | exact HR2.out) (by rfl)).mono ?_); rintro e w1 ⟨rfl, hR, hT⟩; have HR := Lib.hid hR; have HT := Lib.hid hT; have k1 := hR.c1; have hql := hR.under q hR.own; have RW := Lib.hid (fun w' (hx : Ext w1 w') => (show Rw w' 3 _ S.fs.length _ (Fc S.fs) from (hR.ext hx).row)); clear hR hT))
          go_region_law (first | (refine step_append_rw rfl (.const (.slice none 0 0)) (.tmp 25) _ _ rfl rfl rfl (append_newF (S.fs.take i) (src_front (RW.out _ (by repeat (first | exact Ext.refl _ | apply Ext.drew | apply Ext.alloc))) i (Nat.le_of_lt hi)) (by omega) _) (fun a1 k1 w2 hR => ?_); obtain ⟨hr1, hx1, hn1⟩ := hR; have hx1 := Ext.of_drew hx1; have p1 := (HR.out.ext hx1).c1; have Hr1 := Lib.hid hr1; have Hx1 := Lib.hid hx1; have Hn1 := Lib.hid (show ∀ g, ob a1 = some g → w1.heap.size ≤ g from hn1); clear hr1 hx1 hn1) | (refine step_append_rw rfl (.tmp 26) (.tmp 33) _ _ rfl rfl rfl (append_files (n := i) (L := S.fs.take i) Hr1.out (S.fs.drop e1) (src_back (RW.out _ Hx1.out) e1 hi1 _ _ (fun g' h0 e0 => by first | omega | (cases e0; rfl))) (by omega) _) (fun a2 k2 w3 hR => ?_); obtain ⟨hr2, hf2, hn2⟩ := hR; have hx3 : Ext w1 w3 := Fr.grownFrom hf2 Hx1.out (fun k hk => Hn1.out k hk); have hn3 : ∀ g, ob a2 = some g → w1.heap.size ≤ g := fun g hg => hn2.elim (fun h2 => Hn1.out g (h2 ▸ hg)) (fun ⟨j, h2, hj⟩ => by subst h2; have e : j = g := Option.some.inj hg; have := Hx1.out.size; omega); have p3 := (HR.out.ext hx3).c1; have p4 := (HR.out.ext hx3).fz 1 (by omega); have Hr2 := Lib.hid hr2; have Hx3 := Lib.hid hx3; have Hn3 := Lib.hid hn3; clear hr2 hf2 hn2 hx3 hn3))
          all_goals
            go_wp2
            go_ret
            have hl : (S.fs.take i ++ S.fs.drop e1).length = i + (S.fs.length - e1) := by rw [List.length_append, List.length_take, List.length_drop]; omega
            obtain ⟨G', hP, hT2⟩ := HR.out.putRow Hx3.out hl Hr2.out Hn3.out (by rw [hdel0]; exact hok.withFail HR.out.ok.fail)
            rw [hdel0] at hP
            exact ⟨rfl, G', ⟨_, _, _, _, _, _, hP, hMt⟩, HT.out.trans hT2⟩
  · rw [hd] at c2
    rw [show Dk.delete S n = (S, 61) by simp [Dk.delete, hd]]
    clear hd ht hcase
    go_enter Tryz.func43, Tryz.ntmps43
    go_wp2_with (first | (go_at_call 25; (with_reducible refine C.out.mono ?_); rintro e w0 ⟨rfl, rfl⟩))
    go_ret
    exact ⟨rfl, G, ⟨ao, cap, ko, kc, F, K, H.out, hm0.out⟩, Tr.refl _ _ _⟩
end Go.Proofs.YtajclcbclbppiaaGreat
