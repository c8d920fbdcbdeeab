/-
  The walks of Loose, Fail and New.
-/
import Derived.Test.YtajclcbclbppiaaDskCr
import Derived.Deep.RegionLaw
import Derived.Handy
namespace Go.Dk
/-- How many bytes of each file are not sure. -/
def loose (l : List Fl) : List Int := l.map (fun f => (f.b.length : Int) - f.s)
theorem loose_snoc {l : List Fl} {k : Nat} {f : Fl} (h : l[k]? = some f) : loose (l.take (k + 1)) = loose (l.take k) ++ [(f.b.length : Int) - f.s] := by
  obtain ⟨hk, rfl⟩ := List.getElem?_eq_some_iff.1 h
  rw [List.take_succ_eq_append_getElem hk, loose, List.map_append]
  rfl
end Go.Dk
namespace Go.Proofs.Ytajclcbclbppiaa
open Go.RowKit Go.Maps Go.Dk
variable {w w' : World} {β : Roles} {p : Nat} {S S' : St}
theorem infoInt : (Try.prog.info? 3).map (fun i => (i.zero, i.size, i.bytes)) = some (some (.int .i64 0), 1, 8) := by kernel_rfl
/-- append of numbers. -/
theorem append_ints {w : World} {ao : Option Addr} {n cap : Nat} {L : List Int} (h : Rw w 1 ao n cap (Nums L)) {x : Value} {m : Nat} (N : List Int) (hs : Src Try.prog 1 35 x m (Nums N) w) (hl : n + m ≤ 16777216) (ty : TypeId) :
    ∃ ao' cap' w', (Builtin.append_ #[35, 35] ty #[.slice ao n cap, x]).run Try.prog w = .ok (.slice ao' (n + m) cap') w' ∧
      (Rw w' 1 ao' (n + m) cap' (Nums (L ++ N)) ∧ Fr (fun k => ob ao = some k) w w' ∧ (ao' = ao ∨ ∃ g, ao' = some ⟨g, 0, none⟩ ∧ w.heap.size ≤ g)) := by
  obtain ⟨ti, hti, hz, hsz, hby⟩ := info_parts infoInt
  obtain ⟨ao', cap', w', h1, h2, h3⟩ := h.append 35 35 ty 3 ti _ 8 Try.underlying35 hti hz hsz hby rfl x m _ hs (by unfold maxLen; omega) (by omega)
  refine ⟨ao', cap', w', h1, ?_, h3⟩
  have e : Nums (L ++ N) = Nums L ++ Nums N := by simp [Nums]
  rw [e]
  exact h2
theorem new_int_at {W : World} (y : Int) (g : Nat) (hb : W.heap[g]? = some (.cells #[.int .i64 y] 3)) : Src Try.prog 1 35 (.slice (some ⟨g, 0, none⟩) 1 1) 1 (Nums [y]) W := by
  refine Src.ofSlice _ (e' := 3) Try.underlying35 _ 1 1 _ (by simp [Nums]) (fun j u hj => ?_) (Nums_one _)
  have : (⟨g, 0, none⟩ : Addr).add j = ⟨g, j, none⟩ := by unfold Addr.add; split <;> simp_all
  rw [this]
  simp only [World.cell?, hb]
  simpa [Nums] using hj
theorem new_int (W : World) (y : Int) (g : Nat) (hg : g = W.heap.size) : Src Try.prog 1 35 (.slice (some ⟨g, 0, none⟩) 1 1) 1 (Nums [y]) (W.alloc (.cells #[.int .i64 y] 3)) := by
  subst hg; exact new_int_at y _ (heap_alloc_new W _)
theorem new_int_drew (W : World) (y : Int) (g : Nat) (hg : g = W.heap.size) : Src Try.prog 1 35 (.slice (some ⟨g, 0, none⟩) 1 1) 1 (Nums [y]) (W.alloc (.cells #[.int .i64 y] 3)).drew := by
  subst hg; exact new_int_at y _ (heap_alloc_new W _)
theorem KeepAt.of_row {G : Nat → Prop} {ao : Option Addr} {cap : Nat} {ks : List Int} (h : Rw w 1 ao ks.length cap (Nums ks)) (hG : ∀ g, ob ao = some g → G g) : KeepAt w G ao ks := by
  by_cases h0 : 0 < ks.length
  · obtain ⟨g, rfl, _, h2, _⟩ := h.row h0
    refine .inr ⟨g, 0, rfl, hG g rfl, fun j hj => ?_⟩
    rw [Nat.zero_add, h2 j (by omega), Nums, List.getElem?_map, List.getElem?_eq_getElem hj]
    rfl
  · exact .inl (List.length_eq_zero_iff.1 (by omega))
theorem KeepAt.src {G : Nat → Prop} {a : Addr} {kc : Nat} {ks : List Int} (h : KeepAt w G (some a) ks) : Src Try.prog 1 35 (.slice (some a) ks.length kc) ks.length (Nums ks) w := by
  refine Src.ofSlice _ (e' := 3) Try.underlying35 _ _ _ _ (by rw [Nums_length, Nat.mul_one]) (fun j u hj => ?_) (Nums_one _)
  have hjl : j < ks.length := by have := (List.getElem?_eq_some_iff.1 hj).1; rwa [Nums_length] at this
  rcases h with rfl | ⟨g, o, e, _, hc⟩
  · simp at hjl
  · cases e
    have : (⟨g, o, none⟩ : Addr).add j = ⟨g, o + j, none⟩ := by unfold Addr.add; split <;> simp_all
    rw [this, hc j hjl, ← hj, Nums, List.getElem?_map, List.getElem?_eq_getElem hjl]
    rfl
theorem KeepAt.ext' {G : Nat → Prop} {ko : Option Addr} {ks : List Int} (h : KeepAt w G ko ks) (hG : ∀ g, G g → g < w.heap.size) (hx : Ext w w') : KeepAt w' G ko ks := h.kept (fun g hg => Below.block hx g (hG g hg))
theorem row_empty (w : World) (t : TypeId) : Rw (w.alloc (.cells #[] t)) 1 (some ⟨w.heap.size, 0, none⟩) 0 0 (Nums []) :=
  ⟨rfl, Nat.le_refl _, by decide, .inr ⟨_, rfl, by simp, fun j hj => by omega, fun j hj => by omega⟩⟩
set_option maxHeartbeats 1000000 in
set_option maxRecDepth 100000 in
/-- slices.Clone of numbers. -/
theorem clone_is {G : Nat → Prop} {ko : Option Addr} {kc : Nat} {ks : List Int} (hk : ks.length ≤ 16777216) (h : KeepAt w G ko ks) (hG : ∀ g, G g → g < w.heap.size) :
    Calls Try.prog 34 #[.slice ko ks.length kc] w fun e w' => ∃ ao cap, e = .returned (.slice ao ks.length cap) ∧ KeepAt w' (fun g => w.heap.size ≤ g ∧ g < w'.heap.size) ao ks ∧ Ext w w' := by
  cases ko with
  | none =>
    have h0 : ks = [] := by
      rcases h with h | ⟨_, _, e, _⟩
      · exact h
      · cases e
    subst h0
    have hn : (binOp .eql 35 (.slice none 0 kc) (.slice none 0 0)).run Try.prog w = .ok (.bool true) w := by kernel_rfl
    simp only [List.length_nil]
    go_enter Try.func34, Try.ntmps34
    go_wp2
    go_ret
    exact ⟨none, 0, rfl, .inl rfl, Ext.refl _⟩
  | some a =>
    have H := Lib.hid h
    have HG := Lib.hid hG
    clear h hG
    have hn : (binOp .eql 35 (.slice (some a) ks.length kc) (.slice none 0 0)).run Try.prog w = .ok (.bool false) w := by kernel_rfl
    go_enter Try.func34, Try.ntmps34
    go_wp2_with (at_builtin; refine wpList_append_rw rfl (.tmp 5) (.tmp 6) _ _ rfl rfl rfl (append_ints (row_empty _ _) ks (H.out.ext' HG.out ((Ext.refl _).alloc _)).src (by omega) _) (fun a2 c2 w2 hR => ?_); obtain ⟨hr1, hr2, hr3⟩ := hR; have hr1 := Lib.hid hr1; have hr2 := Lib.hid hr2; have hr3 := Lib.hid hr3)
    rw [Nat.zero_add] at hr1
    rw [List.nil_append] at hr1
    go_ret
    refine ⟨a2, c2, rfl, KeepAt.of_row hr1.out (fun g hg => ⟨?_, hr1.out.lt g hg⟩), Fr.grownFrom hr2.out ((Ext.refl w).alloc _) (fun k hk => ?_)⟩
    · rcases hr3.out with rfl | ⟨j, rfl, hj⟩
      · obtain rfl : w.heap.size = g := by simpa [ob] using hg
        exact Nat.le_refl _
      · obtain rfl : j = g := by simpa [ob] using hg
        simp at hj
        omega
    · obtain rfl : w.heap.size = k := by simpa [ob] using hk
      exact Nat.le_refl _
/-- A failure is set. -/
theorem DiskAt.setFail (h : DiskAt w β p S) {n : Int} {ks : List Int} (hn0 : 0 ≤ n) (hn1 : n ≤ 9223372036854775807) (hk : ks.length ≤ 16777216) {b : Nat} {ko : Option Addr} {kc : Nat} (hfr : Fr (fun k => k = p) w w') (hb : w.heap.size ≤ b ∧ b < w'.heap.size)
    {m : Nat} (hm : β (1, 0) = some m) (hh : HeadAt w' p m S.cap S.down S.starts (some ⟨b, 0, none⟩)) (c0 : w'.cell? ⟨b, 0, none⟩ = some (.int .i64 n)) (f0 : w'.frozen? ⟨b, 0, none⟩ = false) (c1 : w'.cell? ⟨b, 1, none⟩ = some (.slice ko ks.length kc))
    (hK : KeepAt w' (fun g => w.heap.size ≤ g ∧ g < w'.heap.size ∧ g ≠ b) ko ks) : ∃ β', DiskAt w' β' p { S with fail := some (n, ks) } ∧ Tn (Bl β) (Bl β') w w' := by
  classical
  obtain ⟨kb, hkb, hkk⟩ : ∃ kb : Option Nat, (∀ k, kb = some k → w.heap.size ≤ k ∧ k < w'.heap.size ∧ k ≠ b) ∧ KeepAt w' (fun g => kb = some g) ko ks := by
    rcases hK with rfl | ⟨g, o, rfl, hg, hc⟩
    · exact ⟨none, fun _ e => (by cases e), .inl rfl⟩
    · exact ⟨some g, fun k e => (by cases e; exact hg), .inr ⟨g, o, rfl, rfl, hc⟩⟩
  have hβ : ∀ r, r ≠ (2, 0) → r ≠ (3, 0) → (fun r => if r = (2, 0) then some b else if r = (3, 0) then kb else β r) r = β r := fun r h1 h2 => by simp [h1, h2]
  have hβ2 : (fun r => if r = (2, 0) then some b else if r = (3, 0) then kb else β r) (2, 0) = some b := if_pos rfl
  have hβ3 : (fun r => if r = (2, 0) then some b else if r = (3, 0) then kb else β r) (3, 0) = kb := by simp
  obtain ⟨m', fp, h1, h2, h3, _⟩ := h.head
  obtain rfl : m' = m := Option.some.inj (h1.symm.trans hm)
  have hbk : ∀ r k, r ≠ (0, 0) → β r = some k → w'.heap[k]? = w.heap[k]? := fun r k hr hk => hfr.block k (h.lt r k hk) (fun e => hr (h.inj _ _ _ hk (e ▸ h.p0)))
  refine ⟨fun r => if r = (2, 0) then some b else if r = (3, 0) then kb else β r, ⟨h.ok.withFail (fun l ks' e => by cases e; exact ⟨hn0, hn1, hk⟩), fun r s k hr hs => ?_, fun r k hr => ?_, (hβ _ (by simp) (by simp)).trans h.p0, ⟨m', some ⟨b, 0, none⟩, (hβ _ (by simp) (by simp)).trans h1, hh, ?_, ⟨b, ko, kc, rfl, hβ2, c0, f0, c1, ?_⟩⟩, fun f hf => ?_⟩, ⟨hfr.mono (fun k _ e => ⟨_, e ▸ h.p0⟩), fun k ⟨r, hr⟩ => ?_⟩⟩
  · by_cases r2 : r = (2, 0)
    · by_cases s2 : s = (2, 0)
      · rw [r2, s2]
      · by_cases s3 : s = (3, 0)
        · simp only [r2, s3, if_true] at hr hs
          simp at hs
          exact absurd (Option.some.inj hr) (fun e => (hkb k hs).2.2 e.symm)
        · simp only [r2, s2, s3, if_true, if_false] at hr hs
          have := h.lt _ _ hs
          have := Option.some.inj hr
          omega
    · by_cases r3 : r = (3, 0)
      · by_cases s2 : s = (2, 0)
        · simp only [r3, s2, if_true] at hr hs
          simp at hr
          exact absurd (Option.some.inj hs) (fun e => (hkb k hr).2.2 e.symm)
        · by_cases s3 : s = (3, 0)
          · rw [r3, s3]
          · simp only [r3, s2, s3, if_true, if_false] at hr hs
            simp at hr
            have := h.lt _ _ hs
            have := (hkb k hr).1
            omega
      · by_cases s2 : s = (2, 0)
        · simp only [r2, r3, s2, if_true, if_false] at hr hs
          have := h.lt _ _ hr
          have := Option.some.inj hs
          omega
        · by_cases s3 : s = (3, 0)
          · simp only [r2, r3, s3, if_true, if_false] at hr hs
            simp at hs
            have := h.lt _ _ hr
            have := (hkb k hs).1
            omega
          · simp only [r2, r3, s2, s3, if_false] at hr hs
            exact h.inj _ _ _ hr hs
  · by_cases r2 : r = (2, 0)
    · simp only [r2, if_true] at hr
      cases hr
      exact hb.2
    · by_cases r3 : r = (3, 0)
      · simp only [r3, if_true] at hr
        simp at hr
        exact (hkb k hr).2.1
      · simp only [r2, r3, if_false] at hr
        exact Nat.lt_of_lt_of_le (h.lt r k hr) hfr.size
  · show w'.ownsMap _ _ _ _ S.fs.length (dat _ S.fs)
    rw [← dat_congr (β := β) (l := S.fs) rfl (fun g _ => by simp [bn])]
    exact ownsMap_block h3 (hbk _ _ (by simp) h1)
  · rw [hβ3]; exact hkk
  · obtain ⟨fb2, ao2, cap2, k1, k2, k3⟩ := h.file f hf
    exact ⟨fb2, ao2, cap2, (hβ _ (by simp) (by simp)).trans k1, fun i hi => (hβ _ (by simp) (by simp)).trans (k2 i hi), k3.kept hfr.size (hbk _ _ (by simp) k1) (fun i hi => hbk _ _ (by simp) (k2 i hi))⟩
  · by_cases r2 : r = (2, 0)
    · simp only [r2, if_true] at hr
      cases hr
      exact .inr hb.1
    · by_cases r3 : r = (3, 0)
      · simp only [r3, if_true] at hr
        simp at hr
        exact .inr (hkb k hr).1
      · simp only [r2, r3, if_false] at hr
        exact .inl ⟨r, hr⟩
set_option maxHeartbeats 1000000 in
set_option maxRecDepth 100000 in
theorem fail_is (h : DiskAt w β p S) {n : Int} (hn : n ≤ 9223372036854775807) {G : Nat → Prop} {ko : Option Addr} {kc : Nat} {ks : List Int} (hk : ks.length ≤ 16777216) (hkeep : KeepAt w G ko ks) (hG : ∀ g, G g → g < w.heap.size) :
    Calls Try.prog 12 #[.pointer (some ⟨p, 0, none⟩), .int .i64 n, .slice ko ks.length kc] w fun e w' => e = .returned (.int .i64 (Dk.fail S n ks).2) ∧ ∃ β', DiskAt w' β' p (Dk.fail S n ks).1 ∧ Tn (Bl β) (Bl β') w w' := by
  have H := Lib.hid h
  have C := Lib.hid (clone_is (kc := kc) hk hkeep hG)
  cases hd : S.down
  · have N := Lib.hid (state_up h hd)
    by_cases hn0 : n < 0
    · rw [show Dk.fail S n ks = (S, 2) by simp [Dk.fail, hd, hn0]]
      clear h hkeep hG hd C
      go_enter Try.func12, Try.ntmps12
      go_wp2_with (go_at_call 33; with_reducible refine N.out.mono ?_; rintro e w1 ⟨rfl, rfl⟩)
      go_ret
      exact ⟨rfl, β, H.out, Tn.refl _ _⟩
    · rw [show Dk.fail S n ks = ({ S with fail := some (n, ks) }, 0) by simp [Dk.fail, hd, hn0]]
      obtain ⟨m, fp, hm, h2, _⟩ := h.head
      have H2 := Lib.hid h2
      have hlt := h2.lt
      have c4 := h2.c4
      have f4 := h2.f4
      clear h h2 hkeep hG hd
      go_enter Try.func12, Try.ntmps12
      go_wp2_with (first | (go_at_call 33; with_reducible refine N.out.mono ?_; rintro e w1 ⟨rfl, rfl⟩) | (go_at_call 34; (with_reducible refine C.out.mono ?_); rintro e w1 ⟨ao, cap, rfl, hK, hE⟩; have HK := Lib.hid hK; have hplt : p < w1.heap.size := Nat.lt_of_lt_of_le hlt hE.size; have d4 := (H2.out.kept hE.size (Below.block hE p hlt)).c4; have e4 := (H2.out.kept hE.size (Below.block hE p hlt)).f4; have HE := Lib.hid hE; clear hK hE c4 f4))
      go_ret
      have hb : ((w1.setCell ⟨p, 4, none⟩ (.pointer (some ⟨w1.heap.size, 0, none⟩))).alloc (.cells #[.int .i64 n, .slice ao ks.length cap] 78)).heap[w1.heap.size]? = some (.cells #[.int .i64 n, .slice ao ks.length cap] 78) := by
        have := heap_alloc_new (w1.setCell ⟨p, 4, none⟩ (.pointer (some ⟨w1.heap.size, 0, none⟩))) (.cells #[.int .i64 n, .slice ao ks.length cap] 78)
        rwa [setCell_size] at this
      have hsz : ((w1.setCell ⟨p, 4, none⟩ (.pointer (some ⟨w1.heap.size, 0, none⟩))).alloc (.cells #[.int .i64 n, .slice ao ks.length cap] 78)).heap.size = w1.heap.size + 1 := by
        rw [World.size_alloc, setCell_size]
      have hfr : Fr (fun k => k = p) w ((w1.setCell ⟨p, 4, none⟩ (.pointer (some ⟨w1.heap.size, 0, none⟩))).alloc (.cells #[.int .i64 n, .slice ao ks.length cap] 78)) :=
        ((Fr.of_ext HE.out : Fr (fun k => k = p) w w1).setCell (p := ⟨p, 4, none⟩) (by intro _; rfl) _).alloc _
      have hh := ((H2.out.kept HE.out.size (Below.block HE.out p hlt)).set4 (some ⟨w1.heap.size, 0, none⟩))
      have hx := (Ext.refl (w1.setCell ⟨p, 4, none⟩ (.pointer (some ⟨w1.heap.size, 0, none⟩)))).alloc (.cells #[.int .i64 n, .slice ao ks.length cap] 78)
      have hsz0 := HE.out.size
      refine ⟨rfl, H.out.setFail (by omega) hn hk hfr ⟨hsz0, by rw [hsz]; omega⟩ hm (hh.kept hx.size (Below.block hx p hh.lt)) (by simp only [World.cell?, hb]; rfl) (by simp only [World.frozen?, hb]; simp) (kc := cap) (ko := ao) (by simp only [World.cell?, hb]; rfl) ?_⟩
      rcases HK.out with h | ⟨g, o, rfl, ⟨hg1, hg2⟩, hc⟩
      · exact .inl h
      · refine .inr ⟨g, o, rfl, ⟨hg1, by rw [hsz]; omega, by omega⟩, fun j hj => ?_⟩
        rw [← hc j hj]
        have e1 : ((w1.setCell ⟨p, 4, none⟩ (.pointer (some ⟨w1.heap.size, 0, none⟩))).alloc (.cells #[.int .i64 n, .slice (some ⟨g, o, none⟩) ks.length cap] 78)).heap[g]? = w1.heap[g]? := by
          rw [Below.block hx g (by rw [setCell_size]; exact hg2), setCell_other _ _ _ (by show g ≠ p; have := hlt; omega)]
        exact World.cell?_of_block (a := ⟨g, o + j, none⟩) e1
  · have N := Lib.hid (state_down h hd)
    rw [show Dk.fail S n ks = (S, 61) by simp [Dk.fail, hd]]
    clear h hkeep hG hd C
    go_enter Try.func12, Try.ntmps12
    go_wp2_with (go_at_call 33; with_reducible refine N.out.mono ?_; rintro e w1 ⟨rfl, rfl⟩)
    go_ret
    exact ⟨rfl, β, H.out, Tn.refl _ _⟩
set_option maxRecDepth 100000 in
theorem new_no (w : World) {c : Int} (hc : ¬ (0 ≤ c ∧ c ≤ 1048576)) :
    Calls Try.prog 8 #[.int .i64 c] w fun e w' => e = .returned (.tuple #[.pointer none, .int .i64 2]) ∧ w' = w := by
  go_enter Try.func8, Try.ntmps8
  go_wp2
  all_goals
    go_ret2
    exact ⟨rfl, rfl⟩
/-- A new disk's roles. -/
def role0 (n : Nat) : Roles := fun r => if r = (0, 0) then some (n + 1) else if r = (1, 0) then some n else none
theorem new_at (w : World) {c : Int} (hc : 0 ≤ c ∧ c ≤ 1048576) (t : TypeId) : DiskAt ((w.alloc (.map #[] 0)).alloc (.cells #[.map (some w.heap.size), .int .i64 c, .bool false, .int .i64 0, .pointer none] t)) (role0 w.heap.size) (w.heap.size + 1) ⟨c, [], false, 0, none⟩ := by
  have hb : ((w.alloc (.map #[] 0)).alloc (.cells #[.map (some w.heap.size), .int .i64 c, .bool false, .int .i64 0, .pointer none] t)).heap[w.heap.size + 1]? = some (.cells #[.map (some w.heap.size), .int .i64 c, .bool false, .int .i64 0, .pointer none] t) := by
    have := heap_alloc_new (w.alloc (.map #[] 0)) (.cells #[.map (some w.heap.size), .int .i64 c, .bool false, .int .i64 0, .pointer none] t)
    rwa [World.size_alloc] at this
  have hcell : ∀ j, ((w.alloc (.map #[] 0)).alloc (.cells #[.map (some w.heap.size), .int .i64 c, .bool false, .int .i64 0, .pointer none] t)).cell? ⟨w.heap.size + 1, j, none⟩ = (#[.map (some w.heap.size), .int .i64 c, .bool false, .int .i64 0, .pointer none] : Array Value)[j]? := fun j => by
    simp only [World.cell?, hb]; simp
  have hfz : ∀ j, ((w.alloc (.map #[] 0)).alloc (.cells #[.map (some w.heap.size), .int .i64 c, .bool false, .int .i64 0, .pointer none] t)).frozen? ⟨w.heap.size + 1, j, none⟩ = false := fun j => by
    simp only [World.frozen?, hb]; simp
  have hm := ownsMap_block (World.ownsMap_made (H := Unit) w Try.prog 3 rf) (w' := (w.alloc (.map #[] 0)).alloc (.cells #[.map (some w.heap.size), .int .i64 c, .bool false, .int .i64 0, .pointer none] t)) (Below.heap_alloc _ _ _ (by simp))
  refine ⟨⟨hc.1, hc.2, List.Pairwise.nil, hc.1, fun f hf => (by cases hf), fun f hf => (by cases hf), Nat.zero_le _, fun l ks e => (by cases e)⟩, fun r s k hr hs => ?_, fun r k hr => ?_, if_pos rfl, ⟨w.heap.size, none, by simp [role0], ⟨by simp, hcell 0, hcell 1, hcell 2, hcell 3, hcell 4, hfz 2, hfz 3, hfz 4⟩, hm, rfl⟩, fun f hf => (by cases hf)⟩
  · unfold role0 at hr hs
    split at hr <;> split at hs
    · next h1 h2 => rw [h1, h2]
    · split at hs
      · cases hr; simp at hs
      · cases hs
    · split at hr
      · cases hs; simp at hr
      · cases hr
    · split at hr
      · split at hs
        · next h1 h2 => rw [h1, h2]
        · cases hs
      · cases hr
  · unfold role0 at hr
    split at hr
    · cases hr; simp
    · split at hr
      · cases hr; simp; omega
      · cases hr
theorem role0_new {n k : Nat} (h : Bl (role0 n) k) : n ≤ k := by
  obtain ⟨r, hr⟩ := h
  unfold role0 at hr
  split at hr
  · cases hr; omega
  · split at hr
    · cases hr; omega
    · cases hr
set_option maxRecDepth 100000 in
theorem new_yes (w : World) {c : Int} (hc : 0 ≤ c ∧ c ≤ 1048576) :
    Calls Try.prog 8 #[.int .i64 c] w fun e w' => e = .returned (.tuple #[.pointer (some ⟨w.heap.size + 1, 0, none⟩), .int .i64 0]) ∧ DiskAt w' (role0 w.heap.size) (w.heap.size + 1) ⟨c, [], false, 0, none⟩ ∧ Ext w w' := by
  have hmk : (Instr.makeMap 48 none).run Try.prog w = .ok (.map (some w.heap.size)) (w.alloc (.map #[] 0)) := rfl
  go_enter Try.func8, Try.ntmps8
  go_wp2
  all_goals
    go_ret2
    exact ⟨rfl, new_at w hc _, ((Ext.refl w).alloc _).alloc _⟩
end Go.Proofs.Ytajclcbclbppiaa
