/-
  The document's disk: in the heap; its walks that read.
  The walks of the document's disk: Read, Size, New, Start, fails, Fail.
  The walks of the document's disk: with, Crash, sunk, Fail, New.
-/
import Derived.Test.YtajclcbclbppiaaGreatZ11
import Derived.Deep.RegionLaw
section
namespace Go.Dk
open Go.RowKit Go.Maps
/-- A file's cells. -/
def Fc1 (f : Fl) : List Value := [.int .i64 f.n, .string (ofL f.b), .int .i64 f.s]
def Fc (l : List Fl) : List Value := l.flatMap Fc1
theorem Fc1_length (f : Fl) : (Fc1 f).length = 3 := rfl
theorem Fc_length (l : List Fl) : (Fc l).length = l.length * 3 := by
  induction l with
  | nil => rfl
  | cons f r ih => simp only [Fc, List.flatMap_cons, List.length_append, Fc1_length, List.length_cons] at ih ⊢; omega
theorem Fc_append (a b : List Fl) : Fc (a ++ b) = Fc a ++ Fc b := by simp [Fc]
theorem Fc_take (l : List Fl) (k : Nat) : Fc (l.take k) = (Fc l).take (k * 3) := by
  induction l generalizing k with
  | nil => simp [Fc]
  | cons f r ih => cases k with
    | zero => simp [Fc]
    | succ k =>
      show Fc1 f ++ Fc (r.take k) = (Fc1 f ++ Fc r).take ((k + 1) * 3)
      rw [List.take_append, List.take_of_length_le (l := Fc1 f) (by rw [Fc1_length]; omega), Fc1_length, ih, show (k + 1) * 3 - 3 = k * 3 by omega]
theorem Fc_drop (l : List Fl) (k : Nat) : Fc (l.drop k) = (Fc l).drop (k * 3) := by
  induction l generalizing k with
  | nil => simp [Fc]
  | cons f r ih => cases k with
    | zero => simp [Fc]
    | succ k =>
      show Fc (r.drop k) = (Fc1 f ++ Fc r).drop ((k + 1) * 3)
      rw [List.drop_append, List.drop_of_length_le (l := Fc1 f) (by rw [Fc1_length]; omega), Fc1_length, ih, show (k + 1) * 3 - 3 = k * 3 by omega]
      simp
theorem Fc_get (l : List Fl) (k j : Nat) (hk : k < l.length) (hj : j < 3) : (Fc l)[k * 3 + j]? = (Fc1 l[k])[j]? := by
  have h1 : (Fc l)[k * 3 + j]? = ((Fc l).drop (k * 3))[j]? := by rw [List.getElem?_drop]
  rw [h1, ← Fc_drop, List.drop_eq_getElem_cons hk]
  show (Fc1 l[k] ++ Fc (l.drop (k + 1)))[j]? = _
  rw [List.getElem?_append_left (by rw [Fc1_length]; exact hj)]
theorem Fc_one (l : List Fl) : ∀ u ∈ Fc l, u.oneCell' = true := by
  intro u hu
  simp only [Fc, List.mem_flatMap] at hu
  obtain ⟨m, _, hm⟩ := hu
  simp only [Fc1, List.mem_cons, List.not_mem_nil, or_false] at hm
  rcases hm with rfl | rfl | rfl <;> rfl
theorem Fc_set (f : Fl) : ∀ (l : List Fl) (i : Nat), i < l.length → Fc (l.set i f) = (((Fc l).set (i * 3) (.int .i64 f.n)).set (i * 3 + 1) (.string (ofL f.b))).set (i * 3 + 2) (.int .i64 f.s)
  | [], i, h => absurd h (by simp)
  | m :: l, 0, _ => rfl
  | m :: l, i + 1, h => by
    have ih := Fc_set f l i (by simpa using h)
    show Fc1 m ++ Fc (l.set i f) = _
    rw [ih, show (i + 1) * 3 = i * 3 + 3 by omega, show i * 3 + 3 + 1 = i * 3 + 1 + 3 by omega, show i * 3 + 3 + 2 = i * 3 + 2 + 3 by omega]
    rfl
/-- Which place a file has. -/
theorem at_place {l : List Fl} (hr : Rise l) {f : Fl} (hf : f ∈ l) : ∃ k, ∃ h : k < l.length, l[k] = f ∧ ∀ j (hj : j < l.length), j ≠ k → l[j].n ≠ f.n := by
  obtain ⟨k, hk, rfl⟩ := List.mem_iff_getElem.1 hf
  refine ⟨k, hk, rfl, fun j hj hne e => ?_⟩
  rcases Nat.lt_or_ge j k with h | h
  · have := List.pairwise_iff_getElem.1 hr j k hj hk h
    omega
  · have := List.pairwise_iff_getElem.1 hr k j hk hj (by omega)
    omega
theorem upd_set {l : List Fl} (hr : Rise l) {k : Nat} (hk : k < l.length) {f : Fl} (hn : f.n = l[k].n) : upd f l = l.set k f := by
  refine List.ext_getElem (by rw [length_upd, List.length_set]) fun j hj _ => ?_
  have hj' : j < l.length := by rwa [length_upd] at hj
  rw [List.getElem_set]
  simp only [upd, List.getElem_map]
  by_cases e : k = j
  · subst e; simp [hn]
  · have h2 : l[j].n ≠ l[k].n := by
      obtain ⟨k', hk', he, hd⟩ := at_place hr (List.getElem_mem hk)
      by_cases e2 : j = k'
      · subst e2
        intro h3
        rcases Nat.lt_or_ge j k with h | h
        · have := List.pairwise_iff_getElem.1 hr j k hj' hk h; omega
        · have := List.pairwise_iff_getElem.1 hr k j hk hj' (by omega); omega
      · exact hd j hj' e2
    rw [if_neg (fun h3 => h2 (h3.trans hn)), if_neg e]
theorem del_erase {l : List Fl} (hr : Rise l) {k : Nat} (hk : k < l.length) : del l[k].n l = l.eraseIdx k := by
  induction l generalizing k with
  | nil => simp at hk
  | cons g r ih =>
    obtain ⟨h1, h2⟩ := List.pairwise_cons.1 hr
    cases k with
    | zero =>
      show List.filter _ (g :: r) = r
      rw [List.filter_cons]
      simp only [List.getElem_cons_zero, ne_eq, not_true_eq_false, decide_false, Bool.false_eq_true, if_false]
      exact List.filter_eq_self.2 fun f hf => by have := h1 f hf; simp; omega
    | succ k =>
      have hk' : k < r.length := by simpa using hk
      show List.filter _ (g :: r) = g :: r.eraseIdx k
      rw [List.filter_cons]
      have : g.n ≠ r[k].n := by have := h1 r[k] (List.getElem_mem _); omega
      simp only [List.getElem_cons_succ, this, ne_eq, not_false_eq_true, decide_true, if_true]
      exact congrArg _ (ih h2 hk')
/-- What the document keeps of a failure: one more than is left, or more than is ever used up (m changes are still to come). -/
def Mt : Option (Int × List Int) → Int → List Int → Nat → Prop
  | none, F, K, _ => F = 0 ∧ K = []
  | some (l, ks), F, K, m => K = ks ∧ ((F = l + 1 ∧ l ≤ 1099511627776) ∨ ((m : Int) < l ∧ (m : Int) + 1 < F ∧ F ≤ 1099511627777))
theorem Mt.less {x : Option (Int × List Int)} {F : Int} {K : List Int} {m m' : Nat} (h : Mt x F K m) (hm : m' ≤ m) : Mt x F K m' := by
  match x, h with
  | none, h => exact h
  | some (l, ks), ⟨h1, h2⟩ =>
    refine ⟨h1, h2.elim .inl (fun ⟨a, b, c⟩ => .inr ⟨?_, ?_, c⟩)⟩ <;> omega
end Go.Dk
namespace Go.Proofs.YtajclcbclbppiaaGreat
open Go.RowKit Go.Maps Go.Dk Go.Shelf
/-- The document's disk at q; G: its blocks. -/
structure RfAt (w : World) (G : Nat → Prop) (q : Nat) (ao : Option Addr) (cap : Nat) (ko : Option Addr) (kc : Nat) (S : St) (F : Int) (K : List Int) : Prop where
  ok : Ok S
  under : Under G w
  own : G q
  c0 : w.cell? ⟨q, 0, none⟩ = some (.int .i64 S.cap)
  c1 : w.cell? ⟨q, 1, none⟩ = some (.slice ao S.fs.length cap)
  c2 : w.cell? ⟨q, 2, none⟩ = some (.bool S.down)
  c3 : w.cell? ⟨q, 3, none⟩ = some (.int .i64 S.starts)
  c4 : w.cell? ⟨q, 4, none⟩ = some (.int .i64 F)
  c5 : w.cell? ⟨q, 5, none⟩ = some (.slice ko K.length kc)
  fz : ∀ j, j < 6 → w.frozen? ⟨q, j, none⟩ = false
  row : Rw w 3 ao S.fs.length cap (Fc S.fs)
  rowG : ∀ g, ob ao = some g → G g ∧ g ≠ q
  keep : KeepAt w (fun g => G g ∧ g ≠ q) ko K
  few : K.length ≤ 16777216
variable {w w' : World} {G G' : Nat → Prop} {q : Nat} {ao : Option Addr} {cap : Nat} {ko : Option Addr} {kc : Nat} {S S' : St} {F : Int} {K : List Int}
theorem RfAt.kept (h : RfAt w G q ao cap ko kc S F K) (hs : w.heap.size ≤ w'.heap.size) (hb : ∀ k, G k → w'.heap[k]? = w.heap[k]?) : RfAt w' G q ao cap ko kc S F K := by
  have k : ∀ o, w'.cell? ⟨q, o, none⟩ = w.cell? ⟨q, o, none⟩ := fun o => World.cell?_of_block (a := ⟨q, o, none⟩) (hb q h.own)
  exact ⟨h.ok, h.under.mono hs, h.own, (k 0).trans h.c0, (k 1).trans h.c1, (k 2).trans h.c2, (k 3).trans h.c3, (k 4).trans h.c4, (k 5).trans h.c5,
    fun j hj => (World.frozen?_of_block (a := ⟨q, j, none⟩) (hb q h.own)).trans (h.fz j hj), h.row.kept hs (fun g hg => hb g (h.rowG g hg).1), h.rowG, h.keep.kept (fun g hg => hb g hg.1), h.few⟩
theorem RfAt.ext (h : RfAt w G q ao cap ko kc S F K) (hx : Ext w w') : RfAt w' G q ao cap ko kc S F K := h.kept hx.size (fun k hk => Below.block hx k (h.under k hk))
/-- A file's cells. -/
theorem RfAt.file (h : RfAt w G q ao cap ko kc S F K) {k : Nat} (hk : k < S.fs.length) : ∃ g, ao = some ⟨g, 0, none⟩ ∧ g < w.heap.size ∧ G g ∧ g ≠ q ∧ w.cell? ⟨g, k * 3, none⟩ = some (.int .i64 S.fs[k].n) ∧ w.cell? ⟨g, k * 3 + 1, none⟩ = some (.string (ofL S.fs[k].b)) ∧ w.cell? ⟨g, k * 3 + 2, none⟩ = some (.int .i64 S.fs[k].s) := by
  obtain ⟨g, e, hg, hc, _⟩ := h.row.row (by omega)
  obtain ⟨h1, h2⟩ := h.rowG g (by rw [e]; rfl)
  refine ⟨g, e, hg, h1, h2, ?_, ?_, ?_⟩
  · have := hc (k * 3 + 0) (by omega); rw [Fc_get _ _ _ hk (by omega)] at this; exact this
  · have := hc (k * 3 + 1) (by omega); rw [Fc_get _ _ _ hk (by omega)] at this; exact this
  · have := hc (k * 3 + 2) (by omega); rw [Fc_get _ _ _ hk (by omega)] at this; exact this
set_option maxHeartbeats 1000000 in
set_option maxRecDepth 100000 in
theorem find_no (h : RfAt w G q ao cap ko kc S F K) {n : Int} (hf : get S.fs n = none) :
    Calls Tryz.prog 25 #[.pointer (some ⟨q, 0, none⟩), .int .i64 n] w fun e w' => e = .returned (.int .i64 (-1)) ∧ w = w' := by
  have H := Lib.hid h
  have c1 := h.c1
  have hmany := h.ok.many
  clear h
  go_enter Tryz.func25, Tryz.ntmps25
  go_wp2
  go_loopw [5] (fun i wr => (∃ k : Nat, k ≤ S.fs.length ∧ i = .int .i64 k) ∧ wr = w) (fun i _ => S.fs.length - (intOf i).toNat)
  case atStart => exact ⟨⟨0, by omega, rfl⟩, rfl⟩
  case round =>
    obtain ⟨⟨k, hk, rfl⟩, rfl⟩ := hrel
    by_cases hlt : k < S.fs.length
    · obtain ⟨g, rfl, hg, _, _, d0, _, _⟩ := H.out.file hlt
      obtain ⟨m, hm⟩ : ∃ m, S.fs[k].n = m := ⟨_, rfl⟩
      have hne : m ≠ n := by rw [← hm]; exact get_none hf _ (List.getElem_mem _)
      rw [hm] at d0
      go_wp2
      exact ⟨⟨⟨k + 1, by omega, by go_num⟩, trivial⟩, by simp [intOf]; omega⟩
    · obtain rfl : k = S.fs.length := by omega
      go_wp2
      go_ret
      exact ⟨rfl, rfl⟩
set_option maxHeartbeats 1000000 in
set_option maxRecDepth 100000 in
theorem find_yes (h : RfAt w G q ao cap ko kc S F K) {n : Int} {i : Nat} (hi : i < S.fs.length) (hn : S.fs[i].n = n) (hne : ∀ j (hj : j < S.fs.length), j ≠ i → S.fs[j].n ≠ n) :
    Calls Tryz.prog 25 #[.pointer (some ⟨q, 0, none⟩), .int .i64 n] w fun e w' => e = .returned (.int .i64 i) ∧ w = w' := by
  have H := Lib.hid h
  have HN := Lib.hid hne
  have c1 := h.c1
  have hmany := h.ok.many
  clear h hne
  go_enter Tryz.func25, Tryz.ntmps25
  go_wp2
  go_loopw [5] (fun v wr => (∃ k : Nat, k ≤ i ∧ v = .int .i64 k) ∧ wr = w) (fun v _ => S.fs.length - (intOf v).toNat)
  case atStart => exact ⟨⟨0, by omega, rfl⟩, rfl⟩
  case round =>
    obtain ⟨⟨k, hk, rfl⟩, rfl⟩ := hrel
    obtain ⟨g, rfl, hg, _, _, d0, _, _⟩ := H.out.file (show k < S.fs.length by omega)
    obtain ⟨m, hm⟩ : ∃ m, S.fs[k].n = m := ⟨_, rfl⟩
    rw [hm] at d0
    by_cases hki : k = i
    · subst hki
      have hmn : m = n := hm.symm.trans hn
      go_wp2
      go_ret
      exact ⟨rfl, rfl⟩
    · have hmn : m ≠ n := by rw [← hm]; exact HN.out k (by omega) hki
      go_wp2
      exact ⟨⟨⟨k + 1, by omega, by go_num⟩, trivial⟩, by simp [intOf]; omega⟩
/-- Find, at one point. -/
theorem find_at (h : RfAt w G q ao cap ko kc S F K) (n : Int) : ∃ v : Int, (Calls Tryz.prog 25 #[.pointer (some ⟨q, 0, none⟩), .int .i64 n] w fun e w' => e = .returned (.int .i64 v) ∧ w = w') ∧
    ((v = -1 ∧ get S.fs n = none) ∨ ∃ (i : Nat) (hi : i < S.fs.length), v = i ∧ S.fs[i].n = n ∧ get S.fs n = some S.fs[i]) := by
  cases hf : get S.fs n with
  | none => exact ⟨-1, find_no h hf, .inl ⟨rfl, rfl⟩⟩
  | some f =>
    obtain ⟨k1, k2⟩ := get_mem hf
    obtain ⟨i, hi, he, hd⟩ := at_place h.ok.rise k1
    subst he
    exact ⟨i, find_yes h hi k2 (fun j hj e => by rw [← k2]; exact hd j hj e), .inr ⟨i, hi, rfl, k2, rfl⟩⟩
theorem tot_take_next {l : List Fl} {k : Nat} (hk : k < l.length) : tot (l.take (k + 1)) = tot (l.take k) + l[k].b.length := by
  rw [List.take_succ_eq_append_getElem hk, tot_append]
  simp [tot]
set_option maxHeartbeats 1000000 in
set_option maxRecDepth 100000 in
theorem rfree_is (h : RfAt w G q ao cap ko kc S F K) :
    Calls Tryz.prog 30 #[.pointer (some ⟨q, 0, none⟩)] w fun e w' => e = .returned (.int .i64 (S.cap - tot S.fs)) ∧ w = w' := by
  have H := Lib.hid h
  have c0 := h.c0
  have c1 := h.c1
  have hmany := h.ok.many
  have h0 := h.ok.cap0
  have h1 := h.ok.cap1
  have htot := h.ok.tot
  clear h
  go_enter Tryz.func30, Tryz.ntmps30
  go_wp2
  go_loopw [3, 4] (fun v i wr => (∃ k : Nat, k ≤ S.fs.length ∧ i = .int .i64 k ∧ v = .int .i64 (S.cap - tot (S.fs.take k))) ∧ wr = w) (fun _ i _ => S.fs.length - (intOf i).toNat)
  case atStart => exact ⟨⟨0, by omega, rfl, by simp [tot]⟩, rfl⟩
  case round =>
    obtain ⟨⟨k, hk, rfl, rfl⟩, rfl⟩ := hrel
    by_cases hlt : k < S.fs.length
    · obtain ⟨g, rfl, hg, _, _, _, d1, _⟩ := H.out.file hlt
      have ht := tot_take_next hlt
      obtain ⟨b, hb⟩ : ∃ b, S.fs[k].b = b := ⟨_, rfl⟩
      have hle : tot (S.fs.take k) + b.length ≤ tot S.fs := by
        rw [← hb, ← ht]
        have := tot_append (S.fs.take (k + 1)) (S.fs.drop (k + 1))
        rw [List.take_append_drop] at this
        omega
      rw [hb] at d1 ht
      have hw : IntKind.i64.wrap (S.cap - (tot (S.fs.take k) : Int) - b.length) = S.cap - tot (S.fs.take (k + 1)) := by
        rw [IntWalk.i64_in _ ⟨by omega, by omega⟩, ht]; omega
      go_wp2
      exact ⟨⟨⟨k + 1, by omega, by go_num, by rw [ht]; congr 1 <;> omega⟩, trivial⟩, by simp [intOf]; omega⟩
    · obtain rfl : k = S.fs.length := by omega
      go_wp2
      go_ret
      rw [List.take_length]
      exact ⟨rfl, rfl⟩
section
variable {q : Nat} {F F' F'' G : Nat → Prop} {a b c w w' : World}
/-- Of the document's disk the head alone has turned; what it has more is new. -/
structure Tr (q : Nat) (F F' : Nat → Prop) (w w' : World) : Prop where
  fr : Fr (fun k => k = q) w w'
  new : ∀ k, F' k → F k ∨ w.heap.size ≤ k
theorem Tr.refl (q : Nat) (F : Nat → Prop) (w : World) : Tr q F F w w := ⟨Fr.refl _ w, fun _ h => .inl h⟩
theorem Tr.trans (h : Tr q F F' a b) (k : Tr q F' F'' b c) : Tr q F F'' a c :=
  ⟨h.fr.trans k.fr (fun _ _ e => e), fun i hi => (k.new i hi).elim (h.new i) (fun hb => .inr (Nat.le_trans h.fr.size hb))⟩
theorem Tr.of_ext (h : Ext w w') : Tr q F F w w' := ⟨Fr.of_ext h, fun _ h => .inl h⟩
theorem Tr.ext (h : Tr q F F' a b) (k : Ext b c) : Tr q F F' a c := h.trans (Tr.of_ext k)
theorem Tr.drew (h : Tr q F F' a b) : Tr q F F' a b.drew := h.ext (Ext.refl b).drew
theorem Tr.same (h : Fr (fun k => k = q) w w') (_ : ∀ k, k = q → G k) : Tr q G G w w' := ⟨h, fun _ h => .inl h⟩
theorem Tr.tn (h : Tr q F F' w w') (hq : F q) : Tn F F' w w' := ⟨h.fr.mono (fun _ _ e => e ▸ hq), h.new⟩
end
end Go.Proofs.YtajclcbclbppiaaGreat
end
section
namespace Go.Proofs.YtajclcbclbppiaaGreat
open Go.RowKit Go.Maps Go.Dk Go.Shelf
variable {w w' : World} {G G' : Nat → Prop} {q : Nat} {ao : Option Addr} {cap : Nat} {ko : Option Addr} {kc : Nat} {S S' : St} {F : Int} {K : List Int}
/-- Its head has turned, in some of the cells that follow the list. -/
theorem RfAt.head (h : RfAt w G q ao cap ko kc S F K) (hf : Fr (fun k => k = q) w w') {S' : St} {F' : Int} (hok : Ok S') (hfs : S'.fs = S.fs) (hc : S'.cap = S.cap)
    (c1 : w'.cell? ⟨q, 1, none⟩ = some (.slice ao S.fs.length cap)) (c0 : w'.cell? ⟨q, 0, none⟩ = some (.int .i64 S.cap)) (c2 : w'.cell? ⟨q, 2, none⟩ = some (.bool S'.down)) (c3 : w'.cell? ⟨q, 3, none⟩ = some (.int .i64 S'.starts)) (c4 : w'.cell? ⟨q, 4, none⟩ = some (.int .i64 F')) (c5 : w'.cell? ⟨q, 5, none⟩ = some (.slice ko K.length kc))
    (fz : ∀ j, j < 6 → w'.frozen? ⟨q, j, none⟩ = false) : RfAt w' G q ao cap ko kc S' F' K := by
  refine ⟨hok, h.under.mono hf.size, h.own, by rw [hc]; exact c0, by rw [hfs]; exact c1, c2, c3, c4, c5, fz, ?_, h.rowG, h.keep.kept (fun g hg => hf.block g (h.under g hg.1) hg.2), h.few⟩
  rw [hfs]
  exact h.row.kept hf.size (fun g hg => hf.block g (h.row.lt g hg) (h.rowG g hg).2)
theorem cell_ne (w : World) {q i j : Nat} (u : Value) (h : j ≠ i) : (w.setCell ⟨q, i, none⟩ u).cell? ⟨q, j, none⟩ = w.cell? ⟨q, j, none⟩ := World.cell?_setCell_other _ _ _ _ (by first | simp; done | (simp; exact h))
theorem RfAt.setF (h : RfAt w G q ao cap ko kc S F K) (F' : Int) {x : Option (Int × List Int)} (hok : Ok { S with fail := x }) : RfAt (w.setCell ⟨q, 4, none⟩ (.int .i64 F')) G q ao cap ko kc { S with fail := x } F' K ∧ Fr (fun k => k = q) w (w.setCell ⟨q, 4, none⟩ (.int .i64 F')) := by
  have hf : Fr (fun k => k = q) w (w.setCell ⟨q, 4, none⟩ (.int .i64 F')) := (Fr.refl _ w).setCell (p := ⟨q, 4, none⟩) (by intro _; rfl) _
  exact ⟨h.head hf hok rfl rfl ((cell_ne _ _ (by decide)).trans h.c1) ((cell_ne _ _ (by decide)).trans h.c0) ((cell_ne _ _ (by decide)).trans h.c2) ((cell_ne _ _ (by decide)).trans h.c3) (World.cell?_setCell_same _ _ _ h.c4) ((cell_ne _ _ (by decide)).trans h.c5) (fun j hj => (World.frozen?_setCell _ _ _ _).trans (h.fz j hj)), hf⟩
set_option maxRecDepth 100000 in
theorem fails_zero (h : RfAt w G q ao cap ko kc S 0 K) :
    Calls Tryz.prog 26 #[.pointer (some ⟨q, 0, none⟩)] w fun e w' => e = .returned (.bool false) ∧ w = w' := by
  have c4 := h.c4
  clear h
  go_enter Tryz.func26, Tryz.ntmps26
  go_wp2
  go_ret
  exact ⟨rfl, rfl⟩
set_option maxRecDepth 100000 in
theorem fails_pos (h : RfAt w G q ao cap ko kc S F K) (h0 : 0 < F) (h1 : F ≤ 1099511627777) :
    Calls Tryz.prog 26 #[.pointer (some ⟨q, 0, none⟩)] w fun e w' => e = .returned (.bool (decide (F - 1 = 0))) ∧ w' = w.setCell ⟨q, 4, none⟩ (.int .i64 (F - 1)) := by
  have c4 := h.c4
  have f4 := h.fz 4 (by omega)
  have hne : F ≠ 0 := by omega
  have hw : IntKind.i64.wrap (F - 1) = F - 1 := IntWalk.i64_in _ ⟨by omega, by omega⟩
  clear h
  go_enter Tryz.func26, Tryz.ntmps26
  go_wp2
  go_ret
  exact ⟨rfl, rfl⟩
end Go.Proofs.YtajclcbclbppiaaGreat
end
section
namespace Go.Proofs.YtajclcbclbppiaaGreat
open Go.RowKit Go.Maps Go.Dk Go.Shelf
variable {w w' : World} {G G' : Nat → Prop} {q : Nat} {ao : Option Addr} {cap : Nat} {ko : Option Addr} {kc : Nat} {S S' : St} {F : Int} {K : List Int}
theorem infoFile : (Tryz.prog.info? 69).map (fun i => (i.zero, i.size, i.bytes)) = some (some (.agg #[.int .i64 0, .string ByteArray.empty, .int .i64 0]), 3, 32) := by kernel_rfl
/-- append of files. -/
theorem append_files {w : World} {ao : Option Addr} {n cap : Nat} {L : List Fl} (h : Rw w 3 ao n cap (Fc L)) {x : Value} {m : Nat} (N : List Fl) (hs : Src Tryz.prog 3 56 x m (Fc N) w) (hl : n + m ≤ 16777216) (ty : TypeId) :
    ∃ ao' cap' w', (Builtin.append_ #[56, 56] ty #[.slice ao n cap, x]).run Tryz.prog w = .ok (.slice ao' (n + m) cap') w' ∧
      (Rw w' 3 ao' (n + m) cap' (Fc (L ++ N)) ∧ Fr (fun k => ob ao = some k) w w' ∧ (ao' = ao ∨ ∃ g, ao' = some ⟨g, 0, none⟩ ∧ w.heap.size ≤ g)) := by
  obtain ⟨ti, hti, hz, hsz, hby⟩ := info_parts infoFile
  obtain ⟨ao', cap', w', h1, h2, h3⟩ := h.append 56 56 ty 69 ti _ 32 Tryz.underlying56 hti hz hsz hby rfl x m _ hs (by unfold maxLen; omega) (by omega)
  refine ⟨ao', cap', w', h1, ?_, h3⟩
  rw [Fc_append]
  exact h2
/-- append onto nil: a row that is new. -/
theorem append_newF {w : World} {x : Value} {m : Nat} (N : List Fl) (hs : Src Tryz.prog 3 56 x m (Fc N) w) (hl : m ≤ 16777216) (ty : TypeId) :
    ∃ ao' cap' w', (Builtin.append_ #[56, 56] ty #[.slice none 0 0, x]).run Tryz.prog w = .ok (.slice ao' m cap') w' ∧
      (Rw w' 3 ao' m cap' (Fc N) ∧ Ext w w' ∧ ∀ g, ob ao' = some g → w.heap.size ≤ g) := by
  obtain ⟨ao', cap', w', h1, h2, h3, h4⟩ := append_files (n := 0) (L := []) (Rw.nil w 3) N hs (by omega) ty
  simp only [List.nil_append, Nat.zero_add] at h1 h2
  refine ⟨ao', cap', w', h1, h2, Fr.grownFrom h3 (Ext.refl w) (fun k hk => by cases hk), fun g hg => ?_⟩
  rcases h4 with rfl | ⟨k, rfl, hk⟩
  · cases hg
  · cases hg; exact hk
/-- A row of files, as what is appended. -/
theorem src_files {w : World} {ao : Option Addr} {n cap : Nat} {L : List Fl} (h : Rw w 3 ao n cap (Fc L)) : Src Tryz.prog 3 56 (.slice ao n cap) n (Fc L) w := by
  have hl := h.len
  rw [Fc_length] at hl
  rcases h.at_ with ⟨rfl, h0⟩ | ⟨g, rfl, hg, _, _⟩
  · have := h.le
    obtain rfl : n = 0 := by omega
    obtain rfl : L = [] := List.length_eq_zero_iff.1 (by omega)
    exact Src.ofNil w (e' := 69) Tryz.underlying56 cap
  · have := h.src (e' := 69) Tryz.underlying56 (Fc_one L) 0 n cap (by omega) (ad := ⟨g, 0, none⟩) (fun _ => by rw [Nat.zero_mul])
    simpa using this
/-- Numbers onto nil. -/
theorem append_newI {w : World} {ko : Option Addr} {kc m : Nat} {ks : List Int} (hm : ks.length = m) (hk : KeepAt w (fun g => g < w.heap.size) ko ks) (hko : ko = none → ks = []) (hl : m ≤ 16777216) (ty : TypeId) :
    ∃ ao' cap' w', (Builtin.append_ #[57, 57] ty #[.slice none 0 0, .slice ko m kc]).run Tryz.prog w = .ok (.slice ao' m cap') w' ∧
      (Rw w' 1 ao' m cap' (Nums ks) ∧ Ext w w' ∧ ∀ g, ob ao' = some g → w.heap.size ≤ g) := by
  subst hm
  have hs : Src Tryz.prog 1 57 (.slice ko ks.length kc) ks.length (Nums ks) w := by
    cases ko with
    | none =>
      obtain rfl := hko rfl
      exact Src.ofNil w (e' := 3) Tryz.underlying57 kc
    | some a => exact KeepAt.src hk
  obtain ⟨ao', cap', w', h1, h2, h3, h4⟩ := append_ints (n := 0) (L := []) (Rw.nil w 1) ks hs (by omega) ty
  simp only [List.nil_append, Nat.zero_add] at h1 h2
  refine ⟨ao', cap', w', h1, h2, Fr.grownFrom h3 (Ext.refl w) (fun k hk => by cases hk), fun g hg => ?_⟩
  rcases h4 with rfl | ⟨k, rfl, hk⟩
  · cases hg
  · cases hg; exact hk
theorem KeepAt.none_nil {G : Nat → Prop} {ks : List Int} (h : KeepAt w G none ks) : ks = [] := by
  rcases h with h | ⟨_, _, e, _⟩
  · exact h
  · cases e
/-- A file of a row is set. -/
theorem rw_setF {g n cap : Nat} {L : List Fl} (h : Rw w 3 (some ⟨g, 0, none⟩) n cap (Fc L)) {i : Nat} (hi : i < L.length) (f : Fl) :
    Rw (((w.setCell ⟨g, i * 3, none⟩ (.int .i64 f.n)).setCell ⟨g, i * 3 + 1, none⟩ (.string (ofL f.b))).setCell ⟨g, i * 3 + 2, none⟩ (.int .i64 f.s)) 3 (some ⟨g, 0, none⟩) n cap (Fc (L.set i f)) := by
  have hl := h.len
  rw [Fc_length] at hl
  rw [Fc_set f L i hi]
  exact ((h.set (i * 3) (by omega) _).set (i * 3 + 1) (by omega) _).set (i * 3 + 2) (by omega) _
theorem cell_oth (w : World) {q g i j : Nat} (u : Value) (h : g ≠ q) : (w.setCell ⟨g, i, none⟩ u).cell? ⟨q, j, none⟩ = w.cell? ⟨q, j, none⟩ := World.cell?_of_block (a := ⟨q, j, none⟩) (setCell_other _ _ _ (fun e => h e.symm))
/-- A list that is new takes the place of the old one. -/
theorem RfAt.put (h : RfAt w G q ao cap ko kc S F K) {W F1 : World} (hx : Ext w W) {ao' : Option Addr} {n cap' : Nat} {L : List Fl} (hn : L.length = n) (hr : Rw F1 3 ao' n cap' (Fc L)) (hnew : ∀ g, ob ao' = some g → w.heap.size ≤ g) (hok : Ok { S with fs := L })
    (hF1 : Fr (fun k => ob ao' = some k ∨ k = q) W F1) (c1 : F1.cell? ⟨q, 1, none⟩ = some (.slice ao' n cap')) (co : ∀ j, j ≠ 1 → F1.cell? ⟨q, j, none⟩ = W.cell? ⟨q, j, none⟩) (fz : ∀ j, j < 6 → F1.frozen? ⟨q, j, none⟩ = false) :
    ∃ G', RfAt F1 G' q ao' cap' ko kc { S with fs := L } F K ∧ Tr q G G' w F1 := by
  subst hn
  have H := h.ext hx
  have hql := h.under q h.own
  refine ⟨fun k => G k ∨ ob ao' = some k, ⟨hok, fun k hk => ?_, .inl h.own, (co 0 (by decide)).trans H.c0, c1, (co 2 (by decide)).trans H.c2, (co 3 (by decide)).trans H.c3, (co 4 (by decide)).trans H.c4, (co 5 (by decide)).trans H.c5, fz, hr, fun g hg => ⟨.inr hg, fun e => by have := hnew g hg; omega⟩, ?_, h.few⟩, ⟨?_, fun k hk => hk.imp id (hnew k)⟩⟩
  · rcases hk with hk | hk
    · exact Nat.lt_of_lt_of_le (h.under k hk) (Nat.le_trans hx.size hF1.size)
    · exact hr.lt k hk
  · rcases H.keep.kept (w' := F1) (fun g hg => hF1.block g (H.under g hg.1) (fun e => e.elim (fun e => by have := hnew g e; have := h.under g hg.1; omega) hg.2)) with h | ⟨g, o, e, hg, hc⟩
    · exact .inl h
    · exact .inr ⟨g, o, e, ⟨.inl hg.1, hg.2⟩, hc⟩
  · exact (Fr.of_ext hx : Fr (fun k => k = q) w W).trans hF1 (fun k hk e => e.elim (fun e => absurd (hnew k e) (by omega)) id)
set_option maxHeartbeats 1000000 in
set_option maxRecDepth 100000 in
theorem with_is (h : RfAt w G q ao cap ko kc S F K) {i : Nat} (hi : i < S.fs.length) (f : Fl) (hok : Ok { S with fs := S.fs.set i f }) :
    Calls Tryz.prog 31 #[.pointer (some ⟨q, 0, none⟩), .int .i64 i, .agg #[.int .i64 f.n, .string (ofL f.b), .int .i64 f.s]] w fun e w' => e = .returned (.tuple #[]) ∧
      ∃ G' ao' cap', RfAt w' G' q ao' cap' ko kc { S with fs := S.fs.set i f } F K ∧ Tr q G G' w w' := by
  have H := Lib.hid h
  have c1 := h.c1
  have f1 := h.fz 1 (by omega)
  have hmany := h.ok.many
  have hql := h.under q h.own
  clear h
  go_enter Tryz.func31, Tryz.ntmps31
  go_wp2_with (at_builtin; refine wpList_append_rw rfl (.const (.slice none 0 0)) (.tmp 10) _ _ rfl rfl rfl (append_newF S.fs (src_files (H.out.row.ext ((Ext.refl _).alloc _))) (by omega) _) (fun a1 k1 w2 hR => ?_); obtain ⟨hr1, hx1, hn1⟩ := hR; have Hr1 := Lib.hid hr1; have Hx1 := Lib.hid hx1; have Hn1 := Lib.hid hn1; have d1 := (H.out.ext (((Ext.refl w).alloc _).trans hx1)).c1; have e1 := (H.out.ext (((Ext.refl w).alloc _).trans hx1)).fz 1 (by omega); clear hr1 hx1 hn1)
  obtain ⟨g, rfl, hg, hx2, hx3⟩ := Hr1.out.row (by omega)
  have hgn := Hn1.out g rfl
  rw [World.size_alloc] at hgn
  have hgq : g ≠ q := by omega
  have hgb : g ≠ w.heap.size := by omega
  have hqb : q ≠ w.heap.size := by omega
  have b0 := hx2 (i * 3) (by omega)
  have b1 := hx2 (i * 3 + 1) (by omega)
  have b2 := hx2 (i * 3 + 2) (by omega)
  have g0 := hx3 (i * 3) (by omega)
  have g1 := hx3 (i * 3 + 1) (by omega)
  have g2 := hx3 (i * 3 + 2) (by omega)
  rw [show i * 3 = i * 3 + 0 by omega, Fc_get _ _ _ hi (by omega)] at b0
  rw [Fc_get _ _ _ hi (by omega)] at b1 b2
  simp only [Fc1, List.getElem?_cons_zero, List.getElem?_cons_succ, Nat.add_zero] at b0 b1 b2
  have hbx : ∀ o, w2.cell? ⟨w.heap.size, o, none⟩ = (#[.int .i64 f.n, .string (ofL f.b), .int .i64 f.s] : Array Value)[o]? := fun o => ((Fr.of_ext (F := fun _ => False) Hx1.out).cells (heap_alloc_new w _) (fun h => h)).1 o
  have k0 := hbx 0
  have k1' := hbx 1
  have k2 := hbx 2
  simp at k0 k1' k2
  clear hx2 hx3 hbx
  go_region
  all_goals
    go_wp2
    go_end0
    have hr := rw_setF (Hr1.out.kept (w' := w2.setCell ⟨q, 1, none⟩ (.slice (some ⟨g, 0, none⟩) S.fs.length k1)) (by rw [setCell_size]; exact Nat.le_refl _) (fun k hk => setCell_other w2 ⟨q, 1, none⟩ _ (fun e => hgq ((Option.some.inj hk).trans e)))) hi f
    have hfr : Fr (fun k => ob (some (⟨g, 0, none⟩ : Addr)) = some k ∨ k = q) w2 ((((w2.setCell ⟨q, 1, none⟩ (.slice (some ⟨g, 0, none⟩) S.fs.length k1)).setCell ⟨g, i * 3, none⟩ (.int .i64 f.n)).setCell ⟨g, i * 3 + 1, none⟩ (.string (ofL f.b))).setCell ⟨g, i * 3 + 2, none⟩ (.int .i64 f.s)) :=
      (((Fr.refl _ w2).setCell (p := ⟨q, 1, none⟩) (by intro _; exact .inr rfl) _).setCell (p := ⟨g, i * 3, none⟩) (by intro _; exact .inl rfl) _).setCell (p := ⟨g, i * 3 + 1, none⟩) (by intro _; exact .inl rfl) _ |>.setCell (p := ⟨g, i * 3 + 2, none⟩) (by intro _; exact .inl rfl) _
    obtain ⟨G', hR, hT⟩ := H.out.put (n := S.fs.length) (L := S.fs.set i f) (((Ext.refl w).alloc _).trans Hx1.out) (List.length_set) hr (fun k hk => by have e : g = k := Option.some.inj hk; omega) hok hfr
      (by rw [cell_oth _ _ hgq, cell_oth _ _ hgq, cell_oth _ _ hgq]; exact World.cell?_setCell_same _ _ _ d1) (fun j hj => by rw [cell_oth _ _ hgq, cell_oth _ _ hgq, cell_oth _ _ hgq, cell_ne _ _ hj])
      (fun j hj => by rw [World.frozen?_setCell, World.frozen?_setCell, World.frozen?_setCell, World.frozen?_setCell]; exact (H.out.ext (((Ext.refl w).alloc _).trans Hx1.out)).fz j hj)
    exact ⟨rfl, G', _, _, hR.ext (Ext.refl _).drew, hT.drew⟩
end Go.Proofs.YtajclcbclbppiaaGreat
end
