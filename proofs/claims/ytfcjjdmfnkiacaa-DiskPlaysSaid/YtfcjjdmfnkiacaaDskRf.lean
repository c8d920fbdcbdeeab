/-
  The document's disk: in the heap; its walks that read.
-/
import Derived.Test.YtfcjjdmfnkiacaaDskIn
namespace Go.Dk
open Go.RowKit Go.Maps
/-- A file's cells. -/
def Fc1 (f : Fl) : List Value := [.int .i64 f.n, .string (ofL f.b), .int .i64 f.s]
def Fc (l : List Fl) : List Value := l.flatMap Fc1
theorem Fc1_length (f : Fl) : (Fc1 f).length = 3 := rfl
theorem Fc_length (l : List Fl) : (Fc l).length = l.length * 3 := by
  induction l with
  | nil => rfl
  | cons f r ih => simp only [Fc, List.flatMap_cons, List.length_append, Fc1_length, List.length_cons] at ih ⊢; omega
theorem Fc_append (a b : List Fl) : Fc (a ++ b) = Fc a ++ Fc b := by simp [Fc]
theorem Fc_take (l : List Fl) (k : Nat) : Fc (l.take k) = (Fc l).take (k * 3) := by
  induction l generalizing k with
  | nil => simp [Fc]
  | cons f r ih => cases k with
    | zero => simp [Fc]
    | succ k =>
      show Fc1 f ++ Fc (r.take k) = (Fc1 f ++ Fc r).take ((k + 1) * 3)
      rw [List.take_append, List.take_of_length_le (l := Fc1 f) (by rw [Fc1_length]; omega), Fc1_length, ih, show (k + 1) * 3 - 3 = k * 3 by omega]
theorem Fc_drop (l : List Fl) (k : Nat) : Fc (l.drop k) = (Fc l).drop (k * 3) := by
  induction l generalizing k with
  | nil => simp [Fc]
  | cons f r ih => cases k with
    | zero => simp [Fc]
    | succ k =>
      show Fc (r.drop k) = (Fc1 f ++ Fc r).drop ((k + 1) * 3)
      rw [List.drop_append, List.drop_of_length_le (l := Fc1 f) (by rw [Fc1_length]; omega), Fc1_length, ih, show (k + 1) * 3 - 3 = k * 3 by omega]
      simp
theorem Fc_get (l : List Fl) (k j : Nat) (hk : k < l.length) (hj : j < 3) : (Fc l)[k * 3 + j]? = (Fc1 l[k])[j]? := by
  have h1 : (Fc l)[k * 3 + j]? = ((Fc l).drop (k * 3))[j]? := by rw [List.getElem?_drop]
  rw [h1, ← Fc_drop, List.drop_eq_getElem_cons hk]
  show (Fc1 l[k] ++ Fc (l.drop (k + 1)))[j]? = _
  rw [List.getElem?_append_left (by rw [Fc1_length]; exact hj)]
theorem Fc_one (l : List Fl) : ∀ u ∈ Fc l, u.oneCell' = true := by
  intro u hu
  simp only [Fc, List.mem_flatMap] at hu
  obtain ⟨m, _, hm⟩ := hu
  simp only [Fc1, List.mem_cons, List.not_mem_nil, or_false] at hm
  rcases hm with rfl | rfl | rfl <;> rfl
theorem Fc_set (f : Fl) : ∀ (l : List Fl) (i : Nat), i < l.length → Fc (l.set i f) = (((Fc l).set (i * 3) (.int .i64 f.n)).set (i * 3 + 1) (.string (ofL f.b))).set (i * 3 + 2) (.int .i64 f.s)
  | [], i, h => absurd h (by simp)
  | m :: l, 0, _ => rfl
  | m :: l, i + 1, h => by
    have ih := Fc_set f l i (by simpa using h)
    show Fc1 m ++ Fc (l.set i f) = _
    rw [ih, show (i + 1) * 3 = i * 3 + 3 by omega, show i * 3 + 3 + 1 = i * 3 + 1 + 3 by omega, show i * 3 + 3 + 2 = i * 3 + 2 + 3 by omega]
    rfl
/-- Which place a file has. -/
theorem at_place {l : List Fl} (hr : Rise l) {f : Fl} (hf : f ∈ l) : ∃ k, ∃ h : k < l.length, l[k] = f ∧ ∀ j (hj : j < l.length), j ≠ k → l[j].n ≠ f.n := by
  obtain ⟨k, hk, rfl⟩ := List.mem_iff_getElem.1 hf
  refine ⟨k, hk, rfl, fun j hj hne e => ?_⟩
  rcases Nat.lt_or_ge j k with h | h
  · have := List.pairwise_iff_getElem.1 hr j k hj hk h
    omega
  · have := List.pairwise_iff_getElem.1 hr k j hk hj (by omega)
    omega
theorem upd_set {l : List Fl} (hr : Rise l) {k : Nat} (hk : k < l.length) {f : Fl} (hn : f.n = l[k].n) : upd f l = l.set k f := by
  refine List.ext_getElem (by rw [length_upd, List.length_set]) fun j hj _ => ?_
  have hj' : j < l.length := by rwa [length_upd] at hj
  rw [List.getElem_set]
  simp only [upd, List.getElem_map]
  by_cases e : k = j
  · subst e; simp [hn]
  · have h2 : l[j].n ≠ l[k].n := by
      obtain ⟨k', hk', he, hd⟩ := at_place hr (List.getElem_mem hk)
      by_cases e2 : j = k'
      · subst e2
        intro h3
        rcases Nat.lt_or_ge j k with h | h
        · have := List.pairwise_iff_getElem.1 hr j k hj' hk h; omega
        · have := List.pairwise_iff_getElem.1 hr k j hk hj' (by omega); omega
      · exact hd j hj' e2
    rw [if_neg (fun h3 => h2 (h3.trans hn)), if_neg e]
theorem del_erase {l : List Fl} (hr : Rise l) {k : Nat} (hk : k < l.length) : del l[k].n l = l.eraseIdx k := by
  induction l generalizing k with
  | nil => simp at hk
  | cons g r ih =>
    obtain ⟨h1, h2⟩ := List.pairwise_cons.1 hr
    cases k with
    | zero =>
      show List.filter _ (g :: r) = r
      rw [List.filter_cons]
      simp only [List.getElem_cons_zero, ne_eq, not_true_eq_false, decide_false, Bool.false_eq_true, if_false]
      exact List.filter_eq_self.2 fun f hf => by have := h1 f hf; simp; omega
    | succ k =>
      have hk' : k < r.length := by simpa using hk
      show List.filter _ (g :: r) = g :: r.eraseIdx k
      rw [List.filter_cons]
      have : g.n ≠ r[k].n := by have := h1 r[k] (List.getElem_mem _); omega
      simp only [List.getElem_cons_succ, this, ne_eq, not_false_eq_true, decide_true, if_true]
      exact congrArg _ (ih h2 hk')
/-- What the document keeps of a failure: one more than is left, or more than is ever used up (m changes are still to come). -/
def Mt : Option (Int × List Int) → Int → List Int → Nat → Prop
  | none, F, K, _ => F = 0 ∧ K = []
  | some (l, ks), F, K, m => K = ks ∧ ((F = l + 1 ∧ l ≤ 1099511627776) ∨ ((m : Int) < l ∧ (m : Int) + 1 < F ∧ F ≤ 1099511627777))
theorem Mt.less {x : Option (Int × List Int)} {F : Int} {K : List Int} {m m' : Nat} (h : Mt x F K m) (hm : m' ≤ m) : Mt x F K m' := by
  match x, h with
  | none, h => exact h
  | some (l, ks), ⟨h1, h2⟩ =>
    refine ⟨h1, h2.elim .inl (fun ⟨a, b, c⟩ => .inr ⟨?_, ?_, c⟩)⟩ <;> omega
end Go.Dk
namespace Go.Proofs.Ytfcjjdmfnkiacaa
open Go.RowKit Go.Maps Go.Dk Go.Shelf
/-- The document's disk at q; G: its blocks. -/
structure RfAt (w : World) (G : Nat → Prop) (q : Nat) (ao : Option Addr) (cap : Nat) (ko : Option Addr) (kc : Nat) (S : St) (F : Int) (K : List Int) : Prop where
  ok : Ok S
  under : Under G w
  own : G q
  c0 : w.cell? ⟨q, 0, none⟩ = some (.int .i64 S.cap)
  c1 : w.cell? ⟨q, 1, none⟩ = some (.slice ao S.fs.length cap)
  c2 : w.cell? ⟨q, 2, none⟩ = some (.bool S.down)
  c3 : w.cell? ⟨q, 3, none⟩ = some (.int .i64 S.starts)
  c4 : w.cell? ⟨q, 4, none⟩ = some (.int .i64 F)
  c5 : w.cell? ⟨q, 5, none⟩ = some (.slice ko K.length kc)
  fz : ∀ j, j < 6 → w.frozen? ⟨q, j, none⟩ = false
  row : Rw w 3 ao S.fs.length cap (Fc S.fs)
  rowG : ∀ g, ob ao = some g → G g ∧ g ≠ q
  keep : KeepAt w (fun g => G g ∧ g ≠ q) ko K
  few : K.length ≤ 16777216
variable {w w' : World} {G G' : Nat → Prop} {q : Nat} {ao : Option Addr} {cap : Nat} {ko : Option Addr} {kc : Nat} {S S' : St} {F : Int} {K : List Int}
theorem RfAt.kept (h : RfAt w G q ao cap ko kc S F K) (hs : w.heap.size ≤ w'.heap.size) (hb : ∀ k, G k → w'.heap[k]? = w.heap[k]?) : RfAt w' G q ao cap ko kc S F K := by
  have k : ∀ o, w'.cell? ⟨q, o, none⟩ = w.cell? ⟨q, o, none⟩ := fun o => World.cell?_of_block (a := ⟨q, o, none⟩) (hb q h.own)
  exact ⟨h.ok, h.under.mono hs, h.own, (k 0).trans h.c0, (k 1).trans h.c1, (k 2).trans h.c2, (k 3).trans h.c3, (k 4).trans h.c4, (k 5).trans h.c5,
    fun j hj => (World.frozen?_of_block (a := ⟨q, j, none⟩) (hb q h.own)).trans (h.fz j hj), h.row.kept hs (fun g hg => hb g (h.rowG g hg).1), h.rowG, h.keep.kept (fun g hg => hb g hg.1), h.few⟩
theorem RfAt.ext (h : RfAt w G q ao cap ko kc S F K) (hx : Ext w w') : RfAt w' G q ao cap ko kc S F K := h.kept hx.size (fun k hk => Below.block hx k (h.under k hk))
/-- A file's cells. -/
theorem RfAt.file (h : RfAt w G q ao cap ko kc S F K) {k : Nat} (hk : k < S.fs.length) : ∃ g, ao = some ⟨g, 0, none⟩ ∧ g < w.heap.size ∧ G g ∧ g ≠ q ∧ w.cell? ⟨g, k * 3, none⟩ = some (.int .i64 S.fs[k].n) ∧ w.cell? ⟨g, k * 3 + 1, none⟩ = some (.string (ofL S.fs[k].b)) ∧ w.cell? ⟨g, k * 3 + 2, none⟩ = some (.int .i64 S.fs[k].s) := by
  obtain ⟨g, e, hg, hc, _⟩ := h.row.row (by omega)
  obtain ⟨h1, h2⟩ := h.rowG g (by rw [e]; rfl)
  refine ⟨g, e, hg, h1, h2, ?_, ?_, ?_⟩
  · have := hc (k * 3 + 0) (by omega); rw [Fc_get _ _ _ hk (by omega)] at this; exact this
  · have := hc (k * 3 + 1) (by omega); rw [Fc_get _ _ _ hk (by omega)] at this; exact this
  · have := hc (k * 3 + 2) (by omega); rw [Fc_get _ _ _ hk (by omega)] at this; exact this
set_option maxHeartbeats 1000000 in
set_option maxRecDepth 100000 in
theorem find_no (h : RfAt w G q ao cap ko kc S F K) {n : Int} (hf : get S.fs n = none) :
    Calls Try.prog 55 #[.pointer (some ⟨q, 0, none⟩), .int .i64 n] w fun e w' => e = .returned (.int .i64 (-1)) ∧ w = w' := by
  have H := Lib.hid h
  have c1 := h.c1
  have hmany := h.ok.many
  clear h
  go_enter Try.func55, Try.ntmps55
  go_wp2
  go_loopw [5] (fun i wr => (∃ k : Nat, k ≤ S.fs.length ∧ i = .int .i64 k) ∧ wr = w) (fun i _ => S.fs.length - (intOf i).toNat)
  case atStart => exact ⟨⟨0, by omega, rfl⟩, rfl⟩
  case round =>
    obtain ⟨⟨k, hk, rfl⟩, rfl⟩ := hrel
    by_cases hlt : k < S.fs.length
    · obtain ⟨g, rfl, hg, _, _, d0, _, _⟩ := H.out.file hlt
      obtain ⟨m, hm⟩ : ∃ m, S.fs[k].n = m := ⟨_, rfl⟩
      have hne : m ≠ n := by rw [← hm]; exact get_none hf _ (List.getElem_mem _)
      rw [hm] at d0
      go_wp2
      exact ⟨⟨⟨k + 1, by omega, by go_num⟩, trivial⟩, by simp [intOf]; omega⟩
    · obtain rfl : k = S.fs.length := by omega
      go_wp2
      go_ret
      exact ⟨rfl, rfl⟩
set_option maxHeartbeats 1000000 in
set_option maxRecDepth 100000 in
theorem find_yes (h : RfAt w G q ao cap ko kc S F K) {n : Int} {i : Nat} (hi : i < S.fs.length) (hn : S.fs[i].n = n) (hne : ∀ j (hj : j < S.fs.length), j ≠ i → S.fs[j].n ≠ n) :
    Calls Try.prog 55 #[.pointer (some ⟨q, 0, none⟩), .int .i64 n] w fun e w' => e = .returned (.int .i64 i) ∧ w = w' := by
  have H := Lib.hid h
  have HN := Lib.hid hne
  have c1 := h.c1
  have hmany := h.ok.many
  clear h hne
  go_enter Try.func55, Try.ntmps55
  go_wp2
  go_loopw [5] (fun v wr => (∃ k : Nat, k ≤ i ∧ v = .int .i64 k) ∧ wr = w) (fun v _ => S.fs.length - (intOf v).toNat)
  case atStart => exact ⟨⟨0, by omega, rfl⟩, rfl⟩
  case round =>
    obtain ⟨⟨k, hk, rfl⟩, rfl⟩ := hrel
    obtain ⟨g, rfl, hg, _, _, d0, _, _⟩ := H.out.file (show k < S.fs.length by omega)
    obtain ⟨m, hm⟩ : ∃ m, S.fs[k].n = m := ⟨_, rfl⟩
    rw [hm] at d0
    by_cases hki : k = i
    · subst hki
      have hmn : m = n := hm.symm.trans hn
      go_wp2
      go_ret
      exact ⟨rfl, rfl⟩
    · have hmn : m ≠ n := by rw [← hm]; exact HN.out k (by omega) hki
      go_wp2
      exact ⟨⟨⟨k + 1, by omega, by go_num⟩, trivial⟩, by simp [intOf]; omega⟩
/-- Find, at one point. -/
theorem find_at (h : RfAt w G q ao cap ko kc S F K) (n : Int) : ∃ v : Int, (Calls Try.prog 55 #[.pointer (some ⟨q, 0, none⟩), .int .i64 n] w fun e w' => e = .returned (.int .i64 v) ∧ w = w') ∧
    ((v = -1 ∧ get S.fs n = none) ∨ ∃ (i : Nat) (hi : i < S.fs.length), v = i ∧ S.fs[i].n = n ∧ get S.fs n = some S.fs[i]) := by
  cases hf : get S.fs n with
  | none => exact ⟨-1, find_no h hf, .inl ⟨rfl, rfl⟩⟩
  | some f =>
    obtain ⟨k1, k2⟩ := get_mem hf
    obtain ⟨i, hi, he, hd⟩ := at_place h.ok.rise k1
    subst he
    exact ⟨i, find_yes h hi k2 (fun j hj e => by rw [← k2]; exact hd j hj e), .inr ⟨i, hi, rfl, k2, rfl⟩⟩
theorem tot_take_next {l : List Fl} {k : Nat} (hk : k < l.length) : tot (l.take (k + 1)) = tot (l.take k) + l[k].b.length := by
  rw [List.take_succ_eq_append_getElem hk, tot_append]
  simp [tot]
set_option maxHeartbeats 1000000 in
set_option maxRecDepth 100000 in
theorem rfree_is (h : RfAt w G q ao cap ko kc S F K) :
    Calls Try.prog 51 #[.pointer (some ⟨q, 0, none⟩)] w fun e w' => e = .returned (.int .i64 (S.cap - tot S.fs)) ∧ w = w' := by
  have H := Lib.hid h
  have c0 := h.c0
  have c1 := h.c1
  have hmany := h.ok.many
  have h0 := h.ok.cap0
  have h1 := h.ok.cap1
  have htot := h.ok.tot
  clear h
  go_enter Try.func51, Try.ntmps51
  go_wp2
  go_loopw [3, 4] (fun v i wr => (∃ k : Nat, k ≤ S.fs.length ∧ i = .int .i64 k ∧ v = .int .i64 (S.cap - tot (S.fs.take k))) ∧ wr = w) (fun _ i _ => S.fs.length - (intOf i).toNat)
  case atStart => exact ⟨⟨0, by omega, rfl, by simp [tot]⟩, rfl⟩
  case round =>
    obtain ⟨⟨k, hk, rfl, rfl⟩, rfl⟩ := hrel
    by_cases hlt : k < S.fs.length
    · obtain ⟨g, rfl, hg, _, _, _, d1, _⟩ := H.out.file hlt
      have ht := tot_take_next hlt
      obtain ⟨b, hb⟩ : ∃ b, S.fs[k].b = b := ⟨_, rfl⟩
      have hle : tot (S.fs.take k) + b.length ≤ tot S.fs := by
        rw [← hb, ← ht]
        have := tot_append (S.fs.take (k + 1)) (S.fs.drop (k + 1))
        rw [List.take_append_drop] at this
        omega
      rw [hb] at d1 ht
      have hw : IntKind.i64.wrap (S.cap - (tot (S.fs.take k) : Int) - b.length) = S.cap - tot (S.fs.take (k + 1)) := by
        rw [IntWalk.i64_in _ ⟨by omega, by omega⟩, ht]; omega
      go_wp2
      exact ⟨⟨⟨k + 1, by omega, by go_num, by rw [ht]; congr 1 <;> omega⟩, trivial⟩, by simp [intOf]; omega⟩
    · obtain rfl : k = S.fs.length := by omega
      go_wp2
      go_ret
      rw [List.take_length]
      exact ⟨rfl, rfl⟩
end Go.Proofs.Ytfcjjdmfnkiacaa
