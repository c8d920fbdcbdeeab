/-
  The journal's plain laws: what a disk leads to, whatever fails.
-/
import Derived.Test.YtajclcbclbppiaaJnOn
namespace Go.Jn
open Go.Dk Go.Rc Go.Bt Go.Sm
/-! ### records at the front -/
theorem getR_takes {s : List UInt8} {a : Nat} {p : List UInt8} {b : Nat} (h : getR s a = some (p, b)) : (s.drop a).take (b - a) = recL p ∧ p.length ≤ 65536 := by
  unfold getR at h
  split at h
  · rename_i hc
    simp only [Option.some.injEq, Prod.mk.injEq] at h
    obtain ⟨rfl, rfl⟩ := h
    refine ⟨?_, ?_⟩
    · rw [hc.2]; congr 1; omega
    · have : (payL s a).length = askN s a := by unfold payL; simp; omega
      omega
  · cases h
def endFrom (a : Nat) (l : List It) : Nat := (l.getLast?.map (·.2)).getD a
theorem endFrom_cons (a : Nat) (x : It) (l : List It) : endFrom a (x :: l) = endFrom x.2 l := by
  unfold endFrom
  cases l with
  | nil => simp
  | cons y r => simp [List.getLast?_cons]
theorem pairs_row (s : List UInt8) : ∀ (f a : Nat), a ≤ s.length → a ≤ endFrom a (pairs s f a) ∧ endFrom a (pairs s f a) ≤ s.length ∧ (s.drop a).take (endFrom a (pairs s f a) - a) = rowL ((pairs s f a).map (·.1)) ∧ ∀ x ∈ (pairs s f a).map (·.1), x.length ≤ 65536
  | 0, a, h => by simp [pairs, endFrom, rowL, h]
  | f + 1, a, h => by
    unfold pairs
    cases hg : getR s a with
    | none => simp [endFrom, rowL, h]
    | some y =>
      obtain ⟨p, b⟩ := y
      have hn := getR_next hg
      obtain ⟨h1, h2⟩ := getR_takes hg
      obtain ⟨k1, k2, k3, k4⟩ := pairs_row s f b hn.2.1
      simp only
      rw [endFrom_cons]
      dsimp only
      refine ⟨by omega, k2, ?_, ?_⟩
      · rw [List.map_cons, rowL_cons, ← k3, ← h1]
        have e : endFrom b (pairs s f b) - a = (b - a) + (endFrom b (pairs s f b) - b) := by omega
        rw [e, List.take_add, List.drop_drop]
        congr 3
        omega
      · intro x hx
        rw [List.map_cons] at hx
        rcases List.mem_cons.1 hx with rfl | hx
        · exact h2
        · exact k4 x hx
/-- The front of a text is its records. -/
theorem front_row (s : List UInt8) : endOf (itsAt s 0) ≤ s.length ∧ s.take (endOf (itsAt s 0)) = rowL (pays s) ∧ ∀ x ∈ pays s, x.length ≤ 65536 := by
  obtain ⟨_, k2, k3, k4⟩ := pairs_row s (s.length + 1) 0 (Nat.zero_le _)
  exact ⟨k2, by simp only [List.drop_zero, Nat.sub_zero] at k3; exact k3, k4⟩
/-- The records of a row, with something behind that is none. -/
theorem pays_row {ps : List (List UInt8)} {r : List UInt8} (h : ∀ x ∈ ps, x.length ≤ 65536) (hr : getR (rowL ps ++ r) (rowL ps).length = none) : pays (rowL ps ++ r) = ps ∧ endOf (itsAt (rowL ps ++ r) 0) = (rowL ps).length := by
  have h1 := itsAt_row ps [] r h
  simp only [List.nil_append, List.length_nil, Nat.zero_add] at h1
  rw [itsAt_none hr, List.append_nil] at h1
  have hp : pays (rowL ps ++ r) = ps := by unfold pays; rw [h1, itsOf_fst]
  refine ⟨hp, ?_⟩
  have h2 := front_row (rowL ps ++ r)
  have h3 := congrArg List.length h2.2.1
  rw [hp, List.length_take] at h3
  omega
theorem pays_whole {ps : List (List UInt8)} (h : ∀ x ∈ ps, x.length ≤ 65536) : pays (rowL ps) = ps ∧ endOf (itsAt (rowL ps) 0) = (rowL ps).length := by
  have := pays_row (r := []) h (getR_short _ _ (by simp))
  simpa using this
/-- A record behind, or a part of it. -/
theorem pays_part {ps : List (List UInt8)} {x : List UInt8} (h : ∀ y ∈ ps, y.length ≤ 65536) (hx : x.length ≤ 65536) (k : Nat) : pays (rowL ps ++ (recL x).take k) = ps ∨ pays (rowL ps ++ (recL x).take k) = ps ++ [x] := by
  rcases Nat.lt_or_ge k (x.length + 8) with hk | hk
  · exact .inl (pays_row h (getR_cut (rowL ps) x k hx hk)).1
  · right
    rw [List.take_of_length_le (by rw [recL_length]; exact hk)]
    have e : rowL ps ++ recL x = rowL (ps ++ [x]) := by simp [rowL]
    rw [e]
    exact (pays_whole (by intro y hy; rcases List.mem_append.1 hy with hy | hy; exact h y hy; simp at hy; subst hy; exact hx)).1
theorem pays_first {x : List UInt8} (hx : x.length ≤ 65536) (k : Nat) : itsAt ((recL x).take k) 0 = [] ∨ pays ((recL x).take k) = [x] := by
  have h := pays_part (ps := []) (by intro y hy; cases hy) hx k
  simp only [rowL, List.flatMap_nil, List.nil_append] at h
  rcases h with h | h
  · left; unfold pays at h; exact List.map_eq_nil_iff.1 h
  · exact .inr h
theorem pays_nil {s : List UInt8} : pays s = [] ↔ itsAt s 0 = [] := by unfold pays; exact List.map_eq_nil_iff
/-! ### a change -/
theorem chg_or (S S1 : St) (early : Bool) : (∃ S2, chg S S1 early = (S2, 0) ∧ S2.fs = S1.fs ∧ S2.down = S1.down ∧ S2.cap = S1.cap ∧ S2.starts = S1.starts ∧ (S.fail = none → S1.fail = none → S2.fail = none)) ∨
    (∃ ks, chg S S1 early = ((if early then S1 else S).crash ks, 61) ∧ S.fail ≠ none) := by
  unfold chg
  cases hf : S.fail with
  | none => exact .inl ⟨S1, rfl, rfl, rfl, rfl, rfl, fun _ h => h⟩
  | some y =>
    obtain ⟨l, ks⟩ := y
    by_cases hl : l = 0
    · subst hl
      exact .inr ⟨ks, by simp, by simp⟩
    · exact .inl ⟨{ S1 with fail := some (l - 1, ks) }, by simp [hl], rfl, rfl, rfl, rfl, fun h => by cases h⟩
/-! ### all is sure -/
def AllSure (l : List Fl) : Prop := ∀ f ∈ l, f.s = f.b.length
theorem cut_sure {f : Fl} (h : f.s = f.b.length) (k : Int) : Dk.cut k f = f := by
  obtain ⟨n, b, s⟩ := f
  simp only at h
  subst h
  have e : b.length + (min (max k 0) ((b.length - b.length : Nat) : Int)).toNat = b.length := by omega
  unfold Dk.cut
  simp only
  rw [e, List.take_length]
theorem cuts_sure : ∀ {l : List Fl} (ks : List Int), AllSure l → cuts ks l = l
  | [], _, _ => rfl
  | f :: r, ks, h => by
    simp only [cuts]
    rw [cut_sure (h f (.head _)), cuts_sure ks.tail (fun g hg => h g (.tail _ hg))]
/-- What a disk leads to: the last file that has records; all is sure. -/
structure Led (fs : List Fl) (n : Int) (ps : List (List UInt8)) : Prop where
  file : ∃ f ∈ fs, f.n = n ∧ pays f.b = ps
  ne : ps ≠ []
  last : ∀ g ∈ fs, n < g.n → itsAt g.b 0 = []
  sure : AllSure fs
theorem Led.pick {fs : List Fl} {n : Int} {ps : List (List UInt8)} (h : Led fs n ps) (hr : Rise fs) : ∃ f, f ∈ fs ∧ f.n = n ∧ pays f.b = ps ∧ pick fs = some f := by
  obtain ⟨f, hf, hn, hp⟩ := h.file
  refine ⟨f, hf, hn, hp, ?_⟩
  obtain ⟨k, hk⟩ := List.mem_iff_getElem?.1 hf
  refine pick_at hk (fun e => h.ne (by rw [← hp]; exact pays_nil.2 e)) (fun g hg => ?_)
  have hgm := List.mem_of_mem_drop hg
  refine h.last g hgm ?_
  obtain ⟨hkl, rfl⟩ := List.getElem?_eq_some_iff.1 hk
  obtain ⟨i, hi⟩ := List.mem_iff_getElem?.1 hg
  rw [List.getElem?_drop] at hi
  obtain ⟨hil, rfl⟩ := List.getElem?_eq_some_iff.1 hi
  have := List.pairwise_iff_getElem.1 hr k (k + 1 + i) hkl hil (by omega)
  omega
theorem Led.crash {S : St} {n : Int} {ps : List (List UInt8)} (h : Led S.fs n ps) (ks : List Int) : Led (S.crash ks).fs n ps := by
  have : (S.crash ks).fs = S.fs := cuts_sure ks h.sure
  rw [this]; exact h
end Go.Jn
