/-
  The journal's plain laws: what a disk leads to, whatever fails.
  The journal's plain laws: an Open leads to what the disk leads to; Append, Compact.
  The journal's plain laws: Append, Compact, a journal where none is.
  The journal's plain laws: Compact; the journal of a disk without files.
-/
import Derived.Test.YtajclcbclbppiaaGreatZ19
section
namespace Go.Jn
open Go.Dk Go.Rc Go.Bt Go.Sm
/-! ### records at the front -/
theorem getR_takes {s : List UInt8} {a : Nat} {p : List UInt8} {b : Nat} (h : getR s a = some (p, b)) : (s.drop a).take (b - a) = recL p ∧ p.length ≤ 65536 := by
  unfold getR at h
  split at h
  · rename_i hc
    simp only [Option.some.injEq, Prod.mk.injEq] at h
    obtain ⟨rfl, rfl⟩ := h
    refine ⟨?_, ?_⟩
    · rw [hc.2]; congr 1; omega
    · have : (payL s a).length = askN s a := by unfold payL; simp; omega
      omega
  · cases h
def endFrom (a : Nat) (l : List It) : Nat := (l.getLast?.map (·.2)).getD a
theorem endFrom_cons (a : Nat) (x : It) (l : List It) : endFrom a (x :: l) = endFrom x.2 l := by
  unfold endFrom
  cases l with
  | nil => simp
  | cons y r => simp [List.getLast?_cons]
theorem pairs_row (s : List UInt8) : ∀ (f a : Nat), a ≤ s.length → a ≤ endFrom a (pairs s f a) ∧ endFrom a (pairs s f a) ≤ s.length ∧ (s.drop a).take (endFrom a (pairs s f a) - a) = rowL ((pairs s f a).map (·.1)) ∧ ∀ x ∈ (pairs s f a).map (·.1), x.length ≤ 65536
  | 0, a, h => by simp [pairs, endFrom, rowL, h]
  | f + 1, a, h => by
    unfold pairs
    cases hg : getR s a with
    | none => simp [endFrom, rowL, h]
    | some y =>
      obtain ⟨p, b⟩ := y
      have hn := getR_next hg
      obtain ⟨h1, h2⟩ := getR_takes hg
      obtain ⟨k1, k2, k3, k4⟩ := pairs_row s f b hn.2.1
      simp only
      rw [endFrom_cons]
      dsimp only
      refine ⟨by omega, k2, ?_, ?_⟩
      · rw [List.map_cons, rowL_cons, ← k3, ← h1]
        have e : endFrom b (pairs s f b) - a = (b - a) + (endFrom b (pairs s f b) - b) := by omega
        rw [e, List.take_add, List.drop_drop]
        congr 3
        omega
      · intro x hx
        rw [List.map_cons] at hx
        rcases List.mem_cons.1 hx with rfl | hx
        · exact h2
        · exact k4 x hx
/-- The front of a text is its records. -/
theorem front_row (s : List UInt8) : endOf (itsAt s 0) ≤ s.length ∧ s.take (endOf (itsAt s 0)) = rowL (pays s) ∧ ∀ x ∈ pays s, x.length ≤ 65536 := by
  obtain ⟨_, k2, k3, k4⟩ := pairs_row s (s.length + 1) 0 (Nat.zero_le _)
  exact ⟨k2, by simp only [List.drop_zero, Nat.sub_zero] at k3; exact k3, k4⟩
/-- The records of a row, with something behind that is none. -/
theorem pays_row {ps : List (List UInt8)} {r : List UInt8} (h : ∀ x ∈ ps, x.length ≤ 65536) (hr : getR (rowL ps ++ r) (rowL ps).length = none) : pays (rowL ps ++ r) = ps ∧ endOf (itsAt (rowL ps ++ r) 0) = (rowL ps).length := by
  have h1 := itsAt_row ps [] r h
  simp only [List.nil_append, List.length_nil, Nat.zero_add] at h1
  rw [itsAt_none hr, List.append_nil] at h1
  have hp : pays (rowL ps ++ r) = ps := by unfold pays; rw [h1, itsOf_fst]
  refine ⟨hp, ?_⟩
  have h2 := front_row (rowL ps ++ r)
  have h3 := congrArg List.length h2.2.1
  rw [hp, List.length_take] at h3
  omega
theorem pays_whole {ps : List (List UInt8)} (h : ∀ x ∈ ps, x.length ≤ 65536) : pays (rowL ps) = ps ∧ endOf (itsAt (rowL ps) 0) = (rowL ps).length := by
  have := pays_row (r := []) h (getR_short _ _ (by simp))
  simpa using this
/-- A record behind, or a part of it. -/
theorem pays_part {ps : List (List UInt8)} {x : List UInt8} (h : ∀ y ∈ ps, y.length ≤ 65536) (hx : x.length ≤ 65536) (k : Nat) : pays (rowL ps ++ (recL x).take k) = ps ∨ pays (rowL ps ++ (recL x).take k) = ps ++ [x] := by
  rcases Nat.lt_or_ge k (x.length + 8) with hk | hk
  · exact .inl (pays_row h (getR_cut (rowL ps) x k hx hk)).1
  · right
    rw [List.take_of_length_le (by rw [recL_length]; exact hk)]
    have e : rowL ps ++ recL x = rowL (ps ++ [x]) := by simp [rowL]
    rw [e]
    exact (pays_whole (by intro y hy; rcases List.mem_append.1 hy with hy | hy; exact h y hy; simp at hy; subst hy; exact hx)).1
theorem pays_first {x : List UInt8} (hx : x.length ≤ 65536) (k : Nat) : itsAt ((recL x).take k) 0 = [] ∨ pays ((recL x).take k) = [x] := by
  have h := pays_part (ps := []) (by intro y hy; cases hy) hx k
  simp only [rowL, List.flatMap_nil, List.nil_append] at h
  rcases h with h | h
  · left; unfold pays at h; exact List.map_eq_nil_iff.1 h
  · exact .inr h
theorem pays_nil {s : List UInt8} : pays s = [] ↔ itsAt s 0 = [] := by unfold pays; exact List.map_eq_nil_iff
/-! ### a change -/
theorem chg_or (S S1 : St) (early : Bool) : (∃ S2, chg S S1 early = (S2, 0) ∧ S2.fs = S1.fs ∧ S2.down = S1.down ∧ S2.cap = S1.cap ∧ S2.starts = S1.starts ∧ (S.fail = none → S1.fail = none → S2.fail = none)) ∨
    (∃ ks, chg S S1 early = ((if early then S1 else S).crash ks, 61) ∧ S.fail ≠ none) := by
  unfold chg
  cases hf : S.fail with
  | none => exact .inl ⟨S1, rfl, rfl, rfl, rfl, rfl, fun _ h => h⟩
  | some y =>
    obtain ⟨l, ks⟩ := y
    by_cases hl : l = 0
    · subst hl
      exact .inr ⟨ks, by simp, by simp⟩
    · exact .inl ⟨{ S1 with fail := some (l - 1, ks) }, by simp [hl], rfl, rfl, rfl, rfl, fun h => by cases h⟩
/-! ### all is sure -/
def AllSure (l : List Fl) : Prop := ∀ f ∈ l, f.s = f.b.length
theorem cut_sure {f : Fl} (h : f.s = f.b.length) (k : Int) : Dk.cut k f = f := by
  obtain ⟨n, b, s⟩ := f
  simp only at h
  subst h
  have e : b.length + (min (max k 0) ((b.length - b.length : Nat) : Int)).toNat = b.length := by omega
  unfold Dk.cut
  simp only
  rw [e, List.take_length]
theorem cuts_sure : ∀ {l : List Fl} (ks : List Int), AllSure l → cuts ks l = l
  | [], _, _ => rfl
  | f :: r, ks, h => by
    simp only [cuts]
    rw [cut_sure (h f (.head _)), cuts_sure ks.tail (fun g hg => h g (.tail _ hg))]
/-- What a disk leads to: the last file that has records; all is sure. -/
structure Led (fs : List Fl) (n : Int) (ps : List (List UInt8)) : Prop where
  file : ∃ f ∈ fs, f.n = n ∧ pays f.b = ps
  ne : ps ≠ []
  last : ∀ g ∈ fs, n < g.n → itsAt g.b 0 = []
  sure : AllSure fs
theorem Led.pick {fs : List Fl} {n : Int} {ps : List (List UInt8)} (h : Led fs n ps) (hr : Rise fs) : ∃ f, f ∈ fs ∧ f.n = n ∧ pays f.b = ps ∧ pick fs = some f := by
  obtain ⟨f, hf, hn, hp⟩ := h.file
  refine ⟨f, hf, hn, hp, ?_⟩
  obtain ⟨k, hk⟩ := List.mem_iff_getElem?.1 hf
  refine pick_at hk (fun e => h.ne (by rw [← hp]; exact pays_nil.2 e)) (fun g hg => ?_)
  have hgm := List.mem_of_mem_drop hg
  refine h.last g hgm ?_
  obtain ⟨hkl, rfl⟩ := List.getElem?_eq_some_iff.1 hk
  obtain ⟨i, hi⟩ := List.mem_iff_getElem?.1 hg
  rw [List.getElem?_drop] at hi
  obtain ⟨hil, rfl⟩ := List.getElem?_eq_some_iff.1 hi
  have := List.pairwise_iff_getElem.1 hr k (k + 1 + i) hkl hil (by omega)
  omega
theorem Led.crash {S : St} {n : Int} {ps : List (List UInt8)} (h : Led S.fs n ps) (ks : List Int) : Led (S.crash ks).fs n ps := by
  have : (S.crash ks).fs = S.fs := cuts_sure ks h.sure
  rw [this]; exact h
end Go.Jn
end
section
namespace Go.Jn
open Go.Dk Go.Rc
theorem upd_self {f : Fl} : ∀ {l : List Fl}, Rise l → f ∈ l → upd f l = l := by
  intro l hr hf
  unfold upd
  conv => rhs; rw [← List.map_id l]
  refine List.map_congr_left fun g hg => ?_
  show (if g.n = f.n then f else g) = g
  split
  · rename_i h; exact (rise_same hr hg hf h).symm
  · rfl
theorem mem_upd_self {f f' : Fl} {l : List Fl} (hf : f ∈ l) (hn : f.n = f'.n) : f' ∈ upd f' l := List.mem_map.2 ⟨f, hf, if_pos hn⟩
theorem mem_upd_other {f' g : Fl} {l : List Fl} (hg : g ∈ l) (hn : g.n ≠ f'.n) : g ∈ upd f' l := List.mem_map.2 ⟨g, hg, if_neg hn⟩
/-- A disk that is up, and leads to a journal. -/
structure Mid (F : Prop) (N n : Int) (ps : List (List UInt8)) (cap starts : Int) (S : St) : Prop where
  up : S.down = false
  rise : Rise S.fs
  led : Led S.fs n ps
  bound : ∀ g ∈ S.fs, 0 ≤ g.n ∧ g.n ≤ N
  cap : S.cap = cap
  starts : S.starts = starts
  nf : F → S.fail = none
/-- A disk that went down, and leads to a journal. -/
structure Dead (F : Prop) (N : Int) (ps : List (List UInt8)) (cap : Int) (S : St) : Prop where
  down : S.down = true
  rise : Rise S.fs
  led : ∃ n, Led S.fs n ps
  bound : ∀ g ∈ S.fs, 0 ≤ g.n ∧ g.n ≤ N
  cap : S.cap = cap
  fail : S.fail = none
  nf : ¬ F
variable {F : Prop} {N n : Int} {ps : List (List UInt8)} {cap starts : Int} {S S1 : St}
theorem Mid.get (h : Mid F N n ps cap starts S) : ∃ f, f ∈ S.fs ∧ f.n = n ∧ pays f.b = ps ∧ Dk.get S.fs n = some f := by
  obtain ⟨f, hf, hn, hp⟩ := h.led.file
  exact ⟨f, hf, hn, hp, by rw [← hn]; exact get_of_mem h.rise hf⟩
theorem Mid.crash (h : Mid F N n ps cap starts S) (hx : S.fail ≠ none) (ks : List Int) : Dead F N ps cap (S.crash ks) := by
  have e : (S.crash ks).fs = S.fs := cuts_sure ks h.led.sure
  exact ⟨rfl, by rw [e]; exact h.rise, ⟨n, h.led.crash ks⟩, by rw [e]; exact h.bound, h.cap, rfl, fun hf => hx (h.nf hf)⟩
theorem Mid.do_sync (h : Mid F N n ps cap starts S) : ∃ S2, (sync S n = (S2, 0) ∧ Mid F N n ps cap starts S2 ∧ S2.fs = S.fs) ∨ (sync S n = (S2, 61) ∧ Dead F N ps cap S2) := by
  obtain ⟨f, hf, hn, hp, hg⟩ := h.get
  have hs := h.led.sure f hf
  have hu : upd ⟨f.n, f.b, f.b.length⟩ S.fs = S.fs := by
    have : (⟨f.n, f.b, f.b.length⟩ : Fl) = f := by rw [← hs]
    rw [this]; exact upd_self h.rise hf
  have hsy : sync S n = chg S { S with fs := S.fs } false := by
    unfold Dk.sync
    rw [if_neg (by rw [h.up]; decide), hg]
    dsimp only
    rw [hu]
  rcases chg_or S { S with fs := S.fs } false with ⟨S2, h1, h2, h3, h4, h5, h6⟩ | ⟨ks, h1, h2⟩
  · exact ⟨S2, .inl ⟨hsy.trans h1, ⟨h3.trans h.up, by rw [h2]; exact h.rise, by rw [h2]; exact h.led, by rw [h2]; exact h.bound, h4.trans h.cap, h5.trans h.starts, fun hF => h6 (h.nf hF) (h.nf hF)⟩, h2⟩⟩
  · exact ⟨_, .inr ⟨hsy.trans h1, h.crash h2 ks⟩⟩
theorem Mid.do_truncate (h : Mid F N n ps cap starts S) {f : Fl} (hf : f ∈ S.fs) (hn : f.n = n) {e : Nat} (he : endOf (itsAt f.b 0) = e) : ∃ S2, (truncate S n e = (S2, 0) ∧ Mid F N n ps cap starts S2 ∧ S2.fs.map (·.n) = S.fs.map (·.n) ∧ ∃ g ∈ S2.fs, g.n = n ∧ g.b = rowL ps) ∨ (truncate S n e = (S2, 61) ∧ Dead F N ps cap S2) := by
  obtain ⟨f', hf', hn', hp', hg⟩ := h.get
  obtain rfl : f' = f := rise_same h.rise hf' hf (by omega)
  have hs := h.led.sure f' hf
  obtain ⟨k1, k2, k3⟩ := front_row f'.b
  rw [he] at k1 k2
  rw [hp'] at k2 k3
  have hsy : truncate S n e = chg S { S with fs := upd ⟨f'.n, f'.b.take e, min f'.s e⟩ S.fs } false := by
    simp only [Dk.truncate, h.up, hg, Int.toNat_natCast]
    rw [if_neg (by simp), if_neg (by omega)]
  have hm : min f'.s e = (f'.b.take e).length := by rw [List.length_take]; omega
  rcases chg_or S { S with fs := upd ⟨f'.n, f'.b.take e, min f'.s e⟩ S.fs } false with ⟨S2, h1, h2, h3, h4, h5, h6⟩ | ⟨ks, h1, h2⟩
  · dsimp only at h2
    refine ⟨S2, .inl ⟨hsy.trans h1, ⟨h3.trans h.up, by rw [h2]; exact rise_upd h.rise, ?_, ?_, h4.trans h.cap, h5.trans h.starts, fun hF => h6 (h.nf hF) (h.nf hF)⟩, by rw [h2, names_upd], ⟨(⟨f'.n, f'.b.take e, min f'.s e⟩ : Fl), by rw [h2]; exact mem_upd_self hf rfl, hn, k2⟩⟩⟩
    · rw [h2]
      refine ⟨⟨(⟨f'.n, f'.b.take e, min f'.s e⟩ : Fl), mem_upd_self hf rfl, hn, by show pays (f'.b.take e) = ps; rw [k2]; exact (pays_whole k3).1⟩, h.led.ne, fun g hg hlt => ?_, fun g hg => ?_⟩
      · rcases mem_upd hg with ⟨rfl, _⟩ | ⟨hg, _⟩
        · have : n < f'.n := hlt; omega
        · exact h.led.last g hg hlt
      · rcases mem_upd hg with ⟨rfl, _⟩ | ⟨hg, _⟩
        · exact hm
        · exact h.led.sure g hg
    · rw [h2]
      intro g hg
      rcases mem_upd hg with ⟨rfl, _⟩ | ⟨hg, _⟩
      · exact h.bound f' hf
      · exact h.bound g hg
  · exact ⟨_, .inr ⟨hsy.trans h1, h.crash h2 ks⟩⟩
theorem Mid.do_delete (h : Mid F N n ps cap starts S) {k : Int} (hk : k ≠ n) (hm : ∃ g ∈ S.fs, g.n = k) : ∃ S2, (delete S k = (S2, 0) ∧ Mid F N n ps cap starts S2 ∧ S2.fs = del k S.fs) ∨ (delete S k = (S2, 61) ∧ Dead F N ps cap S2) := by
  obtain ⟨g, hg, hgn⟩ := hm
  have hget : Dk.get S.fs k = some g := by rw [← hgn]; exact get_of_mem h.rise hg
  have hsy : delete S k = chg S { S with fs := del k S.fs } false := by simp only [Dk.delete, h.up, hget]; simp
  rcases chg_or S { S with fs := del k S.fs } false with ⟨S2, h1, h2, h3, h4, h5, h6⟩ | ⟨ks, h1, h2⟩
  · dsimp only at h2
    refine ⟨S2, .inl ⟨hsy.trans h1, ⟨h3.trans h.up, by rw [h2]; exact rise_del h.rise, ?_, by rw [h2]; exact fun g hg => h.bound g (mem_del.1 hg).1, h4.trans h.cap, h5.trans h.starts, fun hF => h6 (h.nf hF) (h.nf hF)⟩, h2⟩⟩
    rw [h2]
    obtain ⟨f, hf, hn, hp⟩ := h.led.file
    exact ⟨⟨f, mem_del.2 ⟨hf, by omega⟩, hn, hp⟩, h.led.ne, fun g hg => h.led.last g (mem_del.1 hg).1, fun g hg => h.led.sure g (mem_del.1 hg).1⟩
  · exact ⟨_, .inr ⟨hsy.trans h1, h.crash h2 ks⟩⟩
theorem Mid.do_dels : ∀ (l : List Int) {S : St}, Mid F N n ps cap starts S → l.Nodup → (∀ k ∈ l, k ≠ n ∧ ∃ g ∈ S.fs, g.n = k) → (∃ f ∈ S.fs, f.n = n ∧ f.b = rowL ps) → (∀ g ∈ S.fs, g.n = n ∨ g.n ∈ l) →
    ∃ S2, (runs (l.map (fun k S => delete S k)) S = (S2, 0) ∧ Mid F N n ps cap starts S2 ∧ S2.fs = [⟨n, rowL ps, (rowL ps).length⟩]) ∨ (runs (l.map (fun k S => delete S k)) S = (S2, 61) ∧ Dead F N ps cap S2)
  | [], S, h, _, _, ⟨f, hf, hn, hb⟩, hr => by
    refine ⟨S, .inl ⟨rfl, h, ?_⟩⟩
    have hall : ∀ g ∈ S.fs, g = f := fun g hg => rise_same h.rise hg hf (by have := (hr g hg).resolve_right (by simp); omega)
    have hf2 : f = ⟨n, rowL ps, (rowL ps).length⟩ := by
      have := h.led.sure f hf
      obtain ⟨a, b, c⟩ := f
      simp only at hn hb this
      subst hn; subst hb; subst this; rfl
    rw [← hf2]
    cases hS : S.fs with
    | nil => rw [hS] at hf; cases hf
    | cons x r =>
      rw [hS] at hall
      obtain rfl : x = f := hall x (.head _)
      cases r with
      | nil => rfl
      | cons y r =>
        obtain rfl : y = x := hall y (.tail _ (.head _))
        have := h.rise
        rw [hS] at this
        have := (List.pairwise_cons.1 this).1 y (.head _)
        omega
  | k :: l, S, h, hnd, hk, ⟨f, hf, hn, hb⟩, hr => by
    obtain ⟨hk1, hk2⟩ := hk k (.head _)
    obtain ⟨S1, ⟨h1, h2, h3⟩ | ⟨h1, h2⟩⟩ := h.do_delete hk1 hk2
    · have hnd2 := List.nodup_cons.1 hnd
      obtain ⟨S2, h4⟩ := Mid.do_dels l h2 hnd2.2 (fun j hj => ⟨(hk j (.tail _ hj)).1, by
        obtain ⟨g, hg, e⟩ := (hk j (.tail _ hj)).2
        exact ⟨g, by rw [h3]; exact mem_del.2 ⟨hg, fun e2 => hnd2.1 (by rw [← e2, e]; exact hj)⟩, e⟩⟩) ⟨f, by rw [h3]; exact mem_del.2 ⟨hf, by omega⟩, hn, hb⟩ (fun g hg => by
        rw [h3] at hg
        obtain ⟨hg, hne⟩ := mem_del.1 hg
        rcases hr g hg with h | h
        · exact .inl h
        · exact .inr ((List.mem_cons.1 h).resolve_left hne))
      refine ⟨S2, ?_⟩
      rw [List.map_cons, runs_ok (by rw [h1]), h1]
      exact h4
    · refine ⟨S1, .inr ⟨?_, h2⟩⟩
      rw [List.map_cons, runs_no (by rw [h1]; exact (by decide : ¬ (61 : Int) = 0))]
      exact h1
/-- A journal that goes on: its file alone, all of it sure. -/
structure Live (S : St) (J : Jo) (ps : List (List UInt8)) : Prop where
  fs : S.fs = [⟨J.n, rowL ps, (rowL ps).length⟩]
  up : S.down = false
  size : J.size = (rowL ps).length
  many : J.many = (ps.length : Int) - 1
  starts : J.starts = S.starts
  dead : J.dead = false
  ne : ps ≠ []
  small : ∀ x ∈ ps, x.length ≤ 65536
  n0 : 0 ≤ J.n
/-- What an Open of a disk that leads to a journal answers. -/
theorem open_led (h : Mid F N n ps cap starts S) : (∃ J S2, open_ S = ⟨S2, some J, ps.headD [], ps.tail, 0⟩ ∧ Live S2 J ps ∧ J.n = n ∧ S2.cap = cap ∧ (F → S2.fail = none)) ∨ (∃ S2, open_ S = ⟨S2, none, [], [], 61⟩ ∧ Dead F N ps cap S2) := by
  obtain ⟨f, hf, hn, hp, hpk⟩ := h.led.pick h.rise
  have hsm : ∀ x ∈ ps, x.length ≤ 65536 := by rw [← hp]; exact (front_row f.b).2.2
  have hlen : (itsAt f.b 0).length = ps.length := by rw [← hp]; unfold pays; rw [List.length_map]
  have hnd : (S.fs.map (·.n)).Nodup := by
    have : (S.fs.map (·.n)).Pairwise (· < ·) := List.pairwise_map.2 h.rise
    exact this.imp (fun h => by omega)
  have key : ∃ S2, (runs (mends (S.fs.map (·.n)) f.n (endOf (itsAt f.b 0)) f.b.length) S = (S2, 0) ∧ Mid F N n ps cap starts S2 ∧ S2.fs = [⟨n, rowL ps, (rowL ps).length⟩]) ∨ (runs (mends (S.fs.map (·.n)) f.n (endOf (itsAt f.b 0)) f.b.length) S = (S2, 61) ∧ Dead F N ps cap S2) := by
    obtain ⟨e, he⟩ : ∃ e, endOf (itsAt f.b 0) = e := ⟨_, rfl⟩
    obtain ⟨k1, k2, _⟩ := front_row f.b
    rw [he] at k1 k2
    rw [hp] at k2
    rw [hn, he]
    -- from a disk whose file has just its records
    have fin : ∀ S1 : St, Mid F N n ps cap starts S1 → S1.fs.map (·.n) = S.fs.map (·.n) → (∃ g ∈ S1.fs, g.n = n ∧ g.b = rowL ps) →
        ∃ S2, (runs ([fun S => sync S n] ++ ((S.fs.map (·.n)).filter (fun k => decide (k ≠ n))).map (fun k S => delete S k)) S1 = (S2, 0) ∧ Mid F N n ps cap starts S2 ∧ S2.fs = [⟨n, rowL ps, (rowL ps).length⟩]) ∨ (runs ([fun S => sync S n] ++ ((S.fs.map (·.n)).filter (fun k => decide (k ≠ n))).map (fun k S => delete S k)) S1 = (S2, 61) ∧ Dead F N ps cap S2) := by
      intro S1 hM hnm hx
      rw [List.singleton_append]
      obtain ⟨S2, ⟨h1, h2, h3⟩ | ⟨h1, h2⟩⟩ := hM.do_sync
      · rw [runs_ok (by rw [h1]), h1]
        refine h2.do_dels _ (hnd.filter _) (fun k hk => ?_) (by rw [h3]; exact hx) (fun g hg => ?_)
        · obtain ⟨hk1, hk2⟩ := List.mem_filter.1 hk
          refine ⟨by simpa using hk2, ?_⟩
          rw [h3]
          rw [← hnm] at hk1
          obtain ⟨g, hg, e⟩ := List.mem_map.1 hk1
          exact ⟨g, hg, e⟩
        · by_cases hgn : g.n = n
          · exact .inl hgn
          · refine .inr (List.mem_filter.2 ⟨?_, by simpa using hgn⟩)
            rw [← hnm, ← h3]
            exact List.mem_map.2 ⟨g, hg, rfl⟩
      · refine ⟨S2, .inr ⟨?_, h2⟩⟩
        rw [runs_no (by rw [h1]; exact (by decide : ¬ (61 : Int) = 0))]
        exact h1
    unfold mends
    by_cases hlt : (e : Int) < (f.b.length : Int)
    · rw [if_pos hlt, List.append_assoc, List.singleton_append]
      obtain ⟨S1, ⟨h1, h2, h3, h4⟩ | ⟨h1, h2⟩⟩ := h.do_truncate hf hn he
      · rw [runs_ok (by rw [h1]), h1]
        exact fin S1 h2 h3 h4
      · refine ⟨S1, .inr ⟨?_, h2⟩⟩
        rw [runs_no (by rw [h1]; exact (by decide : ¬ (61 : Int) = 0))]
        exact h1
    · rw [if_neg hlt, List.nil_append]
      refine fin S h rfl ⟨f, hf, hn, ?_⟩
      rw [← k2, List.take_of_length_le (by omega)]
  obtain ⟨S2, ⟨h1, h2, h3⟩ | ⟨h1, h2⟩⟩ := key
  · left
    have hn0 : 0 ≤ n := by
      have := (h.bound f hf).1
      omega
    refine ⟨⟨n, endOf (itsAt f.b 0), (ps.length : Int) - 1, S2.starts, false⟩, S2, ?_, ⟨h3, h2.up, ?_, rfl, rfl, rfl, h.led.ne, hsm, hn0⟩, rfl, h2.cap, h2.nf⟩
    · unfold open_
      rw [if_neg (by rw [h.up]; decide), hpk]
      dsimp only
      rw [h1, if_pos rfl, hlen, hp, hn]
    · have := congrArg List.length (front_row f.b).2.1
      rw [hp, List.length_take] at this
      have := (front_row f.b).1
      show ((endOf (itsAt f.b 0) : Nat) : Int) = _
      omega
  · right
    refine ⟨S2, ?_, h2⟩
    unfold open_
    rw [if_neg (by rw [h.up]; decide), hpk]
    dsimp only
    rw [h1, if_neg (show ¬ (61 : Int) = 0 by decide)]
end Go.Jn
end
section
namespace Go.Jn
open Go.Dk Go.Rc
variable {F : Prop} {N n : Int} {ps : List (List UInt8)} {cap starts : Int} {S S1 : St} {J : Jo} {x : List UInt8}
theorem cut_tail (n : Int) (b r : List UInt8) (k : Int) : ∃ j, Dk.cut k ⟨n, b ++ r, b.length⟩ = ⟨n, b ++ r.take j, (b ++ r.take j).length⟩ := by
  refine ⟨(min (max k 0) (((b ++ r).length - b.length : Nat) : Int)).toNat, ?_⟩
  obtain ⟨t, ht⟩ : ∃ t, (min (max k 0) (((b ++ r).length - b.length : Nat) : Int)).toNat = t := ⟨_, rfl⟩
  have htl : t ≤ r.length := by rw [← ht, List.length_append]; omega
  show (⟨n, (b ++ r).take (b.length + (min (max k 0) (((b ++ r).length - b.length : Nat) : Int)).toNat), b.length + (min (max k 0) (((b ++ r).length - b.length : Nat) : Int)).toNat⟩ : Fl) = _
  rw [ht]
  have e1 : (b ++ r).take (b.length + t) = b ++ r.take t := by rw [List.take_append, List.take_of_length_le (by omega)]; simp
  have e2 : b.length + t = (b ++ r.take t).length := by rw [List.length_append, List.length_take]; omega
  rw [e1, ← e2]
theorem Live.over (h : Live S J ps) : over S J = false := by simp [Jn.over, h.dead, h.up, h.starts]
theorem Live.tot (h : Live S J ps) : Dk.tot S.fs = (rowL ps).length := by rw [h.fs]; simp [Dk.tot]
theorem Live.get (h : Live S J ps) : Dk.get S.fs J.n = some ⟨J.n, rowL ps, (rowL ps).length⟩ := by rw [h.fs]; simp [Dk.get]
theorem rowL_snoc (ps : List (List UInt8)) (x : List UInt8) : rowL (ps ++ [x]) = rowL ps ++ recL x := by simp [rowL]
theorem rowL_one (x : List UInt8) : rowL [x] = recL x := by simp [rowL]
theorem small_snoc (h : ∀ y ∈ ps, y.length ≤ 65536) (hx : x.length ≤ 65536) : ∀ y ∈ ps ++ [x], y.length ≤ 65536 := by
  intro y hy
  rcases List.mem_append.1 hy with hy | hy
  · exact h y hy
  · simp at hy; subst hy; exact hx
theorem led_one {b : List UInt8} {qs : List (List UInt8)} (hp : pays b = qs) (hne : qs ≠ []) : Led [⟨n, b, b.length⟩] n qs :=
  ⟨⟨_, .head _, rfl, hp⟩, hne, fun g hg h => by simp at hg; subst hg; exact absurd h (by simp), fun g hg => by simp at hg; subst hg; rfl⟩
/-- A disk that went down while an entry was laid. -/
theorem dead_tail (hn : 0 ≤ n ∧ n ≤ N) (hs : ∀ y ∈ ps, y.length ≤ 65536) (hne : ps ≠ []) (hx : x.length ≤ 65536) (hf : S1.fs = [⟨n, rowL ps ++ recL x, (rowL ps).length⟩]) (hF : ¬ F) (ks : List Int) : ∃ qs, (qs = ps ∨ qs = ps ++ [x]) ∧ Dead F N qs S1.cap (S1.crash ks) := by
  obtain ⟨j, hj⟩ := cut_tail n (rowL ps) (recL x) (ks.headD 0)
  have e : (S1.crash ks).fs = [⟨n, rowL ps ++ (recL x).take j, (rowL ps ++ (recL x).take j).length⟩] := by
    show cuts ks S1.fs = _
    rw [hf]
    show [Dk.cut (ks.headD 0) _] = _
    rw [hj]
  have key : ∀ qs, qs ≠ [] → pays (rowL ps ++ (recL x).take j) = qs → Dead F N qs S1.cap (S1.crash ks) := fun qs h1 h2 =>
    ⟨rfl, by rw [e]; simp [Rise], ⟨n, by rw [e]; exact led_one h2 h1⟩, fun g hg => by rw [e] at hg; simp at hg; subst hg; exact hn, rfl, rfl, hF⟩
  rcases pays_part hs hx j with h | h
  · exact ⟨ps, .inl rfl, key ps hne h⟩
  · exact ⟨_, .inr rfl, key _ (by simp) h⟩
/-- Append to a journal that goes on. -/
theorem append_live (h : Live S J ps) (hN : J.n ≤ N) (hx : x.length ≤ 65536) :
    (∃ S' J', appendJ S J x = (S', J', 0) ∧ Live S' J' (ps ++ [x]) ∧ J'.n = J.n ∧ S'.cap = S.cap ∧ (S.fail = none → S'.fail = none)) ∨
    (appendJ S J x = (S, J, 60) ∧ S.cap - Dk.tot S.fs - (x.length + 8) < 70000) ∨
    (∃ S' J' qs, appendJ S J x = (S', J', 61) ∧ (qs = ps ∨ qs = ps ++ [x]) ∧ Dead (S.fail = none) N qs S.cap S') := by
  have ha : appendJ S J x = if S.cap - Dk.tot S.fs - (x.length + 8) < 70000 then (S, J, 60) else
      let y := runs [fun S => append S J.n (recL x), fun S => sync S J.n] S
      (y.1, told (if y.2 = 0 then { J with size := J.size + (x.length + 8), many := J.many + 1 } else J) y.2, y.2) := by
    unfold appendJ
    rw [h.over, if_neg (by decide), if_neg (by omega)]
  by_cases hfull : S.cap - Dk.tot S.fs - (x.length + 8) < 70000
  · exact .inr (.inl ⟨by rw [ha, if_pos hfull], hfull⟩)
  rw [if_neg hfull] at ha
  have hrl := recL_length x
  have hap : append S J.n (recL x) = chg S { S with fs := [⟨J.n, rowL ps ++ recL x, (rowL ps).length⟩] } true := by
    unfold Dk.append
    rw [if_neg (by rw [h.up]; decide), h.get]
    dsimp only
    rw [if_neg (by omega), h.fs]
    simp [upd]
  have down : ∀ S', (runs [fun S => append S J.n (recL x), fun S => sync S J.n] S) = (S', 61) → (∃ qs, (qs = ps ∨ qs = ps ++ [x]) ∧ Dead (S.fail = none) N qs S.cap S') →
      ∃ S' J' qs, appendJ S J x = (S', J', 61) ∧ (qs = ps ∨ qs = ps ++ [x]) ∧ Dead (S.fail = none) N qs S.cap S' := by
    intro S' hr ⟨qs, h1, h2⟩
    refine ⟨S', (appendJ S J x).2.1, qs, ?_, h1, h2⟩
    rw [ha]
    dsimp only
    rw [hr]
  rcases chg_or S { S with fs := [⟨J.n, rowL ps ++ recL x, (rowL ps).length⟩] } true with ⟨S2, h1, h2, h3, h4, h5, h6⟩ | ⟨ks, h1, h2⟩
  · dsimp only at h2 h3 h4 h5
    have hsy : sync S2 J.n = chg S2 { S2 with fs := [⟨J.n, rowL ps ++ recL x, (rowL ps ++ recL x).length⟩] } false := by
      unfold Dk.sync
      rw [if_neg (by rw [h3, h.up]; decide), h2]
      simp [Dk.get, upd]
    rcases chg_or S2 { S2 with fs := [⟨J.n, rowL ps ++ recL x, (rowL ps ++ recL x).length⟩] } false with ⟨S3, g1, g2, g3, g4, g5, g6⟩ | ⟨ks, g1, g2⟩
    · dsimp only at g2 g3 g4 g5
      have hr : runs [fun S => append S J.n (recL x), fun S => sync S J.n] S = (S3, 0) := by
        rw [runs_ok (by rw [hap, h1]), hap, h1, runs_ok (by rw [hsy, g1]), hsy, g1, runs_nil]
      left
      refine ⟨S3, told { J with size := J.size + (x.length + 8), many := J.many + 1 } 0, by rw [ha]; dsimp only; rw [hr]; rfl, ?_, rfl, g4.trans h4, fun hf => g6 (h6 hf hf) (h6 hf hf)⟩
      refine ⟨by rw [rowL_snoc]; exact g2, g3.trans (h3.trans h.up), ?_, ?_, ?_, ?_, by simp, small_snoc h.small hx, h.n0⟩
      · show J.size + ((x.length : Int) + 8) = _
        rw [rowL_snoc, List.length_append, hrl, h.size]; omega
      · show J.many + 1 = _
        rw [h.many, List.length_append, List.length_singleton]; omega
      · show J.starts = S3.starts
        rw [g5, h5, h.starts]
      · show (J.dead || decide ((0 : Int) = 61)) = false
        rw [h.dead]; rfl
    · rw [if_neg (by decide)] at g1
      refine .inr (.inr (down (S2.crash ks) (by rw [runs_ok (by rw [hap, h1]), hap, h1, runs_no (by rw [hsy, g1]; exact (by decide : ¬ (61 : Int) = 0)), hsy, g1]) ?_))
      have := dead_tail (S1 := S2) (F := S.fail = none) ⟨h.n0, hN⟩ h.small h.ne hx h2 (fun hf => g2 (h6 hf hf)) ks
      rwa [h4] at this
  · rw [if_pos rfl] at h1
    refine .inr (.inr (down _ (by rw [runs_no (by rw [hap, h1]; exact (by decide : ¬ (61 : Int) = 0)), hap, h1]) ?_))
    exact dead_tail (S1 := { S with fs := [⟨J.n, rowL ps ++ recL x, (rowL ps).length⟩] }) (F := S.fail = none) ⟨h.n0, hN⟩ h.small h.ne hx rfl h2 ks
end Go.Jn
end
section
namespace Go.Jn
open Go.Dk Go.Rc
variable {F : Prop} {N n : Int} {ps : List (List UInt8)} {cap starts : Int} {S S1 : St} {J : Jo} {x : List UInt8}
/-- Two files, the first one whole; what a crash leaves. -/
theorem dead_two (hn : 0 ≤ n ∧ n + 1 ≤ N) (hs : ∀ y ∈ ps, y.length ≤ 65536) (hne : ps ≠ []) (hx : x.length ≤ 65536) {s : Nat} (hs2 : s = 0 ∨ s = (recL x).length) {r : List UInt8} (hr : r = [] ∧ s = 0 ∨ r = recL x) (hf : S1.fs = [⟨n, rowL ps, (rowL ps).length⟩, ⟨n + 1, r, s⟩]) (hF : ¬ F) (ks : List Int) :
    ∃ qs, (qs = ps ∨ qs = [x]) ∧ Dead F N qs S1.cap (S1.crash ks) := by
  have hc : ∃ j, Dk.cut (ks.tail.headD 0) ⟨n + 1, r, s⟩ = ⟨n + 1, (recL x).take j, ((recL x).take j).length⟩ := by
    rcases hr with ⟨rfl, rfl⟩ | rfl
    · exact ⟨0, by rw [cut_sure (by rfl)]; simp⟩
    · rcases hs2 with rfl | rfl
      · obtain ⟨j, hj⟩ := cut_tail (n + 1) [] (recL x) (ks.tail.headD 0)
        exact ⟨j, by simpa using hj⟩
      · exact ⟨(recL x).length, by rw [cut_sure (by rfl)]; simp⟩
  obtain ⟨j, hj⟩ := hc
  have e : (S1.crash ks).fs = [⟨n, rowL ps, (rowL ps).length⟩, ⟨n + 1, (recL x).take j, ((recL x).take j).length⟩] := by
    show cuts ks S1.fs = _
    rw [hf]
    show [Dk.cut (ks.headD 0) _, Dk.cut (ks.tail.headD 0) _] = _
    rw [hj, cut_sure (by rfl)]
  have hrise : Rise (S1.crash ks).fs := by rw [e]; simp [Rise]; omega
  have hbound : ∀ g ∈ (S1.crash ks).fs, 0 ≤ g.n ∧ g.n ≤ N := fun g hg => by
    rw [e] at hg
    simp only [List.mem_cons, List.not_mem_nil, or_false] at hg
    rcases hg with rfl | rfl
    · dsimp only; omega
    · dsimp only; omega
  have hsure : AllSure (S1.crash ks).fs := fun g hg => by
    rw [e] at hg
    simp only [List.mem_cons, List.not_mem_nil, or_false] at hg
    rcases hg with rfl | rfl
    · rfl
    · rfl
  rcases pays_first hx j with h | h
  · refine ⟨ps, .inl rfl, rfl, hrise, ⟨n, ?_, hne, fun g hg hlt => ?_, hsure⟩, hbound, rfl, rfl, hF⟩
    · rw [e]; exact ⟨_, .head _, rfl, (pays_whole hs).1⟩
    · rw [e] at hg
      simp only [List.mem_cons, List.not_mem_nil, or_false] at hg
      rcases hg with rfl | rfl
      · exact absurd hlt (by simp)
      · exact h
  · refine ⟨[x], .inr rfl, rfl, hrise, ⟨n + 1, ?_, by simp, fun g hg hlt => ?_, hsure⟩, hbound, rfl, rfl, hF⟩
    · rw [e]; exact ⟨_, .tail _ (.head _), rfl, h⟩
    · rw [e] at hg
      simp only [List.mem_cons, List.not_mem_nil, or_false] at hg
      rcases hg with rfl | rfl
      · dsimp only at hlt; omega
      · exact absurd hlt (by simp)
/-- Compact of a journal that goes on. -/
theorem compact_live (h : Live S J ps) (hN : J.n + 1 ≤ N) (hx : x.length ≤ 65536) :
    (∃ S' J', compactJ S J x = (S', J', 0) ∧ Live S' J' [x] ∧ J'.n = J.n + 1 ∧ S'.cap = S.cap ∧ (S.fail = none → S'.fail = none)) ∨
    (compactJ S J x = (S, J, 60) ∧ S.cap - Dk.tot S.fs < x.length + 8) ∨
    (∃ S' J' qs, compactJ S J x = (S', J', 61) ∧ (qs = ps ∨ qs = [x]) ∧ Dead (S.fail = none) N qs S.cap S') := by
  have ha : compactJ S J x = if S.cap - Dk.tot S.fs < x.length + 8 then (S, J, 60) else
      let y := runs (lays (J.n + 1) (recL x)) S
      if y.2 ≠ 0 then (y.1, told J y.2, y.2) else
        let z := delete y.1 J.n
        (z.1, told { J with n := J.n + 1, size := x.length + 8, many := 0 } z.2, z.2) := by
    unfold compactJ
    rw [h.over, if_neg (by decide), if_neg (by omega)]
  by_cases hfull : S.cap - Dk.tot S.fs < x.length + 8
  · exact .inr (.inl ⟨by rw [ha, if_pos hfull], hfull⟩)
  rw [if_neg hfull] at ha
  have hrl := recL_length x
  have hn0 := h.n0
  have htot := h.tot
  have hne1 : ¬ J.n = J.n + 1 := by omega
  have hne2 : ¬ J.n + 1 = J.n := by omega
  have hlt1 : ¬ J.n + 1 < J.n := by omega
  have down : ∀ S', (∃ J', compactJ S J x = (S', J', 61)) → (∃ qs, (qs = ps ∨ qs = [x]) ∧ Dead (S.fail = none) N qs S.cap S') →
      ∃ S' J' qs, compactJ S J x = (S', J', 61) ∧ (qs = ps ∨ qs = [x]) ∧ Dead (S.fail = none) N qs S.cap S' :=
    fun S' ⟨J', hr⟩ ⟨qs, h1, h2⟩ => ⟨S', J', qs, hr, h1, h2⟩
  have laid : ∀ S', runs (lays (J.n + 1) (recL x)) S = (S', 61) → ∃ J', compactJ S J x = (S', J', 61) := fun S' hr => by
    refine ⟨told J 61, ?_⟩
    rw [ha]
    dsimp only
    rw [hr, if_pos (by simp)]
  have hcr : create S (J.n + 1) = chg S { S with fs := [⟨J.n, rowL ps, (rowL ps).length⟩, ⟨J.n + 1, [], 0⟩] } false := by
    unfold Dk.create
    rw [if_neg (by rw [h.up]; decide), if_neg (by omega), show Dk.get S.fs (J.n + 1) = none by rw [h.fs]; simp [Dk.get, hne1]]
    dsimp only
    rw [if_neg (by rw [h.fs]; simp), h.fs]
    simp [ins, hlt1]
  rcases chg_or S { S with fs := [⟨J.n, rowL ps, (rowL ps).length⟩, ⟨J.n + 1, [], 0⟩] } false with ⟨S2, h1, h2, h3, h4, h5, h6⟩ | ⟨ks, h1, h2⟩
  · dsimp only at h2 h3 h4 h5
    have hap : append S2 (J.n + 1) (recL x) = chg S2 { S2 with fs := [⟨J.n, rowL ps, (rowL ps).length⟩, ⟨J.n + 1, recL x, 0⟩] } true := by
      unfold Dk.append
      rw [if_neg (by rw [h3, h.up]; decide), show Dk.get S2.fs (J.n + 1) = some ⟨J.n + 1, [], 0⟩ by rw [h2]; simp [Dk.get, hne1]]
      dsimp only
      rw [if_neg (by rw [h2, h4]; simp only [Dk.tot, List.length_nil]; omega), h2]
      simp [upd, hne1]
    rcases chg_or S2 { S2 with fs := [⟨J.n, rowL ps, (rowL ps).length⟩, ⟨J.n + 1, recL x, 0⟩] } true with ⟨S3, g1, g2, g3, g4, g5, g6⟩ | ⟨ks, g1, g2⟩
    · dsimp only at g2 g3 g4 g5
      have hsy : sync S3 (J.n + 1) = chg S3 { S3 with fs := [⟨J.n, rowL ps, (rowL ps).length⟩, ⟨J.n + 1, recL x, (recL x).length⟩] } false := by
        unfold Dk.sync
        rw [if_neg (by rw [g3, h3, h.up]; decide), show Dk.get S3.fs (J.n + 1) = some ⟨J.n + 1, recL x, 0⟩ by rw [g2]; simp [Dk.get, hne1]]
        dsimp only
        rw [g2]
        simp [upd, hne1]
      rcases chg_or S3 { S3 with fs := [⟨J.n, rowL ps, (rowL ps).length⟩, ⟨J.n + 1, recL x, (recL x).length⟩] } false with ⟨S4, k1, k2, k3, k4, k5, k6⟩ | ⟨ks, k1, k2⟩
      · dsimp only at k2 k3 k4 k5
        have hr : runs (lays (J.n + 1) (recL x)) S = (S4, 0) := by
          unfold lays
          rw [runs_ok (by rw [hcr, h1]), hcr, h1, runs_ok (by rw [hap, g1]), hap, g1, runs_ok (by rw [hsy, k1]), hsy, k1, runs_nil]
        have hdl : delete S4 J.n = chg S4 { S4 with fs := [⟨J.n + 1, recL x, (recL x).length⟩] } false := by
          unfold Dk.delete
          rw [if_neg (by rw [k3, g3, h3, h.up]; decide), show Dk.get S4.fs J.n = some ⟨J.n, rowL ps, (rowL ps).length⟩ by rw [k2]; simp [Dk.get]]
          dsimp only
          rw [k2]
          simp [del, hne2]
        rcases chg_or S4 { S4 with fs := [⟨J.n + 1, recL x, (recL x).length⟩] } false with ⟨S5, m1, m2, m3, m4, m5, m6⟩ | ⟨ks, m1, m2⟩
        · dsimp only at m2 m3 m4 m5
          left
          refine ⟨S5, told { J with n := J.n + 1, size := x.length + 8, many := 0 } 0, ?_, ?_, rfl, m4.trans (k4.trans (g4.trans h4)), fun hf => m6 (k6 (g6 (h6 hf hf) (h6 hf hf)) (g6 (h6 hf hf) (h6 hf hf))) (k6 (g6 (h6 hf hf) (h6 hf hf)) (g6 (h6 hf hf) (h6 hf hf)))⟩
          · rw [ha]
            dsimp only
            rw [hr, if_neg (by simp), hdl, m1]
          · refine ⟨by rw [rowL_one]; exact m2, m3.trans (k3.trans (g3.trans (h3.trans h.up))), ?_, rfl, ?_, ?_, by simp, ?_, ?_⟩
            · show ((x.length : Int) + 8) = _
              rw [rowL_one, hrl]; omega
            · show J.starts = S5.starts
              rw [m5, k5, g5, h5, h.starts]
            · show (J.dead || decide ((0 : Int) = 61)) = false
              rw [h.dead]; rfl
            · intro y hy; simp at hy; subst hy; exact hx
            · show 0 ≤ J.n + 1; omega
        · rw [if_neg (by decide)] at m1
          refine .inr (.inr (down (S4.crash ks) ⟨told { J with n := J.n + 1, size := x.length + 8, many := 0 } 61, ?_⟩ ?_))
          · rw [ha]
            dsimp only
            rw [hr, if_neg (by simp), hdl, m1]
          · have := dead_two (S1 := S4) (F := S.fail = none) ⟨hn0, hN⟩ h.small h.ne hx (.inr rfl) (.inr rfl) k2 (fun hf => m2 (k6 (g6 (h6 hf hf) (h6 hf hf)) (g6 (h6 hf hf) (h6 hf hf)))) ks
            rwa [k4, g4, h4] at this
      · rw [if_neg (by decide)] at k1
        refine .inr (.inr (down (S3.crash ks) (laid _ (by
          unfold lays
          rw [runs_ok (by rw [hcr, h1]), hcr, h1, runs_ok (by rw [hap, g1]), hap, g1, runs_no (by rw [hsy, k1]; exact (by decide : ¬ (61 : Int) = 0)), hsy, k1])) ?_))
        have := dead_two (S1 := S3) (F := S.fail = none) ⟨hn0, hN⟩ h.small h.ne hx (.inl rfl) (.inr rfl) g2 (fun hf => k2 (g6 (h6 hf hf) (h6 hf hf))) ks
        rwa [g4, h4] at this
    · rw [if_pos rfl] at g1
      refine .inr (.inr (down _ (laid _ (by
        unfold lays
        rw [runs_ok (by rw [hcr, h1]), hcr, h1, runs_no (by rw [hap, g1]; exact (by decide : ¬ (61 : Int) = 0)), hap, g1])) ?_))
      have := dead_two (S1 := { S2 with fs := [⟨J.n, rowL ps, (rowL ps).length⟩, ⟨J.n + 1, recL x, 0⟩] }) (F := S.fail = none) ⟨hn0, hN⟩ h.small h.ne hx (.inl rfl) (.inr rfl) rfl (fun hf => g2 (h6 hf hf)) ks
      dsimp only at this
      rw [← h4]
      exact this
  · rw [if_neg (by decide)] at h1
    refine .inr (.inr (down _ (laid _ (by
      unfold lays
      rw [runs_no (by rw [hcr, h1]; exact (by decide : ¬ (61 : Int) = 0)), hcr, h1])) ?_))
    refine ⟨ps, .inl rfl, rfl, ?_, ⟨J.n, ?_⟩, ?_, rfl, rfl, fun hf => h2 hf⟩
    all_goals rw [show (S.crash ks).fs = [⟨J.n, rowL ps, (rowL ps).length⟩] by show cuts ks S.fs = _; rw [h.fs]; show [Dk.cut (ks.headD 0) _] = _; rw [cut_sure (by rfl)]]
    · simp [Rise]
    · exact led_one (pays_whole h.small).1 h.ne
    · intro g hg; simp at hg; subst hg; exact ⟨hn0, by show J.n ≤ N; omega⟩
/-- The journal of a disk without files. -/
theorem open_fresh {cap : Int} (hc : 8 ≤ cap) : ∃ S2 J, open_ ⟨cap, [], false, 0, none⟩ = ⟨S2, some J, [], [], 0⟩ ∧ Live S2 J [[]] ∧ J.n = 0 ∧ S2.cap = cap ∧ S2.fail = none ∧ S2.starts = 0 := by
  have hl8 : (recL []).length = 8 := recL_length []
  have hfr : fresh ⟨cap, [], false, 0, none⟩ = (⟨cap, [⟨0, recL [], (recL []).length⟩], false, 0, none⟩, 0) := by
    unfold fresh
    rw [if_pos rfl, List.nil_append]
    unfold lays
    have e1 : create ⟨cap, [], false, 0, none⟩ 0 = (⟨cap, [⟨0, [], 0⟩], false, 0, none⟩, 0) := by simp [Dk.create, Dk.get, chg, ins]
    have e2 : append ⟨cap, [⟨0, [], 0⟩], false, 0, none⟩ 0 (recL []) = (⟨cap, [⟨0, recL [], 0⟩], false, 0, none⟩, 0) := by
      unfold Dk.append
      rw [if_neg (by simp)]
      simp only [Dk.get, if_true]
      rw [if_neg (by rw [hl8]; simp [Dk.tot]; omega)]
      simp [chg, upd]
    have e3 : sync ⟨cap, [⟨0, recL [], 0⟩], false, 0, none⟩ 0 = (⟨cap, [⟨0, recL [], (recL []).length⟩], false, 0, none⟩, 0) := by simp [Dk.sync, Dk.get, chg, upd]
    rw [runs_ok (by rw [e1]), e1, runs_ok (by rw [e2]), e2, runs_ok (by rw [e3]), e3, runs_nil]
  refine ⟨⟨cap, [⟨0, recL [], (recL []).length⟩], false, 0, none⟩, ⟨0, 8, 0, 0, false⟩, ?_, ⟨by rw [rowL_one], rfl, by rw [rowL_one, hl8]; rfl, rfl, rfl, rfl, by simp, by intro y hy; simp at hy; subst hy; decide, Int.le_refl _⟩, rfl, rfl, rfl, rfl⟩
  unfold open_
  rw [if_neg (by simp)]
  show (if _ then _ else _) = _
  rw [if_neg (by simp)]
  dsimp only
  rw [hfr, if_pos rfl]
end Go.Jn
end
