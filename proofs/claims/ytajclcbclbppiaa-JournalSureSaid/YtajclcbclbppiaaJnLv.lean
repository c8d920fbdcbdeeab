/-
  The journal's plain laws: an Open leads to what the disk leads to; Append, Compact.
-/
import Derived.Test.YtajclcbclbppiaaJnLw
namespace Go.Jn
open Go.Dk Go.Rc
theorem upd_self {f : Fl} : ∀ {l : List Fl}, Rise l → f ∈ l → upd f l = l := by
  intro l hr hf
  unfold upd
  conv => rhs; rw [← List.map_id l]
  refine List.map_congr_left fun g hg => ?_
  show (if g.n = f.n then f else g) = g
  split
  · rename_i h; exact (rise_same hr hg hf h).symm
  · rfl
theorem mem_upd_self {f f' : Fl} {l : List Fl} (hf : f ∈ l) (hn : f.n = f'.n) : f' ∈ upd f' l := List.mem_map.2 ⟨f, hf, if_pos hn⟩
theorem mem_upd_other {f' g : Fl} {l : List Fl} (hg : g ∈ l) (hn : g.n ≠ f'.n) : g ∈ upd f' l := List.mem_map.2 ⟨g, hg, if_neg hn⟩
/-- A disk that is up, and leads to a journal. -/
structure Mid (F : Prop) (N n : Int) (ps : List (List UInt8)) (cap starts : Int) (S : St) : Prop where
  up : S.down = false
  rise : Rise S.fs
  led : Led S.fs n ps
  bound : ∀ g ∈ S.fs, 0 ≤ g.n ∧ g.n ≤ N
  cap : S.cap = cap
  starts : S.starts = starts
  nf : F → S.fail = none
/-- A disk that went down, and leads to a journal. -/
structure Dead (F : Prop) (N : Int) (ps : List (List UInt8)) (cap : Int) (S : St) : Prop where
  down : S.down = true
  rise : Rise S.fs
  led : ∃ n, Led S.fs n ps
  bound : ∀ g ∈ S.fs, 0 ≤ g.n ∧ g.n ≤ N
  cap : S.cap = cap
  fail : S.fail = none
  nf : ¬ F
variable {F : Prop} {N n : Int} {ps : List (List UInt8)} {cap starts : Int} {S S1 : St}
theorem Mid.get (h : Mid F N n ps cap starts S) : ∃ f, f ∈ S.fs ∧ f.n = n ∧ pays f.b = ps ∧ Dk.get S.fs n = some f := by
  obtain ⟨f, hf, hn, hp⟩ := h.led.file
  exact ⟨f, hf, hn, hp, by rw [← hn]; exact get_of_mem h.rise hf⟩
theorem Mid.crash (h : Mid F N n ps cap starts S) (hx : S.fail ≠ none) (ks : List Int) : Dead F N ps cap (S.crash ks) := by
  have e : (S.crash ks).fs = S.fs := cuts_sure ks h.led.sure
  exact ⟨rfl, by rw [e]; exact h.rise, ⟨n, h.led.crash ks⟩, by rw [e]; exact h.bound, h.cap, rfl, fun hf => hx (h.nf hf)⟩
theorem Mid.do_sync (h : Mid F N n ps cap starts S) : ∃ S2, (sync S n = (S2, 0) ∧ Mid F N n ps cap starts S2 ∧ S2.fs = S.fs) ∨ (sync S n = (S2, 61) ∧ Dead F N ps cap S2) := by
  obtain ⟨f, hf, hn, hp, hg⟩ := h.get
  have hs := h.led.sure f hf
  have hu : upd ⟨f.n, f.b, f.b.length⟩ S.fs = S.fs := by
    have : (⟨f.n, f.b, f.b.length⟩ : Fl) = f := by rw [← hs]
    rw [this]; exact upd_self h.rise hf
  have hsy : sync S n = chg S { S with fs := S.fs } false := by
    unfold Dk.sync
    rw [if_neg (by rw [h.up]; decide), hg]
    dsimp only
    rw [hu]
  rcases chg_or S { S with fs := S.fs } false with ⟨S2, h1, h2, h3, h4, h5, h6⟩ | ⟨ks, h1, h2⟩
  · exact ⟨S2, .inl ⟨hsy.trans h1, ⟨h3.trans h.up, by rw [h2]; exact h.rise, by rw [h2]; exact h.led, by rw [h2]; exact h.bound, h4.trans h.cap, h5.trans h.starts, fun hF => h6 (h.nf hF) (h.nf hF)⟩, h2⟩⟩
  · exact ⟨_, .inr ⟨hsy.trans h1, h.crash h2 ks⟩⟩
theorem Mid.do_truncate (h : Mid F N n ps cap starts S) {f : Fl} (hf : f ∈ S.fs) (hn : f.n = n) {e : Nat} (he : endOf (itsAt f.b 0) = e) : ∃ S2, (truncate S n e = (S2, 0) ∧ Mid F N n ps cap starts S2 ∧ S2.fs.map (·.n) = S.fs.map (·.n) ∧ ∃ g ∈ S2.fs, g.n = n ∧ g.b = rowL ps) ∨ (truncate S n e = (S2, 61) ∧ Dead F N ps cap S2) := by
  obtain ⟨f', hf', hn', hp', hg⟩ := h.get
  obtain rfl : f' = f := rise_same h.rise hf' hf (by omega)
  have hs := h.led.sure f' hf
  obtain ⟨k1, k2, k3⟩ := front_row f'.b
  rw [he] at k1 k2
  rw [hp'] at k2 k3
  have hsy : truncate S n e = chg S { S with fs := upd ⟨f'.n, f'.b.take e, min f'.s e⟩ S.fs } false := by
    simp only [Dk.truncate, h.up, hg, Int.toNat_natCast]
    rw [if_neg (by simp), if_neg (by omega)]
  have hm : min f'.s e = (f'.b.take e).length := by rw [List.length_take]; omega
  rcases chg_or S { S with fs := upd ⟨f'.n, f'.b.take e, min f'.s e⟩ S.fs } false with ⟨S2, h1, h2, h3, h4, h5, h6⟩ | ⟨ks, h1, h2⟩
  · dsimp only at h2
    refine ⟨S2, .inl ⟨hsy.trans h1, ⟨h3.trans h.up, by rw [h2]; exact rise_upd h.rise, ?_, ?_, h4.trans h.cap, h5.trans h.starts, fun hF => h6 (h.nf hF) (h.nf hF)⟩, by rw [h2, names_upd], ⟨(⟨f'.n, f'.b.take e, min f'.s e⟩ : Fl), by rw [h2]; exact mem_upd_self hf rfl, hn, k2⟩⟩⟩
    · rw [h2]
      refine ⟨⟨(⟨f'.n, f'.b.take e, min f'.s e⟩ : Fl), mem_upd_self hf rfl, hn, by show pays (f'.b.take e) = ps; rw [k2]; exact (pays_whole k3).1⟩, h.led.ne, fun g hg hlt => ?_, fun g hg => ?_⟩
      · rcases mem_upd hg with ⟨rfl, _⟩ | ⟨hg, _⟩
        · have : n < f'.n := hlt; omega
        · exact h.led.last g hg hlt
      · rcases mem_upd hg with ⟨rfl, _⟩ | ⟨hg, _⟩
        · exact hm
        · exact h.led.sure g hg
    · rw [h2]
      intro g hg
      rcases mem_upd hg with ⟨rfl, _⟩ | ⟨hg, _⟩
      · exact h.bound f' hf
      · exact h.bound g hg
  · exact ⟨_, .inr ⟨hsy.trans h1, h.crash h2 ks⟩⟩
theorem Mid.do_delete (h : Mid F N n ps cap starts S) {k : Int} (hk : k ≠ n) (hm : ∃ g ∈ S.fs, g.n = k) : ∃ S2, (delete S k = (S2, 0) ∧ Mid F N n ps cap starts S2 ∧ S2.fs = del k S.fs) ∨ (delete S k = (S2, 61) ∧ Dead F N ps cap S2) := by
  obtain ⟨g, hg, hgn⟩ := hm
  have hget : Dk.get S.fs k = some g := by rw [← hgn]; exact get_of_mem h.rise hg
  have hsy : delete S k = chg S { S with fs := del k S.fs } false := by simp only [Dk.delete, h.up, hget]; simp
  rcases chg_or S { S with fs := del k S.fs } false with ⟨S2, h1, h2, h3, h4, h5, h6⟩ | ⟨ks, h1, h2⟩
  · dsimp only at h2
    refine ⟨S2, .inl ⟨hsy.trans h1, ⟨h3.trans h.up, by rw [h2]; exact rise_del h.rise, ?_, by rw [h2]; exact fun g hg => h.bound g (mem_del.1 hg).1, h4.trans h.cap, h5.trans h.starts, fun hF => h6 (h.nf hF) (h.nf hF)⟩, h2⟩⟩
    rw [h2]
    obtain ⟨f, hf, hn, hp⟩ := h.led.file
    exact ⟨⟨f, mem_del.2 ⟨hf, by omega⟩, hn, hp⟩, h.led.ne, fun g hg => h.led.last g (mem_del.1 hg).1, fun g hg => h.led.sure g (mem_del.1 hg).1⟩
  · exact ⟨_, .inr ⟨hsy.trans h1, h.crash h2 ks⟩⟩
theorem Mid.do_dels : ∀ (l : List Int) {S : St}, Mid F N n ps cap starts S → l.Nodup → (∀ k ∈ l, k ≠ n ∧ ∃ g ∈ S.fs, g.n = k) → (∃ f ∈ S.fs, f.n = n ∧ f.b = rowL ps) → (∀ g ∈ S.fs, g.n = n ∨ g.n ∈ l) →
    ∃ S2, (runs (l.map (fun k S => delete S k)) S = (S2, 0) ∧ Mid F N n ps cap starts S2 ∧ S2.fs = [⟨n, rowL ps, (rowL ps).length⟩]) ∨ (runs (l.map (fun k S => delete S k)) S = (S2, 61) ∧ Dead F N ps cap S2)
  | [], S, h, _, _, ⟨f, hf, hn, hb⟩, hr => by
    refine ⟨S, .inl ⟨rfl, h, ?_⟩⟩
    have hall : ∀ g ∈ S.fs, g = f := fun g hg => rise_same h.rise hg hf (by have := (hr g hg).resolve_right (by simp); omega)
    have hf2 : f = ⟨n, rowL ps, (rowL ps).length⟩ := by
      have := h.led.sure f hf
      obtain ⟨a, b, c⟩ := f
      simp only at hn hb this
      subst hn; subst hb; subst this; rfl
    rw [← hf2]
    cases hS : S.fs with
    | nil => rw [hS] at hf; cases hf
    | cons x r =>
      rw [hS] at hall
      obtain rfl : x = f := hall x (.head _)
      cases r with
      | nil => rfl
      | cons y r =>
        obtain rfl : y = x := hall y (.tail _ (.head _))
        have := h.rise
        rw [hS] at this
        have := (List.pairwise_cons.1 this).1 y (.head _)
        omega
  | k :: l, S, h, hnd, hk, ⟨f, hf, hn, hb⟩, hr => by
    obtain ⟨hk1, hk2⟩ := hk k (.head _)
    obtain ⟨S1, ⟨h1, h2, h3⟩ | ⟨h1, h2⟩⟩ := h.do_delete hk1 hk2
    · have hnd2 := List.nodup_cons.1 hnd
      obtain ⟨S2, h4⟩ := Mid.do_dels l h2 hnd2.2 (fun j hj => ⟨(hk j (.tail _ hj)).1, by
        obtain ⟨g, hg, e⟩ := (hk j (.tail _ hj)).2
        exact ⟨g, by rw [h3]; exact mem_del.2 ⟨hg, fun e2 => hnd2.1 (by rw [← e2, e]; exact hj)⟩, e⟩⟩) ⟨f, by rw [h3]; exact mem_del.2 ⟨hf, by omega⟩, hn, hb⟩ (fun g hg => by
        rw [h3] at hg
        obtain ⟨hg, hne⟩ := mem_del.1 hg
        rcases hr g hg with h | h
        · exact .inl h
        · exact .inr ((List.mem_cons.1 h).resolve_left hne))
      refine ⟨S2, ?_⟩
      rw [List.map_cons, runs_ok (by rw [h1]), h1]
      exact h4
    · refine ⟨S1, .inr ⟨?_, h2⟩⟩
      rw [List.map_cons, runs_no (by rw [h1]; exact (by decide : ¬ (61 : Int) = 0))]
      exact h1
/-- A journal that goes on: its file alone, all of it sure. -/
structure Live (S : St) (J : Jo) (ps : List (List UInt8)) : Prop where
  fs : S.fs = [⟨J.n, rowL ps, (rowL ps).length⟩]
  up : S.down = false
  size : J.size = (rowL ps).length
  many : J.many = (ps.length : Int) - 1
  starts : J.starts = S.starts
  dead : J.dead = false
  ne : ps ≠ []
  small : ∀ x ∈ ps, x.length ≤ 65536
  n0 : 0 ≤ J.n
/-- What an Open of a disk that leads to a journal answers. -/
theorem open_led (h : Mid F N n ps cap starts S) : (∃ J S2, open_ S = ⟨S2, some J, ps.headD [], ps.tail, 0⟩ ∧ Live S2 J ps ∧ J.n = n ∧ S2.cap = cap ∧ (F → S2.fail = none)) ∨ (∃ S2, open_ S = ⟨S2, none, [], [], 61⟩ ∧ Dead F N ps cap S2) := by
  obtain ⟨f, hf, hn, hp, hpk⟩ := h.led.pick h.rise
  have hsm : ∀ x ∈ ps, x.length ≤ 65536 := by rw [← hp]; exact (front_row f.b).2.2
  have hlen : (itsAt f.b 0).length = ps.length := by rw [← hp]; unfold pays; rw [List.length_map]
  have hnd : (S.fs.map (·.n)).Nodup := by
    have : (S.fs.map (·.n)).Pairwise (· < ·) := List.pairwise_map.2 h.rise
    exact this.imp (fun h => by omega)
  have key : ∃ S2, (runs (mends (S.fs.map (·.n)) f.n (endOf (itsAt f.b 0)) f.b.length) S = (S2, 0) ∧ Mid F N n ps cap starts S2 ∧ S2.fs = [⟨n, rowL ps, (rowL ps).length⟩]) ∨ (runs (mends (S.fs.map (·.n)) f.n (endOf (itsAt f.b 0)) f.b.length) S = (S2, 61) ∧ Dead F N ps cap S2) := by
    obtain ⟨e, he⟩ : ∃ e, endOf (itsAt f.b 0) = e := ⟨_, rfl⟩
    obtain ⟨k1, k2, _⟩ := front_row f.b
    rw [he] at k1 k2
    rw [hp] at k2
    rw [hn, he]
    -- from a disk whose file has just its records
    have fin : ∀ S1 : St, Mid F N n ps cap starts S1 → S1.fs.map (·.n) = S.fs.map (·.n) → (∃ g ∈ S1.fs, g.n = n ∧ g.b = rowL ps) →
        ∃ S2, (runs ([fun S => sync S n] ++ ((S.fs.map (·.n)).filter (fun k => decide (k ≠ n))).map (fun k S => delete S k)) S1 = (S2, 0) ∧ Mid F N n ps cap starts S2 ∧ S2.fs = [⟨n, rowL ps, (rowL ps).length⟩]) ∨ (runs ([fun S => sync S n] ++ ((S.fs.map (·.n)).filter (fun k => decide (k ≠ n))).map (fun k S => delete S k)) S1 = (S2, 61) ∧ Dead F N ps cap S2) := by
      intro S1 hM hnm hx
      rw [List.singleton_append]
      obtain ⟨S2, ⟨h1, h2, h3⟩ | ⟨h1, h2⟩⟩ := hM.do_sync
      · rw [runs_ok (by rw [h1]), h1]
        refine h2.do_dels _ (hnd.filter _) (fun k hk => ?_) (by rw [h3]; exact hx) (fun g hg => ?_)
        · obtain ⟨hk1, hk2⟩ := List.mem_filter.1 hk
          refine ⟨by simpa using hk2, ?_⟩
          rw [h3]
          rw [← hnm] at hk1
          obtain ⟨g, hg, e⟩ := List.mem_map.1 hk1
          exact ⟨g, hg, e⟩
        · by_cases hgn : g.n = n
          · exact .inl hgn
          · refine .inr (List.mem_filter.2 ⟨?_, by simpa using hgn⟩)
            rw [← hnm, ← h3]
            exact List.mem_map.2 ⟨g, hg, rfl⟩
      · refine ⟨S2, .inr ⟨?_, h2⟩⟩
        rw [runs_no (by rw [h1]; exact (by decide : ¬ (61 : Int) = 0))]
        exact h1
    unfold mends
    by_cases hlt : (e : Int) < (f.b.length : Int)
    · rw [if_pos hlt, List.append_assoc, List.singleton_append]
      obtain ⟨S1, ⟨h1, h2, h3, h4⟩ | ⟨h1, h2⟩⟩ := h.do_truncate hf hn he
      · rw [runs_ok (by rw [h1]), h1]
        exact fin S1 h2 h3 h4
      · refine ⟨S1, .inr ⟨?_, h2⟩⟩
        rw [runs_no (by rw [h1]; exact (by decide : ¬ (61 : Int) = 0))]
        exact h1
    · rw [if_neg hlt, List.nil_append]
      refine fin S h rfl ⟨f, hf, hn, ?_⟩
      rw [← k2, List.take_of_length_le (by omega)]
  obtain ⟨S2, ⟨h1, h2, h3⟩ | ⟨h1, h2⟩⟩ := key
  · left
    have hn0 : 0 ≤ n := by
      have := (h.bound f hf).1
      omega
    refine ⟨⟨n, endOf (itsAt f.b 0), (ps.length : Int) - 1, S2.starts, false⟩, S2, ?_, ⟨h3, h2.up, ?_, rfl, rfl, rfl, h.led.ne, hsm, hn0⟩, rfl, h2.cap, h2.nf⟩
    · unfold open_
      rw [if_neg (by rw [h.up]; decide), hpk]
      dsimp only
      rw [h1, if_pos rfl, hlen, hp, hn]
    · have := congrArg List.length (front_row f.b).2.1
      rw [hp, List.length_take] at this
      have := (front_row f.b).1
      show ((endOf (itsAt f.b 0) : Nat) : Int) = _
      omega
  · right
    refine ⟨S2, ?_, h2⟩
    unfold open_
    rw [if_neg (by rw [h.up]; decide), hpk]
    dsimp only
    rw [h1, if_neg (show ¬ (61 : Int) = 0 by decide)]
end Go.Jn
