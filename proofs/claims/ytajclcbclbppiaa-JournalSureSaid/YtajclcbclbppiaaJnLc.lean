/-
  The journal's plain laws: Compact; the journal of a disk without files.
-/
import Derived.Test.YtajclcbclbppiaaJnLa
namespace Go.Jn
open Go.Dk Go.Rc
variable {F : Prop} {N n : Int} {ps : List (List UInt8)} {cap starts : Int} {S S1 : St} {J : Jo} {x : List UInt8}
/-- Two files, the first one whole; what a crash leaves. -/
theorem dead_two (hn : 0 ≤ n ∧ n + 1 ≤ N) (hs : ∀ y ∈ ps, y.length ≤ 65536) (hne : ps ≠ []) (hx : x.length ≤ 65536) {s : Nat} (hs2 : s = 0 ∨ s = (recL x).length) {r : List UInt8} (hr : r = [] ∧ s = 0 ∨ r = recL x) (hf : S1.fs = [⟨n, rowL ps, (rowL ps).length⟩, ⟨n + 1, r, s⟩]) (hF : ¬ F) (ks : List Int) :
    ∃ qs, (qs = ps ∨ qs = [x]) ∧ Dead F N qs S1.cap (S1.crash ks) := by
  have hc : ∃ j, Dk.cut (ks.tail.headD 0) ⟨n + 1, r, s⟩ = ⟨n + 1, (recL x).take j, ((recL x).take j).length⟩ := by
    rcases hr with ⟨rfl, rfl⟩ | rfl
    · exact ⟨0, by rw [cut_sure (by rfl)]; simp⟩
    · rcases hs2 with rfl | rfl
      · obtain ⟨j, hj⟩ := cut_tail (n + 1) [] (recL x) (ks.tail.headD 0)
        exact ⟨j, by simpa using hj⟩
      · exact ⟨(recL x).length, by rw [cut_sure (by rfl)]; simp⟩
  obtain ⟨j, hj⟩ := hc
  have e : (S1.crash ks).fs = [⟨n, rowL ps, (rowL ps).length⟩, ⟨n + 1, (recL x).take j, ((recL x).take j).length⟩] := by
    show cuts ks S1.fs = _
    rw [hf]
    show [Dk.cut (ks.headD 0) _, Dk.cut (ks.tail.headD 0) _] = _
    rw [hj, cut_sure (by rfl)]
  have hrise : Rise (S1.crash ks).fs := by rw [e]; simp [Rise]; omega
  have hbound : ∀ g ∈ (S1.crash ks).fs, 0 ≤ g.n ∧ g.n ≤ N := fun g hg => by
    rw [e] at hg
    simp only [List.mem_cons, List.not_mem_nil, or_false] at hg
    rcases hg with rfl | rfl
    · dsimp only; omega
    · dsimp only; omega
  have hsure : AllSure (S1.crash ks).fs := fun g hg => by
    rw [e] at hg
    simp only [List.mem_cons, List.not_mem_nil, or_false] at hg
    rcases hg with rfl | rfl
    · rfl
    · rfl
  rcases pays_first hx j with h | h
  · refine ⟨ps, .inl rfl, rfl, hrise, ⟨n, ?_, hne, fun g hg hlt => ?_, hsure⟩, hbound, rfl, rfl, hF⟩
    · rw [e]; exact ⟨_, .head _, rfl, (pays_whole hs).1⟩
    · rw [e] at hg
      simp only [List.mem_cons, List.not_mem_nil, or_false] at hg
      rcases hg with rfl | rfl
      · exact absurd hlt (by simp)
      · exact h
  · refine ⟨[x], .inr rfl, rfl, hrise, ⟨n + 1, ?_, by simp, fun g hg hlt => ?_, hsure⟩, hbound, rfl, rfl, hF⟩
    · rw [e]; exact ⟨_, .tail _ (.head _), rfl, h⟩
    · rw [e] at hg
      simp only [List.mem_cons, List.not_mem_nil, or_false] at hg
      rcases hg with rfl | rfl
      · dsimp only at hlt; omega
      · exact absurd hlt (by simp)
/-- Compact of a journal that goes on. -/
theorem compact_live (h : Live S J ps) (hN : J.n + 1 ≤ N) (hx : x.length ≤ 65536) :
    (∃ S' J', compactJ S J x = (S', J', 0) ∧ Live S' J' [x] ∧ J'.n = J.n + 1 ∧ S'.cap = S.cap ∧ (S.fail = none → S'.fail = none)) ∨
    (compactJ S J x = (S, J, 60) ∧ S.cap - Dk.tot S.fs < x.length + 8) ∨
    (∃ S' J' qs, compactJ S J x = (S', J', 61) ∧ (qs = ps ∨ qs = [x]) ∧ Dead (S.fail = none) N qs S.cap S') := by
  have ha : compactJ S J x = if S.cap - Dk.tot S.fs < x.length + 8 then (S, J, 60) else
      let y := runs (lays (J.n + 1) (recL x)) S
      if y.2 ≠ 0 then (y.1, told J y.2, y.2) else
        let z := delete y.1 J.n
        (z.1, told { J with n := J.n + 1, size := x.length + 8, many := 0 } z.2, z.2) := by
    unfold compactJ
    rw [h.over, if_neg (by decide), if_neg (by omega)]
  by_cases hfull : S.cap - Dk.tot S.fs < x.length + 8
  · exact .inr (.inl ⟨by rw [ha, if_pos hfull], hfull⟩)
  rw [if_neg hfull] at ha
  have hrl := recL_length x
  have hn0 := h.n0
  have htot := h.tot
  have hne1 : ¬ J.n = J.n + 1 := by omega
  have hne2 : ¬ J.n + 1 = J.n := by omega
  have hlt1 : ¬ J.n + 1 < J.n := by omega
  have down : ∀ S', (∃ J', compactJ S J x = (S', J', 61)) → (∃ qs, (qs = ps ∨ qs = [x]) ∧ Dead (S.fail = none) N qs S.cap S') →
      ∃ S' J' qs, compactJ S J x = (S', J', 61) ∧ (qs = ps ∨ qs = [x]) ∧ Dead (S.fail = none) N qs S.cap S' :=
    fun S' ⟨J', hr⟩ ⟨qs, h1, h2⟩ => ⟨S', J', qs, hr, h1, h2⟩
  have laid : ∀ S', runs (lays (J.n + 1) (recL x)) S = (S', 61) → ∃ J', compactJ S J x = (S', J', 61) := fun S' hr => by
    refine ⟨told J 61, ?_⟩
    rw [ha]
    dsimp only
    rw [hr, if_pos (by simp)]
  have hcr : create S (J.n + 1) = chg S { S with fs := [⟨J.n, rowL ps, (rowL ps).length⟩, ⟨J.n + 1, [], 0⟩] } false := by
    unfold Dk.create
    rw [if_neg (by rw [h.up]; decide), if_neg (by omega), show Dk.get S.fs (J.n + 1) = none by rw [h.fs]; simp [Dk.get, hne1]]
    dsimp only
    rw [if_neg (by rw [h.fs]; simp), h.fs]
    simp [ins, hlt1]
  rcases chg_or S { S with fs := [⟨J.n, rowL ps, (rowL ps).length⟩, ⟨J.n + 1, [], 0⟩] } false with ⟨S2, h1, h2, h3, h4, h5, h6⟩ | ⟨ks, h1, h2⟩
  · dsimp only at h2 h3 h4 h5
    have hap : append S2 (J.n + 1) (recL x) = chg S2 { S2 with fs := [⟨J.n, rowL ps, (rowL ps).length⟩, ⟨J.n + 1, recL x, 0⟩] } true := by
      unfold Dk.append
      rw [if_neg (by rw [h3, h.up]; decide), show Dk.get S2.fs (J.n + 1) = some ⟨J.n + 1, [], 0⟩ by rw [h2]; simp [Dk.get, hne1]]
      dsimp only
      rw [if_neg (by rw [h2, h4]; simp only [Dk.tot, List.length_nil]; omega), h2]
      simp [upd, hne1]
    rcases chg_or S2 { S2 with fs := [⟨J.n, rowL ps, (rowL ps).length⟩, ⟨J.n + 1, recL x, 0⟩] } true with ⟨S3, g1, g2, g3, g4, g5, g6⟩ | ⟨ks, g1, g2⟩
    · dsimp only at g2 g3 g4 g5
      have hsy : sync S3 (J.n + 1) = chg S3 { S3 with fs := [⟨J.n, rowL ps, (rowL ps).length⟩, ⟨J.n + 1, recL x, (recL x).length⟩] } false := by
        unfold Dk.sync
        rw [if_neg (by rw [g3, h3, h.up]; decide), show Dk.get S3.fs (J.n + 1) = some ⟨J.n + 1, recL x, 0⟩ by rw [g2]; simp [Dk.get, hne1]]
        dsimp only
        rw [g2]
        simp [upd, hne1]
      rcases chg_or S3 { S3 with fs := [⟨J.n, rowL ps, (rowL ps).length⟩, ⟨J.n + 1, recL x, (recL x).length⟩] } false with ⟨S4, k1, k2, k3, k4, k5, k6⟩ | ⟨ks, k1, k2⟩
      · dsimp only at k2 k3 k4 k5
        have hr : runs (lays (J.n + 1) (recL x)) S = (S4, 0) := by
          unfold lays
          rw [runs_ok (by rw [hcr, h1]), hcr, h1, runs_ok (by rw [hap, g1]), hap, g1, runs_ok (by rw [hsy, k1]), hsy, k1, runs_nil]
        have hdl : delete S4 J.n = chg S4 { S4 with fs := [⟨J.n + 1, recL x, (recL x).length⟩] } false := by
          unfold Dk.delete
          rw [if_neg (by rw [k3, g3, h3, h.up]; decide), show Dk.get S4.fs J.n = some ⟨J.n, rowL ps, (rowL ps).length⟩ by rw [k2]; simp [Dk.get]]
          dsimp only
          rw [k2]
          simp [del, hne2]
        rcases chg_or S4 { S4 with fs := [⟨J.n + 1, recL x, (recL x).length⟩] } false with ⟨S5, m1, m2, m3, m4, m5, m6⟩ | ⟨ks, m1, m2⟩
        · dsimp only at m2 m3 m4 m5
          left
          refine ⟨S5, told { J with n := J.n + 1, size := x.length + 8, many := 0 } 0, ?_, ?_, rfl, m4.trans (k4.trans (g4.trans h4)), fun hf => m6 (k6 (g6 (h6 hf hf) (h6 hf hf)) (g6 (h6 hf hf) (h6 hf hf))) (k6 (g6 (h6 hf hf) (h6 hf hf)) (g6 (h6 hf hf) (h6 hf hf)))⟩
          · rw [ha]
            dsimp only
            rw [hr, if_neg (by simp), hdl, m1]
          · refine ⟨by rw [rowL_one]; exact m2, m3.trans (k3.trans (g3.trans (h3.trans h.up))), ?_, rfl, ?_, ?_, by simp, ?_, ?_⟩
            · show ((x.length : Int) + 8) = _
              rw [rowL_one, hrl]; omega
            · show J.starts = S5.starts
              rw [m5, k5, g5, h5, h.starts]
            · show (J.dead || decide ((0 : Int) = 61)) = false
              rw [h.dead]; rfl
            · intro y hy; simp at hy; subst hy; exact hx
            · show 0 ≤ J.n + 1; omega
        · rw [if_neg (by decide)] at m1
          refine .inr (.inr (down (S4.crash ks) ⟨told { J with n := J.n + 1, size := x.length + 8, many := 0 } 61, ?_⟩ ?_))
          · rw [ha]
            dsimp only
            rw [hr, if_neg (by simp), hdl, m1]
          · have := dead_two (S1 := S4) (F := S.fail = none) ⟨hn0, hN⟩ h.small h.ne hx (.inr rfl) (.inr rfl) k2 (fun hf => m2 (k6 (g6 (h6 hf hf) (h6 hf hf)) (g6 (h6 hf hf) (h6 hf hf)))) ks
            rwa [k4, g4, h4] at this
      · rw [if_neg (by decide)] at k1
        refine .inr (.inr (down (S3.crash ks) (laid _ (by
          unfold lays
          rw [runs_ok (by rw [hcr, h1]), hcr, h1, runs_ok (by rw [hap, g1]), hap, g1, runs_no (by rw [hsy, k1]; exact (by decide : ¬ (61 : Int) = 0)), hsy, k1])) ?_))
        have := dead_two (S1 := S3) (F := S.fail = none) ⟨hn0, hN⟩ h.small h.ne hx (.inl rfl) (.inr rfl) g2 (fun hf => k2 (g6 (h6 hf hf) (h6 hf hf))) ks
        rwa [g4, h4] at this
    · rw [if_pos rfl] at g1
      refine .inr (.inr (down _ (laid _ (by
        unfold lays
        rw [runs_ok (by rw [hcr, h1]), hcr, h1, runs_no (by rw [hap, g1]; exact (by decide : ¬ (61 : Int) = 0)), hap, g1])) ?_))
      have := dead_two (S1 := { S2 with fs := [⟨J.n, rowL ps, (rowL ps).length⟩, ⟨J.n + 1, recL x, 0⟩] }) (F := S.fail = none) ⟨hn0, hN⟩ h.small h.ne hx (.inl rfl) (.inr rfl) rfl (fun hf => g2 (h6 hf hf)) ks
      dsimp only at this
      rw [← h4]
      exact this
  · rw [if_neg (by decide)] at h1
    refine .inr (.inr (down _ (laid _ (by
      unfold lays
      rw [runs_no (by rw [hcr, h1]; exact (by decide : ¬ (61 : Int) = 0)), hcr, h1])) ?_))
    refine ⟨ps, .inl rfl, rfl, ?_, ⟨J.n, ?_⟩, ?_, rfl, rfl, fun hf => h2 hf⟩
    all_goals rw [show (S.crash ks).fs = [⟨J.n, rowL ps, (rowL ps).length⟩] by show cuts ks S.fs = _; rw [h.fs]; show [Dk.cut (ks.headD 0) _] = _; rw [cut_sure (by rfl)]]
    · simp [Rise]
    · exact led_one (pays_whole h.small).1 h.ne
    · intro g hg; simp at hg; subst hg; exact ⟨hn0, by show J.n ≤ N; omega⟩
/-- The journal of a disk without files. -/
theorem open_fresh {cap : Int} (hc : 8 ≤ cap) : ∃ S2 J, open_ ⟨cap, [], false, 0, none⟩ = ⟨S2, some J, [], [], 0⟩ ∧ Live S2 J [[]] ∧ J.n = 0 ∧ S2.cap = cap ∧ S2.fail = none ∧ S2.starts = 0 := by
  have hl8 : (recL []).length = 8 := recL_length []
  have hfr : fresh ⟨cap, [], false, 0, none⟩ = (⟨cap, [⟨0, recL [], (recL []).length⟩], false, 0, none⟩, 0) := by
    unfold fresh
    rw [if_pos rfl, List.nil_append]
    unfold lays
    have e1 : create ⟨cap, [], false, 0, none⟩ 0 = (⟨cap, [⟨0, [], 0⟩], false, 0, none⟩, 0) := by simp [Dk.create, Dk.get, chg, ins]
    have e2 : append ⟨cap, [⟨0, [], 0⟩], false, 0, none⟩ 0 (recL []) = (⟨cap, [⟨0, recL [], 0⟩], false, 0, none⟩, 0) := by
      unfold Dk.append
      rw [if_neg (by simp)]
      simp only [Dk.get, if_true]
      rw [if_neg (by rw [hl8]; simp [Dk.tot]; omega)]
      simp [chg, upd]
    have e3 : sync ⟨cap, [⟨0, recL [], 0⟩], false, 0, none⟩ 0 = (⟨cap, [⟨0, recL [], (recL []).length⟩], false, 0, none⟩, 0) := by simp [Dk.sync, Dk.get, chg, upd]
    rw [runs_ok (by rw [e1]), e1, runs_ok (by rw [e2]), e2, runs_ok (by rw [e3]), e3, runs_nil]
  refine ⟨⟨cap, [⟨0, recL [], (recL []).length⟩], false, 0, none⟩, ⟨0, 8, 0, 0, false⟩, ?_, ⟨by rw [rowL_one], rfl, by rw [rowL_one, hl8]; rfl, rfl, rfl, rfl, by simp, by intro y hy; simp at hy; subst hy; decide, Int.le_refl _⟩, rfl, rfl, rfl, rfl⟩
  unfold open_
  rw [if_neg (by simp)]
  show (if _ then _ else _) = _
  rw [if_neg (by simp)]
  dsimp only
  rw [hfr, if_pos rfl]
end Go.Jn
