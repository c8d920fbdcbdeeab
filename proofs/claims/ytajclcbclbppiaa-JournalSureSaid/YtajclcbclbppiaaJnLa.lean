/-
  The journal's plain laws: Append, Compact, a journal where none is.
-/
import Derived.Test.YtajclcbclbppiaaJnLv
namespace Go.Jn
open Go.Dk Go.Rc
variable {F : Prop} {N n : Int} {ps : List (List UInt8)} {cap starts : Int} {S S1 : St} {J : Jo} {x : List UInt8}
theorem cut_tail (n : Int) (b r : List UInt8) (k : Int) : ∃ j, Dk.cut k ⟨n, b ++ r, b.length⟩ = ⟨n, b ++ r.take j, (b ++ r.take j).length⟩ := by
  refine ⟨(min (max k 0) (((b ++ r).length - b.length : Nat) : Int)).toNat, ?_⟩
  obtain ⟨t, ht⟩ : ∃ t, (min (max k 0) (((b ++ r).length - b.length : Nat) : Int)).toNat = t := ⟨_, rfl⟩
  have htl : t ≤ r.length := by rw [← ht, List.length_append]; omega
  show (⟨n, (b ++ r).take (b.length + (min (max k 0) (((b ++ r).length - b.length : Nat) : Int)).toNat), b.length + (min (max k 0) (((b ++ r).length - b.length : Nat) : Int)).toNat⟩ : Fl) = _
  rw [ht]
  have e1 : (b ++ r).take (b.length + t) = b ++ r.take t := by rw [List.take_append, List.take_of_length_le (by omega)]; simp
  have e2 : b.length + t = (b ++ r.take t).length := by rw [List.length_append, List.length_take]; omega
  rw [e1, ← e2]
theorem Live.over (h : Live S J ps) : over S J = false := by simp [Jn.over, h.dead, h.up, h.starts]
theorem Live.tot (h : Live S J ps) : Dk.tot S.fs = (rowL ps).length := by rw [h.fs]; simp [Dk.tot]
theorem Live.get (h : Live S J ps) : Dk.get S.fs J.n = some ⟨J.n, rowL ps, (rowL ps).length⟩ := by rw [h.fs]; simp [Dk.get]
theorem rowL_snoc (ps : List (List UInt8)) (x : List UInt8) : rowL (ps ++ [x]) = rowL ps ++ recL x := by simp [rowL]
theorem rowL_one (x : List UInt8) : rowL [x] = recL x := by simp [rowL]
theorem small_snoc (h : ∀ y ∈ ps, y.length ≤ 65536) (hx : x.length ≤ 65536) : ∀ y ∈ ps ++ [x], y.length ≤ 65536 := by
  intro y hy
  rcases List.mem_append.1 hy with hy | hy
  · exact h y hy
  · simp at hy; subst hy; exact hx
theorem led_one {b : List UInt8} {qs : List (List UInt8)} (hp : pays b = qs) (hne : qs ≠ []) : Led [⟨n, b, b.length⟩] n qs :=
  ⟨⟨_, .head _, rfl, hp⟩, hne, fun g hg h => by simp at hg; subst hg; exact absurd h (by simp), fun g hg => by simp at hg; subst hg; rfl⟩
/-- A disk that went down while an entry was laid. -/
theorem dead_tail (hn : 0 ≤ n ∧ n ≤ N) (hs : ∀ y ∈ ps, y.length ≤ 65536) (hne : ps ≠ []) (hx : x.length ≤ 65536) (hf : S1.fs = [⟨n, rowL ps ++ recL x, (rowL ps).length⟩]) (hF : ¬ F) (ks : List Int) : ∃ qs, (qs = ps ∨ qs = ps ++ [x]) ∧ Dead F N qs S1.cap (S1.crash ks) := by
  obtain ⟨j, hj⟩ := cut_tail n (rowL ps) (recL x) (ks.headD 0)
  have e : (S1.crash ks).fs = [⟨n, rowL ps ++ (recL x).take j, (rowL ps ++ (recL x).take j).length⟩] := by
    show cuts ks S1.fs = _
    rw [hf]
    show [Dk.cut (ks.headD 0) _] = _
    rw [hj]
  have key : ∀ qs, qs ≠ [] → pays (rowL ps ++ (recL x).take j) = qs → Dead F N qs S1.cap (S1.crash ks) := fun qs h1 h2 =>
    ⟨rfl, by rw [e]; simp [Rise], ⟨n, by rw [e]; exact led_one h2 h1⟩, fun g hg => by rw [e] at hg; simp at hg; subst hg; exact hn, rfl, rfl, hF⟩
  rcases pays_part hs hx j with h | h
  · exact ⟨ps, .inl rfl, key ps hne h⟩
  · exact ⟨_, .inr rfl, key _ (by simp) h⟩
/-- Append to a journal that goes on. -/
theorem append_live (h : Live S J ps) (hN : J.n ≤ N) (hx : x.length ≤ 65536) :
    (∃ S' J', appendJ S J x = (S', J', 0) ∧ Live S' J' (ps ++ [x]) ∧ J'.n = J.n ∧ S'.cap = S.cap ∧ (S.fail = none → S'.fail = none)) ∨
    (appendJ S J x = (S, J, 60) ∧ S.cap - Dk.tot S.fs - (x.length + 8) < 70000) ∨
    (∃ S' J' qs, appendJ S J x = (S', J', 61) ∧ (qs = ps ∨ qs = ps ++ [x]) ∧ Dead (S.fail = none) N qs S.cap S') := by
  have ha : appendJ S J x = if S.cap - Dk.tot S.fs - (x.length + 8) < 70000 then (S, J, 60) else
      let y := runs [fun S => append S J.n (recL x), fun S => sync S J.n] S
      (y.1, told (if y.2 = 0 then { J with size := J.size + (x.length + 8), many := J.many + 1 } else J) y.2, y.2) := by
    unfold appendJ
    rw [h.over, if_neg (by decide), if_neg (by omega)]
  by_cases hfull : S.cap - Dk.tot S.fs - (x.length + 8) < 70000
  · exact .inr (.inl ⟨by rw [ha, if_pos hfull], hfull⟩)
  rw [if_neg hfull] at ha
  have hrl := recL_length x
  have hap : append S J.n (recL x) = chg S { S with fs := [⟨J.n, rowL ps ++ recL x, (rowL ps).length⟩] } true := by
    unfold Dk.append
    rw [if_neg (by rw [h.up]; decide), h.get]
    dsimp only
    rw [if_neg (by omega), h.fs]
    simp [upd]
  have down : ∀ S', (runs [fun S => append S J.n (recL x), fun S => sync S J.n] S) = (S', 61) → (∃ qs, (qs = ps ∨ qs = ps ++ [x]) ∧ Dead (S.fail = none) N qs S.cap S') →
      ∃ S' J' qs, appendJ S J x = (S', J', 61) ∧ (qs = ps ∨ qs = ps ++ [x]) ∧ Dead (S.fail = none) N qs S.cap S' := by
    intro S' hr ⟨qs, h1, h2⟩
    refine ⟨S', (appendJ S J x).2.1, qs, ?_, h1, h2⟩
    rw [ha]
    dsimp only
    rw [hr]
  rcases chg_or S { S with fs := [⟨J.n, rowL ps ++ recL x, (rowL ps).length⟩] } true with ⟨S2, h1, h2, h3, h4, h5, h6⟩ | ⟨ks, h1, h2⟩
  · dsimp only at h2 h3 h4 h5
    have hsy : sync S2 J.n = chg S2 { S2 with fs := [⟨J.n, rowL ps ++ recL x, (rowL ps ++ recL x).length⟩] } false := by
      unfold Dk.sync
      rw [if_neg (by rw [h3, h.up]; decide), h2]
      simp [Dk.get, upd]
    rcases chg_or S2 { S2 with fs := [⟨J.n, rowL ps ++ recL x, (rowL ps ++ recL x).length⟩] } false with ⟨S3, g1, g2, g3, g4, g5, g6⟩ | ⟨ks, g1, g2⟩
    · dsimp only at g2 g3 g4 g5
      have hr : runs [fun S => append S J.n (recL x), fun S => sync S J.n] S = (S3, 0) := by
        rw [runs_ok (by rw [hap, h1]), hap, h1, runs_ok (by rw [hsy, g1]), hsy, g1, runs_nil]
      left
      refine ⟨S3, told { J with size := J.size + (x.length + 8), many := J.many + 1 } 0, by rw [ha]; dsimp only; rw [hr]; rfl, ?_, rfl, g4.trans h4, fun hf => g6 (h6 hf hf) (h6 hf hf)⟩
      refine ⟨by rw [rowL_snoc]; exact g2, g3.trans (h3.trans h.up), ?_, ?_, ?_, ?_, by simp, small_snoc h.small hx, h.n0⟩
      · show J.size + ((x.length : Int) + 8) = _
        rw [rowL_snoc, List.length_append, hrl, h.size]; omega
      · show J.many + 1 = _
        rw [h.many, List.length_append, List.length_singleton]; omega
      · show J.starts = S3.starts
        rw [g5, h5, h.starts]
      · show (J.dead || decide ((0 : Int) = 61)) = false
        rw [h.dead]; rfl
    · rw [if_neg (by decide)] at g1
      refine .inr (.inr (down (S2.crash ks) (by rw [runs_ok (by rw [hap, h1]), hap, h1, runs_no (by rw [hsy, g1]; exact (by decide : ¬ (61 : Int) = 0)), hsy, g1]) ?_))
      have := dead_tail (S1 := S2) (F := S.fail = none) ⟨h.n0, hN⟩ h.small h.ne hx h2 (fun hf => g2 (h6 hf hf)) ks
      rwa [h4] at this
  · rw [if_pos rfl] at h1
    refine .inr (.inr (down _ (by rw [runs_no (by rw [hap, h1]; exact (by decide : ¬ (61 : Int) = 0)), hap, h1]) ?_))
    exact dead_tail (S1 := { S with fs := [⟨J.n, rowL ps ++ recL x, (rowL ps).length⟩] }) (F := S.fail = none) ⟨h.n0, hN⟩ h.small h.ne hx rfl h2 ks
end Go.Jn
