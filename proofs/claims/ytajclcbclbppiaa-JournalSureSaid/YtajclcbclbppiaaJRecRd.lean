/-
  Records in a row, in plain Lean; the chapter's examples (recorded).
-/
import Derived.Test.YtajclcbclbppiaaJRecSt
import Derived.Deep.Cut
namespace Go.Rc
open Go.Bt Go.Sm
theorem recL_eq (p : List UInt8) : recL p = put p.length 4 ++ (p ++ le4 (sum (put p.length 4 ++ p))) := by unfold recL seal4; rw [List.append_assoc]
/-- A record that stands at a place, whatever stands around it. -/
theorem getR_at (pre p r : List UInt8) (hp : p.length ≤ 65536) : getR (pre ++ recL p ++ r) pre.length = some (p, pre.length + p.length + 8) := by
  have hd : (pre ++ recL p ++ r).drop pre.length = recL p ++ r := by rw [List.append_assoc, List.drop_left]
  have ha : askN (pre ++ recL p ++ r) pre.length = p.length := by
    unfold askN
    rw [hd, recL_eq, List.append_assoc]
    exact get_put4 p.length (by omega) _
  have hpl : payL (pre ++ recL p ++ r) pre.length = p := by
    unfold payL
    rw [ha, hd, recL_eq, List.append_assoc, List.drop_append_of_le_length (by rw [put4_length]; omega), List.drop_of_length_le (by rw [put4_length]; omega), List.nil_append, List.append_assoc, List.take_left]
  have hl : (pre ++ recL p ++ r).length = pre.length + (p.length + 8) + r.length := by simp only [List.length_append, recL_length]
  unfold getR
  have ht : recL p = (recL p ++ r).take (p.length + 8) := by rw [List.take_append_of_le_length (by rw [recL_length]; omega), List.take_of_length_le (by rw [recL_length]; omega)]
  rw [ha, hpl, hd, if_pos ⟨⟨by omega, hp, by omega⟩, ht⟩]
/-- A record that is cut off stands there no more. -/
theorem getR_cut (pre p : List UInt8) (m : Nat) (hp : p.length ≤ 65536) (hm : m < p.length + 8) : getR (pre ++ (recL p).take m) pre.length = none := by
  have hd : (pre ++ (recL p).take m).drop pre.length = (recL p).take m := by rw [List.drop_left]
  have hl : (pre ++ (recL p).take m).length = pre.length + m := by simp [recL_length]; omega
  unfold getR
  rw [if_neg]
  rintro ⟨⟨h1, h2, h3⟩, _⟩
  have ha : askN (pre ++ (recL p).take m) pre.length = p.length := by
    unfold askN
    rw [hd, List.take_take, Nat.min_eq_left (by omega), recL_eq]
    exact get_put4 p.length (by omega) _
  omega
theorem getR_short (s : List UInt8) (a : Nat) (h : s.length < a + 8) : getR s a = none := by
  unfold getR; rw [if_neg]; rintro ⟨⟨h1, _, _⟩, _⟩; omega
def rowL (ps : List (List UInt8)) : List UInt8 := ps.flatMap recL
/-- The payloads, and where each one's record ends, from a place on. -/
def itsOf : Nat → List (List UInt8) → List It
  | _, [] => []
  | a, p :: ps => (p, a + p.length + 8) :: itsOf (a + p.length + 8) ps
theorem itsOf_fst : ∀ (a : Nat) (ps : List (List UInt8)), (itsOf a ps).map (·.1) = ps
  | _, [] => rfl
  | a, p :: ps => by simp [itsOf, itsOf_fst (a + p.length + 8) ps]
theorem rowL_cons (p : List UInt8) (ps : List (List UInt8)) : rowL (p :: ps) = recL p ++ rowL ps := rfl
theorem itsAt_row : ∀ (ps : List (List UInt8)) (pre r : List UInt8), (∀ p ∈ ps, p.length ≤ 65536) →
    itsAt (pre ++ rowL ps ++ r) pre.length = itsOf pre.length ps ++ itsAt (pre ++ rowL ps ++ r) (pre.length + (rowL ps).length)
  | [], pre, r, _ => by simp [itsOf, rowL]
  | p :: ps, pre, r, h => by
    have h1 := getR_at pre p (rowL ps ++ r) (h p (by simp))
    have e : pre ++ rowL (p :: ps) ++ r = pre ++ recL p ++ (rowL ps ++ r) := by rw [rowL_cons]; simp
    have e2 : pre ++ rowL (p :: ps) ++ r = (pre ++ recL p) ++ rowL ps ++ r := by rw [rowL_cons]; simp
    have ih := itsAt_row ps (pre ++ recL p) r (fun x hx => h x (by simp [hx]))
    rw [← e2] at ih
    rw [← e] at h1
    rw [itsAt_some h1]
    have hl : (pre ++ recL p).length = pre.length + p.length + 8 := by simp [recL_length]; omega
    rw [hl] at ih
    rw [ih]
    have hl2 : pre.length + (rowL (p :: ps)).length = pre.length + p.length + 8 + (rowL ps).length := by rw [rowL_cons, List.length_append, recL_length]; omega
    rw [hl2]
    rfl
def ab : List UInt8 := [97, 98]
theorem ab_rec : recL ab = [0, 0, 0, 2, 97, 98] ++ le4 (sum (put 2 4 ++ ab)) := recL_eq ab
theorem ab_one : getR (recL ab) 1 = none := by
  unfold getR
  rw [if_neg]
  rintro ⟨⟨h1, h2, h3⟩, _⟩
  have ha : askN (recL ab) 1 = 609 := by
    unfold askN
    rw [ab_rec]
    rfl
  have hl : (recL ab).length = 10 := recL_length ab
  omega
theorem ab_its : itsAt (recL ab ++ recL ab) 0 = [(ab, 10), (ab, 20)] := by
  have h := itsAt_row [ab, ab] [] [] (by intro p hp; simp at hp; subst hp; decide)
  have e : ([] : List UInt8) ++ rowL [ab, ab] ++ [] = recL ab ++ recL ab := by simp [rowL]
  rw [e] at h
  have hl : (recL ab ++ recL ab).length = 20 := by rw [List.length_append, recL_length]; rfl
  have hn : itsAt (recL ab ++ recL ab) (([] : List UInt8).length + (rowL [ab, ab]).length) = [] := itsAt_none (getR_short _ _ (by rw [hl]; simp [rowL, recL_length, ab]))
  rw [hn] at h
  exact h
theorem ab_cut : itsAt ((recL ab ++ recL ab).take 19) 0 = [(ab, 10)] := by
  have e : (recL ab ++ recL ab).take 19 = [] ++ rowL [ab] ++ (recL ab).take 9 := by
    rw [List.take_append, List.take_of_length_le (by rw [recL_length]; decide), recL_length]; simp [rowL, ab]
  have h := itsAt_row [ab] [] ((recL ab).take 9) (by intro p hp; simp at hp; subst hp; decide)
  have hn : itsAt ([] ++ rowL [ab] ++ (recL ab).take 9) (([] : List UInt8).length + (rowL [ab]).length) = [] := by
    have := getR_cut (rowL [ab]) ab 9 (by decide) (by decide)
    exact itsAt_none (by simpa using this)
  rw [hn] at h
  rw [e]
  exact h
end Go.Rc
namespace Go.Proofs.Ytajclcbclbppiaa
open Go.RowKit Go.Rc
theorem whole_is {s : List UInt8} {l : List It} (h : itsAt s 0 = l) (hs : s.length ≤ 16770000) (w : World) {n : Nat} {e : Int} (hn : l.length = n) (he : (endOf l : Int) = e) {P : List (List UInt8)} (hP : l.map (·.1) = P) :
    Calls Try.prog 46 #[.string (ofL s)] w fun e' W' => ∃ ao cap, e' = .returned (.tuple #[.slice ao n cap, .int .i64 e]) ∧ Rw W' 1 ao n cap (Se P) ∧ Ext w W' := by
  subst hn; subst he; subst hP; subst h
  exact whole_any s hs w
theorem rget_is {s : List UInt8} {a : Nat} {p : List UInt8} {b : Nat} (h : getR s a = some (p, b)) {i bi : Int} (hi : i = a) (hb : (b : Int) = bi) (w : World) (hs : s.length ≤ 16770000) :
    Calls Try.prog 72 #[.string (ofL s), .int .i64 i] w fun e w' => e = .returned (.tuple #[.string (ofL p), .int .i64 bi, .bool true]) ∧ Ext w w' := by
  subst hi; subst hb; exact rget_some s a p b h w hs
theorem lit_strs {w : World} {g : Nat} (L : List (List UInt8)) (n : Nat) (hn : L.length = n) (hm : n ≤ 16777216) {t : TypeId} (hb : w.heap[g]? = some (.cells (Se L).toArray t)) : Rw w 1 (some ⟨g, 0, none⟩) n n (Se L) := by
  subst hn
  have hg : g < w.heap.size := by
    rcases Nat.lt_or_ge g w.heap.size with h | h
    · exact h
    · rw [Array.getElem?_eq_none h] at hb; cases hb
  refine ⟨by rw [Se_length, Nat.mul_one], Nat.le_refl _, by unfold maxLen; omega, .inr ⟨g, rfl, hg, fun j hj => ⟨?_, ?_⟩, fun j hj => ?_⟩⟩
  · rw [Nat.mul_one, ← Se_length] at hj
    simp only [World.cell?, hb]; simp [List.getElem?_eq_getElem hj]
  · simp only [World.frozen?, hb]; simp
  · simp only [World.cell?, hb]; simp
theorem str1 {w : World} {g : Nat} {t : TypeId} {a : List UInt8} (hb : w.heap[g]? = some (.cells #[.string (ofL a)] t)) : Rw w 1 (some ⟨g, 0, none⟩) 1 1 (Se [a]) := lit_strs [a] 1 rfl (by decide) (t := t) hb
theorem str2 {w : World} {g : Nat} {t : TypeId} {a b : List UInt8} (hb : w.heap[g]? = some (.cells #[.string (ofL a), .string (ofL b)] t)) : Rw w 1 (some ⟨g, 0, none⟩) 2 2 (Se [a, b]) := lit_strs [a, b] 2 rfl (by decide) (t := t) hb
end Go.Proofs.Ytajclcbclbppiaa
