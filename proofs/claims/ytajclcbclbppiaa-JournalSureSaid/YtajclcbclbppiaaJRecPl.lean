/-
  Records, in plain Lean: a payload's record, the record at a place, the records from the front.
-/
import Derived.Test.YtajclcbclbppiaaJSumsSh
namespace Go.Rc
open Go.Bt Go.Sm
theorem put4_length (n : Nat) : (put n 4).length = 4 := by simp [put]
/-- A payload's record. -/
def recL (l : List UInt8) : List UInt8 := seal4 (put l.length 4 ++ l)
theorem sealed_length (l : List UInt8) : (seal4 l).length = l.length + 4 := by unfold seal4 le4; simp
theorem recL_length (l : List UInt8) : (recL l).length = l.length + 8 := by unfold recL; rw [sealed_length, List.length_append, put4_length]; omega
theorem put4_eq (n : Nat) : put n 4 = [UInt8.ofNat (n / 16777216), UInt8.ofNat (n / 65536), UInt8.ofNat (n / 256), UInt8.ofNat (n / 1)] := rfl
theorem get_put4 (n : Nat) (h : n < 4294967296) (r : List UInt8) : Bt.get ((put n 4 ++ r).take 4) = n := by
  have e : (put n 4 ++ r).take 4 = put n 4 := by rw [List.take_append_of_le_length (by rw [put4_length]; omega), List.take_of_length_le (by rw [put4_length]; omega)]
  rw [e]
  rw [put4_eq]
  simp only [Bt.get, List.take, getF, UInt8.toNat_ofNat']
  omega
theorem put_get4 (l : List UInt8) (h : l.length = 4) : put (Bt.get l) 4 = l := by
  match l, h with
  | [a, b, c, d], _ =>
    have ha := a.toNat_lt
    have hb := b.toNat_lt
    have hc := c.toNat_lt
    have hd := d.toNat_lt
    rw [put4_eq]
    simp only [Bt.get, List.take, getF]
    congr 1
    · apply UInt8.toNat_inj.1; rw [UInt8.toNat_ofNat']; omega
    congr 1
    · apply UInt8.toNat_inj.1; rw [UInt8.toNat_ofNat']; omega
    congr 1
    · apply UInt8.toNat_inj.1; rw [UInt8.toNat_ofNat']; omega
    congr 1
    · apply UInt8.toNat_inj.1; rw [UInt8.toNat_ofNat']; omega
/-- What is asked for at a place. -/
def askN (s : List UInt8) (a : Nat) : Nat := Bt.get ((s.drop a).take 4)
def payL (s : List UInt8) (a : Nat) : List UInt8 := ((s.drop a).drop 4).take (askN s a)
/-- The record that stands at a place: its payload, and where it ends. -/
def getR (s : List UInt8) (a : Nat) : Option (List UInt8 × Nat) :=
  if (a + 8 ≤ s.length ∧ askN s a ≤ 65536 ∧ a + askN s a + 8 ≤ s.length) ∧ recL (payL s a) = (s.drop a).take (askN s a + 8) then some (payL s a, a + askN s a + 8) else none
/-- The sealed text of a place that has room. -/
theorem openL_at (s : List UInt8) (a : Nat) (h : a + askN s a + 8 ≤ s.length) :
    openL ((s.drop a).take (askN s a + 8)) = if recL (payL s a) = (s.drop a).take (askN s a + 8) then some (put (askN s a) 4 ++ payL s a) else none := by
  obtain ⟨n, hn⟩ : ∃ n, askN s a = n := ⟨_, rfl⟩
  have hx : ((s.drop a).take (n + 8)).length = n + 8 := by simp; omega
  have h4 : put n 4 = (s.drop a).take 4 := by rw [← hn]; exact put_get4 _ (by simp; omega)
  have hp : (payL s a).length = n := by unfold payL; rw [hn]; simp; omega
  have ht : ((s.drop a).take (n + 8)).take (n + 4) = put n 4 ++ payL s a := by
    rw [List.take_take, Nat.min_eq_left (by omega), h4]
    unfold payL
    rw [hn, ← List.take_append_drop 4 ((s.drop a).take (n + 4)), List.take_take, Nat.min_eq_left (by omega), List.drop_take]
    rw [show n + 4 - 4 = n by omega]
  rw [hn]
  unfold openL
  rw [hx, show n + 8 - 4 = n + 4 by omega, ht]
  unfold recL
  rw [hp]
  by_cases h : seal4 (put n 4 ++ payL s a) = (s.drop a).take (n + 8)
  · rw [if_pos h, if_pos ⟨by omega, h⟩]
  · rw [if_neg h, if_neg (fun k => h k.2)]
theorem getR_next {s : List UInt8} {a : Nat} {p : List UInt8} {b : Nat} (h : getR s a = some (p, b)) : a < b ∧ b ≤ s.length ∧ b = a + p.length + 8 := by
  unfold getR at h
  split at h
  · rename_i hc
    simp only [Option.some.injEq, Prod.mk.injEq] at h
    obtain ⟨rfl, rfl⟩ := h
    refine ⟨by omega, by omega, ?_⟩
    have : (payL s a).length = askN s a := by unfold payL; simp; omega
    omega
  · cases h
/-- The records from a place on, so many at most. -/
def fromR (s : List UInt8) : Nat → Nat → List (List UInt8) × Nat
  | 0, a => ([], a)
  | f + 1, a => match getR s a with
    | none => ([], a)
    | some (p, b) => (p :: (fromR s f b).1, (fromR s f b).2)
/-- All records from the front on. -/
def wholeR (s : List UInt8) : List (List UInt8) × Nat := fromR s (s.length + 1) 0
theorem fromR_fuel (s : List UInt8) : ∀ (f g a : Nat), s.length < a + f → s.length < a + g → fromR s f a = fromR s g a
  | 0, 0, a, _, _ => rfl
  | 0, g + 1, a, h, _ => by
    unfold fromR
    cases hg : getR s a with
    | none => rfl
    | some x =>
      obtain ⟨p, b⟩ := x
      have := getR_next hg
      omega
  | f + 1, 0, a, _, h => by
    unfold fromR
    cases hg : getR s a with
    | none => rfl
    | some x =>
      obtain ⟨p, b⟩ := x
      have := getR_next hg
      omega
  | f + 1, g + 1, a, hf, hg => by
    unfold fromR
    cases h : getR s a with
    | none => rfl
    | some x =>
      obtain ⟨p, b⟩ := x
      have := getR_next h
      simp only
      rw [fromR_fuel s f g b (by omega) (by omega)]
end Go.Rc
