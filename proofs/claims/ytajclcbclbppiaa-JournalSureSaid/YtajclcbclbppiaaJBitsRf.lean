/-
  The document's answers of the layer bits: their walks.
-/
import Derived.Test.YtajclcbclbppiaaJBitsWk
import Derived.Deep.RegionWith
namespace Go.Bt
theorem put_succ (n k : Nat) : put n (k + 1) = UInt8.ofNat (n / 256 ^ k) :: put n k := by
  unfold put
  rw [List.range_succ_eq_map, List.map_cons, List.map_map]
  congr 1
  · rw [show 8 * (k + 1 - 1 - 0) = 8 * k by omega, Nat.pow_mul]
  · refine List.map_congr_left fun i hi => ?_
    simp only [Function.comp_apply]
    rw [show k + 1 - 1 - (i + 1) = k - 1 - i by omega]
theorem div_pow_succ (n k : Nat) : n / 256 ^ k / 256 = n / 256 ^ (k + 1) := by rw [Nat.div_div_eq_div_mul, Nat.pow_succ]
/-- The number of bytes in sevens. -/
def val : List UInt8 → Nat
  | [] => 0
  | c :: cs => c.toNat % 128 + 128 * val cs
def valM (l : List UInt8) : Nat := val l % 18446744073709551616
theorem valM_lt (l : List UInt8) : valM l < 18446744073709551616 := Nat.mod_lt _ (by decide)
theorem valM_cons (c : UInt8) (l : List UInt8) : valM (c :: l) = (valM l * 128 + c.toNat % 128) % 18446744073709551616 := by
  unfold valM; simp only [val]; omega
theorem varF_shape (f n : Nat) (h : n < 128 ^ (f + 1)) : ∃ init last, varF f n = init ++ [last] ∧ (∀ c ∈ init, 128 ≤ UInt8.toNat c) ∧ last.toNat < 128 ∧ val (varF f n) = n := by
  induction f generalizing n with
  | zero =>
    have h : n < 128 := by simpa using h
    have h1 := u8_ofNat n (by omega)
    exact ⟨[], UInt8.ofNat n, rfl, by simp, by omega, by simp only [varF, val, h1]; omega⟩
  | succ f ih =>
    by_cases hlt : n < 128
    · have h1 := u8_ofNat n (by omega)
      exact ⟨[], UInt8.ofNat n, by simp [varF, hlt], by simp, by omega, by simp only [varF, if_pos hlt, val, h1]; omega⟩
    · obtain ⟨init, last, h1, h2, h3, h4⟩ := ih (n / 128) (by rw [Nat.pow_succ] at h; omega)
      have h5 := u8_ofNat (n % 128 + 128) (by omega)
      refine ⟨UInt8.ofNat (n % 128 + 128) :: init, last, by simp [varF, hlt, h1], ?_, h3, by simp only [varF, if_neg hlt, val, h5, h4]; omega⟩
      intro c hc
      rcases List.mem_cons.1 hc with rfl | hc
      · omega
      · exact h2 c hc
/-- What stands ahead up to the first byte below 128. -/
def Front (l : List UInt8) (k : Nat) : Prop := ∀ j, j < k → 128 ≤ (l.getD j 0).toNat
theorem read_front_of {l : List UInt8} {k : Nat} (hf : Front l k) (hc : (l.getD k 0).toNat < 128) {m : Nat} {r : List UInt8} (h : Bt.read l = some (m, r)) :
    l.take (k + 1) = var m ∧ l.drop (k + 1) = r ∧ valM (l.take (k + 1)) = m ∧ k ≤ 9 := by
  obtain ⟨hl, hm⟩ := var_read l m r h
  have h10 : (2 : Nat) ^ 64 < 128 ^ 10 := by decide
  obtain ⟨init, last, h1, h2, h3, h4⟩ := varF_shape 9 m (by omega)
  have h1 : var m = init ++ [last] := h1
  have hlen := var_length m
  rw [h1, List.length_append, List.length_singleton] at hlen
  have hk' : k = init.length := by
    rcases Nat.lt_trichotomy k init.length with hlt | heq | hgt
    · have := h2 (l.getD k 0) (by
        rw [hl, h1, List.append_assoc, List.getD_eq_getElem?_getD, List.getElem?_append_left hlt, List.getElem?_eq_getElem hlt]
        exact List.getElem_mem hlt)
      omega
    · exact heq
    · have := hf init.length hgt
      rw [hl, h1, List.append_assoc, List.getD_eq_getElem?_getD, List.getElem?_append_right (Nat.le_refl _), Nat.sub_self] at this
      simp at this
      omega
  have ht : l.take (k + 1) = var m := by
    rw [hl, hk', List.take_append_of_le_length (by rw [h1]; simp), List.take_of_length_le (by rw [h1]; simp)]
  refine ⟨ht, ?_, ?_, by omega⟩
  · rw [hl, hk', List.drop_append_of_le_length (by rw [h1]; simp), List.drop_of_length_le (by rw [h1]; simp)]
    rfl
  · rw [ht]; unfold valM; rw [show var m = varF 9 m from rfl, h4]; omega
theorem read_none_of_front {l : List UInt8} {k : Nat} (hf : Front l k) (hk : l.length ≤ k ∨ 9 < k) : Bt.read l = none := by
  cases h : Bt.read l with
  | none => rfl
  | some p =>
    obtain ⟨m, r⟩ := p
    obtain ⟨hl, hm⟩ := var_read l m r h
    have h10 : (2 : Nat) ^ 64 < 128 ^ 10 := by decide
    obtain ⟨init, last, h1, h2, h3, h4⟩ := varF_shape 9 m (by omega)
    have h1 : var m = init ++ [last] := h1
    have hlen := var_length m
    rw [h1, List.length_append, List.length_singleton] at hlen
    have hll : init.length + 1 ≤ l.length := by rw [hl, h1]; simp
    have := hf init.length (by omega)
    rw [hl, h1, List.append_assoc, List.getD_eq_getElem?_getD, List.getElem?_append_right (Nat.le_refl _), Nat.sub_self] at this
    simp at this
    omega
theorem read_none_var {l : List UInt8} {k : Nat} (h : Bt.read l = none) : (var (valM (l.take (k + 1))) == l.take (k + 1)) = false := by
  rw [beq_eq_false_iff_ne]
  intro he
  have := read_var (valM (l.take (k + 1))) (l.drop (k + 1)) (valM_lt _)
  rw [he, List.take_append_drop, h] at this
  cases this
end Go.Bt
namespace Go.Proofs.Ytajclcbclbppiaa
open Go.RowKit Go.Bt
theorem byt128 (n : Nat) : UInt8.ofNat (n % 128 + 128) = byt ((n : Int) % 128 + 128) := by
  unfold byt; congr 1
/-! ### the document's Sign, Back, Text, Cut -/
/-! ### the document's Put, Get -/
end Go.Proofs.Ytajclcbclbppiaa
