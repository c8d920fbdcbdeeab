/-
  The plain law of the layer sums: bits that are turned over within four bytes, side by side, change the sum; what was sealed is no more. No program.
-/
import Derived.Test.YtkhfhfdfiapgmaaSumsPl
namespace Go.Sm
theorem xorL_get (a b : List UInt8) (h : a.length = b.length) (k : Nat) (hk : k < a.length) : (xorL a b)[k]? = some (a.getD k 0 ^^^ b.getD k 0) := by
  induction a generalizing b k with
  | nil => simp at hk
  | cons x xs ih => cases b with
    | nil => simp at h
    | cons y ys =>
      cases k with
      | zero => simp [xorL]
      | succ k => simpa [xorL] using ih ys (by simpa using h) k (by simpa using hk)
theorem all_zero (l : List UInt8) (h : ∀ k, k < l.length → l[k]? = some 0) : l = List.replicate l.length 0 := by
  refine List.ext_getElem? fun k => ?_
  rcases Nat.lt_or_ge k l.length with hk | hk
  · rw [h k hk]; simp [hk]
  · rw [List.getElem?_eq_none hk, List.getElem?_eq_none (by simpa using hk)]
theorem run_diff (s : W32) (a b : List UInt8) (h : a.length = b.length) : run s a ^^^ run s b = run 0#32 (xorL a b) := by
  rw [← run_xor s s a b h, BitVec.xor_self]
/-- Two texts of one length that part in at most four bytes, side by side, and come to one state, are one. -/
theorem burst {a b : List UInt8} (h : a.length = b.length) (p : Nat) (hp : ∀ k, k < p ∨ p + 4 ≤ k → a.getD k 0 = b.getD k 0) {s : W32} (hs : run s a = run s b) : a = b := by
  have h0 : run 0#32 (xorL a b) = 0#32 := by rw [← run_diff s a b h, hs, BitVec.xor_self]
  have hl := xorL_length a b h
  have hz : ∀ k, k < a.length → (k < p ∨ p + 4 ≤ k) → (xorL a b)[k]? = some 0 := fun k hk hk2 => by
    rw [xorL_get a b h k hk, hp k hk2]; simp
  have e1 : (xorL a b).take p = List.replicate ((xorL a b).take p).length 0 := all_zero _ fun k hk => by
    simp only [List.length_take] at hk
    rw [List.getElem?_take_of_lt (by omega)]
    exact hz k (by omega) (.inl (by omega))
  have e2 : ((xorL a b).drop p).drop 4 = List.replicate (((xorL a b).drop p).drop 4).length 0 := all_zero _ fun k hk => by
    simp only [List.length_drop] at hk
    rw [List.getElem?_drop, List.getElem?_drop]
    exact hz _ (by omega) (.inr (by omega))
  have e3 : xorL a b = List.replicate ((xorL a b).take p).length 0 ++ ((xorL a b).drop p).take 4 ++ List.replicate (((xorL a b).drop p).drop 4).length 0 := by
    rw [← e1, ← e2, List.append_assoc, List.take_append_drop, List.take_append_drop]
  rw [e3] at h0
  have hd := run_burst _ _ _ (by rw [List.length_take]; omega) h0
  refine List.ext_getElem? fun k => ?_
  rcases Nat.lt_or_ge k a.length with hk | hk
  · have hx := xorL_get a b h k hk
    have : a.getD k 0 = b.getD k 0 := by
      by_cases hin : k < p ∨ p + 4 ≤ k
      · exact hp k hin
      · have hm : (a.getD k 0 ^^^ b.getD k 0) ∈ ((xorL a b).drop p).take 4 := by
          refine List.mem_of_getElem? (i := k - p) ?_
          rw [List.getElem?_take_of_lt (by omega), List.getElem?_drop, show p + (k - p) = k by omega, hx]
        have := hd _ hm
        exact UInt8.xor_eq_zero_iff.1 this
    rw [List.getD_eq_getElem?_getD, List.getD_eq_getElem?_getD, List.getElem?_eq_getElem hk, List.getElem?_eq_getElem (h ▸ hk)] at this
    rw [List.getElem?_eq_getElem hk, List.getElem?_eq_getElem (h ▸ hk)]
    simpa using this
  · rw [List.getElem?_eq_none hk, List.getElem?_eq_none (by omega)]
theorem not_inj {a b : W32} (h : ~~~ a = ~~~ b) : a = b := by
  have := congrArg (fun x => ~~~ x) h
  simpa using this
theorem burst_sum {a b : List UInt8} (h : a.length = b.length) (p : Nat) (hp : ∀ k, k < p ∨ p + 4 ≤ k → a.getD k 0 = b.getD k 0) (hs : sum a = sum b) : a = b :=
  burst h p hp (not_inj hs)
/-- The word of a sum's bytes is the sum. -/
theorem word_le4 (x : W32) : word (le4 x) = x := by
  apply ext32
  intro i hi
  unfold le4
  simp only [word, BitVec.getLsbD_xor, BitVec.getLsbD_shiftLeft, BitVec.getLsbD_zero]
  have hb : ∀ n k : Nat, k < 8 → (byteW (UInt8.ofNat n)).getLsbD k = n.testBit k := fun n k hk => by
    unfold byteW
    rw [BitVec.getLsbD_ofNat, UInt8.toNat_ofNat', Nat.testBit_mod_two_pow]
    simp [hk, show k < 32 by omega]
  have hd : ∀ m k : Nat, (x.toNat / 2 ^ m).testBit k = x.getLsbD (m + k) := fun m k => by
    rw [BitVec.getLsbD, ← Nat.shiftRight_eq_div_pow, Nat.testBit_shiftRight]
  rcases (by omega : i < 8 ∨ (8 ≤ i ∧ i < 16) ∨ (16 ≤ i ∧ i < 24) ∨ 24 ≤ i) with h | h | h | h
  · rw [hb _ i h]
    simp [h, BitVec.getLsbD]
  · rw [byteW_high _ i (by omega), hb _ (i - 8) (by omega), show x.toNat / 256 = x.toNat / 2 ^ 8 from rfl, hd]
    simp [show ¬ i < 8 by omega, hi, show i - 8 < 8 by omega, show i - 8 < 32 by omega, show 8 + (i - 8) = i by omega]
  · rw [byteW_high _ i (by omega), byteW_high _ (i - 8) (by omega), hb _ (i - 8 - 8) (by omega), show x.toNat / 65536 = x.toNat / 2 ^ 16 from rfl, hd]
    simp [show ¬ i < 8 by omega, hi, show ¬ i - 8 < 8 by omega, show i - 8 < 32 by omega, show i - 8 - 8 < 8 by omega, show i - 8 - 8 < 32 by omega, show 16 + (i - 8 - 8) = i by omega]
  · rw [byteW_high _ i (by omega), byteW_high _ (i - 8) (by omega), byteW_high _ (i - 8 - 8) (by omega), hb _ (i - 8 - 8 - 8) (by omega), show x.toNat / 16777216 = x.toNat / 2 ^ 24 from rfl, hd]
    simp [show ¬ i < 8 by omega, hi, show ¬ i - 8 < 8 by omega, show i - 8 < 32 by omega, show ¬ i - 8 - 8 < 8 by omega, show i - 8 - 8 < 32 by omega, show i - 8 - 8 - 8 < 8 by omega, show i - 8 - 8 - 8 < 32 by omega, show 24 + (i - 8 - 8 - 8) = i by omega]
/-- Whatever is sealed comes to one state. -/
theorem run_seal4 (l : List UInt8) : run ones (seal4 l) = TN 32 ones := by
  unfold seal4
  rw [run_append, run_word _ _ (by simp [le4]), word_le4]
  have : run ones l ^^^ sum l = ones := by
    unfold sum
    generalize run ones l = r
    unfold ones
    apply ext32; intro i hi
    rw [BitVec.getLsbD_xor, BitVec.getLsbD_not, BitVec.getLsbD_allOnes]
    cases r.getLsbD i <;> simp [hi]
  rw [this]
  rfl
/-- What is bent in at most four bytes, side by side, is sealed no more. -/
theorem burst_open {a b : List UInt8} (h : a.length = b.length) (p : Nat) (hp : ∀ k, k < p ∨ p + 4 ≤ k → a.getD k 0 = b.getD k 0) {l : List UInt8} (hb : b = seal4 l) (hne : a ≠ b) : openL a = none := by
  unfold openL
  rw [if_neg]
  rintro ⟨h4, hs⟩
  apply hne
  refine burst h p hp (s := ones) ?_
  rw [hb, run_seal4, ← hs, run_seal4]
end Go.Sm
