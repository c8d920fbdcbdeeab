/-
  The plain law of the layer sums: CRC-32C over words of 32 bits. No program.
-/
namespace Go.Sm
abbrev W32 := BitVec 32
def poly : W32 := 0x82f63b78#32
/-- The state, moved down by a bit. -/
def T (s : W32) : W32 := (s >>> 1) ^^^ (if s.getLsbD 0 then poly else 0#32)
def TN : Nat → W32 → W32
  | 0, s => s
  | n + 1, s => TN n (T s)
def byteW (c : UInt8) : W32 := BitVec.ofNat 32 c.toNat
/-- A byte goes into a state. -/
def stepW (s : W32) (c : UInt8) : W32 := TN 8 (s ^^^ byteW c)
def run : W32 → List UInt8 → W32
  | s, [] => s
  | s, c :: cs => run (stepW s c) cs
def ones : W32 := BitVec.allOnes 32
def sum (l : List UInt8) : W32 := ~~~ (run ones l)
/-- A word's bytes, the lowest first. -/
def le4 (x : W32) : List UInt8 := [UInt8.ofNat x.toNat, UInt8.ofNat (x.toNat / 256), UInt8.ofNat (x.toNat / 65536), UInt8.ofNat (x.toNat / 16777216)]
def seal4 (l : List UInt8) : List UInt8 := l ++ le4 (sum l)
def openL (l : List UInt8) : Option (List UInt8) := if 4 ≤ l.length ∧ seal4 (l.take (l.length - 4)) = l then some (l.take (l.length - 4)) else none

theorem ext32 {a b : W32} (h : ∀ i, i < 32 → a.getLsbD i = b.getLsbD i) : a = b := BitVec.eq_of_getLsbD_eq h
theorem xlc (a b c : W32) : a ^^^ (b ^^^ c) = b ^^^ (a ^^^ c) := by rw [← BitVec.xor_assoc, BitVec.xor_comm a b, BitVec.xor_assoc]
theorem T_xor (a b : W32) : T (a ^^^ b) = T a ^^^ T b := by
  unfold T
  rw [BitVec.getLsbD_xor, BitVec.ushiftRight_xor_distrib]
  cases a.getLsbD 0 <;> cases b.getLsbD 0 <;> simp [BitVec.xor_assoc]
  · rw [BitVec.xor_comm (b >>> 1)]
  · rw [xlc poly, BitVec.xor_self, BitVec.xor_zero]
theorem T_zero : T 0#32 = 0#32 := by decide
theorem T_top (s : W32) : (T s).getLsbD 31 = s.getLsbD 0 := by
  unfold T
  rw [BitVec.getLsbD_xor, BitVec.getLsbD_ushiftRight]
  have h : s.getLsbD (1 + 31) = false := BitVec.getLsbD_of_ge _ _ (by omega)
  rw [h]
  cases s.getLsbD 0
  · simp
  · have : poly.getLsbD 31 = true := by decide
    simp [this]
theorem T_ker {s : W32} (h : T s = 0#32) : s = 0#32 := by
  have h0 : s.getLsbD 0 = false := by rw [← T_top, h]; simp
  unfold T at h
  rw [h0] at h
  simp only [Bool.false_eq_true, if_false, BitVec.xor_zero] at h
  apply ext32
  intro i hi
  cases i with
  | zero => rw [h0]; rfl
  | succ i =>
    have := congrArg (fun x => x.getLsbD i) h
    simp only [BitVec.getLsbD_ushiftRight] at this
    rw [Nat.add_comm 1 i] at this
    simpa using this
theorem TN_xor (n : Nat) (a b : W32) : TN n (a ^^^ b) = TN n a ^^^ TN n b := by
  induction n generalizing a b with
  | zero => rfl
  | succ n ih => simp only [TN, T_xor, ih]
theorem TN_zero (n : Nat) : TN n 0#32 = 0#32 := by
  induction n with
  | zero => rfl
  | succ n ih => simp only [TN, T_zero, ih]
theorem TN_ker (n : Nat) {s : W32} (h : TN n s = 0#32) : s = 0#32 := by
  induction n generalizing s with
  | zero => exact h
  | succ n ih => exact T_ker (ih h)
theorem TN_add (m n : Nat) (s : W32) : TN (m + n) s = TN n (TN m s) := by
  induction m generalizing s with
  | zero => simp [TN]
  | succ m ih => rw [show m + 1 + n = (m + n) + 1 by omega]; simp only [TN, ih]
theorem TN_succ' (n : Nat) (s : W32) : TN (n + 1) s = T (TN n s) := TN_add n 1 s
theorem byteW_xor (a b : UInt8) : byteW (a ^^^ b) = byteW a ^^^ byteW b := by
  unfold byteW
  apply BitVec.eq_of_toNat_eq
  have ha := a.toNat_lt; have hb := b.toNat_lt
  have hx : a.toNat ^^^ b.toNat < 2 ^ 8 := Nat.xor_lt_two_pow ha hb
  rw [BitVec.toNat_xor, BitVec.toNat_ofNat, BitVec.toNat_ofNat, BitVec.toNat_ofNat, UInt8.toNat_xor]
  rw [Nat.mod_eq_of_lt (by omega), Nat.mod_eq_of_lt (by omega), Nat.mod_eq_of_lt (by omega)]
theorem byteW_zero : byteW 0 = 0#32 := by decide
theorem byteW_inj {a b : UInt8} (h : byteW a = byteW b) : a = b := by
  have := congrArg BitVec.toNat h
  unfold byteW at this
  have ha := a.toNat_lt; have hb := b.toNat_lt
  rw [BitVec.toNat_ofNat, BitVec.toNat_ofNat, Nat.mod_eq_of_lt (by omega), Nat.mod_eq_of_lt (by omega)] at this
  exact UInt8.toNat_inj.1 this
theorem stepW_xor (s t : W32) (a b : UInt8) : stepW (s ^^^ t) (a ^^^ b) = stepW s a ^^^ stepW t b := by
  unfold stepW
  rw [← TN_xor, byteW_xor]
  congr 1
  rw [BitVec.xor_assoc, BitVec.xor_assoc]
  congr 1
  rw [← BitVec.xor_assoc, ← BitVec.xor_assoc, BitVec.xor_comm t]
/-- Byte by byte put against each other. -/
def xorL : List UInt8 → List UInt8 → List UInt8
  | a :: as, b :: bs => (a ^^^ b) :: xorL as bs
  | _, _ => []
theorem xorL_length (a b : List UInt8) (h : a.length = b.length) : (xorL a b).length = a.length := by
  induction a generalizing b with
  | nil => simp [xorL]
  | cons x xs ih => cases b with
    | nil => simp at h
    | cons y ys => simp only [xorL, List.length_cons]; rw [ih ys (by simpa using h)]
theorem run_xor (s t : W32) (a b : List UInt8) (h : a.length = b.length) : run (s ^^^ t) (xorL a b) = run s a ^^^ run t b := by
  induction a generalizing s t b with
  | nil => cases b with
    | nil => rfl
    | cons y ys => simp at h
  | cons x xs ih => cases b with
    | nil => simp at h
    | cons y ys =>
      simp only [xorL, run]
      rw [stepW_xor, ih _ _ _ (by simpa using h)]
theorem run_append (s : W32) (a b : List UInt8) : run s (a ++ b) = run (run s a) b := by
  induction a generalizing s with
  | nil => rfl
  | cons x xs ih => exact ih _
theorem run_zeros (n : Nat) : run 0#32 (List.replicate n 0) = 0#32 := by
  induction n with
  | zero => rfl
  | succ n ih =>
    simp only [List.replicate_succ, run]
    rw [show stepW 0#32 0 = 0#32 from by decide, ih]
theorem stepW_zero_ker {s : W32} (h : stepW s 0 = 0#32) : s = 0#32 := by
  unfold stepW at h
  have := TN_ker 8 h
  rwa [byteW_zero, BitVec.xor_zero] at this
theorem run_zeros_ker (n : Nat) {s : W32} (h : run s (List.replicate n 0) = 0#32) : s = 0#32 := by
  induction n generalizing s with
  | zero => exact h
  | succ n ih => exact stepW_zero_ker (ih h)
/-- The word of at most four bytes, the lowest first. -/
def word : List UInt8 → W32
  | [] => 0#32
  | c :: cs => byteW c ^^^ (word cs <<< 8)
theorem T_shl {v : W32} (h : v.getLsbD 0 = false) : T v = v >>> 1 := by unfold T; rw [h]; simp
theorem shr_shr (v : W32) (m n : Nat) : v >>> m >>> n = v >>> (m + n) := by
  apply ext32; intro i hi
  rw [BitVec.getLsbD_ushiftRight, BitVec.getLsbD_ushiftRight, BitVec.getLsbD_ushiftRight, Nat.add_assoc]
theorem TN_shl (n : Nat) (v : W32) (h : ∀ i, i < n → v.getLsbD i = false) : TN n v = v >>> n := by
  induction n generalizing v with
  | zero => simp [TN]
  | succ n ih =>
    simp only [TN]
    rw [T_shl (h 0 (by omega)), ih _ (fun i hi => by rw [BitVec.getLsbD_ushiftRight]; exact h _ (by omega)), shr_shr, Nat.add_comm]
/-- What is below 2^24 comes back when it was moved up by a byte. -/
theorem TN8_shl (v : W32) (h : ∀ i, 24 ≤ i → v.getLsbD i = false) : TN 8 (v <<< 8) = v := by
  rw [TN_shl 8 _ (fun i hi => by rw [BitVec.getLsbD_shiftLeft]; simp [hi])]
  apply ext32
  intro i hi
  rw [BitVec.getLsbD_ushiftRight, BitVec.getLsbD_shiftLeft]
  by_cases h' : i < 24
  · simp [show 8 + i < 32 by omega, show ¬ (8 + i < 8) by omega, show 8 + i - 8 = i by omega]
  · rw [h i (by omega)]; simp [show ¬ 8 + i < 32 by omega]
theorem byteW_high (c : UInt8) (i : Nat) (h : 8 ≤ i) : (byteW c).getLsbD i = false := by
  unfold byteW
  rw [BitVec.getLsbD_ofNat]
  have : c.toNat.testBit i = false := Nat.testBit_lt_two_pow (Nat.lt_of_lt_of_le c.toNat_lt (Nat.pow_le_pow_right (by omega) h))
  rw [this]; simp
theorem word_high (l : List UInt8) (k : Nat) (hk : l.length ≤ k) (i : Nat) (h : 8 * k ≤ i) : (word l).getLsbD i = false := by
  induction l generalizing k i with
  | nil => simp [word]
  | cons c cs ih =>
    simp only [List.length_cons] at hk
    simp only [word, BitVec.getLsbD_xor, BitVec.getLsbD_shiftLeft]
    rw [byteW_high c i (by omega), ih (k - 1) (by omega) (i - 8) (by omega)]
    simp
theorem run_word (s : W32) (l : List UInt8) (h : l.length ≤ 4) : run s l = TN (8 * l.length) (s ^^^ word l) := by
  induction l generalizing s with
  | nil => simp [run, word, TN]
  | cons c cs ih =>
    simp only [List.length_cons] at h
    have hw : TN 8 (word cs <<< 8) = word cs := TN8_shl _ (fun i hi => word_high cs 3 (by omega) i (by omega))
    simp only [run, word, List.length_cons]
    rw [ih _ (by omega), show 8 * (cs.length + 1) = 8 + 8 * cs.length by omega, TN_add]
    congr 1
    rw [← BitVec.xor_assoc, TN_xor, hw]
    rfl
theorem word_ker (l : List UInt8) (h : l.length ≤ 4) (hw : word l = 0#32) : ∀ c ∈ l, c = 0 := by
  induction l with
  | nil => simp
  | cons c cs ih =>
    simp only [List.length_cons] at h
    simp only [word] at hw
    have hb : ∀ i, i < 32 → ((byteW c).getLsbD i ^^ ((word cs) <<< 8).getLsbD i) = false := fun i hi => by
      rw [← BitVec.getLsbD_xor, hw]; simp
    have h1 : byteW c = 0#32 := by
      apply ext32
      intro i hi
      by_cases h8 : i < 8
      · have := hb i hi
        rw [BitVec.getLsbD_shiftLeft] at this
        simpa [h8] using this
      · rw [byteW_high c i (by omega)]; simp
    have h2 : word cs = 0#32 := by
      rw [h1, BitVec.zero_xor] at hw
      have := TN8_shl (word cs) (fun i hi => word_high cs 3 (by omega) i (by omega))
      rw [hw, TN_zero] at this
      exact this.symm
    intro x hx
    rcases List.mem_cons.1 hx with rfl | hx
    · exact byteW_inj (h1.trans byteW_zero.symm)
    · exact ih (by omega) h2 x hx
/-- A text that is nothing but at most four bytes, side by side, not all of them nought, has a state. -/
theorem run_burst (n m : Nat) (d : List UInt8) (hd : d.length ≤ 4) (h : run 0#32 (List.replicate n 0 ++ d ++ List.replicate m 0) = 0#32) : ∀ c ∈ d, c = 0 := by
  rw [run_append, run_append, run_zeros] at h
  have := run_zeros_ker m h
  rw [run_word _ _ hd] at this
  have := TN_ker _ this
  rw [BitVec.zero_xor] at this
  exact word_ker d hd this
end Go.Sm
