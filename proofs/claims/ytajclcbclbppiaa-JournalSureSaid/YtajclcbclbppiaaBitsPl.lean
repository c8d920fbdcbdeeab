/-
  The plain law of the layer bits: numbers in sevens and texts as lists of bytes. No program.
-/
namespace Go.Bt
/-- A number in sevens; f: how many bytes more there may be. -/
def varF : Nat → Nat → List UInt8
  | 0, n => [UInt8.ofNat n]
  | f + 1, n => if n < 128 then [UInt8.ofNat n] else UInt8.ofNat (n % 128 + 128) :: varF f (n / 128)
def var (n : Nat) : List UInt8 := varF 9 n
/-- What stands ahead, from the i-th byte on: the number of what is left, and what is behind it. -/
def readR : Nat → List UInt8 → Option (Nat × List UInt8)
  | _, [] => none
  | i, c :: cs =>
    if 10 ≤ i then none
    else if 128 ≤ c.toNat then (readR (i + 1) cs).map fun p => (c.toNat - 128 + 128 * p.1, p.2)
    else if (0 < i ∧ c.toNat = 0) ∨ (i = 9 ∧ 1 < c.toNat) then none
    else some (c.toNat, cs)
def read (l : List UInt8) : Option (Nat × List UInt8) := readR 0 l
def cut (l : List UInt8) : Option (List UInt8 × List UInt8) :=
  match read l with
  | some (n, r) => if n ≤ r.length then some (r.take n, r.drop n) else none
  | none => none
def text (l : List UInt8) : List UInt8 := var l.length ++ l
def put (n size : Nat) : List UInt8 := (List.range size).map fun i => UInt8.ofNat (n / 2 ^ (8 * (size - 1 - i)))
def getF : Nat → List UInt8 → Nat
  | n, [] => n
  | n, c :: cs => getF (n * 256 + c.toNat) cs
def get (l : List UInt8) : Nat := getF 0 (l.take 8)

theorem varF_length (f n : Nat) : 1 ≤ (varF f n).length ∧ (varF f n).length ≤ f + 1 := by
  induction f generalizing n with
  | zero => simp [varF]
  | succ f ih => unfold varF; split
                 · simp
                 · have := ih (n / 128); simp; omega
theorem var_length (n : Nat) : 1 ≤ (var n).length ∧ (var n).length ≤ 10 := varF_length 9 n

theorem u8_ofNat (n : Nat) (h : n < 256) : (UInt8.ofNat n).toNat = n := by simp [UInt8.toNat_ofNat']; omega
theorem u8_eta (c : UInt8) : UInt8.ofNat c.toNat = c := by simp

theorem pow_split (i : Nat) (h : i ≤ 9) : 2 ^ (64 - 7 * i) = 128 * 2 ^ (64 - 7 * (i + 1)) ∨ i = 9 := by
  rcases Nat.lt_or_ge i 9 with h' | h'
  · left; rw [show 64 - 7 * i = 7 + (64 - 7 * (i + 1)) by omega, Nat.pow_add]
  · right; omega

/-- What is put is read, whatever stands behind. -/
theorem readR_varF (f i n : Nat) (b : List UInt8) (hf : f + i = 9) (hn : n < 2 ^ (64 - 7 * i)) (hp : i = 0 ∨ 0 < n) :
    readR i (varF f n ++ b) = some (n, b) := by
  induction f generalizing i n with
  | zero =>
    obtain rfl : i = 9 := by omega
    have : n < 2 := by simpa using hn
    have h1 := u8_ofNat n (by omega)
    simp only [varF, List.cons_append, List.nil_append, readR, h1]
    rw [if_neg (by omega), if_neg (by omega), if_neg (by omega)]
  | succ f ih =>
    unfold varF
    split
    · rename_i h
      have h1 := u8_ofNat n (by omega)
      simp only [List.cons_append, List.nil_append, readR, h1]
      rw [if_neg (by omega), if_neg (by omega), if_neg (by omega)]
    · rename_i h
      have h1 := u8_ofNat (n % 128 + 128) (by omega)
      have hs := pow_split i (by omega)
      simp only [List.cons_append, readR, h1]
      rw [if_neg (by omega), if_pos (by omega), ih (i + 1) (n / 128) (by omega) (by omega) (by omega)]
      simp; omega
theorem read_var (n : Nat) (b : List UInt8) (hn : n < 2 ^ 64) : read (var n ++ b) = some (n, b) := readR_varF 9 0 n b rfl (by simpa using hn) (.inl rfl)

/-- What is read has the bytes that stood there. -/
theorem varF_readR (f i : Nat) (l : List UInt8) (n : Nat) (r : List UInt8) (hf : f + i = 9) (h : readR i l = some (n, r)) :
    l = varF f n ++ r ∧ n < 2 ^ (64 - 7 * i) ∧ (i = 0 ∨ 0 < n) := by
  induction f generalizing i l n with
  | zero =>
    obtain rfl : i = 9 := by omega
    match l with
    | [] => simp [readR] at h
    | c :: cs =>
      simp only [readR] at h
      rw [if_neg (by omega)] at h
      split at h
      · match cs with
        | [] => simp [readR] at h
        | d :: ds => simp [readR] at h
      · split at h
        · simp at h
        · rename_i h1 h2
          simp only [Option.some.injEq, Prod.mk.injEq] at h
          obtain ⟨rfl, rfl⟩ := h
          refine ⟨by simp [varF], ?_, ?_⟩
          · have : c.toNat < 2 := by
              rcases Nat.lt_or_ge 1 c.toNat with h' | h'
              · exact absurd (Or.inr ⟨trivial, h'⟩) h2
              · omega
            simpa using this
          · exact .inr (by
              rcases Nat.eq_zero_or_pos c.toNat with h' | h'
              · exact absurd (Or.inl ⟨by omega, h'⟩) h2
              · exact h')
  | succ f ih =>
    match l with
    | [] => simp [readR] at h
    | c :: cs =>
      have hc := c.toNat_lt
      have hs := pow_split i (by omega)
      simp only [readR] at h
      rw [if_neg (by omega)] at h
      split at h
      · rename_i h1
        cases hr : readR (i + 1) cs with
        | none => simp [hr] at h
        | some p =>
          obtain ⟨m, q⟩ := p
          simp only [hr, Option.map_some, Option.some.injEq, Prod.mk.injEq] at h
          obtain ⟨rfl, rfl⟩ := h
          obtain ⟨e, hm, hp⟩ := ih (i + 1) cs m (by omega) hr
          have h128 : 128 * 2 ^ (64 - 7 * (i + 1)) = 2 ^ (64 - 7 * i) := by omega
          refine ⟨?_, by omega, by omega⟩
          unfold varF
          rw [if_neg (by omega)]
          rw [show (c.toNat - 128 + 128 * m) / 128 = m by omega, show (c.toNat - 128 + 128 * m) % 128 + 128 = c.toNat by omega, List.cons_append, ← e]
          simp
      · split at h
        · simp at h
        · rename_i h1 h2
          simp only [Option.some.injEq, Prod.mk.injEq] at h
          obtain ⟨rfl, rfl⟩ := h
          refine ⟨?_, ?_, ?_⟩
          · unfold varF; rw [if_pos (by omega)]; simp
          · rcases hs with hs | hs
            · have : 0 < 2 ^ (64 - 7 * (i + 1)) := Nat.pow_pos (by omega)
              omega
            · omega
          · omega
theorem var_read (l : List UInt8) (n : Nat) (r : List UInt8) (h : read l = some (n, r)) : l = var n ++ r ∧ n < 2 ^ 64 := by
  obtain ⟨a, b, _⟩ := varF_readR 9 0 l n r rfl h
  exact ⟨a, by simpa using b⟩

theorem cut_text (s b : List UInt8) (hs : s.length < 2 ^ 64) : cut (text s ++ b) = some (s, b) := by
  unfold cut text
  rw [List.append_assoc, read_var _ _ hs]
  simp
theorem text_cut (l t b : List UInt8) (h : cut l = some (t, b)) : text t ++ b = l := by
  unfold cut at h
  split at h
  · rename_i n r hr
    obtain ⟨e, _⟩ := var_read l n r hr
    split at h
    · simp only [Option.some.injEq, Prod.mk.injEq] at h
      obtain ⟨rfl, rfl⟩ := h
      unfold text
      rw [e, List.length_take, Nat.min_eq_left ‹_›, List.append_assoc, List.take_append_drop]
    · simp at h
  · simp at h
end Go.Bt
namespace Go.Bt
/-- What holds ahead of the k-th byte: m is the number of the bytes that were. -/
def ReadRel (l : List UInt8) (k m : Nat) : Prop := (k ≤ 9 → m < 128 ^ k) ∧ m < 18446744073709551616 ∧ read l = (readR k (l.drop k)).map fun p => (m + 128 ^ k * p.1, p.2)
theorem ReadRel.start (l : List UInt8) : ReadRel l 0 0 := by
  refine ⟨by simp, by omega, ?_⟩
  simp [Bt.read]
theorem readR_ten (l : List UInt8) : readR 10 l = none := by cases l <;> simp [readR]
theorem ReadRel.step {l : List UInt8} {k m m' : Nat} (h : ReadRel l k m) (hk : k < l.length) (h10 : k ≤ 9) (hc : 128 ≤ (l[k]).toNat) (h64 : m' < 18446744073709551616)
    (hm : k ≤ 8 ∨ (l[k]).toNat % 128 ≤ 1 → m' = m + (l[k]).toNat % 128 * 128 ^ k) : ReadRel l (k + 1) m' := by
  obtain ⟨h1, _, h2⟩ := h
  have h1 := h1 h10
  have hu := (l[k]).toNat_lt
  rw [List.drop_eq_getElem_cons hk] at h2
  simp only [readR] at h2
  rw [if_neg (by omega), if_pos hc] at h2
  by_cases h9 : k = 9
  · subst h9
    rw [readR_ten] at h2
    exact ⟨by omega, h64, by rw [h2, readR_ten]; rfl⟩
  · have hm := hm (.inl (by omega))
    have hp : 128 ^ (k + 1) = 128 ^ k * 128 := Nat.pow_succ ..
    have hx : (l[k]).toNat % 128 * 128 ^ k ≤ 127 * 128 ^ k := Nat.mul_le_mul_right _ (by omega)
    refine ⟨fun _ => by omega, h64, ?_⟩
    rw [h2, Option.map_map]
    congr 1
    funext p
    simp only [Function.comp_apply, hm, Nat.mul_add, Prod.mk.injEq, and_true]
    have e : (l[k]).toNat - 128 = (l[k]).toNat % 128 := by omega
    rw [e, hp, Nat.mul_comm (128 ^ k) ((l[k]).toNat % 128), Nat.mul_assoc]
    omega
theorem ReadRel.fails {l : List UInt8} {k m : Nat} (h : ReadRel l k m) (hk : k < l.length) (h10 : k ≤ 9) (hc : ¬ 128 ≤ (l[k]).toNat)
    (hx : (0 < k ∧ (l[k]).toNat = 0) ∨ (k = 9 ∧ 1 < (l[k]).toNat)) : read l = none := by
  obtain ⟨_, _, h2⟩ := h
  rw [List.drop_eq_getElem_cons hk] at h2
  simp only [readR] at h2
  rw [if_neg (by omega), if_neg hc, if_pos hx] at h2
  exact h2
theorem ReadRel.done {l : List UInt8} {k m m' : Nat} (h : ReadRel l k m) (hk : k < l.length) (h10 : k ≤ 9) (hc : ¬ 128 ≤ (l[k]).toNat)
    (hx : ¬ ((0 < k ∧ (l[k]).toNat = 0) ∨ (k = 9 ∧ 1 < (l[k]).toNat)))
    (hm : k ≤ 8 ∨ (l[k]).toNat % 128 ≤ 1 → m' = m + (l[k]).toNat % 128 * 128 ^ k) : read l = some (m', l.drop (k + 1)) := by
  obtain ⟨_, _, h2⟩ := h
  rw [List.drop_eq_getElem_cons hk] at h2
  simp only [readR] at h2
  rw [if_neg (by omega), if_neg hc, if_neg hx] at h2
  have hm := hm (by omega)
  rw [h2, hm, Nat.mod_eq_of_lt (by omega), Nat.mul_comm]
  rfl
theorem ReadRel.ends {l : List UInt8} {k m : Nat} (h : ReadRel l k m) (hk : l.length ≤ k ∨ k = 10) : read l = none := by
  obtain ⟨_, _, h2⟩ := h
  rcases hk with hk | rfl
  · rw [List.drop_of_length_le hk] at h2
    simpa [readR] using h2
  · rw [readR_ten] at h2
    exact h2
end Go.Bt
