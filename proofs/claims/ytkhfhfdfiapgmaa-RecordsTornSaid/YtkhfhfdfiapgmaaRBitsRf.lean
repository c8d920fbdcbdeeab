/-
  The document's answers of the layer bits: their walks.
-/
import Derived.Test.YtkhfhfdfiapgmaaRBitsWk
import Derived.Deep.RegionWith
namespace Go.Bt
theorem put_succ (n k : Nat) : put n (k + 1) = UInt8.ofNat (n / 256 ^ k) :: put n k := by
  unfold put
  rw [List.range_succ_eq_map, List.map_cons, List.map_map]
  congr 1
  · rw [show 8 * (k + 1 - 1 - 0) = 8 * k by omega, Nat.pow_mul]
  · refine List.map_congr_left fun i hi => ?_
    simp only [Function.comp_apply]
    rw [show k + 1 - 1 - (i + 1) = k - 1 - i by omega]
theorem div_pow_succ (n k : Nat) : n / 256 ^ k / 256 = n / 256 ^ (k + 1) := by rw [Nat.div_div_eq_div_mul, Nat.pow_succ]
/-- The number of bytes in sevens. -/
def val : List UInt8 → Nat
  | [] => 0
  | c :: cs => c.toNat % 128 + 128 * val cs
def valM (l : List UInt8) : Nat := val l % 18446744073709551616
theorem valM_lt (l : List UInt8) : valM l < 18446744073709551616 := Nat.mod_lt _ (by decide)
theorem valM_cons (c : UInt8) (l : List UInt8) : valM (c :: l) = (valM l * 128 + c.toNat % 128) % 18446744073709551616 := by
  unfold valM; simp only [val]; omega
theorem varF_shape (f n : Nat) (h : n < 128 ^ (f + 1)) : ∃ init last, varF f n = init ++ [last] ∧ (∀ c ∈ init, 128 ≤ UInt8.toNat c) ∧ last.toNat < 128 ∧ val (varF f n) = n := by
  induction f generalizing n with
  | zero =>
    have h : n < 128 := by simpa using h
    have h1 := u8_ofNat n (by omega)
    exact ⟨[], UInt8.ofNat n, rfl, by simp, by omega, by simp only [varF, val, h1]; omega⟩
  | succ f ih =>
    by_cases hlt : n < 128
    · have h1 := u8_ofNat n (by omega)
      exact ⟨[], UInt8.ofNat n, by simp [varF, hlt], by simp, by omega, by simp only [varF, if_pos hlt, val, h1]; omega⟩
    · obtain ⟨init, last, h1, h2, h3, h4⟩ := ih (n / 128) (by rw [Nat.pow_succ] at h; omega)
      have h5 := u8_ofNat (n % 128 + 128) (by omega)
      refine ⟨UInt8.ofNat (n % 128 + 128) :: init, last, by simp [varF, hlt, h1], ?_, h3, by simp only [varF, if_neg hlt, val, h5, h4]; omega⟩
      intro c hc
      rcases List.mem_cons.1 hc with rfl | hc
      · omega
      · exact h2 c hc
/-- What stands ahead up to the first byte below 128. -/
def Front (l : List UInt8) (k : Nat) : Prop := ∀ j, j < k → 128 ≤ (l.getD j 0).toNat
theorem read_front_of {l : List UInt8} {k : Nat} (hf : Front l k) (hc : (l.getD k 0).toNat < 128) {m : Nat} {r : List UInt8} (h : Bt.read l = some (m, r)) :
    l.take (k + 1) = var m ∧ l.drop (k + 1) = r ∧ valM (l.take (k + 1)) = m ∧ k ≤ 9 := by
  obtain ⟨hl, hm⟩ := var_read l m r h
  have h10 : (2 : Nat) ^ 64 < 128 ^ 10 := by decide
  obtain ⟨init, last, h1, h2, h3, h4⟩ := varF_shape 9 m (by omega)
  have h1 : var m = init ++ [last] := h1
  have hlen := var_length m
  rw [h1, List.length_append, List.length_singleton] at hlen
  have hk' : k = init.length := by
    rcases Nat.lt_trichotomy k init.length with hlt | heq | hgt
    · have := h2 (l.getD k 0) (by
        rw [hl, h1, List.append_assoc, List.getD_eq_getElem?_getD, List.getElem?_append_left hlt, List.getElem?_eq_getElem hlt]
        exact List.getElem_mem hlt)
      omega
    · exact heq
    · have := hf init.length hgt
      rw [hl, h1, List.append_assoc, List.getD_eq_getElem?_getD, List.getElem?_append_right (Nat.le_refl _), Nat.sub_self] at this
      simp at this
      omega
  have ht : l.take (k + 1) = var m := by
    rw [hl, hk', List.take_append_of_le_length (by rw [h1]; simp), List.take_of_length_le (by rw [h1]; simp)]
  refine ⟨ht, ?_, ?_, by omega⟩
  · rw [hl, hk', List.drop_append_of_le_length (by rw [h1]; simp), List.drop_of_length_le (by rw [h1]; simp)]
    rfl
  · rw [ht]; unfold valM; rw [show var m = varF 9 m from rfl, h4]; omega
theorem read_none_of_front {l : List UInt8} {k : Nat} (hf : Front l k) (hk : l.length ≤ k ∨ 9 < k) : Bt.read l = none := by
  cases h : Bt.read l with
  | none => rfl
  | some p =>
    obtain ⟨m, r⟩ := p
    obtain ⟨hl, hm⟩ := var_read l m r h
    have h10 : (2 : Nat) ^ 64 < 128 ^ 10 := by decide
    obtain ⟨init, last, h1, h2, h3, h4⟩ := varF_shape 9 m (by omega)
    have h1 : var m = init ++ [last] := h1
    have hlen := var_length m
    rw [h1, List.length_append, List.length_singleton] at hlen
    have hll : init.length + 1 ≤ l.length := by rw [hl, h1]; simp
    have := hf init.length (by omega)
    rw [hl, h1, List.append_assoc, List.getD_eq_getElem?_getD, List.getElem?_append_right (Nat.le_refl _), Nat.sub_self] at this
    simp at this
    omega
theorem read_none_var {l : List UInt8} {k : Nat} (h : Bt.read l = none) : (var (valM (l.take (k + 1))) == l.take (k + 1)) = false := by
  rw [beq_eq_false_iff_ne]
  intro he
  have := read_var (valM (l.take (k + 1))) (l.drop (k + 1)) (valM_lt _)
  rw [he, List.take_append_drop, h] at this
  cases this
end Go.Bt
namespace Go.Proofs.Ytkhfhfdfiapgmaa
open Go.RowKit Go.Bt
theorem byt128 (n : Nat) : UInt8.ofNat (n % 128 + 128) = byt ((n : Int) % 128 + 128) := by
  unfold byt; congr 1
/-! ### the document's Sign, Back, Text, Cut -/
/-! ### the document's Put, Get -/
set_option maxRecDepth 100000 in
theorem refPut_yes (n s : Nat) (w : World) (hn : n < 18446744073709551616) (h1 : 1 ≤ s) (h8 : s ≤ 8) :
    Calls Try.prog 20 #[.int .u64 n, .int .i64 s] w fun e w' => e = .returned (.string (ofL (put n s))) ∧ Ext w w' := by
  have Hn := Lib.hid hn; clear hn
  go_enter Try.func20, Try.ntmps20
  go_wp2
  try simp only [ofL_mk]
  go_loopw [0, 5, 6] (fun a b i wr => ∃ k : Nat, k ≤ s ∧ i = .int .i64 k ∧ a = .int .u64 (n / 256 ^ k : Nat) ∧ b = .string (ofL (put n k)) ∧ Ext w wr) (fun _ _ i _ => s - (intOf i).toNat)
  case atStart => exact ⟨0, by omega, rfl, by simp, rfl, Ext.refl _⟩
  case round =>
    obtain ⟨k, hk, rfl, rfl, rfl, hE⟩ := hrel
    have hlt64 : n / 256 ^ k < 18446744073709551616 := Nat.lt_of_le_of_lt (Nat.div_le_self _ _) Hn.out
    by_cases hlt : k < s
    · have Hp := Lib.hid (put_succ n k)
      have Hd := Lib.hid (div_pow_succ n k)
      have hl : (put n k).length = k := by simp [put]
      have hl' : (put n k).length ≤ 8 := by omega
      have hx : (n / 256 ^ k : Nat) ≤ 18446744073709551615 := by omega
      obtain ⟨x, hxx⟩ : ∃ x, n / 256 ^ k = x := ⟨_, rfl⟩
      rw [hxx] at hx Hp Hd ⊢
      clear hl hlt64 hxx
      go_wp2
      exact ⟨⟨k + 1, by omega, by go_num, by rw [← Hd.out]; rfl, by rw [Hp.out, byt256], hE.alloc _⟩, by simp [intOf]; omega⟩
    · go_wp2
      go_ret
      have : k = s := by omega
      exact ⟨ret_str (by rw [this]), hE⟩

theorem refPut_no (n : Nat) (i : Int) (w : World) (h : i < 1 ∨ 8 < i) :
    Calls Try.prog 20 #[.int .u64 n, .int .i64 i] w fun e w' => e = .returned (.string (ofL [])) ∧ Ext w w' := by
  have h' : i < 1 ∨ ¬ i < 1 ∧ 8 < i := by omega
  clear h
  rcases h' with h | ⟨h, h2⟩
  all_goals
    go_enter Try.func20, Try.ntmps20
    go_wp2
    go_ret
    exact ⟨rfl, Ext.refl _⟩
set_option maxRecDepth 100000 in
theorem refGet_any (l : List UInt8) (w : World) (hl : l.length ≤ 16777216) :
    Calls Try.prog 28 #[.string (ofL l)] w fun e w' => e = .returned (.int .u64 (Bt.get l)) ∧ Ext w w' := by
  go_enter Try.func28, Try.ntmps28
  go_wp2
  go_loop [3, 4] (fun n i => ∃ k : Nat, k ≤ l.length ∧ k ≤ 8 ∧ i = .int .i64 k ∧ n = .int .u64 (getF 0 (l.take k))) (fun _ i => 8 - (intOf i).toNat)
  case atStart => exact ⟨0, by omega, by omega, rfl, rfl⟩
  case round =>
    obtain ⟨k, hk, hk8, rfl, rfl⟩ := hrel
    have hm := getF_take_lt l k
    by_cases h1 : k < l.length
    · by_cases h2 : k < 8
      · have hx : getF 0 (l.take k) ≤ 72057594037927935 := by
          have h4 : 256 ^ k ≤ 256 ^ 7 := Nat.pow_le_pow_right (by omega) (by omega)
          have : (256 : Nat) ^ 7 = 72057594037927936 := by decide
          omega
        have Hs := Lib.hid (getF_snoc 0 (l.take k) (l[k]))
        have Ht := Lib.hid (take_snoc l k h1)
        have hc := (l[k]).toNat_lt
        obtain ⟨x, hxx⟩ : ∃ x, getF 0 (l.take k) = x := ⟨_, rfl⟩
        obtain ⟨c, hcc⟩ : ∃ c, l[k] = c := ⟨_, rfl⟩
        rw [hxx] at hx Hs ⊢
        rw [hcc] at hc Hs Ht
        clear hm hxx
        go_wp2
        go_round
        case rel => exact ⟨k + 1, by omega, by omega, by go_num, by rw [Ht.out, Hs.out]; rfl⟩
        case measure => simp [intOf]; omega
      · have He := Lib.hid (show getF 0 (l.take k) = Bt.get l by unfold Bt.get; rw [show k = 8 by omega])
        clear hm
        go_wp2
        go_ret
        exact ⟨by rw [← He.out]; rfl, Ext.refl _⟩
    · have He := Lib.hid (show getF 0 (l.take k) = Bt.get l by unfold Bt.get; rw [List.take_of_length_le (by omega), List.take_of_length_le (by omega)])
      clear hm
      go_wp2
      go_ret
      exact ⟨by rw [← He.out]; rfl, Ext.refl _⟩
end Go.Proofs.Ytkhfhfdfiapgmaa
