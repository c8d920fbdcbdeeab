/-
  BitsBack: the walk.
-/
import Derived.Test.YtfnhbelaminhiaaBitsSh
import Derived.OpenShut
namespace Go.Bt
theorem readR_append (i : Nat) (l x : List UInt8) (n : Nat) (r : List UInt8) (h : readR i l = some (n, r)) : readR i (l ++ x) = some (n, r ++ x) := by
  induction l generalizing i n with
  | nil => simp [readR] at h
  | cons c cs ih =>
    simp only [readR, List.cons_append] at h ⊢
    split at h
    · simp at h
    · rename_i h1
      rw [if_neg h1]
      split at h
      · rename_i h2
        rw [if_pos h2]
        cases hr : readR (i + 1) cs with
        | none => simp [hr] at h
        | some p =>
          obtain ⟨m, q⟩ := p
          simp only [hr, Option.map_some, Option.some.injEq, Prod.mk.injEq] at h
          obtain ⟨rfl, rfl⟩ := h
          rw [ih (i + 1) m hr]
          rfl
      · rename_i h2
        rw [if_neg h2]
        split at h
        · simp at h
        · rename_i h3
          rw [if_neg h3]
          simp only [Option.some.injEq, Prod.mk.injEq] at h
          obtain ⟨rfl, rfl⟩ := h
          rfl
theorem read_append (l x : List UInt8) (n : Nat) (r : List UInt8) (h : Bt.read l = some (n, r)) : Bt.read (l ++ x) = some (n, r ++ x) := readR_append 0 l x n r h
theorem cut_append (l x t b : List UInt8) (h : Bt.cut l = some (t, b)) : Bt.cut (l ++ x) = some (t, b ++ x) := by
  unfold Bt.cut at h ⊢
  cases hr : Bt.read l with
  | none => simp [hr] at h
  | some p =>
    obtain ⟨n, r⟩ := p
    rw [read_append l x n r hr]
    simp only [hr] at h ⊢
    split at h
    · rename_i hn
      simp only [Option.some.injEq, Prod.mk.injEq] at h
      obtain ⟨rfl, rfl⟩ := h
      rw [if_pos (by simp; omega), List.take_append_of_le_length hn, List.drop_append_of_le_length hn]
    · simp at h
/-- Of what is cut off nothing is read. -/
theorem read_front (n : Nat) (hn : n < 2 ^ 64) : Bt.read ((var n).take ((var n).length - 1)) = none := by
  cases h : Bt.read ((var n).take ((var n).length - 1)) with
  | none => rfl
  | some p =>
    obtain ⟨m, r⟩ := p
    have h1 := read_append _ ((var n).drop ((var n).length - 1)) m r h
    rw [List.take_append_drop] at h1
    have h2 := read_var n [] hn
    rw [List.append_nil, h1] at h2
    have h3 := (var_length n).1
    simp at h2
    omega
theorem cut_front (s : List UInt8) (hs : s.length < 2 ^ 64) : Bt.cut ((text s).take ((text s).length - 1)) = none := by
  cases h : Bt.cut ((text s).take ((text s).length - 1)) with
  | none => rfl
  | some p =>
    obtain ⟨t, b⟩ := p
    have h1 := cut_append _ ((text s).drop ((text s).length - 1)) t b h
    rw [List.take_append_drop] at h1
    have h2 := cut_text s [] hs
    rw [List.append_nil, h1] at h2
    have h3 : 1 ≤ (text s).length := by unfold text; have := (var_length s.length).1; simp; omega
    simp at h2
    omega
theorem get_put (n : Nat) (hn : n < 18446744073709551616) : Bt.get (put n 8) = n := by
  have h : put n 8 = [UInt8.ofNat (n / 2 ^ 56), UInt8.ofNat (n / 2 ^ 48), UInt8.ofNat (n / 2 ^ 40), UInt8.ofNat (n / 2 ^ 32), UInt8.ofNat (n / 2 ^ 24), UInt8.ofNat (n / 2 ^ 16), UInt8.ofNat (n / 2 ^ 8), UInt8.ofNat (n / 2 ^ 0)] := rfl
  unfold Bt.get
  rw [h]
  simp only [List.take, getF, UInt8.toNat_ofNat']
  omega
end Go.Bt
namespace Go.Proofs.Ytfnhbelaminhiaa
open Go.RowKit Go.Bt

set_option maxRecDepth 100000 in
set_option maxHeartbeats 1000000 in
theorem bitsBack_any (n : Nat) (s b : List UInt8) (w : World) (hn : n < 18446744073709551616) :
    Calls Try.prog 7 #[.int .u64 n, .string (ofL s), .string (ofL b)] w fun e w' => e = .returned (.bool true) ∧ Ext w w' := by
  have hE := Ext.refl w
  by_cases ha : 1000 < s.length
  · clear hn
    go_enter Try.func7, Try.ntmps7
    go_wp2_with (go_at_call 14; with_reducible refine (shifted_any _).ext hE (fun w1 hE => ?_))
    go_ret
    exact ⟨rfl, hE⟩
  · by_cases hb : 100 < b.length
    · clear hn
      go_enter Try.func7, Try.ntmps7
      go_wp2_with (go_at_call 14; with_reducible refine (shifted_any _).ext hE (fun w1 hE => ?_))
      go_ret
      exact ⟨rfl, hE⟩
    · obtain ⟨hv1, hv2⟩ := var_length n
      have ht1 : 1 + s.length ≤ (text s).length := by unfold text; have := (var_length s.length).1; simp; omega
      have ht2 : (text s).length ≤ s.length + 10 := by unfold text; have := (var_length s.length).2; simp; omega
      have R1 := Lib.hid (fun w' => read_some (read_var n b (by omega)) w' (by simp; omega))
      have C1 := Lib.hid (fun w' => cut_some (cut_text s b (by omega)) w' (by simp; omega))
      have C2 := Lib.hid (fun w' => cut_none (cut_front s (by omega)) w' (by simp; omega))
      have N1 := Lib.hid (fun w' => no_any (read_front n (by omega)) w' (by simp; omega))
      have V1 := Lib.hid (fun w' => var_any n w' hn)
      have T1 := Lib.hid (fun w' => text_any s w' (by omega))
      have P1 := Lib.hid (fun w' => put_at n 8 8 rfl w' hn (by omega) (by omega))
      have G1 := Lib.hid (fun w' => get_any (put n 8) w' (by simp [put]))
      have hg : Bt.get (put n 8) = n := get_put n hn
      clear hn
      go_enter Try.func7, Try.ntmps7
      go_wp2_with (first | (go_at_call 14; with_reducible refine (shifted_any _).ext hE (fun w1 hE => ?_)) | (go_at_call 15; with_reducible refine (R1.out _).ext hE (fun w1 hE => ?_)) | (go_at_call 16; first | (with_reducible refine (C1.out _).ext hE (fun w1 hE => ?_)) | (with_reducible refine (C2.out _).ext hE (fun w1 hE => ?_))) | (go_at_call 17; with_reducible refine (V1.out _).ext hE (fun w1 hE => ?_)) | (go_at_call 18; with_reducible refine (T1.out _).ext hE (fun w1 hE => ?_)) | (go_at_call 31; with_reducible refine (N1.out _).ext hE (fun w1 hE => ?_)) | (go_at_call 26; with_reducible refine (P1.out _).ext hE (fun w1 hE => ?_)) | (go_at_call 23; with_reducible refine (G1.out _).ext hE (fun w1 hE => ?_)))
      go_ret
      exact ⟨rfl, hE⟩
theorem bitsBack_walk (a0 : Int) (w0 : (Lit.int .u64 a0).wf = true) (a1 : ByteArray) (_w1 : a1.size ≤ maxLen) (a2 : ByteArray) (_w2 : a2.size ≤ maxLen) (w : World) :
    Calls Try.prog 7 #[.int .u64 a0, .string a1, .string a2] w fun e w' => e = .returned (.bool true) ∧ Ext w w' := by
  obtain ⟨h3, h4⟩ := bounds_u64 w0
  obtain ⟨m, rfl⟩ := Int.eq_ofNat_of_zero_le h3
  rw [← ofL_data a1, ← ofL_data a2]
  exact bitsBack_any m _ _ w (by omega)
end Go.Proofs.Ytfnhbelaminhiaa
