/-
  The walks of records: Put, Get; the document's Put, Get.
-/
import Derived.Test.YtajclcbclbppiaaJRecPl
import Derived.Test.YtajclcbclbppiaaJBitsRf
namespace Go.Proofs.Ytajclcbclbppiaa
open Go.RowKit Go.Bt Go.Sm Go.Rc
set_option maxRecDepth 100000 in
theorem rput_yes (l : List UInt8) (w : World) (hl : l.length ≤ 65536) :
    Calls Try.prog 29 #[.string (ofL l)] w fun e w' => e = .returned (.tuple #[.string (ofL (recL l)), .int .i64 0]) ∧ Ext w w' := by
  have hE := Ext.refl w
  have hp4 := put4_length l.length
  have P1 := Lib.hid (fun w' => put_at l.length 4 4 rfl w' (by omega) (by omega) (by omega))
  have S1 := Lib.hid (fun w' => seal_at (l := put l.length 4 ++ l) (m := recL l) rfl w' (by rw [List.length_append, put4_length]; omega))
  go_enter Try.func29, Try.ntmps29
  go_wp2_with (first | (go_at_call 52; with_reducible refine (P1.out _).ext hE (fun w1 hE => ?_)) | (go_at_call 51; with_reducible refine (S1.out _).ext hE (fun w1 hE => ?_)))
  go_ret2
  exact ⟨rfl, hE⟩
set_option maxRecDepth 100000 in
theorem rput_no (l : List UInt8) (w : World) (hl : 65536 < l.length) (hl2 : l.length ≤ 16777216) :
    Calls Try.prog 29 #[.string (ofL l)] w fun e w' => e = .returned (.tuple #[.string (ofL []), .int .i64 3]) ∧ Ext w w' := by
  have hE := Ext.refl w
  go_enter Try.func29, Try.ntmps29
  go_wp2_with fail
  go_ret2
  exact ⟨rfl, hE⟩
/-- What stands at a place, whatever the place. -/
def getI (s : List UInt8) (i : Int) : Option (List UInt8 × Nat) := if 0 ≤ i then getR s i.toNat else none
theorem getI_nat (s : List UInt8) (a : Nat) : getI s a = getR s a := by unfold getI; rw [if_pos (by omega)]; rfl
def NoneV : Value := .tuple #[.string (ofL []), .int .i64 0, .bool false]
def SomeV (p : List UInt8) (b : Nat) : Value := .tuple #[.string (ofL p), .int .i64 b, .bool true]
set_option maxHeartbeats 1000000 in
set_option maxRecDepth 100000 in
theorem rget_some (s : List UInt8) (a : Nat) (p : List UInt8) (b : Nat) (h : getR s a = some (p, b)) (w : World) (hs : s.length ≤ 16770000) :
    Calls Try.prog 72 #[.string (ofL s), .int .i64 a] w fun e w' => e = .returned (SomeV p b) ∧ Ext w w' := by
  unfold getR at h
  split at h
  · rename_i hc
    obtain ⟨⟨h1, h2, h3⟩, h4⟩ := hc
    simp only [Option.some.injEq, Prod.mk.injEq] at h
    obtain ⟨rfl, rfl⟩ := h
    have ho := openL_at s a h3
    rw [if_pos h4] at ho
    clear h4
    have hE := Ext.refl w
    obtain ⟨n, hn⟩ : ∃ n, askN s a = n := ⟨_, rfl⟩
    have G1 := Lib.hid (fun w' => get_any ((s.drop a).take 4) w' (by simp; omega))
    have hg : Bt.get ((s.drop a).take 4) = n := hn
    rw [hg] at G1
    rw [hn] at h2 h3 ho ⊢
    have O1 := Lib.hid (fun w' => open_some ho w' (by simp; omega))
    have hd4 : (put n 4 ++ payL s a).drop 4 = payL s a := by rw [List.drop_append_of_le_length (by rw [put4_length]; omega), List.drop_of_length_le (by rw [put4_length]; omega)]; rfl
    have hl4 : 4 ≤ (put n 4 ++ payL s a).length := by rw [List.length_append, put4_length]; omega
    obtain ⟨B, hB⟩ : ∃ B, put n 4 ++ payL s a = B := ⟨_, rfl⟩
    rw [hB] at O1 hd4 hl4
    clear hg hn ho hB
    unfold SomeV
    have hx4 : (ofL s).extract a (a + 4) = ofL ((s.drop a).take 4) := by rw [ofL_extract, Nat.add_sub_cancel_left]
    have hx8 : (ofL s).extract a (a + n + 8) = ofL ((s.drop a).take (n + 8)) := by rw [ofL_extract, show a + n + 8 - a = n + 8 by omega]
    go_enter Try.func72, Try.ntmps72
    go_wp2_with (first | (go_at_call 85; with_reducible refine (G1.out _).ext hE (fun w1 hE => ?_)) | (go_at_call 86; with_reducible refine (O1.out _).ext hE (fun w1 hE => ?_)))
    go_ret3
    exact ⟨by rw [show ((a + n + 8 : Nat) : Int) = (a : Int) + n + 8 by omega]; rfl, hE⟩
  · cases h
set_option maxHeartbeats 1000000 in
set_option maxRecDepth 100000 in
theorem rget_none (s : List UInt8) (i : Int) (h : getI s i = none) (w : World) (hs : s.length ≤ 16770000) :
    Calls Try.prog 72 #[.string (ofL s), .int .i64 i] w fun e w' => e = .returned NoneV ∧ Ext w w' := by
  have hE := Ext.refl w
  unfold NoneV
  by_cases hi : 0 ≤ i ∧ i + 8 ≤ s.length
  · obtain ⟨a, rfl⟩ : ∃ a : Nat, i = a := ⟨i.toNat, by omega⟩
    rw [getI_nat] at h
    have h1 : a + 8 ≤ s.length := by omega
    clear hi
    obtain ⟨n, hn⟩ : ∃ n, askN s a = n := ⟨_, rfl⟩
    have G1 := Lib.hid (fun w' => get_any ((s.drop a).take 4) w' (by simp; omega))
    have hg : Bt.get ((s.drop a).take 4) = n := hn
    rw [hg] at G1
    have hlt : n < 18446744073709551616 := by rw [← hg]; exact get_lt _
    have hx4 : (ofL s).extract a (a + 4) = ofL ((s.drop a).take 4) := by rw [ofL_extract, Nat.add_sub_cancel_left]
    by_cases h2 : n ≤ 65536
    · by_cases h3 : a + n + 8 ≤ s.length
      · have ho := openL_at s a (by rw [hn]; exact h3)
        unfold getR at h
        split at h
        · cases h
        · rename_i hc
          rw [hn] at hc ho
          rw [if_neg (fun k => hc ⟨⟨h1, h2, h3⟩, k⟩)] at ho
          have O1 := Lib.hid (fun w' => open_none ho w' (by simp; omega))
          have hx8 : (ofL s).extract a (a + n + 8) = ofL ((s.drop a).take (n + 8)) := by rw [ofL_extract, show a + n + 8 - a = n + 8 by omega]
          clear hg hn ho hc h
          go_enter Try.func72, Try.ntmps72
          go_wp2_with (first | (go_at_call 85; with_reducible refine (G1.out _).ext hE (fun w1 hE => ?_)) | (go_at_call 86; with_reducible refine (O1.out _).ext hE (fun w1 hE => ?_)))
          go_ret3
          exact ⟨rfl, hE⟩
      · have h4 : s.length < a + n + 8 := by omega
        clear hg hn h h3
        go_enter Try.func72, Try.ntmps72
        go_wp2_with ((go_at_call 85; with_reducible refine (G1.out _).ext hE (fun w1 hE => ?_)))
        go_ret3
        exact ⟨rfl, hE⟩
    · have h4 : 65536 < n := by omega
      clear hg hn h h2
      go_enter Try.func72, Try.ntmps72
      go_wp2_with ((go_at_call 85; with_reducible refine (G1.out _).ext hE (fun w1 hE => ?_)))
      go_ret3
      exact ⟨rfl, hE⟩
  · clear h
    by_cases h0 : i < 0
    · clear hi
      go_enter Try.func72, Try.ntmps72
      go_wp2_with (fail)
      go_ret3
      exact ⟨rfl, hE⟩
    · have h1 : (s.length : Int) - 8 < i := by omega
      clear hi
      go_enter Try.func72, Try.ntmps72
      go_wp2_with (fail)
      go_ret3
      exact ⟨rfl, hE⟩
end Go.Proofs.Ytajclcbclbppiaa
