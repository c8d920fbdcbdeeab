/-
  The walk of the document's Get.
-/
import Derived.Test.YtkhfhfdfiapgmaaRecWk
namespace Go.Proofs.Ytkhfhfdfiapgmaa
open Go.RowKit Go.Bt Go.Sm Go.Rc
set_option maxHeartbeats 1000000 in
set_option maxRecDepth 100000 in
theorem refRget_some (s : List UInt8) (a : Nat) (p : List UInt8) (b : Nat) (h : getR s a = some (p, b)) (w : World) (hs : s.length ≤ 16770000) :
    Calls Try.prog 21 #[.string (ofL s), .int .i64 a] w fun e w' => e = .returned (SomeV p b) ∧ Ext w w' := by
  unfold getR at h
  split at h
  · rename_i hc
    obtain ⟨⟨h1, h2, h3⟩, h4⟩ := hc
    simp only [Option.some.injEq, Prod.mk.injEq] at h
    obtain ⟨rfl, rfl⟩ := h
    have hE := Ext.refl w
    obtain ⟨n, hn⟩ : ∃ n, askN s a = n := ⟨_, rfl⟩
    have G1 := Lib.hid (fun w' => refGet_any ((s.drop a).take 4) w' (by simp; omega))
    have hg : Bt.get ((s.drop a).take 4) = n := hn
    rw [hg] at G1
    rw [hn] at h2 h3 h4 ⊢
    have hpl : (payL s a).length = n := by unfold payL; rw [hn]; simp; omega
    have hpx : (ofL s).extract (a + 4) (a + 4 + n) = ofL (payL s a) := by rw [ofL_extract, Nat.add_sub_cancel_left]; unfold payL; rw [hn, List.drop_drop]
    obtain ⟨p, hp⟩ : ∃ p, payL s a = p := ⟨_, rfl⟩
    rw [hp] at h4 hpl hpx ⊢
    have P1 := Lib.hid (fun w' => refRput_yes p w' (by omega))
    have hlr : (recL p).length = n + 8 := by rw [recL_length, hpl]
    obtain ⟨r, hr⟩ : ∃ r, recL p = r := ⟨_, rfl⟩
    rw [hr] at h4 P1 hlr
    have hx4 : (ofL s).extract a (a + 4) = ofL ((s.drop a).take 4) := by rw [ofL_extract, Nat.add_sub_cancel_left]
    have hx8 : (ofL s).extract a (a + (n + 8)) = ofL r := by rw [ofL_extract, Nat.add_sub_cancel_left, h4]
    clear hg hn h4 hp hr
    unfold SomeV
    go_enter Try.func21, Try.ntmps21
    go_wp2_with (first | (go_at_call 28; with_reducible refine (G1.out _).ext hE (fun w1 hE => ?_)) | (go_at_call 11; with_reducible refine (P1.out _).ext hE (fun w1 hE => ?_)))
    go_goals
    go_ret3
    exact ⟨by rw [show ((a + n + 8 : Nat) : Int) = (a : Int) + (n + 8) by omega]; rfl, hE⟩
  · cases h
set_option maxHeartbeats 1000000 in
set_option maxRecDepth 100000 in
theorem refRget_none (s : List UInt8) (i : Int) (h : getI s i = none) (w : World) (hs : s.length ≤ 16770000) (hi9 : -9223372036854775808 ≤ i ∧ i ≤ 9223372036854775807) :
    Calls Try.prog 21 #[.string (ofL s), .int .i64 i] w fun e w' => e = .returned NoneV ∧ Ext w w' := by
  have hE := Ext.refl w
  unfold NoneV
  by_cases hi : 0 ≤ i ∧ i + 8 ≤ s.length
  · obtain ⟨a, rfl⟩ : ∃ a : Nat, i = a := ⟨i.toNat, by omega⟩
    rw [getI_nat] at h
    have h1 : a + 8 ≤ s.length := by omega
    clear hi hi9
    obtain ⟨n, hn⟩ : ∃ n, askN s a = n := ⟨_, rfl⟩
    have G1 := Lib.hid (fun w' => refGet_any ((s.drop a).take 4) w' (by simp; omega))
    have hg : Bt.get ((s.drop a).take 4) = n := hn
    rw [hg] at G1
    have hlt : n < 18446744073709551616 := by rw [← hg]; exact get_lt _
    have hx4 : (ofL s).extract a (a + 4) = ofL ((s.drop a).take 4) := by rw [ofL_extract, Nat.add_sub_cancel_left]
    by_cases h2 : n ≤ 65536
    · by_cases h3 : a + n + 8 ≤ s.length
      · unfold getR at h
        split at h
        · cases h
        · rename_i hc
          rw [hn] at hc
          have hno : ¬ recL (payL s a) = (s.drop a).take (n + 8) := fun k => hc ⟨⟨h1, h2, h3⟩, k⟩
          have hpl : (payL s a).length = n := by unfold payL; rw [hn]; simp; omega
          have hpx : (ofL s).extract (a + 4) (a + 4 + n) = ofL (payL s a) := by rw [ofL_extract, Nat.add_sub_cancel_left]; unfold payL; rw [hn, List.drop_drop]
          obtain ⟨p, hp⟩ : ∃ p, payL s a = p := ⟨_, rfl⟩
          rw [hp] at hno hpl hpx
          have P1 := Lib.hid (fun w' => refRput_yes p w' (by omega))
          have hlr : (recL p).length = n + 8 := by rw [recL_length, hpl]
          obtain ⟨r, hr⟩ : ∃ r, recL p = r := ⟨_, rfl⟩
          rw [hr] at hno P1 hlr
          have hx8 : (ofL s).extract a (a + (n + 8)) = ofL ((s.drop a).take (n + 8)) := by rw [ofL_extract, Nat.add_sub_cancel_left]
          obtain ⟨t, ht⟩ : ∃ t, (s.drop a).take (n + 8) = t := ⟨_, rfl⟩
          rw [ht] at hno hx8
          have hb : (t != r) = true := by simpa using fun k => hno (by rw [k])
          have hb2 : (t == r) = false := by simpa using fun k => hno (by rw [k])
          clear hg hn hc h hno ht hr hp
          go_enter Try.func21, Try.ntmps21
          go_wp2_with (first | (go_at_call 28; with_reducible refine (G1.out _).ext hE (fun w1 hE => ?_)) | (go_at_call 11; with_reducible refine (P1.out _).ext hE (fun w1 hE => ?_)))
          go_ret3
          exact ⟨rfl, hE⟩
      · have h4 : s.length < a + n + 8 := by omega
        clear hg hn h h3
        go_enter Try.func21, Try.ntmps21
        go_wp2_with ((go_at_call 28; with_reducible refine (G1.out _).ext hE (fun w1 hE => ?_)))
        go_ret3
        exact ⟨rfl, hE⟩
    · have h4 : 65536 < n := by omega
      clear hg hn h h2
      go_enter Try.func21, Try.ntmps21
      go_wp2_with ((go_at_call 28; with_reducible refine (G1.out _).ext hE (fun w1 hE => ?_)))
      go_ret3
      exact ⟨rfl, hE⟩
  · clear h
    by_cases h0 : i < 0
    · clear hi
      go_enter Try.func21, Try.ntmps21
      go_wp2_with fail
      go_ret3
      exact ⟨rfl, hE⟩
    · by_cases h1 : (s.length : Int) < i
      · clear hi
        go_enter Try.func21, Try.ntmps21
        go_wp2_with fail
        go_ret3
        exact ⟨rfl, hE⟩
      · have h2 : (s.length : Int) - i < 8 := by omega
        clear hi
        go_enter Try.func21, Try.ntmps21
        go_wp2_with fail
        go_ret3
        exact ⟨rfl, hE⟩
end Go.Proofs.Ytkhfhfdfiapgmaa
