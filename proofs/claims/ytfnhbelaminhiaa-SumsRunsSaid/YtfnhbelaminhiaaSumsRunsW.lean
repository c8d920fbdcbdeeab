/-
  SumsRuns: the walk.
-/
import Derived.Test.YtfnhbelaminhiaaSumsSh
import Derived.OpenShut
import Derived.Deep.RegionHeld3
namespace Go.Proofs.Ytfnhbelaminhiaa
open Go.RowKit Go.Sm Go.Bt
attribute [local go_sem ↓] Go.wp_at_zero Go.wp_at_succ

def fillPart (n k : Nat) (c : UInt8) : List UInt8 := List.replicate k c ++ List.replicate (n - k) 0
theorem fillPart_length (n k : Nat) (c : UInt8) (h : k ≤ n) : (fillPart n k c).length = n := by simp [fillPart]; omega
theorem fillPart_set (n k : Nat) (c : UInt8) (h : k < n) : (fillPart n k c).set k c = fillPart n (k + 1) c := by
  unfold fillPart
  rw [List.set_append_right _ _ (by simp)]
  simp only [List.length_replicate, Nat.sub_self]
  rw [show n - k = (n - (k + 1)) + 1 by omega, List.replicate_succ, List.set_cons_zero, List.replicate_succ', List.append_assoc]
  rfl
set_option maxRecDepth 100000 in
set_option maxHeartbeats 2000000 in
theorem sumsRuns_any (l : List UInt8) (c : UInt8) (m : Nat) (w : World) (hl : l.length ≤ 9223372036854775807) (hm : m ≤ 65535) :
    Calls Try.prog 10 #[.string (ofL l), .int .u8 c.toNat, .int .u16 m] w fun e w' => e = .returned (.bool true) ∧ Ext w w' := by
  have hE := Ext.refl w
  by_cases h1 : 60 < l.length
  · go_enter Try.func10, Try.ntmps10
    go_wp2_with (go_at_call 37; with_reducible refine (works_any _).ext hE (fun w1 hE => ?_))
    go_ret
    exact ⟨rfl, hE⟩
  · obtain ⟨n, hn⟩ : ∃ n, m % 20001 = n := ⟨_, rfl⟩
    have hn2 : n ≤ 20000 := by omega
    have Hn3 := Lib.hid (show (m : Int) % 20001 = (n : Int) by omega)
    clear hn
    go_enter Try.func10, Try.ntmps10
    go_wp2_with (with_reducible refine make_bytes (n := n) rfl 15 15 rfl rfl rfl Hn3.out Hn3.out (by omega) (fun w1 hz hx hlt => ?_))
    rw [show List.replicate n (0 : UInt8) = fillPart n 0 c by simp [fillPart]] at hz
    have hE := hE.trans hx
    have Hz := Lib.hid hz
    clear hz
    go_loopw [19] (fun i wr => ∃ k : Nat, k ≤ n ∧ i = .int .i64 k ∧ Bz wr w.heap.size n (fillPart n k c) ∧ Ext w wr) (fun i _ => n - (intOf i).toNat)
    case atStart => exact ⟨0, by omega, rfl, Hz.out, hE⟩
    case round =>
      clear Hz
      obtain ⟨k, hk, rfl, hz, hE⟩ := hrel
      by_cases hlt : k < n
      · have hc := hz.cell k (by rw [fillPart_length _ _ _ hk]; exact hlt)
        have hf := hz.frozen k (by rw [fillPart_length _ _ _ hk]; exact hlt)
        have Hz := Lib.hid hz; clear hz
        go_wp2
        have hz2 := Hz.out.set k c
        rw [fillPart_set _ _ _ hlt] at hz2
        exact ⟨⟨k + 1, by omega, by go_num, hz2, hE.setCell (Nat.le_refl _) _⟩, by simp [intOf]; omega⟩
      · obtain rfl : k = n := by omega
        have hl' := fillPart_length k k c (Nat.le_refl _)
        obtain ⟨x, hx⟩ : ∃ x, fillPart k k c = x := ⟨_, rfl⟩
        rw [hx] at hz hl'
        have hxl : x.length ≤ 20000 := by omega
        have hcv : ∀ w', Ext wr w' → (convert 46 9 (.slice (some ⟨w.heap.size, 0, none⟩) k k)).run Try.prog w' = .ok (.string (ofL x)) w' := fun w' hw' => by
          have := (hz.kept hw').string; rw [hl'] at this; exact this
        have S1 := Lib.hid (fun w' => sum_same x w' (by omega))
        have S2 := Lib.hid (fun w' => refSum_same x w' (by omega))
        have S3 := Lib.hid (fun w' => sum_same (l ++ x) w' (by simp; omega))
        have S4 := Lib.hid (fun w' => refSum_same (l ++ x) w' (by simp; omega))
        have hcat : ¬ 9223372036854775807 < l.length + x.length := by omega
        clear hz hx hl'
        go_wp2_with fail
        go_region_held3 (fun w' => Ext wr w') (first | exact Ext.refl _ | exact Ext.drew (Ext.refl _) | assumption | (refine Ext.trans ?_ hx1; first | assumption | exact Ext.refl _ | exact Ext.drew (Ext.refl _))) (first | (go_at_call 33; first | (with_reducible refine (S1.out _).mono ?_; rintro e w1 ⟨rfl, rfl⟩) | (with_reducible refine (S3.out _).mono ?_; rintro e w1 ⟨rfl, rfl⟩)) | (go_at_call 34; first | (with_reducible refine (S2.out _).mono ?_; rintro e w1 ⟨rfl, rfl⟩) | (with_reducible refine (S4.out _).mono ?_; rintro e w1 ⟨rfl, rfl⟩)) | (go_at_call 37; refine (works_any _).mono ?_; rintro e w1 ⟨rfl, hx1⟩))
        go_wp2
        go_ret
        exact ⟨rfl, hE.trans (by assumption)⟩
theorem sumsRuns_walk (a0 : ByteArray) (w0 : a0.size ≤ maxLen) (a1 : Int) (w1 : (Lit.int .u8 a1).wf = true) (a2 : Int) (w2 : (Lit.int .u16 a2).wf = true) (w : World) :
    Calls Try.prog 10 #[.string a0, .int .u8 a1, .int .u16 a2] w fun e w' => e = .returned (.bool true) ∧ Ext w w' := by
  rw [← ofL_data a0]
  obtain ⟨h3, h4⟩ := bounds_u8 w1
  obtain ⟨h5, h6⟩ := bounds_u16 w2
  obtain ⟨m, rfl⟩ := Int.eq_ofNat_of_zero_le h5
  have := sumsRuns_any a0.data.toList (byt a1) m w (by unfold maxLen at w0; exact w0) (by omega)
  rw [byt_wf a1 ⟨h3, by omega⟩] at this
  exact this
end Go.Proofs.Ytfnhbelaminhiaa
