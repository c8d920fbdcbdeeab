/-
  SumsSwaps: the walk.
-/
import Derived.Test.YtfnhbelaminhiaaSumsSh
import Derived.Test.YtfnhbelaminhiaaSumsBu
import Derived.OpenShut
import Derived.Deep.RegionHeld3
namespace Go.Sm
/-- Two bytes changed places. -/
def swp (s : List UInt8) (i j : Nat) : List UInt8 := (s.set i (s.getD j 0)).set j (s.getD i 0)
theorem swp_length (s : List UInt8) (i j : Nat) : (swp s i j).length = s.length := by simp [swp]
theorem swp_far (s : List UInt8) (i j k : Nat) (h : k ≠ i) (h' : k ≠ j) : (swp s i j).getD k 0 = s.getD k 0 := by
  unfold swp
  rw [List.getD_eq_getElem?_getD, List.getD_eq_getElem?_getD, List.getElem?_set_ne (Ne.symm h'), List.getElem?_set_ne (Ne.symm h), List.getD_eq_getElem?_getD]
theorem swp_sum (s : List UInt8) (i g : Nat) (hg : 1 ≤ g) (hg3 : g ≤ 3) : ((((sum (swp s i (i + g))).toNat : Int) == ((sum s).toNat : Int)) == (swp s i (i + g) == s)) = true := by
  by_cases h : swp s i (i + g) = s
  · rw [h]; simp
  · have : sum (swp s i (i + g)) ≠ sum s := fun he => h (burst_sum (swp_length _ _ _) i (fun k hk => swp_far _ _ _ _ (by omega) (by omega)) he)
    have h2 : ¬ ((sum (swp s i (i + g))).toNat : Int) = ((sum s).toNat : Int) := fun he => this (BitVec.eq_of_toNat_eq (by omega))
    rw [beq_eq_false_iff_ne.2 h2, beq_eq_false_iff_ne.2 h]
    rfl
end Go.Sm
namespace Go.Proofs.Ytfnhbelaminhiaa
open Go.RowKit Go.Sm Go.Bt
attribute [local go_sem ↓] Go.wp_at_zero Go.wp_at_succ

set_option maxRecDepth 100000 in
set_option maxHeartbeats 2000000 in
theorem sumsSwaps_any (s : List UInt8) (at_ : Nat) (far : Nat) (w : World) (hl : s.length ≤ 9223372036854775807) (hf : far ≤ 255) (ha : at_ ≤ 65535) :
    Calls Try.prog 12 #[.string (ofL s), .int .u16 at_, .int .u8 far] w fun e w' => e = .returned (.bool true) ∧ Ext w w' := by
  have hE := Ext.refl w
  obtain ⟨r, hr⟩ : ∃ r, far % 3 = r := ⟨_, rfl⟩
  have Hr := Lib.hid (show (far : Int) % 3 = (r : Int) by omega)
  have hr3 : r ≤ 2 := by omega
  clear hr
  by_cases h1 : 1000 < s.length
  · go_enter Try.func12, Try.ntmps12
    go_wp2_with (go_at_call 37; with_reducible refine (works_any _).ext hE (fun w1 hE => ?_))
    go_ret
    exact ⟨rfl, hE⟩
  · have hr' : (far : Int) % 3 = (r : Int) := Hr.out
    by_cases h2 : s.length ≤ 1 + r
    · go_enter Try.func12, Try.ntmps12
      go_wp2_with (go_at_call 37; with_reducible refine (works_any _).ext hE (fun w1 hE => ?_))
      go_ret
      exact ⟨rfl, hE⟩
    · obtain ⟨i, hi⟩ : ∃ i, at_ % (s.length - (1 + r)) = i := ⟨_, rfl⟩
      have hil : i < s.length - (1 + r) := by rw [← hi]; exact Nat.mod_lt _ (by omega)
      have hi' : (at_ : Int) % ((s.length : Int) - (1 + (r : Int))) = (i : Int) := by
        rw [← hi, Int.natCast_emod, Int.natCast_sub (by omega)]; rfl
      clear hi
      go_enter Try.func12, Try.ntmps12
      go_wp2_with (with_reducible refine conv_bytes rfl 24 rfl rfl (fun cap w2 hz hx2 hlt => ?_))
      have hE := hE.trans hx2
      have c1 := hz.cell i (by omega)
      have c2 := hz.cell (i + (1 + r)) (by omega)
      have f1 := hz.frozen i (by omega)
      have f2 := hz.frozen (i + (1 + r)) (by omega)
      have Hz := Lib.hid hz
      clear hz hx2
      rw [show s.getD i 0 = s[i] by simp [show i < s.length by omega]] at c1
      rw [show s.getD (i + (1 + r)) 0 = s[i + (1 + r)] by simp [show i + (1 + r) < s.length by omega]] at c2
      go_region
      go_wp2_with fail
      have hz3 := (Hz.out.set i (s[i + (1 + r)])).set (i + (1 + r)) (s[i])
      rw [show (s.set i (s[i + (1 + r)])).set (i + (1 + r)) (s[i]) = swp s i (i + (1 + r)) by unfold swp; simp [show i < s.length by omega, show i + (1 + r) < s.length by omega]] at hz3
      obtain ⟨w3, hw3⟩ : ∃ w3, ((w2.setCell ⟨w.heap.size, i, none⟩ (.int .u8 (s[i + (1 + r)]).toNat)).setCell ⟨w.heap.size, i + (1 + r), none⟩ (.int .u8 (s[i]).toNat)).drew = w3 := ⟨_, rfl⟩
      have hE3 : Ext w w3 := by rw [← hw3]; exact ((hE.setCell (Nat.le_refl _) _).setCell (Nat.le_refl _) _).drew
      have hz4 : Bz w3 w.heap.size cap (swp s i (i + (1 + r))) := by rw [← hw3]; exact hz3
      rw [hw3]
      have hsl := swp_length s i (i + (1 + r))
      have hsum := swp_sum s i (1 + r) (by omega) (by omega)
      obtain ⟨x, hx⟩ : ∃ x, swp s i (i + (1 + r)) = x := ⟨_, rfl⟩
      rw [hx] at hz4 hsl hsum
      clear hz3 hw3 hx hE c1 c2 f1 f2
      have hcv : ∀ w', Ext w3 w' → (convert 46 9 (.slice (some ⟨w.heap.size, 0, none⟩) s.length cap)).run Try.prog w' = .ok (.string (ofL x)) w' := fun w' hw' => by
        have := (hz4.kept hw').string; rw [hsl] at this; exact this
      have S1 := Lib.hid (fun w' => sum_same x w' (by omega))
      have S2 := Lib.hid (fun w' => sum_same s w' (by omega))
      clear hz4 hsl
      go_region_held3 (fun w' => Ext w3 w') (first | exact Ext.refl _ | exact Ext.drew (Ext.refl _) | assumption | (refine Ext.trans ?_ hx1; first | assumption | exact Ext.refl _ | exact Ext.drew (Ext.refl _))) (first | (go_at_call 33; first | (with_reducible refine (S1.out _).mono ?_; rintro e w1 ⟨rfl, rfl⟩) | (with_reducible refine (S2.out _).mono ?_; rintro e w1 ⟨rfl, rfl⟩)) | (go_at_call 37; refine (works_any _).mono ?_; rintro e w1 ⟨rfl, hx1⟩))
      go_wp2
      go_ret
      exact ⟨rfl, hE3.trans (by assumption)⟩
theorem sumsSwaps_walk (a0 : ByteArray) (w0 : a0.size ≤ maxLen) (a1 : Int) (w1 : (Lit.int .u16 a1).wf = true) (a2 : Int) (w2 : (Lit.int .u8 a2).wf = true) (w : World) :
    Calls Try.prog 12 #[.string a0, .int .u16 a1, .int .u8 a2] w fun e w' => e = .returned (.bool true) ∧ Ext w w' := by
  rw [← ofL_data a0]
  obtain ⟨h3, h4⟩ := bounds_u16 w1
  obtain ⟨h5, h6⟩ := bounds_u8 w2
  obtain ⟨m, rfl⟩ := Int.eq_ofNat_of_zero_le h3
  obtain ⟨k, rfl⟩ := Int.eq_ofNat_of_zero_le h5
  exact sumsSwaps_any a0.data.toList m k w (by unfold maxLen at w0; exact w0) (by omega) (by omega)
end Go.Proofs.Ytfnhbelaminhiaa
