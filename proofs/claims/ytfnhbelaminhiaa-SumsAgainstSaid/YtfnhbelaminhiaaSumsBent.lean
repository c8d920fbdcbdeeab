/-
  The walk of bent: a text of which at most four bytes, side by side, are others.
-/
import Derived.Test.YtfnhbelaminhiaaSumsSh
import Derived.Test.YtfnhbelaminhiaaSumsBu
import Derived.OpenShut
import Derived.Deep.RegionHeld3
namespace Go.Sm
theorem xor_u8 (c : UInt8) (m : Nat) : bits .xor .u8 (c.toNat : Int) ((m : Int) % 256) = ((c ^^^ UInt8.ofNat m).toNat : Int) := by
  have h2 : ((m : Int) % 256) = ((m % 256 : Nat) : Int) := by omega
  rw [h2, u8_xor_nat _ _ c.toNat_lt (by omega), UInt8.toNat_xor, UInt8.toNat_ofNat']
theorem pow_step (r m : Nat) (hr : r ≤ 4) (hm : m < 256 ^ (4 - r)) (h0 : m ≠ 0) : r < 4 ∧ m / 256 < 256 ^ (4 - (r + 1)) := by
  match r, hr with
  | 0, _ => simp at hm ⊢; omega
  | 1, _ => simp at hm ⊢; omega
  | 2, _ => simp at hm ⊢; omega
  | 3, _ => simp at hm ⊢; omega
  | 4, _ => simp at hm; omega
theorem pow_le32 (r m : Nat) (hm : m < 256 ^ (4 - r)) : m < 4294967296 :=
  Nat.lt_of_lt_of_le hm (show 256 ^ (4 - r) ≤ 256 ^ 4 from Nat.pow_le_pow_right (by omega) (by omega))
/-- x is s but for at most four bytes from p on. -/
def Near (x s : List UInt8) (p : Nat) : Prop := x.length = s.length ∧ ∀ j, j < p ∨ p + 4 ≤ j → x.getD j 0 = s.getD j 0
theorem Near.set {x s : List UInt8} {p : Nat} (h : Near x s p) (r : Nat) (hr : r < 4) (c : UInt8) : Near (x.set (p + r) c) s p := by
  refine ⟨by simpa using h.1, fun j hj => ?_⟩
  rw [← h.2 j hj, List.getD_eq_getElem?_getD, List.getElem?_set_ne (by omega), List.getD_eq_getElem?_getD]
end Go.Sm
namespace Go.Proofs.Ytfnhbelaminhiaa
open Go.RowKit Go.Sm Go.Bt
attribute [local go_sem ↓] Go.wp_at_zero Go.wp_at_succ

set_option maxRecDepth 100000 in
set_option maxHeartbeats 2000000 in
theorem bent_any (s : List UInt8) (p m : Nat) (w : World) (hl : s.length ≤ 16777000) (hp : p ≤ 16777000) (hm : m < 4294967296) :
    Calls Try.prog 39 #[.string (ofL s), .int .i64 p, .int .u32 m] w fun e w' => (∃ x, Near x s p ∧ e = .returned (.string (ofL x))) ∧ Ext w w' := by
  have hE := Ext.refl w
  go_enter Try.func39, Try.ntmps39
  go_wp2_with (with_reducible refine conv_bytes rfl 9 rfl rfl (fun cap w2 hz hx2 hlt => ?_))
  have hE := hE.trans hx2
  have Hz := Lib.hid hz
  clear hz hx2 hlt
  go_loopw [2, 8] (fun b i wr => (∃ r m' : Nat, ∃ x : List UInt8, r ≤ 4 ∧ p + r ≤ max p s.length ∧ i = .int .i64 ((p + r : Nat) : Int) ∧ b = .int .u32 m' ∧ m' < 256 ^ (4 - r) ∧ Near x s p ∧ Bz wr w.heap.size cap x) ∧ Ext w wr) (fun _ i _ => s.length - (intOf i).toNat)
  case atStart => exact ⟨⟨0, m, s, by omega, by omega, rfl, rfl, hm, ⟨rfl, fun _ _ => rfl⟩, Hz.out⟩, hE⟩
  case round =>
    clear Hz
    obtain ⟨⟨r, m', x, hr, hpr, rfl, rfl, hm', hn, hz⟩, hE⟩ := hrel
    have hxl := hn.1
    have hmb := pow_le32 _ _ hm'
    have hcv : (convert 46 9 (.slice (some ⟨w.heap.size, 0, none⟩) s.length cap)).run Try.prog wr = .ok (.string (ofL x)) wr := by have := hz.string; rw [hxl] at this; exact this
    by_cases h0 : m' = 0
    · subst h0
      have Hn := Lib.hid hn
      clear hz hn hm' hxl
      go_wp2_with (rw [hcv])
      go_ret
      exact ⟨⟨x, Hn.out, rfl⟩, hE⟩
    · have hm0 : ((m' : Int) != 0) = true := by rw [bne_iff_ne]; omega
      by_cases hlt : p + r < s.length
      · have hs := pow_step _ _ hr hm' h0
        have hc := hz.cell (p + r) (by omega)
        have hf := hz.frozen (p + r) (by omega)
        obtain ⟨c, hck⟩ : ∃ c, x.getD (p + r) 0 = c := ⟨_, rfl⟩
        rw [hck] at hc
        have hx8 := xor_u8 c m'
        have hz2 := Lib.hid (hz.set (p + r) (c ^^^ UInt8.ofNat m'))
        have hn2 := Lib.hid (hn.set r hs.1 (c ^^^ UInt8.ofNat m'))
        have hs2 := Lib.hid hs.2
        obtain ⟨d, hd⟩ : ∃ d, c ^^^ UInt8.ofNat m' = d := ⟨_, rfl⟩
        rw [hd] at hx8 hz2 hn2
        have hr4 := hs.1
        clear hz hn hs hck hm' hcv hxl hd
        go_wp2

        exact ⟨⟨⟨r + 1, m' / 256, _, by omega, by omega, by go_num, by simp, hs2.out, hn2.out, hz2.out⟩, hE.setCell (Nat.le_refl _) _⟩, by simp [intOf]; omega⟩
      · have Hn := Lib.hid hn
        clear hz hn hm' hxl
        go_wp2_with (rw [hcv])
        go_ret
        exact ⟨⟨x, Hn.out, rfl⟩, hE⟩
end Go.Proofs.Ytfnhbelaminhiaa
