/-
  The walk of RecordsTurned.
-/
import Derived.Test.YtkhfhfdfiapgmaaRecRd
import Derived.Test.YtkhfhfdfiapgmaaSumsBu
import Derived.OpenShut
import Derived.BigRegion
import Derived.WalkKit
namespace Go.Rc
open Go.Bt Go.Sm
/-- A text of which some of four bytes, side by side, are turned. -/
def NearL (x s : List UInt8) (p : Nat) : Prop := x.length = s.length ∧ ∀ k, k < p ∨ p + 4 ≤ k → x.getD k 0 = s.getD k 0
theorem getD_set8 (l : List UInt8) (q j : Nat) (v : UInt8) (hq : q < l.length) : (l.set q v).getD j 0 = if q = j then v else l.getD j 0 := by
  simp only [List.getD_eq_getElem?_getD, List.getElem?_set]
  by_cases h : q = j
  · subst h; rw [if_pos rfl, if_pos rfl, if_pos hq]; rfl
  · rw [if_neg h, if_neg h]
/-- So many of the four bytes have been turned. -/
def Turn4 (x s : List UInt8) (p m i : Nat) : Prop := NearL x s p ∧ ∀ j, j < 4 → x.getD (p + j) 0 = if j < i then s.getD (p + j) 0 ^^^ UInt8.ofNat (m / 2 ^ (8 * j)) else s.getD (p + j) 0
theorem Turn4.step {x s : List UInt8} {p m i : Nat} (h : Turn4 x s p m i) (hi : i < 4) (hp : p + 4 ≤ s.length) : Turn4 (x.set (p + i) (x.getD (p + i) 0 ^^^ UInt8.ofNat (m / 2 ^ (8 * i)))) s p m (i + 1) := by
  obtain ⟨⟨h1, h2⟩, h3⟩ := h
  refine ⟨⟨by rw [List.length_set]; exact h1, fun k hk => ?_⟩, fun j hj => ?_⟩
  · rw [getD_set8 _ _ _ _ (by omega), if_neg (by omega)]; exact h2 k hk
  · rw [getD_set8 _ _ _ _ (by omega)]
    have hii := h3 i hi
    rw [if_neg (by omega)] at hii
    by_cases e : p + i = p + j
    · obtain rfl : i = j := by omega
      rw [if_pos rfl, if_pos (by omega), hii]
    · rw [if_neg e, h3 j hj]
      by_cases hji : j < i
      · rw [if_pos hji, if_pos (by omega)]
      · rw [if_neg hji, if_neg (by omega)]
theorem xor_same {a b : UInt8} (h : a ^^^ b = a) : b = 0 := by
  have h1 : a ^^^ (a ^^^ b) = a ^^^ a := by rw [h]
  rw [← UInt8.xor_assoc, UInt8.xor_self, UInt8.zero_xor] at h1
  exact h1
theorem Turn4.ne {x s : List UInt8} {p m : Nat} (h : Turn4 x s p m 4) (hm : m ≠ 0) (hm2 : m < 4294967296) : x ≠ s := by
  rintro rfl
  have hz : ∀ j, j < 4 → UInt8.ofNat (m / 2 ^ (8 * j)) = 0 := fun j hj => by
    have := h.2 j hj
    rw [if_pos hj] at this
    exact xor_same this.symm
  have z : ∀ j, j < 4 → m / 2 ^ (8 * j) % 256 = 0 := fun j hj => by
    have := congrArg UInt8.toNat (hz j hj)
    rw [UInt8.toNat_ofNat'] at this
    exact this
  have z0 := z 0 (by omega)
  have z1 := z 1 (by omega)
  have z2 := z 2 (by omega)
  have z3 := z 3 (by omega)
  simp at z0 z1 z2 z3
  omega
/-- A record so turned, its first four bytes left, stands there no more. -/
theorem getR_turned (p x : List UInt8) (k : Nat) (hp : p.length ≤ 65536) (hx : NearL x (recL p) k) (hk : 4 ≤ k) (hne : x ≠ recL p) : getR x 0 = none := by
  obtain ⟨hl, hn⟩ := hx
  have hrl := recL_length p
  have h4 : x.take 4 = (recL p).take 4 := by
    refine List.ext_getElem (by simp [hl]) (fun j h1 h2 => ?_)
    have hj : j < 4 := by simp at h1; omega
    have hj2 : j < x.length := by simp at h1; omega
    have := hn j (.inl (by omega))
    rw [List.getD_eq_getElem?_getD, List.getD_eq_getElem?_getD, List.getElem?_eq_getElem hj2, List.getElem?_eq_getElem (by omega)] at this
    simpa using this
  have ha : askN x 0 = p.length := by
    unfold askN
    rw [List.drop_zero, h4, recL_eq]
    exact get_put4 p.length (by omega) _
  cases hg : getR x 0 with
  | none => rfl
  | some y =>
    exfalso
    unfold getR at hg
    split at hg
    · rename_i hc
      have ho := openL_at x 0 (by omega)
      rw [if_pos hc.2, ha, List.drop_zero, List.take_of_length_le (by omega)] at ho
      have hb := burst_open (a := x) (b := recL p) hl k hn (l := put p.length 4 ++ p) rfl hne
      rw [hb] at ho
      cases ho
    · cases hg
end Go.Rc
namespace Go.Proofs.Ytkhfhfdfiapgmaa
open Go.RowKit Go.Rc
theorem xor_i (c : UInt8) (m j : Nat) : bits .xor .u8 (c.toNat : Int) ((m : Int) / 2 ^ (8 * j) % 256) = ((c ^^^ UInt8.ofNat (m / 2 ^ (8 * j))).toNat : Int) := by
  have h2 : ((m : Int) / 2 ^ (8 * j) % 256) = ((m / 2 ^ (8 * j) % 256 : Nat) : Int) := by rw [Int.natCast_emod, Int.natCast_ediv, Int.natCast_pow]; rfl
  rw [h2, u8_xor_nat _ _ c.toNat_lt (by omega), UInt8.toNat_xor, UInt8.toNat_ofNat']
theorem hz_ext {w w' : World} {g cap : Nat} {l : List UInt8} (h : Bz w g cap l) (hx : Ext w w') : Bz w' g cap l := by
  obtain ⟨cur, f1, f2, hb, h2⟩ := h
  have hg : g < w.heap.size := by
    rcases Nat.lt_or_ge g w.heap.size with h | h
    · exact h
    · rw [Array.getElem?_eq_none h] at hb; cases hb
  exact ⟨cur, f1, f2, (Below.block hx g hg).trans hb, h2⟩
set_option maxHeartbeats 1000000 in
set_option maxRecDepth 100000 in
theorem recordsTurned_any (p : List UInt8) (hp : p.length ≤ 9223372036854775807) (at_ m : Nat) (h16 : at_ < 65536) (h32 : m < 4294967296) (w : World) :
    Calls Try.prog 8 #[.string (ofL p), .int .u16 at_, .int .u32 m] w fun e w' => e = .returned (.bool true) ∧ Ext w w' := by
  have hE := Ext.refl w
  by_cases hl : p.length ≤ 1000
  · by_cases hm : m = 0
    · subst hm
      go_enter Try.func8, Try.ntmps8
      go_wp2_with (go_at_call 9; with_reducible refine (recorded_any _).ext hE (fun w1 hE => ?_))
      go_ret
      exact ⟨rfl, hE⟩
    · have hm0 : ((m : Int) == 0) = false := by rw [beq_eq_false_iff_ne]; omega
      have P1 := Lib.hid (fun w' => rput_yes p w' (by omega))
      have hrl : (recL p).length = p.length + 8 := recL_length p
      obtain ⟨t, ht⟩ : ∃ t, recL p = t := ⟨_, rfl⟩
      rw [ht] at P1 hrl
      have Ht := Lib.hid ht
      clear ht
      obtain ⟨q, hq4, hq8, hkk⟩ : ∃ q : Nat, 4 ≤ q ∧ q + 4 ≤ p.length + 8 ∧ wrap64 (4 + (at_ : Int) % ((p.length : Int) + 8 - 7)) = (q : Int) := by
        have h1 := Int.emod_nonneg (at_ : Int) (show (p.length : Int) + 8 - 7 ≠ 0 by omega)
        have h2 := Int.emod_lt_of_pos (at_ : Int) (show (0 : Int) < (p.length : Int) + 8 - 7 by omega)
        rw [IntWalk.wrap64_in _ (by omega)]
        exact ⟨(4 + (at_ : Int) % ((p.length : Int) + 8 - 7)).toNat, by omega, by omega, by omega⟩
      go_enter Try.func8, Try.ntmps8
      go_wp2_with (first | (go_at_call 10; with_reducible refine (P1.out _).ext hE (fun w1 hE => ?_)) | (with_reducible refine conv_bytes rfl 30 rfl rfl (fun cap w2 hz hx2 hlt => ?_); have Hz := Lib.hid hz; have Hx2 := Lib.hid (hE.trans hx2); clear hz hx2))
      have hE1s := Lib.hid hE.size
      go_loopw [11] (fun i wr => (∃ (j : Nat) (x : List UInt8), j ≤ 4 ∧ i = .int .i64 j ∧ Turn4 x t q m j ∧ Bz wr w1.heap.size cap x) ∧ Ext w wr) (fun i _ => 4 - (intOf i).toNat)
      case atStart => exact ⟨⟨0, t, by omega, rfl, ⟨⟨rfl, fun _ _ => rfl⟩, fun j hj => by rw [if_neg (by omega)]⟩, Hz.out⟩, Hx2.out⟩
      case round =>
        clear Hz
        obtain ⟨⟨j, x, hj, rfl, hT, hz⟩, hE2⟩ := hrel
        have hxl : x.length = p.length + 8 := by rw [hT.1.1, hrl]
        by_cases hlt4 : j < 4
        · have hc := hz.cell (q + j) (by omega)
          have hf := hz.frozen (q + j) (by omega)
          have hw : IntKind.i64.wrap ((q : Int) + (j : Int)) = ((q + j : Nat) : Int) := by rw [IntWalk.i64_in _ (by omega)]; omega
          have hT2 := Lib.hid (hT.step hlt4 (by omega))
          obtain ⟨c, hck⟩ : ∃ c, x.getD (q + j) 0 = c := ⟨_, rfl⟩
          rw [hck] at hc hT2
          have hz2 := Lib.hid (hz.set (q + j) (c ^^^ UInt8.ofNat (m / 2 ^ (8 * j))))
          clear hT hz hck
          go_wp2_with fail
          go_region
          all_goals
            go_wp2_with fail
            exact ⟨⟨⟨j + 1, _, by omega, by go_num, hT2.out, by rw [xor_i]; exact hz2.out⟩, (hE2.setCell hE1s.out _).drew⟩, by simp [intOf]; omega⟩
        · obtain rfl : j = 4 := by omega
          have hne := hT.ne hm h32
          have hN := hT.1
          rw [← Ht.out] at hN hne
          have hg := getR_turned p x q (by omega) hN hq4 hne
          have G1 := Lib.hid (fun w' => rget_none x 0 hg w' (by omega))
          have W1 := Lib.hid (fun w' => whole_is (itsAt_none hg) (by omega) w' (n := 0) (e := 0) rfl rfl (P := []) rfl)
          unfold NoneV at G1
          have hcv : (convert 34 9 (.slice (some ⟨w1.heap.size, 0, none⟩) (p.length + 8) cap)).run Try.prog wr = .ok (.string (ofL x)) wr := by have := hz.string; rw [hxl] at this; exact this
          have HZ := Lib.hid hz
          clear hg hN hne hT hz
          go_wp2_with (first | (rw [hcv]) | (go_at_call 16; with_reducible refine (G1.out _).mono ?_; rintro e w3 ⟨rfl, hx3⟩; have hcv3 := (hz_ext HZ.out hx3).string; rw [hxl] at hcv3; have Hx3 := Lib.hid hx3; clear hx3) | (rw [hcv3]) | (go_at_call 14; with_reducible refine (W1.out _).mono ?_; rintro e w4 ⟨ao, ca, rfl, hr, hx4⟩; have Hx4 := Lib.hid ((hE2.trans Hx3.out).trans hx4); clear hr hx4) | (go_at_call 9; with_reducible refine (recorded_any _).ext Hx4.out (fun w5 hE5 => ?_)))
          go_ret
          exact ⟨rfl, hE5⟩
  · go_enter Try.func8, Try.ntmps8
    go_wp2_with (go_at_call 9; with_reducible refine (recorded_any _).ext hE (fun w1 hE => ?_))
    go_ret
    exact ⟨rfl, hE⟩
theorem recordsTurned_walk (a0 : ByteArray) (w0 : a0.size ≤ maxLen) (a1 : Int) (w1 : (Lit.int .u16 a1).wf = true) (a2 : Int) (w2 : (Lit.int .u32 a2).wf = true) (w : World) :
    Calls Try.prog 8 #[.string a0, .int .u16 a1, .int .u32 a2] w fun e w' => e = .returned (.bool true) ∧ Ext w w' := by
  rw [← ofL_data a0]
  unfold maxLen at w0
  obtain ⟨h3, h4⟩ := bounds_u16 w1
  obtain ⟨h5, h6⟩ := bounds_u32 w2
  obtain ⟨m, rfl⟩ := Int.eq_ofNat_of_zero_le h3
  obtain ⟨k, rfl⟩ := Int.eq_ofNat_of_zero_le h5
  exact recordsTurned_any a0.data.toList (by simpa using w0) m k (by omega) (by omega) w
end Go.Proofs.Ytkhfhfdfiapgmaa
