/-
  The walk of Ints, where both lists are one.
-/
import Derived.Test.YtfcjjdmfnkiacaaDskFd
namespace Go.Proofs.Ytfcjjdmfnkiacaa
open Go.RowKit Go.Maps Go.Dk Go.Shelf
theorem KeepAt.up {w w' : World} {ao : Option Addr} {l : List Int} (h : KeepAt w (fun g => g < w.heap.size) ao l) (hx : Ext w w') : KeepAt w' (fun g => g < w'.heap.size) ao l := by
  rcases h.kept (w' := w') (fun g hg => Below.block hx g hg) with h | ⟨g, o, e, hg, hc⟩
  · exact .inl h
  · exact .inr ⟨g, o, e, Nat.lt_of_lt_of_le hg hx.size, hc⟩
theorem KeepAt.row {w : World} {ao : Option Addr} {n cap : Nat} {l : List Int} (h : Rw w 1 ao n cap (Nums l)) : KeepAt w (fun g => g < w.heap.size) ao l := by
  have hl := h.len
  rw [Nums_length, Nat.mul_one] at hl
  subst hl
  exact KeepAt.of_row h h.lt
theorem KeepAt.one (w : World) (x : Int) (t : TypeId) : KeepAt (w.alloc (.cells #[.int .i64 x] t)) (fun g => g < (w.alloc (.cells #[.int .i64 x] t)).heap.size) (some ⟨w.heap.size, 0, none⟩) [x] := by
  rcases keep_one w x t with h | ⟨g, o, e, hg, hc⟩
  · exact .inl h
  · exact .inr ⟨g, o, e, hg.2, hc⟩
theorem KeepAt.at {w : World} {G : Nat → Prop} {ao : Option Addr} {l : List Int} (h : KeepAt w G ao l) (k : Nat) (hk : k < l.length) : ∃ g o, ao = some ⟨g, o, none⟩ ∧ w.cell? ⟨g, o + k, none⟩ = some (.int .i64 l[k]) := by
  rcases h with rfl | ⟨g, o, e, _, hc⟩
  · simp at hk
  · exact ⟨g, o, e, hc k hk⟩
set_option maxHeartbeats 1000000 in
set_option maxRecDepth 100000 in
theorem ints_yes {w : World} {ao bo : Option Addr} {n ca cb : Nat} {l : List Int} (ha : KeepAt w (fun g => g < w.heap.size) ao l) (hb : KeepAt w (fun g => g < w.heap.size) bo l) (hl : l.length = n) (hn : n ≤ maxLen) :
    Calls Try.prog 16 #[.slice ao n ca, .slice bo n cb] w fun e w' => e = .returned (.bool true) ∧ Ext w w' := by
  unfold maxLen at hn
  have Ha := Lib.hid ha
  have Hb := Lib.hid hb
  clear ha hb
  go_enter Try.func16, Try.ntmps16
  go_wp2
  go_loopw [5] (fun i wr => (∃ k : Nat, k ≤ n ∧ i = .int .i64 k) ∧ Ext w wr) (fun i _ => n - (intOf i).toNat)
  case atStart => exact ⟨⟨0, by omega, rfl⟩, Ext.refl _⟩
  case round =>
    obtain ⟨⟨k, hk, rfl⟩, hE⟩ := hrel
    by_cases hlt : k < n
    · obtain ⟨g, o, rfl, hx1⟩ := (Ha.out.up hE).at k (by omega)
      obtain ⟨f, q, rfl, hx2⟩ := (Hb.out.up hE).at k (by omega)
      obtain ⟨m, hm⟩ : ∃ m, l[k]'(by omega) = m := ⟨_, rfl⟩
      rw [hm] at hx1 hx2
      go_wp2
      go_quiet (fail)
      all_goals
        go_wp2
        exact ⟨⟨⟨k + 1, by omega, by go_num⟩, hE.drewN _⟩, by simp [intOf]; omega⟩
    · have : k = n := by omega
      subst this
      go_wp2
      go_ret
      exact ⟨rfl, hE⟩
end Go.Proofs.Ytfcjjdmfnkiacaa
