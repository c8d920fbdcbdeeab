/-
  The walk of JournalNone.
-/
import Derived.Test.YtajclcbclbppiaaJnKp
import Derived.Test.YtajclcbclbppiaaDskNn
namespace Go.Proofs.Ytajclcbclbppiaa
open Go.RowKit Go.Maps Go.Dk Go.Rc Go.Jn Go.Shelf
variable {W w w' : World} {a : Option Addr}
/-- A journal that is none. -/
def NoJn (w : World) (a : Option Addr) : Prop := a = none ∨ ∃ q, a = some ⟨q, 0, none⟩ ∧ q < w.heap.size ∧ w.cell? ⟨q, 0, none⟩ = some (.pointer none) ∧ w.cell? ⟨q, 2, none⟩ = some (.int .i64 0) ∧ w.cell? ⟨q, 3, none⟩ = some (.int .i64 0)
theorem NoJn.ext (h : NoJn w a) (hx : Ext w w') : NoJn w' a := by
  rcases h with rfl | ⟨q, rfl, hq, h0, h2, h3⟩
  · exact .inl rfl
  · exact .inr ⟨q, rfl, Nat.lt_of_lt_of_le hq hx.size, (hx.cell (p := ⟨q, 0, none⟩) hq).trans h0, (hx.cell (p := ⟨q, 2, none⟩) hq).trans h2, (hx.cell (p := ⟨q, 3, none⟩) hq).trans h3⟩
set_option maxRecDepth 100000 in
theorem nj_ready (h : NoJn w a) : Calls Try.prog 28 #[.pointer a] w fun e w' => e = .returned (.int .i64 1) ∧ Ext w w' := by
  rcases h with rfl | ⟨q, rfl, hq, h0, h2, h3⟩
  all_goals
    go_enter Try.func28, Try.ntmps28
    go_wp2
    go_ret
    exact ⟨rfl, Ext.refl _⟩
set_option maxRecDepth 100000 in
theorem nj_size (h : NoJn w a) : Calls Try.prog 19 #[.pointer a] w fun e w' => e = .returned (.int .i64 0) ∧ Ext w w' := by
  rcases h with rfl | ⟨q, rfl, hq, h0, h2, h3⟩
  all_goals
    go_enter Try.func19, Try.ntmps19
    go_wp2
    go_ret
    exact ⟨rfl, Ext.refl _⟩
set_option maxRecDepth 100000 in
theorem nj_entries (h : NoJn w a) : Calls Try.prog 16 #[.pointer a] w fun e w' => e = .returned (.int .i64 0) ∧ Ext w w' := by
  rcases h with rfl | ⟨q, rfl, hq, h0, h2, h3⟩
  all_goals
    go_enter Try.func16, Try.ntmps16
    go_wp2
    go_ret
    exact ⟨rfl, Ext.refl _⟩
set_option maxRecDepth 100000 in
theorem nj_append (h : NoJn w a) (s : List UInt8) : Calls Try.prog 13 #[.pointer a, .string (ofL s)] w fun e w' => e = .returned (.int .i64 1) ∧ Ext w w' := by
  have R := Lib.hid (nj_ready (h.ext ((Ext.refl w).alloc (.cells #[.pointer a] 29))))
  clear h
  go_enter Try.func13, Try.ntmps13
  go_wp2_with (go_at_call 28; (with_reducible refine R.out.mono ?_); rintro r w1 ⟨rfl, hx1⟩)
  go_ret
  exact ⟨rfl, ((Ext.refl w).alloc _).trans hx1⟩
set_option maxRecDepth 100000 in
theorem nj_compact (h : NoJn w a) (s : List UInt8) : Calls Try.prog 10 #[.pointer a, .string (ofL s)] w fun e w' => e = .returned (.int .i64 1) ∧ Ext w w' := by
  have R := Lib.hid (nj_ready h)
  clear h
  go_enter Try.func10, Try.ntmps10
  go_wp2_with (go_at_call 28; (with_reducible refine R.out.mono ?_); rintro r w1 ⟨rfl, hx1⟩)
  go_ret
  exact ⟨rfl, hx1⟩
set_option maxRecDepth 100000 in
theorem nj_open (h : NoDisk w a) : Calls Try.prog 9 #[.pointer a] w fun e w' => e = .returned (.tuple #[.pointer none, .string (ofL []), .slice none 0 0, .int .i64 1]) ∧ Ext w w' := by
  have U := Lib.hid (n_up h)
  have H := Lib.hid h
  clear h
  go_enter Try.func9, Try.ntmps9
  go_wp2_with (first | (go_at_call 15; (with_reducible refine U.out.mono ?_); rintro x w1 ⟨rfl, hx1⟩) | (go_at_call 22; (with_reducible refine (n_size (H.out.ext hx1) 0).mono ?_); rintro x w2 ⟨rfl, hx2⟩))
  go_returns
  exact ⟨rfl, hx1.trans hx2⟩
theorem len_nil : ([] : List Int).length = 0 := rfl
theorem crash_empty : Dk.crash ⟨100, [], false, 0, none⟩ [] = (⟨100, [], true, 0, none⟩, 0) := rfl
theorem open_crashed : open_ ⟨100, [], true, 0, none⟩ = ⟨⟨100, [], true, 0, none⟩, none, [], [], 61⟩ := rfl
theorem no_none (w : World) : NoDisk w none := .inl rfl
theorem no_disk (w : World) (b c d e : Value) (t : TypeId) : NoDisk (w.alloc (.cells #[.map none, b, c, d, e] t)) (some ⟨w.heap.size, 0, none⟩) := .inr ⟨_, rfl, by simp, by simp⟩
theorem keep_none (w : World) : KeepAt w (fun _ => False) none [] := .inl rfl
theorem false_any (O : Nat → Prop) : ∀ g : Nat, (fun _ => False) g → O g := fun _ h => h.elim
set_option maxHeartbeats 2000000 in
set_option maxRecDepth 100000 in
theorem journalNone_any (s : List UInt8) (w : World) : Calls Try.prog 4 #[.string (ofL s)] w fun e w' => e = .returned (.bool true) ∧ Ext w w' := by
  by_cases hl : 3000 < s.length
  · go_enter Try.func4, Try.ntmps4
    go_wp2_with (go_at_call 7; (with_reducible refine (kept_any _).mono ?_); rintro x w1 ⟨rfl, hx1⟩)
    go_ret
    exact ⟨rfl, hx1⟩
  · have hl2 : s.length ≤ 3000 := by omega
    go_enter Try.func4, Try.ntmps4
    go_wp2_with fail
    go_loopw [3, 4] (fun v i wr => ∃ (k : Nat) (a : Option Addr), k ≤ 2 ∧ i = .int .i64 k ∧ v = .pointer a ∧ NoJn wr a ∧ Ext w wr) (fun _ i _ => 2 - (intOf i).toNat)
    case atStart => exact ⟨0, none, by omega, rfl, rfl, .inl rfl, Ext.refl _⟩
    case round =>
      obtain ⟨k, a, hk, rfl, rfl, hN, hx⟩ := hrel
      by_cases hlt : k < 2
      · have N0 := Lib.hid hN
        have C0 := Lib.hid hx
        clear hN hx
        go_wp2_with (first
          | (go_at_call 13; (with_reducible refine (nj_append N0.out s).mono ?_); rintro x w1 ⟨rfl, hx1⟩)
          | (go_at_call 10; (with_reducible refine (nj_compact (N0.out.ext hx1) s).mono ?_); rintro x w2 ⟨rfl, hx2⟩; have hx2 := hx1.trans hx2)
          | (go_at_call 19; (with_reducible refine (nj_size (N0.out.ext hx2)).mono ?_); rintro x w3 ⟨rfl, hx3⟩; have hx3 := hx2.trans hx3)
          | (go_at_call 16; (with_reducible refine (nj_entries (N0.out.ext hx3)).mono ?_); rintro x w4 ⟨rfl, hx4⟩; have hx4 := hx3.trans hx4))
        exact ⟨⟨k + 1, _, by omega, by go_num, rfl, .inr ⟨_, rfl, by simp, by simp, by simp, by simp⟩, (C0.out.trans hx4).alloc _⟩, by simp [intOf]; omega⟩
      · obtain rfl : k = 2 := by omega
        have C0 := Lib.hid hx
        clear hx hN
        have ND := Lib.hid (fun v => k_new v (Old v) (Old.under v) (c := 100) ⟨by decide, by decide⟩)
        go_wp2_with (first
          | (go_at_call 8; (with_reducible refine (ND.out _).mono ?_); rintro x w1 ⟨p, rfl, hD, _⟩; have HD := Lib.hid hD; clear hD)
          | (go_at_call 9; first
            | ((with_reducible refine (nj_open (no_none _)).mono ?_); rintro x w2 ⟨rfl, hx2⟩; have HX2 := Lib.hid hx2; clear hx2)
            | ((with_reducible refine (nj_open (no_disk _ _ _ _ _ _)).mono ?_); rintro x w3 ⟨rfl, hx3⟩; have HX3 := Lib.hid (((Ext.refl _).alloc _).trans hx3); clear hx3)
            | ((with_reducible refine (open_bad HD4.out open_crashed).mono ?_); rintro x w5 ⟨rfl, hD5⟩; have HD5 := Lib.hid hD5; clear hD5))
          | (go_at_call 7; (with_reducible refine (kept_any _).mono ?_); rintro x w6 ⟨rfl, hx6⟩)
          | (go_at_call 11; (with_reducible refine (k_crash_in ((HD.out.ext HX2.out).ext HX3.out) len_nil (by omega) (keep_none _) (false_any _) crash_empty).mono ?_); rintro x w4 ⟨rfl, hD4⟩; have HD4 := Lib.hid hD4; clear hD4))
        go_ret
        exact ⟨rfl, (C0.out.trans (old_all HD5.out.fr)).trans hx6⟩
theorem journalNone_walk (a0 : ByteArray) (_ : a0.size ≤ maxLen) (w : World) :
    Calls Try.prog 4 #[.string a0] w fun e w' => e = .returned (.bool true) ∧ Ext w w' := by
  rw [← ofL_data a0]
  exact journalNone_any _ w
end Go.Proofs.Ytajclcbclbppiaa
