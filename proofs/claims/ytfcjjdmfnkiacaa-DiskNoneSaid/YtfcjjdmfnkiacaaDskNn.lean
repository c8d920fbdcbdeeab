/-
  A disk that is none: what each operation answers.
-/
import Derived.Test.YtfcjjdmfnkiacaaDskDp
namespace Go.Proofs.Ytfcjjdmfnkiacaa
open Go.RowKit Go.Maps Go.Dk Go.Shelf
/-- No disk: nil, or one without a map. -/
def NoDisk (w : World) (a : Option Addr) : Prop := a = none ∨ ∃ q, a = some ⟨q, 0, none⟩ ∧ q < w.heap.size ∧ w.cell? ⟨q, 0, none⟩ = some (.map none)
variable {w w' : World} {a : Option Addr}
theorem NoDisk.ext (h : NoDisk w a) (hx : Ext w w') : NoDisk w' a := by
  rcases h with h | ⟨q, e, h1, h2⟩
  · exact .inl h
  · exact .inr ⟨q, e, Nat.lt_of_lt_of_le h1 hx.size, (hx.cell (p := ⟨q, 0, none⟩) h1).trans h2⟩
set_option maxRecDepth 100000 in
theorem none_yes (h : NoDisk w a) : Calls Try.prog 39 #[.pointer a] w fun e w' => e = .returned (.bool true) ∧ w = w' := by
  have hm := map_nil w
  rcases h with rfl | ⟨q, rfl, h1, h2⟩
  all_goals
    go_enter Try.func39, Try.ntmps39
    go_wp2
    go_ret
    exact ⟨rfl, rfl⟩
set_option maxRecDepth 100000 in
theorem n_state (h : NoDisk w a) : Calls Try.prog 35 #[.pointer a] w fun e w' => e = .returned (.int .i64 1) ∧ w = w' := by
  have N := Lib.hid (none_yes h)
  clear h
  go_enter Try.func35, Try.ntmps35
  go_wp2_with (go_at_call 39; (with_reducible refine N.out.mono ?_); rintro e w1 ⟨rfl, rfl⟩)
  go_ret
  exact ⟨rfl, rfl⟩
set_option maxRecDepth 100000 in
theorem n_get (h : NoDisk w a) (n : Int) : Calls Try.prog 30 #[.pointer a, .int .i64 n] w fun e w' => e = .returned (.tuple #[.pointer none, .int .i64 1]) ∧ w = w' := by
  have N := Lib.hid (n_state h)
  clear h
  go_enter Try.func30, Try.ntmps30
  go_wp2_with (go_at_call 35; (with_reducible refine N.out.mono ?_); rintro e w1 ⟨rfl, rfl⟩)
  go_ret2
  exact ⟨rfl, rfl⟩
set_option maxRecDepth 100000 in
theorem n_read (h : NoDisk w a) (n x z : Int) : Calls Try.prog 18 #[.pointer a, .int .i64 n, .int .i64 x, .int .i64 z] w fun e w' => e = .returned (.tuple #[.string (ofL []), .int .i64 1]) ∧ Ext w w' := by
  have N := Lib.hid (fun w' (hx : Ext w w') => n_get (h.ext hx) n)
  clear h
  go_enter Try.func18, Try.ntmps18
  go_wp2_with (go_at_call 30; (with_reducible refine (N.out _ (by repeat (first | exact Ext.refl _ | apply Ext.alloc))).mono ?_); rintro e w1 ⟨rfl, rfl⟩)
  go_ret2
  exact ⟨rfl, by repeat (first | exact Ext.refl _ | apply Ext.alloc)⟩
set_option maxRecDepth 100000 in
theorem n_size (h : NoDisk w a) (n : Int) : Calls Try.prog 19 #[.pointer a, .int .i64 n] w fun e w' => e = .returned (.tuple #[.int .i64 0, .int .i64 1]) ∧ Ext w w' := by
  have N := Lib.hid (fun w' (hx : Ext w w') => n_get (h.ext hx) n)
  clear h
  go_enter Try.func19, Try.ntmps19
  go_wp2_with (go_at_call 30; (with_reducible refine (N.out _ (by repeat (first | exact Ext.refl _ | apply Ext.alloc))).mono ?_); rintro e w1 ⟨rfl, rfl⟩)
  go_ret2
  exact ⟨rfl, by repeat (first | exact Ext.refl _ | apply Ext.alloc)⟩
set_option maxRecDepth 100000 in
theorem n_create (h : NoDisk w a) (n : Int) : Calls Try.prog 8 #[.pointer a, .int .i64 n] w fun e w' => e = .returned (.int .i64 1) ∧ Ext w w' := by
  have N := Lib.hid (fun w' (hx : Ext w w') => n_get (h.ext hx) n)
  clear h
  go_enter Try.func8, Try.ntmps8
  go_wp2_with (go_at_call 30; (with_reducible refine (N.out _ (by repeat (first | exact Ext.refl _ | apply Ext.alloc))).mono ?_); rintro e w1 ⟨rfl, rfl⟩)
  go_ret
  exact ⟨rfl, by repeat (first | exact Ext.refl _ | apply Ext.alloc)⟩
set_option maxRecDepth 100000 in
theorem n_append (h : NoDisk w a) (n : Int) (s : List UInt8) : Calls Try.prog 9 #[.pointer a, .int .i64 n, .string (ofL s)] w fun e w' => e = .returned (.int .i64 1) ∧ Ext w w' := by
  have N := Lib.hid (fun w' (hx : Ext w w') => n_get (h.ext hx) n)
  clear h
  go_enter Try.func9, Try.ntmps9
  go_wp2_with (go_at_call 30; (with_reducible refine (N.out _ (by repeat (first | exact Ext.refl _ | apply Ext.alloc))).mono ?_); rintro e w1 ⟨rfl, rfl⟩)
  go_ret
  exact ⟨rfl, by repeat (first | exact Ext.refl _ | apply Ext.alloc)⟩
set_option maxRecDepth 100000 in
theorem n_sync (h : NoDisk w a) (n : Int) : Calls Try.prog 10 #[.pointer a, .int .i64 n] w fun e w' => e = .returned (.int .i64 1) ∧ Ext w w' := by
  have N := Lib.hid (fun w' (hx : Ext w w') => n_get (h.ext hx) n)
  clear h
  go_enter Try.func10, Try.ntmps10
  go_wp2_with (go_at_call 30; (with_reducible refine (N.out _ (by repeat (first | exact Ext.refl _ | apply Ext.alloc))).mono ?_); rintro e w1 ⟨rfl, rfl⟩)
  go_ret
  exact ⟨rfl, by repeat (first | exact Ext.refl _ | apply Ext.alloc)⟩
set_option maxRecDepth 100000 in
theorem n_truncate (h : NoDisk w a) (n z : Int) : Calls Try.prog 13 #[.pointer a, .int .i64 n, .int .i64 z] w fun e w' => e = .returned (.int .i64 1) ∧ Ext w w' := by
  have N := Lib.hid (fun w' (hx : Ext w w') => n_get (h.ext hx) n)
  clear h
  go_enter Try.func13, Try.ntmps13
  go_wp2_with (go_at_call 30; (with_reducible refine (N.out _ (by repeat (first | exact Ext.refl _ | apply Ext.alloc))).mono ?_); rintro e w1 ⟨rfl, rfl⟩)
  go_ret
  exact ⟨rfl, by repeat (first | exact Ext.refl _ | apply Ext.alloc)⟩
set_option maxRecDepth 100000 in
theorem n_delete (h : NoDisk w a) (n : Int) : Calls Try.prog 12 #[.pointer a, .int .i64 n] w fun e w' => e = .returned (.int .i64 1) ∧ Ext w w' := by
  have N := Lib.hid (fun w' (hx : Ext w w') => n_get (h.ext hx) n)
  clear h
  go_enter Try.func12, Try.ntmps12
  go_wp2_with (go_at_call 30; (with_reducible refine (N.out _ (by repeat (first | exact Ext.refl _ | apply Ext.alloc))).mono ?_); rintro e w1 ⟨rfl, rfl⟩)
  go_ret
  exact ⟨rfl, by repeat (first | exact Ext.refl _ | apply Ext.alloc)⟩
set_option maxRecDepth 100000 in
theorem n_files (h : NoDisk w a) : Calls Try.prog 17 #[.pointer a] w fun e w' => e = .returned (.slice none 0 0) ∧ Ext w w' := by
  have N := Lib.hid (fun w' (hx : Ext w w') => none_yes (h.ext hx))
  clear h
  go_enter Try.func17, Try.ntmps17
  go_wp2_with (go_at_call 39; (with_reducible refine (N.out _ (by repeat (first | exact Ext.refl _ | apply Ext.alloc))).mono ?_); rintro e w1 ⟨rfl, rfl⟩)
  go_ret
  exact ⟨rfl, by repeat (first | exact Ext.refl _ | apply Ext.alloc)⟩
set_option maxHeartbeats 1000000 in
set_option maxRecDepth 100000 in
theorem n_loose (h : NoDisk w a) : Calls Try.prog 21 #[.pointer a] w fun e w' => e = .returned (.slice none 0 0) ∧ Ext w w' := by
  have N := Lib.hid (n_files h)
  clear h
  go_enter Try.func21, Try.ntmps21
  go_wp2_with (go_at_call 17; (with_reducible refine N.out.mono ?_); rintro e w1 ⟨rfl, hx⟩)
  go_loopw [3, 10] (fun v i wr => v = .slice none 0 0 ∧ i = .int .i64 0 ∧ wr = w1) (fun _ _ _ => 0)
  case atStart => exact ⟨rfl, rfl, rfl⟩
  case round =>
    obtain ⟨rfl, rfl, rfl⟩ := hrel
    go_wp2
    go_ret
    exact ⟨rfl, hx⟩
set_option maxRecDepth 100000 in
theorem n_free (h : NoDisk w a) : Calls Try.prog 28 #[.pointer a] w fun e w' => e = .returned (.int .i64 0) ∧ Ext w w' := by
  have N := Lib.hid (fun w' (hx : Ext w w') => none_yes (h.ext hx))
  clear h
  go_enter Try.func28, Try.ntmps28
  go_wp2_with (go_at_call 39; (with_reducible refine (N.out _ (by repeat (first | exact Ext.refl _ | apply Ext.alloc))).mono ?_); rintro e w1 ⟨rfl, rfl⟩)
  go_ret
  exact ⟨rfl, by repeat (first | exact Ext.refl _ | apply Ext.alloc)⟩
set_option maxRecDepth 100000 in
theorem n_up (h : NoDisk w a) : Calls Try.prog 14 #[.pointer a] w fun e w' => e = .returned (.bool false) ∧ Ext w w' := by
  have N := Lib.hid (fun w' (hx : Ext w w') => n_state (h.ext hx))
  clear h
  go_enter Try.func14, Try.ntmps14
  go_wp2_with (go_at_call 35; (with_reducible refine (N.out _ (by repeat (first | exact Ext.refl _ | apply Ext.alloc))).mono ?_); rintro e w1 ⟨rfl, rfl⟩)
  go_ret
  exact ⟨rfl, by repeat (first | exact Ext.refl _ | apply Ext.alloc)⟩
set_option maxRecDepth 100000 in
theorem n_starts (h : NoDisk w a) : Calls Try.prog 29 #[.pointer a] w fun e w' => e = .returned (.int .i64 0) ∧ Ext w w' := by
  have N := Lib.hid (fun w' (hx : Ext w w') => none_yes (h.ext hx))
  clear h
  go_enter Try.func29, Try.ntmps29
  go_wp2_with (go_at_call 39; (with_reducible refine (N.out _ (by repeat (first | exact Ext.refl _ | apply Ext.alloc))).mono ?_); rintro e w1 ⟨rfl, rfl⟩)
  go_ret
  exact ⟨rfl, by repeat (first | exact Ext.refl _ | apply Ext.alloc)⟩
set_option maxRecDepth 100000 in
theorem n_crash (h : NoDisk w a) (v : Value) : Calls Try.prog 22 #[.pointer a, v] w fun e w' => e = .returned (.int .i64 1) ∧ Ext w w' := by
  have N := Lib.hid (fun w' (hx : Ext w w') => n_state (h.ext hx))
  clear h
  go_enter Try.func22, Try.ntmps22
  go_wp2_with (go_at_call 35; (with_reducible refine (N.out _ (by repeat (first | exact Ext.refl _ | apply Ext.alloc))).mono ?_); rintro e w1 ⟨rfl, rfl⟩)
  go_ret
  exact ⟨rfl, by repeat (first | exact Ext.refl _ | apply Ext.alloc)⟩
set_option maxRecDepth 100000 in
theorem n_start (h : NoDisk w a) : Calls Try.prog 15 #[.pointer a] w fun e w' => e = .returned (.int .i64 1) ∧ Ext w w' := by
  have N := Lib.hid (fun w' (hx : Ext w w') => none_yes (h.ext hx))
  clear h
  go_enter Try.func15, Try.ntmps15
  go_wp2_with (go_at_call 39; (with_reducible refine (N.out _ (by repeat (first | exact Ext.refl _ | apply Ext.alloc))).mono ?_); rintro e w1 ⟨rfl, rfl⟩)
  go_ret
  exact ⟨rfl, by repeat (first | exact Ext.refl _ | apply Ext.alloc)⟩
set_option maxRecDepth 100000 in
theorem n_fail (h : NoDisk w a) (n : Int) (v : Value) : Calls Try.prog 11 #[.pointer a, .int .i64 n, v] w fun e w' => e = .returned (.int .i64 1) ∧ Ext w w' := by
  have N := Lib.hid (fun w' (hx : Ext w w') => n_state (h.ext hx))
  clear h
  go_enter Try.func11, Try.ntmps11
  go_wp2_with (go_at_call 35; (with_reducible refine (N.out _ (by repeat (first | exact Ext.refl _ | apply Ext.alloc))).mono ?_); rintro e w1 ⟨rfl, rfl⟩)
  go_ret
  exact ⟨rfl, by repeat (first | exact Ext.refl _ | apply Ext.alloc)⟩
end Go.Proofs.Ytfcjjdmfnkiacaa
