/-
  A disk that is none: what each operation answers.
-/
import Derived.Test.YtajclcbclbppiaaDskDp
namespace Go.Proofs.Ytajclcbclbppiaa
open Go.RowKit Go.Maps Go.Dk Go.Shelf
/-- No disk: nil, or one without a map. -/
def NoDisk (w : World) (a : Option Addr) : Prop := a = none ∨ ∃ q, a = some ⟨q, 0, none⟩ ∧ q < w.heap.size ∧ w.cell? ⟨q, 0, none⟩ = some (.map none)
variable {w w' : World} {a : Option Addr}
theorem NoDisk.ext (h : NoDisk w a) (hx : Ext w w') : NoDisk w' a := by
  rcases h with h | ⟨q, e, h1, h2⟩
  · exact .inl h
  · exact .inr ⟨q, e, Nat.lt_of_lt_of_le h1 hx.size, (hx.cell (p := ⟨q, 0, none⟩) h1).trans h2⟩
set_option maxRecDepth 100000 in
theorem none_yes (h : NoDisk w a) : Calls Try.prog 40 #[.pointer a] w fun e w' => e = .returned (.bool true) ∧ w = w' := by
  have hm := map_nil w
  rcases h with rfl | ⟨q, rfl, h1, h2⟩
  all_goals
    go_enter Try.func40, Try.ntmps40
    go_wp2
    go_ret
    exact ⟨rfl, rfl⟩
set_option maxRecDepth 100000 in
theorem n_state (h : NoDisk w a) : Calls Try.prog 33 #[.pointer a] w fun e w' => e = .returned (.int .i64 1) ∧ w = w' := by
  have N := Lib.hid (none_yes h)
  clear h
  go_enter Try.func33, Try.ntmps33
  go_wp2_with (go_at_call 40; (with_reducible refine N.out.mono ?_); rintro e w1 ⟨rfl, rfl⟩)
  go_ret
  exact ⟨rfl, rfl⟩
set_option maxRecDepth 100000 in
theorem n_get (h : NoDisk w a) (n : Int) : Calls Try.prog 42 #[.pointer a, .int .i64 n] w fun e w' => e = .returned (.tuple #[.pointer none, .int .i64 1]) ∧ w = w' := by
  have N := Lib.hid (n_state h)
  clear h
  go_enter Try.func42, Try.ntmps42
  go_wp2_with (go_at_call 33; (with_reducible refine N.out.mono ?_); rintro e w1 ⟨rfl, rfl⟩)
  go_ret2
  exact ⟨rfl, rfl⟩
set_option maxRecDepth 100000 in
theorem n_read (h : NoDisk w a) (n x z : Int) : Calls Try.prog 45 #[.pointer a, .int .i64 n, .int .i64 x, .int .i64 z] w fun e w' => e = .returned (.tuple #[.string (ofL []), .int .i64 1]) ∧ Ext w w' := by
  have N := Lib.hid (fun w' (hx : Ext w w') => n_get (h.ext hx) n)
  clear h
  go_enter Try.func45, Try.ntmps45
  go_wp2_with (go_at_call 42; (with_reducible refine (N.out _ (by repeat (first | exact Ext.refl _ | apply Ext.alloc))).mono ?_); rintro e w1 ⟨rfl, rfl⟩)
  go_ret2
  exact ⟨rfl, by repeat (first | exact Ext.refl _ | apply Ext.alloc)⟩
set_option maxRecDepth 100000 in
theorem n_size (h : NoDisk w a) (n : Int) : Calls Try.prog 22 #[.pointer a, .int .i64 n] w fun e w' => e = .returned (.tuple #[.int .i64 0, .int .i64 1]) ∧ Ext w w' := by
  have N := Lib.hid (fun w' (hx : Ext w w') => n_get (h.ext hx) n)
  clear h
  go_enter Try.func22, Try.ntmps22
  go_wp2_with (go_at_call 42; (with_reducible refine (N.out _ (by repeat (first | exact Ext.refl _ | apply Ext.alloc))).mono ?_); rintro e w1 ⟨rfl, rfl⟩)
  go_ret2
  exact ⟨rfl, by repeat (first | exact Ext.refl _ | apply Ext.alloc)⟩
set_option maxRecDepth 100000 in
theorem n_create (h : NoDisk w a) (n : Int) : Calls Try.prog 54 #[.pointer a, .int .i64 n] w fun e w' => e = .returned (.int .i64 1) ∧ Ext w w' := by
  have N := Lib.hid (fun w' (hx : Ext w w') => n_get (h.ext hx) n)
  clear h
  go_enter Try.func54, Try.ntmps54
  go_wp2_with (go_at_call 42; (with_reducible refine (N.out _ (by repeat (first | exact Ext.refl _ | apply Ext.alloc))).mono ?_); rintro e w1 ⟨rfl, rfl⟩)
  go_ret
  exact ⟨rfl, by repeat (first | exact Ext.refl _ | apply Ext.alloc)⟩
set_option maxRecDepth 100000 in
theorem n_append (h : NoDisk w a) (n : Int) (s : List UInt8) : Calls Try.prog 37 #[.pointer a, .int .i64 n, .string (ofL s)] w fun e w' => e = .returned (.int .i64 1) ∧ Ext w w' := by
  have N := Lib.hid (fun w' (hx : Ext w w') => n_get (h.ext hx) n)
  clear h
  go_enter Try.func37, Try.ntmps37
  go_wp2_with (go_at_call 42; (with_reducible refine (N.out _ (by repeat (first | exact Ext.refl _ | apply Ext.alloc))).mono ?_); rintro e w1 ⟨rfl, rfl⟩)
  go_ret
  exact ⟨rfl, by repeat (first | exact Ext.refl _ | apply Ext.alloc)⟩
set_option maxRecDepth 100000 in
theorem n_sync (h : NoDisk w a) (n : Int) : Calls Try.prog 39 #[.pointer a, .int .i64 n] w fun e w' => e = .returned (.int .i64 1) ∧ Ext w w' := by
  have N := Lib.hid (fun w' (hx : Ext w w') => n_get (h.ext hx) n)
  clear h
  go_enter Try.func39, Try.ntmps39
  go_wp2_with (go_at_call 42; (with_reducible refine (N.out _ (by repeat (first | exact Ext.refl _ | apply Ext.alloc))).mono ?_); rintro e w1 ⟨rfl, rfl⟩)
  go_ret
  exact ⟨rfl, by repeat (first | exact Ext.refl _ | apply Ext.alloc)⟩
set_option maxRecDepth 100000 in
theorem n_truncate (h : NoDisk w a) (n z : Int) : Calls Try.prog 48 #[.pointer a, .int .i64 n, .int .i64 z] w fun e w' => e = .returned (.int .i64 1) ∧ Ext w w' := by
  have N := Lib.hid (fun w' (hx : Ext w w') => n_get (h.ext hx) n)
  clear h
  go_enter Try.func48, Try.ntmps48
  go_wp2_with (go_at_call 42; (with_reducible refine (N.out _ (by repeat (first | exact Ext.refl _ | apply Ext.alloc))).mono ?_); rintro e w1 ⟨rfl, rfl⟩)
  go_ret
  exact ⟨rfl, by repeat (first | exact Ext.refl _ | apply Ext.alloc)⟩
set_option maxRecDepth 100000 in
theorem n_delete (h : NoDisk w a) (n : Int) : Calls Try.prog 32 #[.pointer a, .int .i64 n] w fun e w' => e = .returned (.int .i64 1) ∧ Ext w w' := by
  have N := Lib.hid (fun w' (hx : Ext w w') => n_get (h.ext hx) n)
  clear h
  go_enter Try.func32, Try.ntmps32
  go_wp2_with (go_at_call 42; (with_reducible refine (N.out _ (by repeat (first | exact Ext.refl _ | apply Ext.alloc))).mono ?_); rintro e w1 ⟨rfl, rfl⟩)
  go_ret
  exact ⟨rfl, by repeat (first | exact Ext.refl _ | apply Ext.alloc)⟩
set_option maxRecDepth 100000 in
theorem n_files (h : NoDisk w a) : Calls Try.prog 23 #[.pointer a] w fun e w' => e = .returned (.slice none 0 0) ∧ Ext w w' := by
  have N := Lib.hid (fun w' (hx : Ext w w') => none_yes (h.ext hx))
  clear h
  go_enter Try.func23, Try.ntmps23
  go_wp2_with (go_at_call 40; (with_reducible refine (N.out _ (by repeat (first | exact Ext.refl _ | apply Ext.alloc))).mono ?_); rintro e w1 ⟨rfl, rfl⟩)
  go_ret
  exact ⟨rfl, by repeat (first | exact Ext.refl _ | apply Ext.alloc)⟩
set_option maxRecDepth 100000 in
theorem n_free (h : NoDisk w a) : Calls Try.prog 20 #[.pointer a] w fun e w' => e = .returned (.int .i64 0) ∧ Ext w w' := by
  have N := Lib.hid (fun w' (hx : Ext w w') => none_yes (h.ext hx))
  clear h
  go_enter Try.func20, Try.ntmps20
  go_wp2_with (go_at_call 40; (with_reducible refine (N.out _ (by repeat (first | exact Ext.refl _ | apply Ext.alloc))).mono ?_); rintro e w1 ⟨rfl, rfl⟩)
  go_ret
  exact ⟨rfl, by repeat (first | exact Ext.refl _ | apply Ext.alloc)⟩
set_option maxRecDepth 100000 in
theorem n_up (h : NoDisk w a) : Calls Try.prog 15 #[.pointer a] w fun e w' => e = .returned (.bool false) ∧ Ext w w' := by
  have N := Lib.hid (fun w' (hx : Ext w w') => n_state (h.ext hx))
  clear h
  go_enter Try.func15, Try.ntmps15
  go_wp2_with (go_at_call 33; (with_reducible refine (N.out _ (by repeat (first | exact Ext.refl _ | apply Ext.alloc))).mono ?_); rintro e w1 ⟨rfl, rfl⟩)
  go_ret
  exact ⟨rfl, by repeat (first | exact Ext.refl _ | apply Ext.alloc)⟩
set_option maxRecDepth 100000 in
theorem n_starts (h : NoDisk w a) : Calls Try.prog 26 #[.pointer a] w fun e w' => e = .returned (.int .i64 0) ∧ Ext w w' := by
  have N := Lib.hid (fun w' (hx : Ext w w') => none_yes (h.ext hx))
  clear h
  go_enter Try.func26, Try.ntmps26
  go_wp2_with (go_at_call 40; (with_reducible refine (N.out _ (by repeat (first | exact Ext.refl _ | apply Ext.alloc))).mono ?_); rintro e w1 ⟨rfl, rfl⟩)
  go_ret
  exact ⟨rfl, by repeat (first | exact Ext.refl _ | apply Ext.alloc)⟩
set_option maxRecDepth 100000 in
theorem n_crash (h : NoDisk w a) (v : Value) : Calls Try.prog 11 #[.pointer a, v] w fun e w' => e = .returned (.int .i64 1) ∧ Ext w w' := by
  have N := Lib.hid (fun w' (hx : Ext w w') => n_state (h.ext hx))
  clear h
  go_enter Try.func11, Try.ntmps11
  go_wp2_with (go_at_call 33; (with_reducible refine (N.out _ (by repeat (first | exact Ext.refl _ | apply Ext.alloc))).mono ?_); rintro e w1 ⟨rfl, rfl⟩)
  go_ret
  exact ⟨rfl, by repeat (first | exact Ext.refl _ | apply Ext.alloc)⟩
set_option maxRecDepth 100000 in
theorem n_start (h : NoDisk w a) : Calls Try.prog 17 #[.pointer a] w fun e w' => e = .returned (.int .i64 1) ∧ Ext w w' := by
  have N := Lib.hid (fun w' (hx : Ext w w') => none_yes (h.ext hx))
  clear h
  go_enter Try.func17, Try.ntmps17
  go_wp2_with (go_at_call 40; (with_reducible refine (N.out _ (by repeat (first | exact Ext.refl _ | apply Ext.alloc))).mono ?_); rintro e w1 ⟨rfl, rfl⟩)
  go_ret
  exact ⟨rfl, by repeat (first | exact Ext.refl _ | apply Ext.alloc)⟩
set_option maxRecDepth 100000 in
theorem n_fail (h : NoDisk w a) (n : Int) (v : Value) : Calls Try.prog 12 #[.pointer a, .int .i64 n, v] w fun e w' => e = .returned (.int .i64 1) ∧ Ext w w' := by
  have N := Lib.hid (fun w' (hx : Ext w w') => n_state (h.ext hx))
  clear h
  go_enter Try.func12, Try.ntmps12
  go_wp2_with (go_at_call 33; (with_reducible refine (N.out _ (by repeat (first | exact Ext.refl _ | apply Ext.alloc))).mono ?_); rintro e w1 ⟨rfl, rfl⟩)
  go_ret
  exact ⟨rfl, by repeat (first | exact Ext.refl _ | apply Ext.alloc)⟩
end Go.Proofs.Ytajclcbclbppiaa
