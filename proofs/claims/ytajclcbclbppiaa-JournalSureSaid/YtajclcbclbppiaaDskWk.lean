/-
  The walks of the disk: those that only read.
-/
import Derived.Test.YtajclcbclbppiaaDskAt
import Derived.Test.YtajclcbclbppiaaDskMo
import Derived.BigQuiet
import Derived.Deep.QuietTactic
import Derived.BigRegion
namespace Go.Proofs.Ytajclcbclbppiaa
open Go.RowKit Go.Maps Go.Dk
variable {w w' : World} {β : Roles} {p : Nat} {S S' : St}
theorem zeroFile (w : World) : (zeroValue 73).run Try.prog w = .ok (.pointer none) w := by kernel_rfl
theorem keyedInt : Keyed Try.prog 3 := int_keyed Try.underlying3
theorem keyInt {n : Int} (h : (Lit.int .i64 n).wf = true) : keyOf Try.prog 3 (.int .i64 n) = some (.int .i64 n) := keyOf_int_mk Try.underlying3 h
theorem ok_wf (h : Ok S) {f : Fl} (hf : f ∈ S.fs) : (Lit.int .i64 f.n).wf = true := by
  have := h.names f hf
  have e : IntKind.i64.min = -9223372036854775808 := rfl
  simp [Lit.wf, e]
  omega
/-- A look into the map, as the run of the operation. -/
theorem look_some (h : DiskAt w β p S) {n : Int} (hn : (Lit.int .i64 n).wf = true) {f : Fl} (hf : get S.fs n = some f) {m fb : Nat} (hm : β (1, 0) = some m) (hfb : β (4, n) = some fb) :
    (Instr.lookup 48 (.map (some m)) (.int .i64 n) true).run Try.prog w = .ok (.tuple #[.pointer (some ⟨fb, 0, none⟩), .bool true]) w := by
  obtain ⟨m', fp, h1, _, h3, _⟩ := h.head
  obtain rfl : m' = m := Option.some.inj (h1.symm.trans hm)
  obtain ⟨v, ps, hrun, hv⟩ := h3.look_ok keyedInt Try.underlying48 (zeroFile w) (R := rf) (zd := .nil) (zp := []) rfl (keyInt hn)
  rw [dat_has, hf] at hrun
  rw [dat_at, hf] at hv
  have e : bn β n = fb := by simp [bn, hfb]
  rw [e] at hv
  obtain rfl := rf_inv (b := fb) hv
  exact hrun
theorem look_none (h : DiskAt w β p S) {n : Int} (hn : (Lit.int .i64 n).wf = true) (hf : get S.fs n = none) {m : Nat} (hm : β (1, 0) = some m) :
    (Instr.lookup 48 (.map (some m)) (.int .i64 n) true).run Try.prog w = .ok (.tuple #[.pointer none, .bool false]) w := by
  obtain ⟨m', fp, h1, _, h3, _⟩ := h.head
  obtain rfl : m' = m := Option.some.inj (h1.symm.trans hm)
  obtain ⟨v, ps, hrun, hv⟩ := h3.look_ok keyedInt Try.underlying48 (zeroFile w) (R := rf) (zd := .nil) (zp := []) rfl (keyInt hn)
  rw [dat_has, hf] at hrun
  rw [dat_at, hf] at hv
  obtain rfl := rf_nil hv
  exact hrun
theorem look_one (h : DiskAt w β p S) {n : Int} (hn : (Lit.int .i64 n).wf = true) {f : Fl} (hf : get S.fs n = some f) {m fb : Nat} (hm : β (1, 0) = some m) (hfb : β (4, n) = some fb) :
    (Instr.lookup 48 (.map (some m)) (.int .i64 n) false).run Try.prog w = .ok (.pointer (some ⟨fb, 0, none⟩)) w := by
  obtain ⟨m', fp, h1, _, h3, _⟩ := h.head
  obtain rfl : m' = m := Option.some.inj (h1.symm.trans hm)
  obtain ⟨v, ps, hrun, hv⟩ := h3.lookup keyedInt Try.underlying48 (zeroFile w) (R := rf) (zd := .nil) (zp := []) rfl (keyInt hn)
  rw [dat_at, hf] at hv
  have e : bn β n = fb := by simp [bn, hfb]
  rw [e] at hv
  obtain rfl := rf_inv (b := fb) hv
  exact hrun
theorem len_map (h : DiskAt w β p S) {m : Nat} (hm : β (1, 0) = some m) (ty : TypeId) : (Builtin.len_ #[48] ty #[.map (some m)]).run Try.prog w = .ok (.int .i64 (S.fs.length : Nat)) w := by
  obtain ⟨m', fp, h1, _, h3, _⟩ := h.head
  obtain rfl : m' = m := Option.some.inj (h1.symm.trans hm)
  have e := h3.len Try.underlying48 ty
  rwa [dat_size] at e
theorem map_made (w : World) (m : Nat) : (binOp .eql 48 (.map (some m)) (.map none)).run Try.prog w = .ok (.bool false) w := by kernel_rfl
theorem map_nil (w : World) : (binOp .eql 48 (.map none) (.map none)).run Try.prog w = .ok (.bool true) w := by kernel_rfl
set_option maxRecDepth 100000 in
theorem none_no (h : DiskAt w β p S) :
    Calls Try.prog 40 #[.pointer (some ⟨p, 0, none⟩)] w fun e w' => e = .returned (.bool false) ∧ w = w' := by
  obtain ⟨m, fp, _, h2, _⟩ := h.head
  have h1 := h2.c0
  have hm := map_made w m
  clear h h2
  go_enter Try.func40, Try.ntmps40
  go_wp2
  go_ret
  exact ⟨rfl, rfl⟩
set_option maxRecDepth 100000 in
theorem state_up (h : DiskAt w β p S) (hd : S.down = false) :
    Calls Try.prog 33 #[.pointer (some ⟨p, 0, none⟩)] w fun e w' => e = .returned (.int .i64 0) ∧ w = w' := by
  obtain ⟨m, fp, _, h2, _⟩ := h.head
  have h1 := h2.c2
  have N := Lib.hid (none_no h)
  rw [hd] at h1
  clear h h2 hd
  go_enter Try.func33, Try.ntmps33
  go_wp2_with (go_at_call 40; with_reducible refine N.out.mono ?_; rintro e w1 ⟨rfl, rfl⟩)
  go_ret
  exact ⟨rfl, rfl⟩
set_option maxRecDepth 100000 in
theorem state_down (h : DiskAt w β p S) (hd : S.down = true) :
    Calls Try.prog 33 #[.pointer (some ⟨p, 0, none⟩)] w fun e w' => e = .returned (.int .i64 61) ∧ w = w' := by
  obtain ⟨m, fp, _, h2, _⟩ := h.head
  have h1 := h2.c2
  have N := Lib.hid (none_no h)
  rw [hd] at h1
  clear h h2 hd
  go_enter Try.func33, Try.ntmps33
  go_wp2_with (go_at_call 40; with_reducible refine N.out.mono ?_; rintro e w1 ⟨rfl, rfl⟩)
  go_ret
  exact ⟨rfl, rfl⟩
/-- state, at one point. -/
theorem state_at (h : DiskAt w β p S) : ∃ x, (Calls Try.prog 33 #[.pointer (some ⟨p, 0, none⟩)] w fun e w' => e = .returned (.int .i64 x) ∧ w = w') ∧ ((S.down = true ∧ x = 61) ∨ (S.down = false ∧ x = 0)) := by
  cases hd : S.down
  · exact ⟨_, state_up h hd, .inr ⟨rfl, rfl⟩⟩
  · exact ⟨_, state_down h hd, .inl ⟨rfl, rfl⟩⟩
set_option maxRecDepth 100000 in
theorem get_yes (h : DiskAt w β p S) (hd : S.down = false) {n : Int} (hn : (Lit.int .i64 n).wf = true) {f : Fl} (hf : get S.fs n = some f) {fb : Nat} (hfb : β (4, n) = some fb) :
    Calls Try.prog 42 #[.pointer (some ⟨p, 0, none⟩), .int .i64 n] w fun e w' => e = .returned (.tuple #[.pointer (some ⟨fb, 0, none⟩), .int .i64 0]) ∧ w = w' := by
  obtain ⟨m, fp, hm, h2, _⟩ := h.head
  have h1 := h2.c0
  have hl := look_some h hn hf hm hfb
  have N := Lib.hid (state_up h hd)
  clear h h2
  go_enter Try.func42, Try.ntmps42
  go_wp2_with (go_at_call 33; with_reducible refine N.out.mono ?_; rintro e w1 ⟨rfl, rfl⟩)
  go_ret2
  exact ⟨rfl, rfl⟩
set_option maxRecDepth 100000 in
theorem get_no (h : DiskAt w β p S) (hd : S.down = false) {n : Int} (hn : (Lit.int .i64 n).wf = true) (hf : get S.fs n = none) :
    Calls Try.prog 42 #[.pointer (some ⟨p, 0, none⟩), .int .i64 n] w fun e w' => e = .returned (.tuple #[.pointer none, .int .i64 4]) ∧ w = w' := by
  obtain ⟨m, fp, hm, h2, _⟩ := h.head
  have h1 := h2.c0
  have hl := look_none h hn hf hm
  have N := Lib.hid (state_up h hd)
  clear h h2
  go_enter Try.func42, Try.ntmps42
  go_wp2_with (go_at_call 33; with_reducible refine N.out.mono ?_; rintro e w1 ⟨rfl, rfl⟩)
  go_ret2
  exact ⟨rfl, rfl⟩
set_option maxRecDepth 100000 in
theorem get_down (h : DiskAt w β p S) (hd : S.down = true) (n : Int) :
    Calls Try.prog 42 #[.pointer (some ⟨p, 0, none⟩), .int .i64 n] w fun e w' => e = .returned (.tuple #[.pointer none, .int .i64 61]) ∧ w = w' := by
  have N := Lib.hid (state_down h hd)
  clear h
  go_enter Try.func42, Try.ntmps42
  go_wp2_with (go_at_call 33; with_reducible refine N.out.mono ?_; rintro e w1 ⟨rfl, rfl⟩)
  go_ret2
  exact ⟨rfl, rfl⟩
/-- get, at one point. -/
theorem get_at (h : DiskAt w β p S) {n : Int} (hn : (Lit.int .i64 n).wf = true) : ∃ v e, (Calls Try.prog 42 #[.pointer (some ⟨p, 0, none⟩), .int .i64 n] w fun x w' => x = .returned (.tuple #[v, .int .i64 e]) ∧ w = w') ∧
    ((S.down = true ∧ v = .pointer none ∧ e = 61) ∨ (S.down = false ∧ get S.fs n = none ∧ v = .pointer none ∧ e = 4) ∨
      ∃ f fb ao cap, S.down = false ∧ get S.fs n = some f ∧ f ∈ S.fs ∧ f.n = n ∧ β (4, n) = some fb ∧ (∀ g, ob ao = some g → β (5, n) = some g) ∧ FileAt w fb ao cap f ∧ v = .pointer (some ⟨fb, 0, none⟩) ∧ e = 0) := by
  cases hd : S.down
  · cases hf : get S.fs n with
    | none => exact ⟨_, _, get_no h hd hn hf, .inr (.inl ⟨rfl, rfl, rfl, rfl⟩)⟩
    | some f =>
      obtain ⟨k1, k2⟩ := get_mem hf
      obtain ⟨fb, ao, cap, k3, k4, k5⟩ := h.file f k1
      rw [k2] at k3 k4
      exact ⟨_, _, get_yes h hd hn hf k3, .inr (.inr ⟨f, fb, ao, cap, rfl, rfl, k1, k2, k3, k4, k5, rfl, rfl⟩)⟩
  · exact ⟨_, _, get_down h hd n, .inl ⟨rfl, rfl, rfl⟩⟩
set_option maxRecDepth 100000 in
theorem size_is (h : DiskAt w β p S) {n : Int} (hn : (Lit.int .i64 n).wf = true) :
    Calls Try.prog 22 #[.pointer (some ⟨p, 0, none⟩), .int .i64 n] w fun e w' => e = .returned (.tuple #[.int .i64 (Dk.size S n).1, .int .i64 (Dk.size S n).2]) ∧ w = w' := by
  obtain ⟨v, e, hC, ht⟩ := get_at h hn
  have C := Lib.hid hC
  clear hC h hn
  rcases ht with ⟨hd, rfl, rfl⟩ | ⟨hd, hf, rfl, rfl⟩ | ⟨f, fb, ao, cap, hd, hf, _, _, _, _, hF, rfl, rfl⟩
  · rw [show Dk.size S n = (0, 61) by simp [Dk.size, hd]]
    clear hd
    go_enter Try.func22, Try.ntmps22
    go_wp2_with (go_at_call 42; with_reducible refine C.out.mono ?_; rintro e w1 ⟨rfl, rfl⟩)
    go_ret2
    exact ⟨rfl, rfl⟩
  · rw [show Dk.size S n = (0, 4) by simp [Dk.size, hd, hf]]
    clear hd hf
    go_enter Try.func22, Try.ntmps22
    go_wp2_with (go_at_call 42; with_reducible refine C.out.mono ?_; rintro e w1 ⟨rfl, rfl⟩)
    go_ret2
    exact ⟨rfl, rfl⟩
  · rw [show Dk.size S n = ((f.b.length : Int), 0) by simp [Dk.size, hd, hf]]
    have h0 := hF.c0
    clear hd hf hF
    go_enter Try.func22, Try.ntmps22
    go_wp2_with (go_at_call 42; with_reducible refine C.out.mono ?_; rintro e w1 ⟨rfl, rfl⟩)
    go_ret2
    exact ⟨rfl, rfl⟩
set_option maxRecDepth 100000 in
theorem up_is (h : DiskAt w β p S) :
    Calls Try.prog 15 #[.pointer (some ⟨p, 0, none⟩)] w fun e w' => e = .returned (.bool (!S.down)) ∧ w = w' := by
  obtain ⟨x, hN, ht⟩ := state_at h
  have N := Lib.hid hN
  clear h hN
  rcases ht with ⟨hd, rfl⟩ | ⟨hd, rfl⟩
  all_goals
    rw [hd]
    clear hd
    go_enter Try.func15, Try.ntmps15
    go_wp2_with (go_at_call 33; with_reducible refine N.out.mono ?_; rintro e w1 ⟨rfl, rfl⟩)
    go_ret
    exact ⟨rfl, rfl⟩
set_option maxRecDepth 100000 in
theorem starts_is (h : DiskAt w β p S) :
    Calls Try.prog 26 #[.pointer (some ⟨p, 0, none⟩)] w fun e w' => e = .returned (.int .i64 S.starts) ∧ w = w' := by
  have N := Lib.hid (none_no h)
  obtain ⟨m, fp, hm, h2, _⟩ := h.head
  have h1 := h2.c3
  clear h h2
  go_enter Try.func26, Try.ntmps26
  go_wp2_with (go_at_call 40; with_reducible refine N.out.mono ?_; rintro e w1 ⟨rfl, rfl⟩)
  go_ret
  exact ⟨rfl, rfl⟩
end Go.Proofs.Ytajclcbclbppiaa
