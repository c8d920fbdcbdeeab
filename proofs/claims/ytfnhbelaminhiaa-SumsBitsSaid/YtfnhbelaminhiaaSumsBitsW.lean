/-
  SumsBits: the walk.
-/
import Derived.Test.YtfnhbelaminhiaaSumsBent
namespace Go.Proofs.Ytfnhbelaminhiaa
open Go.RowKit Go.Sm Go.Bt
attribute [local go_sem ↓] Go.wp_at_zero Go.wp_at_succ
theorem indexU_0 (a b c : Value) : ∀ w, (Instr.index 48 (.agg #[a, b, c]) (.int .i64 0)).run Try.prog w = .ok a w := fun _ => by kernel_rfl
theorem indexU_1 (a b c : Value) : ∀ w, (Instr.index 48 (.agg #[a, b, c]) (.int .i64 1)).run Try.prog w = .ok b w := fun _ => by kernel_rfl
theorem indexU_2 (a b c : Value) : ∀ w, (Instr.index 48 (.agg #[a, b, c]) (.int .i64 2)).run Try.prog w = .ok c w := fun _ => by kernel_rfl
theorem indexU_three (a b c : Int) (k : Nat) (hk : k < 3) : ∀ w, (Instr.index 48 (.agg #[.int .u32 a, .int .u32 b, .int .u32 c]) (.int .i64 k)).run Try.prog w = .ok (.int .u32 ([a, b, c].getD k 0)) w :=
  match k, hk with
  | 0, _ => indexU_0 _ _ _
  | 1, _ => indexU_1 _ _ _
  | 2, _ => indexU_2 _ _ _
theorem alike_or (x e : List UInt8) : (x == e) = true ∨ (x == e) = false := by cases x == e <;> simp
theorem sums_or {y s : List UInt8} {p : Nat} (h : Near y s p) : (y == s) = true ∨ ((y == s) = false ∧ (((sum y).toNat : Int) == ((sum s).toNat : Int)) = false) := by
  by_cases he : y = s
  · exact .inl (by rw [beq_iff_eq]; exact he)
  · refine .inr ⟨beq_eq_false_iff_ne.2 he, beq_eq_false_iff_ne.2 fun hs => he (burst_sum h.1 p h.2 (BitVec.eq_of_toNat_eq (by omega)))⟩
set_option maxRecDepth 100000 in
set_option maxHeartbeats 2000000 in
theorem sumsBits_any (s : List UInt8) (m : Nat) (w : World) (hm : m < 4294967296) (hl : s.length ≤ 9223372036854775807) :
    Calls Try.prog 11 #[.string (ofL s), .int .u32 m] w fun e w' => e = .returned (.bool true) ∧ Ext w w' := by
  have hE := Ext.refl w
  by_cases h1 : 100 < s.length
  · go_enter Try.func11, Try.ntmps11
    go_wp2_with (go_at_call 37; with_reducible refine (works_any _).ext hE (fun w1 hE => ?_))
    go_ret
    exact ⟨rfl, hE⟩
  · have S1 := Lib.hid (fun w' => seal_any s w' (by omega))
    have hel := seal4_length s
    obtain ⟨e, he⟩ : ∃ e, seal4 s = e := ⟨_, rfl⟩
    rw [he] at S1 hel
    have He := Lib.hid he.symm
    clear he
    go_enter Try.func11, Try.ntmps11
    go_wp2_with (go_at_call 32; with_reducible refine (S1.out _).ext hE (fun w1 hE => ?_))
    go_loopw [6] (fun i wr => (∃ k : Nat, k ≤ e.length ∧ i = .int .i64 k) ∧ Ext w wr) (fun i _ => e.length - (intOf i).toNat)
    case atStart => exact ⟨⟨0, by omega, rfl⟩, hE⟩
    case round =>
      obtain ⟨⟨k, hk, rfl⟩, hE⟩ := hrel
      by_cases hlt : k < e.length
      · go_wp2_with fail
        obtain ⟨q, hq, hq2⟩ : ∃ q : Nat, (2 : Int) ^ (k % 8) % 4294967296 = (q : Int) ∧ q < 4294967296 := ⟨2 ^ (k % 8) % 4294967296, by simp, by omega⟩
        rw [hq, decide_eq_true (show (k : Int) < (s.length : Int) + 4 by omega)]
        clear hq
        have hE2 := Lib.hid hE
        go_loopw [30] (fun i wr => (∃ j : Nat, j ≤ 3 ∧ i = .int .i64 j) ∧ Ext w wr) (fun i _ => 3 - (intOf i).toNat)
        case atStart => exact ⟨⟨0, by omega, rfl⟩, hE2.out⟩
        case round =>
          clear hE hE2
          obtain ⟨⟨j, hj, rfl⟩, hE⟩ := hrel
          by_cases hj3 : j < 3
          · have ix := indexU_three m q 2147483649 j hj3
            obtain ⟨g, hg, hg2⟩ : ∃ g : Nat, [(m : Int), (q : Int), 2147483649].getD j 0 = (g : Int) ∧ g < 4294967296 := by
              match j, hj3 with
              | 0, _ => exact ⟨m, rfl, hm⟩
              | 1, _ => exact ⟨q, rfl, hq2⟩
              | 2, _ => exact ⟨2147483649, rfl, by omega⟩
            rw [hg] at ix
            clear hg
            have B1 := Lib.hid (fun w' => bent_any e k g w' (by omega) (by omega) hg2)
            have B2 := Lib.hid (fun w' => bent_any s k g w' (by omega) (by omega) hg2)
            have O1 := Lib.hid (fun (x : List UInt8) (hn : Near x e k) (hx : (x == e) = false) w' => open_none (burst_open hn.1 k hn.2 He.out (beq_eq_false_iff_ne.1 hx)) w' (by have := hn.1; omega))
            have C1 := Lib.hid (fun (x : List UInt8) (hn : Near x s k) w' => sum_any x w' (by have := hn.1; omega))
            have C2 := Lib.hid (fun w' => sum_any s w' (by omega))
            go_wp2_with (first
              | (go_at_call 39; first
                | (with_reducible refine (B1.out _).mono ?_; rintro ev w1 ⟨⟨x, hxn, rfl⟩, hx1⟩; have hE := hE.trans hx1; rcases alike_or x e with hxe | hxe)
                | (with_reducible refine (B2.out _).mono ?_; rintro ev w1 ⟨⟨y, hyn, rfl⟩, hx1⟩; have hE := hE.trans hx1; rcases sums_or hyn with hye | ⟨hye, hsd⟩))
              | (go_at_call 36; with_reducible refine (O1.out _ hxn hxe _).ext hE (fun w1 hE => ?_))
              | (go_at_call 33; first | (with_reducible refine (C1.out _ hyn _).ext hE (fun w1 hE => ?_)) | (with_reducible refine (C2.out _).ext hE (fun w1 hE => ?_))))
            all_goals
              go_roundw
              case rel => exact ⟨⟨j + 1, by omega, by go_num⟩, hE⟩
              case measure => simp [intOf]; omega
          · go_wp2_with fail
            exact ⟨⟨⟨k + 1, by omega, by go_num⟩, hE⟩, by simp [intOf]; omega⟩
      · go_wp2_with (go_at_call 37; with_reducible refine (works_any _).ext hE (fun w1 hE => ?_))
        go_ret
        exact ⟨rfl, hE⟩
theorem sumsBits_walk (a0 : ByteArray) (w0 : a0.size ≤ maxLen) (a1 : Int) (w1 : (Lit.int .u32 a1).wf = true) (w : World) :
    Calls Try.prog 11 #[.string a0, .int .u32 a1] w fun e w' => e = .returned (.bool true) ∧ Ext w w' := by
  rw [← ofL_data a0]
  obtain ⟨h3, h4⟩ := bounds_u32 w1
  obtain ⟨m, rfl⟩ := Int.eq_ofNat_of_zero_le h3
  exact sumsBits_any a0.data.toList m w (by omega) (by unfold maxLen at w0; exact w0)
end Go.Proofs.Ytfnhbelaminhiaa
