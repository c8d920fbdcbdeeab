/-
  SumsOpens: the walk.
-/
import Derived.Test.YtfnhbelaminhiaaSumsSh
import Derived.OpenShut
namespace Go.Proofs.Ytfnhbelaminhiaa
open Go.RowKit Go.Sm Go.Bt

theorem refOpen_none {l : List UInt8} (h : openL l = none) (w : World) (hl : l.length ≤ 16777000) :
    Calls Try.prog 38 #[.string (ofL l)] w fun e w' => e = .returned (.tuple #[.string (ofL []), .bool false]) ∧ Ext w w' := by
  have := refOpen_any l w hl; rw [openV_none h] at this; exact this
theorem refOpen_some {l t : List UInt8} (h : openL l = some t) (w : World) (hl : l.length ≤ 16777000) :
    Calls Try.prog 38 #[.string (ofL l)] w fun e w' => e = .returned (.tuple #[.string (ofL t), .bool true]) ∧ Ext w w' := by
  have := refOpen_any l w hl; rw [openV_some h] at this; exact this
theorem index_0 (a b c : Value) : ∀ w, (Instr.index 43 (.agg #[a, b, c]) (.int .i64 0)).run Try.prog w = .ok a w := fun _ => by kernel_rfl
theorem index_1 (a b c : Value) : ∀ w, (Instr.index 43 (.agg #[a, b, c]) (.int .i64 1)).run Try.prog w = .ok b w := fun _ => by kernel_rfl
theorem index_2 (a b c : Value) : ∀ w, (Instr.index 43 (.agg #[a, b, c]) (.int .i64 2)).run Try.prog w = .ok c w := fun _ => by kernel_rfl
theorem index_three (a b c : List UInt8) (k : Nat) (hk : k < 3) : ∀ w, (Instr.index 43 (.agg #[.string (ofL a), .string (ofL b), .string (ofL c)]) (.int .i64 k)).run Try.prog w = .ok (.string (ofL ([a, b, c].getD k []))) w :=
  match k, hk with
  | 0, _ => index_0 _ _ _
  | 1, _ => index_1 _ _ _
  | 2, _ => index_2 _ _ _
set_option maxRecDepth 100000 in
set_option maxHeartbeats 2000000 in
theorem sumsOpens_any (s t : List UInt8) (b : UInt8) (w : World) (hs : s.length ≤ 140737488351232) (ht : t.length ≤ 140737488351232) :
    Calls Try.prog 9 #[.string (ofL s), .string (ofL t), .int .u8 b.toNat] w fun e w' => e = .returned (.bool true) ∧ Ext w w' := by
  have hE := Ext.refl w
  by_cases h1 : 1000 < s.length + t.length
  · go_enter Try.func9, Try.ntmps9
    go_wp2_with (go_at_call 37; with_reducible refine (works_any _).ext hE (fun w1 hE => ?_))
    go_ret
    exact ⟨rfl, hE⟩
  · have S1 := Lib.hid (fun w' => refSeal_any t w' (by omega))
    have hsl := seal4_length t
    have hbb := b.toNat_lt
    obtain ⟨e, he⟩ : ∃ e, seal4 t = e := ⟨_, rfl⟩
    rw [he] at S1 hsl
    have hel : e.length ≤ 1004 := by omega
    have he4 : 4 ≤ e.length := by omega
    clear he hsl
    by_cases hb : b.toNat ≤ s.length
    · go_enter Try.func9, Try.ntmps9
      go_wp2_with (go_at_call 35; with_reducible refine (S1.out _).ext hE (fun w1 hE => ?_))
      go_region
      go_wp2_with fail
      go_loopw [42] (fun i wr => (∃ k : Nat, k ≤ 3 ∧ i = .int .i64 k) ∧ Ext w wr) (fun i _ => 3 - (intOf i).toNat)
      case atStart => exact ⟨⟨0, by omega, rfl⟩, (hE.alloc _).drew⟩
      case round =>
        obtain ⟨⟨k, hk, rfl⟩, hE⟩ := hrel
        by_cases hlt : k < 3
        · have ix := index_three s (s.take (s.length - b.toNat)) (s ++ e.drop (e.length - 4)) k hlt
          have hxl : ([s, (s.take (s.length - b.toNat)), s ++ e.drop (e.length - 4)].getD k []).length ≤ 5000 := by
            match k, hlt with
            | 0, _ => simp; omega
            | 1, _ => simp; omega
            | 2, _ => simp; omega
          obtain ⟨x, hxx⟩ : ∃ x, [s, (s.take (s.length - b.toNat)), s ++ e.drop (e.length - 4)].getD k [] = x := ⟨_, rfl⟩
          rw [hxx] at ix hxl
          clear hxx
          cases ho : openL x with
          | none =>
            have O1 := Lib.hid (fun w' => open_none ho w' (by omega))
            have O2 := Lib.hid (fun w' => refOpen_none ho w' (by omega))
            clear ho
            go_wp2_with (first | (go_at_call 36; with_reducible refine (O1.out _).ext hE (fun w1 hE => ?_)) | (go_at_call 38; with_reducible refine (O2.out _).ext hE (fun w1 hE => ?_)))
            exact ⟨⟨⟨k + 1, by omega, by go_num⟩, hE⟩, by simp [intOf]; omega⟩
          | some t1 =>
            have O1 := Lib.hid (fun w' => open_some ho w' (by omega))
            have O2 := Lib.hid (fun w' => refOpen_some ho w' (by omega))
            clear ho
            go_wp2_with (first | (go_at_call 36; with_reducible refine (O1.out _).ext hE (fun w1 hE => ?_)) | (go_at_call 38; with_reducible refine (O2.out _).ext hE (fun w1 hE => ?_)))
            exact ⟨⟨⟨k + 1, by omega, by go_num⟩, hE⟩, by simp [intOf]; omega⟩
        · go_wp2_with (go_at_call 37; with_reducible refine (works_any _).ext hE (fun w1 hE => ?_))
          go_ret
          exact ⟨rfl, hE⟩
    · go_enter Try.func9, Try.ntmps9
      go_wp2_with (go_at_call 35; with_reducible refine (S1.out _).ext hE (fun w1 hE => ?_))
      go_region
      go_wp2_with fail
      go_loopw [42] (fun i wr => (∃ k : Nat, k ≤ 3 ∧ i = .int .i64 k) ∧ Ext w wr) (fun i _ => 3 - (intOf i).toNat)
      case atStart => exact ⟨⟨0, by omega, rfl⟩, (hE.alloc _).drew⟩
      case round =>
        obtain ⟨⟨k, hk, rfl⟩, hE⟩ := hrel
        by_cases hlt : k < 3
        · have ix := index_three s [] (s ++ e.drop (e.length - 4)) k hlt
          have hxl : ([s, [], s ++ e.drop (e.length - 4)].getD k []).length ≤ 5000 := by
            match k, hlt with
            | 0, _ => simp; omega
            | 1, _ => simp
            | 2, _ => simp; omega
          obtain ⟨x, hxx⟩ : ∃ x, [s, [], s ++ e.drop (e.length - 4)].getD k [] = x := ⟨_, rfl⟩
          rw [hxx] at ix hxl
          clear hxx
          cases ho : openL x with
          | none =>
            have O1 := Lib.hid (fun w' => open_none ho w' (by omega))
            have O2 := Lib.hid (fun w' => refOpen_none ho w' (by omega))
            clear ho
            go_wp2_with (first | (go_at_call 36; with_reducible refine (O1.out _).ext hE (fun w1 hE => ?_)) | (go_at_call 38; with_reducible refine (O2.out _).ext hE (fun w1 hE => ?_)))
            exact ⟨⟨⟨k + 1, by omega, by go_num⟩, hE⟩, by simp [intOf]; omega⟩
          | some t1 =>
            have O1 := Lib.hid (fun w' => open_some ho w' (by omega))
            have O2 := Lib.hid (fun w' => refOpen_some ho w' (by omega))
            clear ho
            go_wp2_with (first | (go_at_call 36; with_reducible refine (O1.out _).ext hE (fun w1 hE => ?_)) | (go_at_call 38; with_reducible refine (O2.out _).ext hE (fun w1 hE => ?_)))
            exact ⟨⟨⟨k + 1, by omega, by go_num⟩, hE⟩, by simp [intOf]; omega⟩
        · go_wp2_with (go_at_call 37; with_reducible refine (works_any _).ext hE (fun w1 hE => ?_))
          go_ret
          exact ⟨rfl, hE⟩
theorem sumsOpens_walk (a0 : ByteArray) (_w0 : a0.size ≤ maxLen) (z0 : a0.data.toList.length ≤ reachBytes) (a1 : ByteArray) (_w1 : a1.size ≤ maxLen) (z1 : a1.data.toList.length ≤ reachBytes) (a2 : Int) (w2 : (Lit.int .u8 a2).wf = true) (w : World) :
    Calls Try.prog 9 #[.string a0, .string a1, .int .u8 a2] w fun e w' => e = .returned (.bool true) ∧ Ext w w' := by
  rw [← ofL_data a0, ← ofL_data a1]
  obtain ⟨h3, h4⟩ := bounds_u8 w2
  have := sumsOpens_any a0.data.toList a1.data.toList (byt a2) w z0 z1
  rw [byt_wf a2 ⟨h3, by omega⟩] at this
  exact this
end Go.Proofs.Ytfnhbelaminhiaa
