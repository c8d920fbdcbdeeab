/-
  The document's Read, Cut of the layer bits: their walks.
-/
import Derived.Test.YtfnhbelaminhiaaBitsRf
namespace Go.Proofs.Ytfnhbelaminhiaa
open Go.RowKit Go.Bt
theorem wrap_seven (x c : Nat) : IntKind.u64.wrap (IntKind.u64.wrap ((x : Int) * 128) + (c : Int) % 128) = (((x * 128 + c % 128) % 18446744073709551616 : Nat) : Int) := by
  simp only [IntKind.wrap_u64]; omega
set_option maxHeartbeats 2000000 in
set_option maxRecDepth 100000 in
theorem refRead_any (l : List UInt8) (w : World) (hl : l.length ≤ 16777216) :
    Calls Try.prog 21 #[.string (ofL l)] w fun e w' => e = .returned (readV l) ∧ Ext w w' := by
  go_enter Try.func21, Try.ntmps21
  go_wp2
  try simp only [ofL_mk]
  go_loop [5] (fun i => ∃ k : Nat, k ≤ l.length ∧ k ≤ 10 ∧ i = .int .i64 k ∧ Front l k) (fun i => 10 - (intOf i).toNat)
  case atStart => exact ⟨0, by omega, by omega, rfl, fun j hj => by omega⟩
  case round =>
    obtain ⟨k, hk, hk10, rfl, hf⟩ := hrel
    by_cases h1 : k < l.length
    · by_cases h2 : k < 10
      · by_cases h3 : 128 ≤ (l[k]).toNat
        · go_wp2
          go_round
          case rel => exact ⟨k + 1, by omega, by omega, by go_num, fun j hj => by
            rcases Nat.lt_or_ge j k with h | h
            · exact hf j h
            · obtain rfl : j = k := by omega
              simpa [h1] using h3⟩
          case measure => simp [intOf]; omega
        · have hck : (l.getD k 0).toNat < 128 := by simpa [h1] using (by omega : ¬ 128 ≤ (l[k]).toNat)
          go_wp2_with fail
          go_loop [6, 7] (fun n i => (i = .int .i64 (-1) ∧ n = .int .u64 (valM (l.take (k + 1)))) ∨ ∃ j : Nat, j ≤ k ∧ i = .int .i64 j ∧ n = .int .u64 (valM ((l.take (k + 1)).drop (j + 1)))) (fun _ i => (intOf i + 1).toNat)
          case atStart => exact .inr ⟨k, Nat.le_refl _, rfl, by rw [List.drop_of_length_le (by simp; omega)]; rfl⟩
          case round =>
            rcases hrel with ⟨rfl, rfl⟩ | ⟨j, hj, rfl, rfl⟩
            · have hvl := valM_lt (l.take (k + 1))
              cases hr : Bt.read l with
              | none =>
                have Hr := Lib.hid (readV_none hr)
                have hne := read_none_var (k := k) hr
                have Hv := Lib.hid (fun w' => refVar (valM (l.take (k + 1))) _ rfl w' hvl)
                have e1 : IntKind.i64.wrap ((k : Int) + 1) = (k : Int) + 1 := IntWalk.i64_in _ (by omega)
                have e2 : ((k : Int) + 1).toNat = k + 1 := by omega
                clear hr hvl
                go_wp2_with fail
                go_region_with (go_at_call 28; with_reducible refine (Hv.out _).mono ?_; rintro e w1 ⟨rfl, hx⟩)
                all_goals
                  go_wp2
                  go_ret3
                  exact ⟨by rw [Hr.out]; rfl, (Ext.refl w).drew.trans hx⟩
              | some p =>
                obtain ⟨m, r⟩ := p
                obtain ⟨ht, hd, hv, h9⟩ := read_front_of hf hck hr
                have Hr := Lib.hid (readV_some hr)
                have heq : (var m == l.take (k + 1)) = true := by rw [ht]; simp
                rw [hv] at hvl ⊢
                have Hv := Lib.hid (fun w' => refVar m _ rfl w' hvl)
                have Hd := Lib.hid hd
                have e1 : IntKind.i64.wrap ((k : Int) + 1) = (k : Int) + 1 := IntWalk.i64_in _ (by omega)
                have e2 : ((k : Int) + 1).toNat = k + 1 := by omega
                clear hr hvl ht hd hv
                go_wp2_with fail
                go_region_with (go_at_call 28; with_reducible refine (Hv.out _).mono ?_; rintro e w1 ⟨rfl, hx⟩)
                all_goals
                  go_wp2
                  go_quiet (fail)
                  go_wp2
                  go_ret3
                  exact ⟨by rw [Hr.out, ← Hd.out]; rfl, ((Ext.refl w).drew.trans hx).drewN _⟩
            · have hjl : j < l.length := by omega
              have hcons : (l.take (k + 1)).drop j = l[j] :: (l.take (k + 1)).drop (j + 1) := by
                rw [List.drop_eq_getElem_cons (by simp; omega)]; simp
              have Hs := Lib.hid (show valM ((l.take (k + 1)).drop j) = (valM ((l.take (k + 1)).drop (j + 1)) * 128 + (l[j]).toNat % 128) % 18446744073709551616 by rw [hcons, valM_cons])
              have hvl := valM_lt ((l.take (k + 1)).drop (j + 1))
              obtain ⟨x, hxx⟩ : ∃ x, valM ((l.take (k + 1)).drop (j + 1)) = x := ⟨_, rfl⟩
              obtain ⟨c, hcc⟩ : ∃ c, l[j] = c := ⟨_, rfl⟩
              have hc := c.toNat_lt
              rw [hxx] at hvl Hs ⊢
              rw [hcc] at Hs
              have Hvl := Lib.hid hvl
              clear hcons hxx hvl
              go_wp2
              refine ⟨?_, by simp [intOf]⟩
              cases j with
              | zero => exact .inl ⟨by go_num, by rw [wrap_seven, ← Hs.out, List.drop_zero]⟩
              | succ j => exact .inr ⟨j, by omega, by go_num, by rw [wrap_seven, ← Hs.out]⟩
      · have Hr := Lib.hid (readV_none (read_none_of_front hf (.inr (by omega))))
        go_wp2
        go_ret3
        exact ⟨by rw [Hr.out]; rfl, Ext.refl _⟩
    · have Hr := Lib.hid (readV_none (read_none_of_front hf (.inl (by omega))))
      go_wp2
      go_ret3
      exact ⟨by rw [Hr.out]; rfl, Ext.refl _⟩
theorem refRead_none {l : List UInt8} (h : Bt.read l = none) (w : World) (hl : l.length ≤ 16777216) :
    Calls Try.prog 21 #[.string (ofL l)] w fun e w' => e = .returned (.tuple #[.int .u64 0, .string (ofL []), .bool false]) ∧ Ext w w' := by
  have := refRead_any l w hl; rw [readV_none h] at this; exact this
theorem refRead_some {l : List UInt8} {n r} (h : Bt.read l = some (n, r)) (w : World) (hl : l.length ≤ 16777216) :
    Calls Try.prog 21 #[.string (ofL l)] w fun e w' => e = .returned (.tuple #[.int .u64 n, .string (ofL r), .bool true]) ∧ Ext w w' := by
  have := refRead_any l w hl; rw [readV_some h] at this; exact this
set_option maxRecDepth 100000 in
theorem refCut_any (l : List UInt8) (w : World) (hl : l.length ≤ 16777216) :
    Calls Try.prog 22 #[.string (ofL l)] w fun e w' => e = .returned (cutV l) ∧ Ext w w' := by
  have hE := Ext.refl w
  cases hr : Bt.read l with
  | none =>
    have hc : Bt.cut l = none := by unfold Bt.cut; rw [hr]
    have Hc := Lib.hid (cutV_none hc)
    have Hr := Lib.hid hr
    clear hr hc
    go_enter Try.func22, Try.ntmps22
    go_wp2_with (go_at_call 21; refine (refRead_none Hr.out _ (by omega)).ext hE (fun w1 hE => ?_))
    go_ret3
    exact ⟨by rw [Hc.out]; rfl, hE⟩
  | some p =>
    obtain ⟨n, r⟩ := p
    obtain ⟨hrl, hn⟩ := read_length hr
    have Hr := Lib.hid hr
    by_cases hlt : n ≤ r.length
    · have hc : Bt.cut l = some (r.take n, r.drop n) := by unfold Bt.cut; rw [hr]; simp [hlt]
      have Hc := Lib.hid (cutV_some hc)
      have e1 : IntKind.i64.wrap (n : Int) = (n : Int) := IntWalk.i64_in _ (by omega)
      clear hr hc hn
      go_enter Try.func22, Try.ntmps22
      go_wp2_with (go_at_call 21; refine (refRead_some Hr.out _ (by omega)).ext hE (fun w1 hE => ?_))
      go_quiet (fail)
      go_wp2
      go_ret3
      exact ⟨by rw [Hc.out]; rfl, hE.drewN _⟩
    · have hc : Bt.cut l = none := by unfold Bt.cut; rw [hr]; simp [hlt]
      have Hc := Lib.hid (cutV_none hc)
      clear hr hc hn
      go_enter Try.func22, Try.ntmps22
      go_wp2_with (go_at_call 21; refine (refRead_some Hr.out _ (by omega)).ext hE (fun w1 hE => ?_))
      go_ret3
      exact ⟨by rw [Hc.out]; rfl, hE⟩
theorem refCut_none {l : List UInt8} (h : Bt.cut l = none) (w : World) (hl : l.length ≤ 16777216) :
    Calls Try.prog 22 #[.string (ofL l)] w fun e w' => e = .returned (.tuple #[.string (ofL []), .string (ofL []), .bool false]) ∧ Ext w w' := by
  have := refCut_any l w hl; rw [cutV_none h] at this; exact this
theorem refCut_some {l : List UInt8} {t r} (h : Bt.cut l = some (t, r)) (w : World) (hl : l.length ≤ 16777216) :
    Calls Try.prog 22 #[.string (ofL l)] w fun e w' => e = .returned (.tuple #[.string (ofL t), .string (ofL r), .bool true]) ∧ Ext w w' := by
  have := refCut_any l w hl; rw [cutV_some h] at this; exact this
end Go.Proofs.Ytfnhbelaminhiaa
