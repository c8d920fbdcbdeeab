/-
  Records, in plain Lean: a payload's record, the record at a place, the records from the front.
  The walks of records: Put, Get; the document's Put, Get.
  The walk of the document's Get.
  The iterator of records ('each'): its contract.
-/
import Derived.Test.YtajclcbclbppiaaGreatZ03
import Derived.Test.YtajclcbclbppiaaGreatZ01
import Derived.RangeFuncBox
import Derived.RangeFuncLeaves
import Derived.Shelf.Abstract
import Derived.WalkKit
import Derived.OwnWalkIn
import Derived.TacticsInMore
import Derived.LoopNIn
import Derived.LoopIn
import Derived.Maps.AppendAt
section
namespace Go.Rc
open Go.Bt Go.Sm
theorem put4_length (n : Nat) : (put n 4).length = 4 := by simp [put]
/-- A payload's record. -/
def recL (l : List UInt8) : List UInt8 := seal4 (put l.length 4 ++ l)
theorem sealed_length (l : List UInt8) : (seal4 l).length = l.length + 4 := by unfold seal4 le4; simp
theorem recL_length (l : List UInt8) : (recL l).length = l.length + 8 := by unfold recL; rw [sealed_length, List.length_append, put4_length]; omega
theorem put4_eq (n : Nat) : put n 4 = [UInt8.ofNat (n / 16777216), UInt8.ofNat (n / 65536), UInt8.ofNat (n / 256), UInt8.ofNat (n / 1)] := rfl
theorem get_put4 (n : Nat) (h : n < 4294967296) (r : List UInt8) : Bt.get ((put n 4 ++ r).take 4) = n := by
  have e : (put n 4 ++ r).take 4 = put n 4 := by rw [List.take_append_of_le_length (by rw [put4_length]; omega), List.take_of_length_le (by rw [put4_length]; omega)]
  rw [e]
  rw [put4_eq]
  simp only [Bt.get, List.take, getF, UInt8.toNat_ofNat']
  omega
theorem put_get4 (l : List UInt8) (h : l.length = 4) : put (Bt.get l) 4 = l := by
  match l, h with
  | [a, b, c, d], _ =>
    have ha := a.toNat_lt
    have hb := b.toNat_lt
    have hc := c.toNat_lt
    have hd := d.toNat_lt
    rw [put4_eq]
    simp only [Bt.get, List.take, getF]
    congr 1
    · apply UInt8.toNat_inj.1; rw [UInt8.toNat_ofNat']; omega
    congr 1
    · apply UInt8.toNat_inj.1; rw [UInt8.toNat_ofNat']; omega
    congr 1
    · apply UInt8.toNat_inj.1; rw [UInt8.toNat_ofNat']; omega
    congr 1
    · apply UInt8.toNat_inj.1; rw [UInt8.toNat_ofNat']; omega
/-- What is asked for at a place. -/
def askN (s : List UInt8) (a : Nat) : Nat := Bt.get ((s.drop a).take 4)
def payL (s : List UInt8) (a : Nat) : List UInt8 := ((s.drop a).drop 4).take (askN s a)
/-- The record that stands at a place: its payload, and where it ends. -/
def getR (s : List UInt8) (a : Nat) : Option (List UInt8 × Nat) :=
  if (a + 8 ≤ s.length ∧ askN s a ≤ 65536 ∧ a + askN s a + 8 ≤ s.length) ∧ recL (payL s a) = (s.drop a).take (askN s a + 8) then some (payL s a, a + askN s a + 8) else none
/-- The sealed text of a place that has room. -/
theorem openL_at (s : List UInt8) (a : Nat) (h : a + askN s a + 8 ≤ s.length) :
    openL ((s.drop a).take (askN s a + 8)) = if recL (payL s a) = (s.drop a).take (askN s a + 8) then some (put (askN s a) 4 ++ payL s a) else none := by
  obtain ⟨n, hn⟩ : ∃ n, askN s a = n := ⟨_, rfl⟩
  have hx : ((s.drop a).take (n + 8)).length = n + 8 := by simp; omega
  have h4 : put n 4 = (s.drop a).take 4 := by rw [← hn]; exact put_get4 _ (by simp; omega)
  have hp : (payL s a).length = n := by unfold payL; rw [hn]; simp; omega
  have ht : ((s.drop a).take (n + 8)).take (n + 4) = put n 4 ++ payL s a := by
    rw [List.take_take, Nat.min_eq_left (by omega), h4]
    unfold payL
    rw [hn, ← List.take_append_drop 4 ((s.drop a).take (n + 4)), List.take_take, Nat.min_eq_left (by omega), List.drop_take]
    rw [show n + 4 - 4 = n by omega]
  rw [hn]
  unfold openL
  rw [hx, show n + 8 - 4 = n + 4 by omega, ht]
  unfold recL
  rw [hp]
  by_cases h : seal4 (put n 4 ++ payL s a) = (s.drop a).take (n + 8)
  · rw [if_pos h, if_pos ⟨by omega, h⟩]
  · rw [if_neg h, if_neg (fun k => h k.2)]
theorem getR_next {s : List UInt8} {a : Nat} {p : List UInt8} {b : Nat} (h : getR s a = some (p, b)) : a < b ∧ b ≤ s.length ∧ b = a + p.length + 8 := by
  unfold getR at h
  split at h
  · rename_i hc
    simp only [Option.some.injEq, Prod.mk.injEq] at h
    obtain ⟨rfl, rfl⟩ := h
    refine ⟨by omega, by omega, ?_⟩
    have : (payL s a).length = askN s a := by unfold payL; simp; omega
    omega
  · cases h
/-- The records from a place on, so many at most. -/
def fromR (s : List UInt8) : Nat → Nat → List (List UInt8) × Nat
  | 0, a => ([], a)
  | f + 1, a => match getR s a with
    | none => ([], a)
    | some (p, b) => (p :: (fromR s f b).1, (fromR s f b).2)
/-- All records from the front on. -/
def wholeR (s : List UInt8) : List (List UInt8) × Nat := fromR s (s.length + 1) 0
theorem fromR_fuel (s : List UInt8) : ∀ (f g a : Nat), s.length < a + f → s.length < a + g → fromR s f a = fromR s g a
  | 0, 0, a, _, _ => rfl
  | 0, g + 1, a, h, _ => by
    unfold fromR
    cases hg : getR s a with
    | none => rfl
    | some x =>
      obtain ⟨p, b⟩ := x
      have := getR_next hg
      omega
  | f + 1, 0, a, _, h => by
    unfold fromR
    cases hg : getR s a with
    | none => rfl
    | some x =>
      obtain ⟨p, b⟩ := x
      have := getR_next hg
      omega
  | f + 1, g + 1, a, hf, hg => by
    unfold fromR
    cases h : getR s a with
    | none => rfl
    | some x =>
      obtain ⟨p, b⟩ := x
      have := getR_next h
      simp only
      rw [fromR_fuel s f g b (by omega) (by omega)]
end Go.Rc
end
section
namespace Go.Proofs.YtajclcbclbppiaaGreat
open Go.RowKit Go.Bt Go.Sm Go.Rc
theorem refPut_at (n s : Nat) (i : Int) (hi : i = s) (w : World) (hn : n < 18446744073709551616) (h1 : 1 ≤ s) (h8 : s ≤ 8) :
    Calls Tryz.prog 75 #[.int .u64 n, .int .i64 i] w fun e w' => e = .returned (.string (ofL (put n s))) ∧ Ext w w' := by subst hi; exact refPut_yes n s w hn h1 h8
set_option maxRecDepth 100000 in
theorem rput_yes (l : List UInt8) (w : World) (hl : l.length ≤ 65536) :
    Calls Tryz.prog 47 #[.string (ofL l)] w fun e w' => e = .returned (.tuple #[.string (ofL (recL l)), .int .i64 0]) ∧ Ext w w' := by
  have hE := Ext.refl w
  have hp4 := put4_length l.length
  have P1 := Lib.hid (fun w' => put_at l.length 4 4 rfl w' (by omega) (by omega) (by omega))
  have S1 := Lib.hid (fun w' => seal_at (l := put l.length 4 ++ l) (m := recL l) rfl w' (by rw [List.length_append, put4_length]; omega))
  go_enter Tryz.func47, Tryz.ntmps47
  go_wp2_with (first | (go_at_call 72; with_reducible refine (P1.out _).ext hE (fun w1 hE => ?_)) | (go_at_call 71; with_reducible refine (S1.out _).ext hE (fun w1 hE => ?_)))
  go_ret2
  exact ⟨rfl, hE⟩
set_option maxRecDepth 100000 in
theorem rput_no (l : List UInt8) (w : World) (hl : 65536 < l.length) (hl2 : l.length ≤ 16777216) :
    Calls Tryz.prog 47 #[.string (ofL l)] w fun e w' => e = .returned (.tuple #[.string (ofL []), .int .i64 3]) ∧ Ext w w' := by
  have hE := Ext.refl w
  go_enter Tryz.func47, Tryz.ntmps47
  go_wp2_with fail
  go_ret2
  exact ⟨rfl, hE⟩
set_option maxRecDepth 100000 in
theorem refRput_yes (l : List UInt8) (w : World) (hl : l.length ≤ 65536) :
    Calls Tryz.prog 54 #[.string (ofL l)] w fun e w' => e = .returned (.tuple #[.string (ofL (recL l)), .int .i64 0]) ∧ Ext w w' := by
  have hE := Ext.refl w
  have hp4 := put4_length l.length
  have P1 := Lib.hid (fun w' => refPut_at l.length 4 4 rfl w' (by omega) (by omega) (by omega))
  have S1 := Lib.hid (fun w' => refSeal_any (put l.length 4 ++ l) w' (by rw [List.length_append, put4_length]; omega))
  go_enter Tryz.func54, Tryz.ntmps54
  go_wp2_with (first | (go_at_call 75; with_reducible refine (P1.out _).ext hE (fun w1 hE => ?_)) | (go_at_call 74; with_reducible refine (S1.out _).ext hE (fun w1 hE => ?_)))
  go_ret2
  exact ⟨rfl, hE⟩
set_option maxRecDepth 100000 in
theorem refRput_no (l : List UInt8) (w : World) (hl : 65536 < l.length) (hl2 : l.length ≤ 16777216) :
    Calls Tryz.prog 54 #[.string (ofL l)] w fun e w' => e = .returned (.tuple #[.string (ofL []), .int .i64 3]) ∧ Ext w w' := by
  have hE := Ext.refl w
  go_enter Tryz.func54, Tryz.ntmps54
  go_wp2_with fail
  go_ret2
  exact ⟨rfl, hE⟩
/-- What stands at a place, whatever the place. -/
def getI (s : List UInt8) (i : Int) : Option (List UInt8 × Nat) := if 0 ≤ i then getR s i.toNat else none
theorem getI_nat (s : List UInt8) (a : Nat) : getI s a = getR s a := by unfold getI; rw [if_pos (by omega)]; rfl
def NoneV : Value := .tuple #[.string (ofL []), .int .i64 0, .bool false]
def SomeV (p : List UInt8) (b : Nat) : Value := .tuple #[.string (ofL p), .int .i64 b, .bool true]
set_option maxHeartbeats 1000000 in
set_option maxRecDepth 100000 in
theorem rget_some (s : List UInt8) (a : Nat) (p : List UInt8) (b : Nat) (h : getR s a = some (p, b)) (w : World) (hs : s.length ≤ 16770000) :
    Calls Tryz.prog 92 #[.string (ofL s), .int .i64 a] w fun e w' => e = .returned (SomeV p b) ∧ Ext w w' := by
  unfold getR at h
  split at h
  · rename_i hc
    obtain ⟨⟨h1, h2, h3⟩, h4⟩ := hc
    simp only [Option.some.injEq, Prod.mk.injEq] at h
    obtain ⟨rfl, rfl⟩ := h
    have ho := openL_at s a h3
    rw [if_pos h4] at ho
    clear h4
    have hE := Ext.refl w
    obtain ⟨n, hn⟩ : ∃ n, askN s a = n := ⟨_, rfl⟩
    have G1 := Lib.hid (fun w' => get_any ((s.drop a).take 4) w' (by simp; omega))
    have hg : Bt.get ((s.drop a).take 4) = n := hn
    rw [hg] at G1
    rw [hn] at h2 h3 ho ⊢
    have O1 := Lib.hid (fun w' => open_some ho w' (by simp; omega))
    have hd4 : (put n 4 ++ payL s a).drop 4 = payL s a := by rw [List.drop_append_of_le_length (by rw [put4_length]; omega), List.drop_of_length_le (by rw [put4_length]; omega)]; rfl
    have hl4 : 4 ≤ (put n 4 ++ payL s a).length := by rw [List.length_append, put4_length]; omega
    obtain ⟨B, hB⟩ : ∃ B, put n 4 ++ payL s a = B := ⟨_, rfl⟩
    rw [hB] at O1 hd4 hl4
    clear hg hn ho hB
    unfold SomeV
    have hx4 : (ofL s).extract a (a + 4) = ofL ((s.drop a).take 4) := by rw [ofL_extract, Nat.add_sub_cancel_left]
    have hx8 : (ofL s).extract a (a + n + 8) = ofL ((s.drop a).take (n + 8)) := by rw [ofL_extract, show a + n + 8 - a = n + 8 by omega]
    go_enter Tryz.func92, Tryz.ntmps92
    go_wp2_with (first | (go_at_call 105; with_reducible refine (G1.out _).ext hE (fun w1 hE => ?_)) | (go_at_call 106; with_reducible refine (O1.out _).ext hE (fun w1 hE => ?_)))
    go_ret3
    exact ⟨by rw [show ((a + n + 8 : Nat) : Int) = (a : Int) + n + 8 by omega]; rfl, hE⟩
  · cases h
set_option maxHeartbeats 1000000 in
set_option maxRecDepth 100000 in
theorem rget_none (s : List UInt8) (i : Int) (h : getI s i = none) (w : World) (hs : s.length ≤ 16770000) :
    Calls Tryz.prog 92 #[.string (ofL s), .int .i64 i] w fun e w' => e = .returned NoneV ∧ Ext w w' := by
  have hE := Ext.refl w
  unfold NoneV
  by_cases hi : 0 ≤ i ∧ i + 8 ≤ s.length
  · obtain ⟨a, rfl⟩ : ∃ a : Nat, i = a := ⟨i.toNat, by omega⟩
    rw [getI_nat] at h
    have h1 : a + 8 ≤ s.length := by omega
    clear hi
    obtain ⟨n, hn⟩ : ∃ n, askN s a = n := ⟨_, rfl⟩
    have G1 := Lib.hid (fun w' => get_any ((s.drop a).take 4) w' (by simp; omega))
    have hg : Bt.get ((s.drop a).take 4) = n := hn
    rw [hg] at G1
    have hlt : n < 18446744073709551616 := by rw [← hg]; exact get_lt _
    have hx4 : (ofL s).extract a (a + 4) = ofL ((s.drop a).take 4) := by rw [ofL_extract, Nat.add_sub_cancel_left]
    by_cases h2 : n ≤ 65536
    · by_cases h3 : a + n + 8 ≤ s.length
      · have ho := openL_at s a (by rw [hn]; exact h3)
        unfold getR at h
        split at h
        · cases h
        · rename_i hc
          rw [hn] at hc ho
          rw [if_neg (fun k => hc ⟨⟨h1, h2, h3⟩, k⟩)] at ho
          have O1 := Lib.hid (fun w' => open_none ho w' (by simp; omega))
          have hx8 : (ofL s).extract a (a + n + 8) = ofL ((s.drop a).take (n + 8)) := by rw [ofL_extract, show a + n + 8 - a = n + 8 by omega]
          clear hg hn ho hc h
          go_enter Tryz.func92, Tryz.ntmps92
          go_wp2_with (first | (go_at_call 105; with_reducible refine (G1.out _).ext hE (fun w1 hE => ?_)) | (go_at_call 106; with_reducible refine (O1.out _).ext hE (fun w1 hE => ?_)))
          go_ret3
          exact ⟨rfl, hE⟩
      · have h4 : s.length < a + n + 8 := by omega
        clear hg hn h h3
        go_enter Tryz.func92, Tryz.ntmps92
        go_wp2_with ((go_at_call 105; with_reducible refine (G1.out _).ext hE (fun w1 hE => ?_)))
        go_ret3
        exact ⟨rfl, hE⟩
    · have h4 : 65536 < n := by omega
      clear hg hn h h2
      go_enter Tryz.func92, Tryz.ntmps92
      go_wp2_with ((go_at_call 105; with_reducible refine (G1.out _).ext hE (fun w1 hE => ?_)))
      go_ret3
      exact ⟨rfl, hE⟩
  · clear h
    by_cases h0 : i < 0
    · clear hi
      go_enter Tryz.func92, Tryz.ntmps92
      go_wp2_with (fail)
      go_ret3
      exact ⟨rfl, hE⟩
    · have h1 : (s.length : Int) - 8 < i := by omega
      clear hi
      go_enter Tryz.func92, Tryz.ntmps92
      go_wp2_with (fail)
      go_ret3
      exact ⟨rfl, hE⟩
end Go.Proofs.YtajclcbclbppiaaGreat
end
section
namespace Go.Proofs.YtajclcbclbppiaaGreat
open Go.RowKit Go.Bt Go.Sm Go.Rc
set_option maxHeartbeats 1000000 in
set_option maxRecDepth 100000 in
theorem refRget_some (s : List UInt8) (a : Nat) (p : List UInt8) (b : Nat) (h : getR s a = some (p, b)) (w : World) (hs : s.length ≤ 16770000) :
    Calls Tryz.prog 70 #[.string (ofL s), .int .i64 a] w fun e w' => e = .returned (SomeV p b) ∧ Ext w w' := by
  unfold getR at h
  split at h
  · rename_i hc
    obtain ⟨⟨h1, h2, h3⟩, h4⟩ := hc
    simp only [Option.some.injEq, Prod.mk.injEq] at h
    obtain ⟨rfl, rfl⟩ := h
    have hE := Ext.refl w
    obtain ⟨n, hn⟩ : ∃ n, askN s a = n := ⟨_, rfl⟩
    have G1 := Lib.hid (fun w' => refGet_any ((s.drop a).take 4) w' (by simp; omega))
    have hg : Bt.get ((s.drop a).take 4) = n := hn
    rw [hg] at G1
    rw [hn] at h2 h3 h4 ⊢
    have hpl : (payL s a).length = n := by unfold payL; rw [hn]; simp; omega
    have hpx : (ofL s).extract (a + 4) (a + 4 + n) = ofL (payL s a) := by rw [ofL_extract, Nat.add_sub_cancel_left]; unfold payL; rw [hn, List.drop_drop]
    obtain ⟨p, hp⟩ : ∃ p, payL s a = p := ⟨_, rfl⟩
    rw [hp] at h4 hpl hpx ⊢
    have P1 := Lib.hid (fun w' => refRput_yes p w' (by omega))
    have hlr : (recL p).length = n + 8 := by rw [recL_length, hpl]
    obtain ⟨r, hr⟩ : ∃ r, recL p = r := ⟨_, rfl⟩
    rw [hr] at h4 P1 hlr
    have hx4 : (ofL s).extract a (a + 4) = ofL ((s.drop a).take 4) := by rw [ofL_extract, Nat.add_sub_cancel_left]
    have hx8 : (ofL s).extract a (a + (n + 8)) = ofL r := by rw [ofL_extract, Nat.add_sub_cancel_left, h4]
    clear hg hn h4 hp hr
    unfold SomeV
    go_enter Tryz.func70, Tryz.ntmps70
    go_wp2_with (first | (go_at_call 85; with_reducible refine (G1.out _).ext hE (fun w1 hE => ?_)) | (go_at_call 54; with_reducible refine (P1.out _).ext hE (fun w1 hE => ?_)))
    go_ret3
    exact ⟨by rw [show ((a + n + 8 : Nat) : Int) = (a : Int) + (n + 8) by omega]; rfl, hE⟩
  · cases h
set_option maxHeartbeats 1000000 in
set_option maxRecDepth 100000 in
theorem refRget_none (s : List UInt8) (i : Int) (h : getI s i = none) (w : World) (hs : s.length ≤ 16770000) (hi9 : -9223372036854775808 ≤ i ∧ i ≤ 9223372036854775807) :
    Calls Tryz.prog 70 #[.string (ofL s), .int .i64 i] w fun e w' => e = .returned NoneV ∧ Ext w w' := by
  have hE := Ext.refl w
  unfold NoneV
  by_cases hi : 0 ≤ i ∧ i + 8 ≤ s.length
  · obtain ⟨a, rfl⟩ : ∃ a : Nat, i = a := ⟨i.toNat, by omega⟩
    rw [getI_nat] at h
    have h1 : a + 8 ≤ s.length := by omega
    clear hi hi9
    obtain ⟨n, hn⟩ : ∃ n, askN s a = n := ⟨_, rfl⟩
    have G1 := Lib.hid (fun w' => refGet_any ((s.drop a).take 4) w' (by simp; omega))
    have hg : Bt.get ((s.drop a).take 4) = n := hn
    rw [hg] at G1
    have hlt : n < 18446744073709551616 := by rw [← hg]; exact get_lt _
    have hx4 : (ofL s).extract a (a + 4) = ofL ((s.drop a).take 4) := by rw [ofL_extract, Nat.add_sub_cancel_left]
    by_cases h2 : n ≤ 65536
    · by_cases h3 : a + n + 8 ≤ s.length
      · unfold getR at h
        split at h
        · cases h
        · rename_i hc
          rw [hn] at hc
          have hno : ¬ recL (payL s a) = (s.drop a).take (n + 8) := fun k => hc ⟨⟨h1, h2, h3⟩, k⟩
          have hpl : (payL s a).length = n := by unfold payL; rw [hn]; simp; omega
          have hpx : (ofL s).extract (a + 4) (a + 4 + n) = ofL (payL s a) := by rw [ofL_extract, Nat.add_sub_cancel_left]; unfold payL; rw [hn, List.drop_drop]
          obtain ⟨p, hp⟩ : ∃ p, payL s a = p := ⟨_, rfl⟩
          rw [hp] at hno hpl hpx
          have P1 := Lib.hid (fun w' => refRput_yes p w' (by omega))
          have hlr : (recL p).length = n + 8 := by rw [recL_length, hpl]
          obtain ⟨r, hr⟩ : ∃ r, recL p = r := ⟨_, rfl⟩
          rw [hr] at hno P1 hlr
          have hx8 : (ofL s).extract a (a + (n + 8)) = ofL ((s.drop a).take (n + 8)) := by rw [ofL_extract, Nat.add_sub_cancel_left]
          obtain ⟨t, ht⟩ : ∃ t, (s.drop a).take (n + 8) = t := ⟨_, rfl⟩
          rw [ht] at hno hx8
          have hb : (t != r) = true := by simpa using fun k => hno (by rw [k])
          have hb2 : (t == r) = false := by simpa using fun k => hno (by rw [k])
          clear hg hn hc h hno ht hr hp
          go_enter Tryz.func70, Tryz.ntmps70
          go_wp2_with (first | (go_at_call 85; with_reducible refine (G1.out _).ext hE (fun w1 hE => ?_)) | (go_at_call 54; with_reducible refine (P1.out _).ext hE (fun w1 hE => ?_)))
          go_ret3
          exact ⟨rfl, hE⟩
      · have h4 : s.length < a + n + 8 := by omega
        clear hg hn h h3
        go_enter Tryz.func70, Tryz.ntmps70
        go_wp2_with ((go_at_call 85; with_reducible refine (G1.out _).ext hE (fun w1 hE => ?_)))
        go_ret3
        exact ⟨rfl, hE⟩
    · have h4 : 65536 < n := by omega
      clear hg hn h h2
      go_enter Tryz.func70, Tryz.ntmps70
      go_wp2_with ((go_at_call 85; with_reducible refine (G1.out _).ext hE (fun w1 hE => ?_)))
      go_ret3
      exact ⟨rfl, hE⟩
  · clear h
    by_cases h0 : i < 0
    · clear hi
      go_enter Tryz.func70, Tryz.ntmps70
      go_wp2_with fail
      go_ret3
      exact ⟨rfl, hE⟩
    · by_cases h1 : (s.length : Int) < i
      · clear hi
        go_enter Tryz.func70, Tryz.ntmps70
        go_wp2_with fail
        go_ret3
        exact ⟨rfl, hE⟩
      · have h2 : (s.length : Int) - i < 8 := by omega
        clear hi
        go_enter Tryz.func70, Tryz.ntmps70
        go_wp2_with fail
        go_ret3
        exact ⟨rfl, hE⟩
end Go.Proofs.YtajclcbclbppiaaGreat
end
section
namespace Go.Rc
/-- A payload, and where its record ends. -/
abbrev It := List UInt8 × Nat
def pairs (s : List UInt8) : Nat → Nat → List It
  | 0, _ => []
  | f + 1, a => match getR s a with
    | none => []
    | some (p, b) => (p, b) :: pairs s f b
theorem pairs_fuel (s : List UInt8) : ∀ (f g a : Nat), s.length < a + f → s.length < a + g → pairs s f a = pairs s g a
  | 0, 0, a, _, _ => rfl
  | 0, g + 1, a, h, _ => by
    unfold pairs
    cases hg : getR s a with
    | none => rfl
    | some x => have := getR_next (p := x.1) (b := x.2) hg; omega
  | f + 1, 0, a, _, h => by
    unfold pairs
    cases hg : getR s a with
    | none => rfl
    | some x => have := getR_next (p := x.1) (b := x.2) hg; omega
  | f + 1, g + 1, a, hf, hg => by
    unfold pairs
    cases h : getR s a with
    | none => rfl
    | some x =>
      obtain ⟨p, b⟩ := x
      have := getR_next h
      simp only
      rw [pairs_fuel s f g b (by omega) (by omega)]
/-- The records from a place on. -/
def itsAt (s : List UInt8) (a : Nat) : List It := pairs s (s.length + 1) a
theorem itsAt_none {s : List UInt8} {a : Nat} (h : getR s a = none) : itsAt s a = [] := by unfold itsAt pairs; rw [h]
theorem itsAt_some {s : List UInt8} {a : Nat} {p : List UInt8} {b : Nat} (h : getR s a = some (p, b)) : itsAt s a = (p, b) :: itsAt s b := by
  have := getR_next h
  show pairs s (s.length + 1) a = _
  unfold pairs; rw [h]
  show (p, b) :: pairs s s.length b = _
  rw [pairs_fuel s s.length (s.length + 1) b (by omega) (by omega)]; rfl
end Go.Rc
namespace Go.Proofs.YtajclcbclbppiaaGreat
open Go.RowKit Go.Shelf Go.Rc
attribute [local go_sem] Oper.semAt_some
abbrev encI (x : It) : Array Value := #[.string (ofL x.1), .int .i64 x.2]
/-- What lies in the iterator's box. -/
def Held (s : List UInt8) (Bn : Nat) (W : World) : Prop := Boxed W Bn 9 (.string (ofL s))
theorem Held.ext {s : List UInt8} {Bn : Nat} {W W' : World} (h : Held s Bn W) (hx : Ext W W') : Held s Bn W' := (Below.block hx Bn (Boxed.lt h)).trans h
set_option maxRecDepth 100000 in
set_option maxHeartbeats 1000000 in
theorem each1_in (n : Nat) (hn : 1 ≤ n) (l Bn n₀ : Nat) (s : List UInt8) (hs : s.length ≤ 16770000) (J Jx : List It → World → Prop)
    (hJ : ∀ pre A B, J pre A → Ext A B → J pre B)
    (hY : ∀ pre x W, J pre W → pre.length < (itsAt s 0).length → YieldAt Fence.wide (n - 1) Tryz.prog l (encI x) W fun e W' =>
      (e = .returned (.bool true) ∧ J (pre ++ [x]) W' ∧ (Below n₀ W W' ∧ W'.heap[Bn]? = W.heap[Bn]?)) ∨ (e = .returned (.bool false) ∧ Jx (pre ++ [x]) W'))
    (W : World) (hBn : Held s Bn W) (h0 : J [] W) :
    CallsIn Fence.wide n Tryz.prog 91 #[.func (.yield l) #[] #[], .pointer (some ⟨Bn, 0, none⟩)] W fun e W' => (∃ v, e = .returned v) ∧
      ((∃ ys, ys = itsAt s 0 ∧ J ys W') ∨ (∃ pre, pre <+: itsAt s 0 ∧ Jx pre W')) := by
  refine callsIn_of_wp Tryz.func91 rfl trivial ?_ rfl
  simp only [Tryz.ntmps91, List.size_toArray, List.length_cons, List.length_nil, Nat.reduceAdd, Nat.reduceSub, Array.replicate_succ, Array.replicate_zero, List.push_toArray, List.append_toArray, List.nil_append, List.cons_append]
  gi_wp2
  gi_loopw [3] (fun p wr => ∃ (pre : List It) (a : Nat), p = .int .i64 a ∧ a ≤ s.length ∧ itsAt s 0 = pre ++ itsAt s a ∧ J pre wr ∧ Held s Bn wr) (fun p _ => s.length - (intOf p).toNat)
  case atStart =>
    exact ⟨[], 0, rfl, by omega, rfl, h0, hBn⟩
  case round =>
    obtain ⟨pre, a, rfl, ha, hx, hJs, hH⟩ := hrel
    have hc := Boxed.cell hH
    cases hg : getR s a with
    | none =>
      have hgi : getI s (a : Int) = none := by rw [getI_nat]; exact hg
      rw [itsAt_none hg, List.append_nil] at hx
      have G := Lib.hid (rget_none s a hgi wr hs)
      unfold NoneV at G
      gi_wp2_with (refine ⟨trivial, ?_⟩; gi_at_call 92; refine (callsIn_wide.2 G.out).mono ?_; rintro e W1 ⟨rfl, hx1⟩)
      refine ⟨fun _ h => (by cases h), ?_⟩
      gi_wp2
      refine bodyPost_ret (results_none rfl _ _ _) rfl ?_
      exact ⟨⟨_, rfl⟩, .inl ⟨pre, hx.symm, hJ _ _ _ hJs hx1⟩⟩
    | some x =>
      obtain ⟨p, b⟩ := x
      have Hnx := Lib.hid (getR_next hg)
      rw [itsAt_some hg] at hx
      have G := Lib.hid (rget_some s a p b hg wr hs)
      unfold SomeV at G
      gi_wp2_with (refine ⟨trivial, ?_⟩; gi_at_call 92; refine (callsIn_wide.2 G.out).mono ?_; rintro e W1 ⟨rfl, hx1⟩; obtain ⟨fn, tmps, assign, body, hy, hR⟩ := hY pre (p, b) W1 (hJ _ _ _ hJs hx1) (by rw [hx]; simp); dsimp only [encI] at hy)
      refine hR.mono ?_
      rintro e W3 (⟨rfl, hJ3, hk3, hk4⟩ | ⟨rfl, hJx3⟩)
      · have hH3 : Held s Bn W3 := hk4.trans (hH.ext hx1)
        have hc3 := Boxed.cell hH3
        gi_wp2
        go_roundw
        case rel => exact ⟨pre ++ [(p, b)], b, rfl, Hnx.out.2.1, by rw [hx]; simp, hJ3, hH3⟩
        case measure => have := Hnx.out; simp [intOf]; omega
      · gi_wp2
        refine bodyPost_ret (results_none rfl _ _ _) rfl ?_
        exact ⟨⟨_, rfl⟩, .inr ⟨pre ++ [(p, b)], ⟨itsAt s b, by rw [hx]; simp⟩, hJx3⟩⟩
end Go.Proofs.YtajclcbclbppiaaGreat
end
