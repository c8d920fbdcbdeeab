/-
  The iterator of records ('each'): its contract.
-/
import Derived.RangeFuncBox
import Derived.RangeFuncLeaves
import Derived.Shelf.Abstract
import Derived.WalkKit
import Derived.OwnWalkIn
import Derived.TacticsInMore
import Derived.LoopNIn
import Derived.LoopIn
import Derived.Maps.AppendAt
import Derived.Test.YtajclcbclbppiaaJRecRf
namespace Go.Rc
/-- A payload, and where its record ends. -/
abbrev It := List UInt8 × Nat
def pairs (s : List UInt8) : Nat → Nat → List It
  | 0, _ => []
  | f + 1, a => match getR s a with
    | none => []
    | some (p, b) => (p, b) :: pairs s f b
theorem pairs_fuel (s : List UInt8) : ∀ (f g a : Nat), s.length < a + f → s.length < a + g → pairs s f a = pairs s g a
  | 0, 0, a, _, _ => rfl
  | 0, g + 1, a, h, _ => by
    unfold pairs
    cases hg : getR s a with
    | none => rfl
    | some x => have := getR_next (p := x.1) (b := x.2) hg; omega
  | f + 1, 0, a, _, h => by
    unfold pairs
    cases hg : getR s a with
    | none => rfl
    | some x => have := getR_next (p := x.1) (b := x.2) hg; omega
  | f + 1, g + 1, a, hf, hg => by
    unfold pairs
    cases h : getR s a with
    | none => rfl
    | some x =>
      obtain ⟨p, b⟩ := x
      have := getR_next h
      simp only
      rw [pairs_fuel s f g b (by omega) (by omega)]
/-- The records from a place on. -/
def itsAt (s : List UInt8) (a : Nat) : List It := pairs s (s.length + 1) a
theorem itsAt_none {s : List UInt8} {a : Nat} (h : getR s a = none) : itsAt s a = [] := by unfold itsAt pairs; rw [h]
theorem itsAt_some {s : List UInt8} {a : Nat} {p : List UInt8} {b : Nat} (h : getR s a = some (p, b)) : itsAt s a = (p, b) :: itsAt s b := by
  have := getR_next h
  show pairs s (s.length + 1) a = _
  unfold pairs; rw [h]
  show (p, b) :: pairs s s.length b = _
  rw [pairs_fuel s s.length (s.length + 1) b (by omega) (by omega)]; rfl
end Go.Rc
namespace Go.Proofs.Ytajclcbclbppiaa
open Go.RowKit Go.Shelf Go.Rc
attribute [local go_sem] Oper.semAt_some
abbrev encI (x : It) : Array Value := #[.string (ofL x.1), .int .i64 x.2]
/-- What lies in the iterator's box. -/
def Held (s : List UInt8) (Bn : Nat) (W : World) : Prop := Boxed W Bn 9 (.string (ofL s))
theorem Held.ext {s : List UInt8} {Bn : Nat} {W W' : World} (h : Held s Bn W) (hx : Ext W W') : Held s Bn W' := (Below.block hx Bn (Boxed.lt h)).trans h
set_option maxRecDepth 100000 in
set_option maxHeartbeats 1000000 in
theorem each1_in (n : Nat) (hn : 1 ≤ n) (l Bn n₀ : Nat) (s : List UInt8) (hs : s.length ≤ 16770000) (J Jx : List It → World → Prop)
    (hJ : ∀ pre A B, J pre A → Ext A B → J pre B)
    (hY : ∀ pre x W, J pre W → pre.length < (itsAt s 0).length → YieldAt Fence.wide (n - 1) Try.prog l (encI x) W fun e W' =>
      (e = .returned (.bool true) ∧ J (pre ++ [x]) W' ∧ (Below n₀ W W' ∧ W'.heap[Bn]? = W.heap[Bn]?)) ∨ (e = .returned (.bool false) ∧ Jx (pre ++ [x]) W'))
    (W : World) (hBn : Held s Bn W) (h0 : J [] W) :
    CallsIn Fence.wide n Try.prog 71 #[.func (.yield l) #[] #[], .pointer (some ⟨Bn, 0, none⟩)] W fun e W' => (∃ v, e = .returned v) ∧
      ((∃ ys, ys = itsAt s 0 ∧ J ys W') ∨ (∃ pre, pre <+: itsAt s 0 ∧ Jx pre W')) := by
  refine callsIn_of_wp Try.func71 rfl trivial ?_ rfl
  simp only [Try.ntmps71, List.size_toArray, List.length_cons, List.length_nil, Nat.reduceAdd, Nat.reduceSub, Array.replicate_succ, Array.replicate_zero, List.push_toArray, List.append_toArray, List.nil_append, List.cons_append]
  gi_wp2
  gi_loopw [3] (fun p wr => ∃ (pre : List It) (a : Nat), p = .int .i64 a ∧ a ≤ s.length ∧ itsAt s 0 = pre ++ itsAt s a ∧ J pre wr ∧ Held s Bn wr) (fun p _ => s.length - (intOf p).toNat)
  case atStart =>
    exact ⟨[], 0, rfl, by omega, rfl, h0, hBn⟩
  case round =>
    obtain ⟨pre, a, rfl, ha, hx, hJs, hH⟩ := hrel
    have hc := Boxed.cell hH
    cases hg : getR s a with
    | none =>
      have hgi : getI s (a : Int) = none := by rw [getI_nat]; exact hg
      rw [itsAt_none hg, List.append_nil] at hx
      have G := Lib.hid (rget_none s a hgi wr hs)
      unfold NoneV at G
      gi_wp2_with (refine ⟨trivial, ?_⟩; gi_at_call 72; refine (callsIn_wide.2 G.out).mono ?_; rintro e W1 ⟨rfl, hx1⟩)
      refine ⟨fun _ h => (by cases h), ?_⟩
      gi_wp2
      refine bodyPost_ret (results_none rfl _ _ _) rfl ?_
      exact ⟨⟨_, rfl⟩, .inl ⟨pre, hx.symm, hJ _ _ _ hJs hx1⟩⟩
    | some x =>
      obtain ⟨p, b⟩ := x
      have Hnx := Lib.hid (getR_next hg)
      rw [itsAt_some hg] at hx
      have G := Lib.hid (rget_some s a p b hg wr hs)
      unfold SomeV at G
      gi_wp2_with (refine ⟨trivial, ?_⟩; gi_at_call 72; refine (callsIn_wide.2 G.out).mono ?_; rintro e W1 ⟨rfl, hx1⟩; obtain ⟨fn, tmps, assign, body, hy, hR⟩ := hY pre (p, b) W1 (hJ _ _ _ hJs hx1) (by rw [hx]; simp); dsimp only [encI] at hy)
      refine hR.mono ?_
      rintro e W3 (⟨rfl, hJ3, hk3, hk4⟩ | ⟨rfl, hJx3⟩)
      · have hH3 : Held s Bn W3 := hk4.trans (hH.ext hx1)
        have hc3 := Boxed.cell hH3
        gi_wp2
        go_roundw
        case rel => exact ⟨pre ++ [(p, b)], b, rfl, Hnx.out.2.1, by rw [hx]; simp, hJ3, hH3⟩
        case measure => have := Hnx.out; simp [intOf]; omega
      · gi_wp2
        refine bodyPost_ret (results_none rfl _ _ _) rfl ?_
        exact ⟨⟨_, rfl⟩, .inr ⟨pre ++ [(p, b)], ⟨itsAt s b, by rw [hx]; simp⟩, hJx3⟩⟩
end Go.Proofs.Ytajclcbclbppiaa
