/-
  The chapter's disk (filed): true.
  Acts, opened: an Act's six cells, its list; a row of them.
  The walk of Great.
  The walk of Ints, where both lists are one.
-/
import Derived.Test.YtajclcbclbppiaaGreatZ10
import Derived.Deep.Slices
import Derived.Deep.Strs
import Derived.OpenShut
import Derived.ProofKit
section
namespace Go.Proofs.YtajclcbclbppiaaGreat
open Go.RowKit Go.Maps Go.Dk Go.Shelf
def fd1 : St := ⟨5, [], false, 0, none⟩
def fd2 : St := ⟨5, [⟨3, [], 0⟩], false, 0, none⟩
def fd3 : St := ⟨5, [⟨3, [120, 121, 122], 0⟩], false, 0, none⟩
def fd4 : St := ⟨5, [⟨3, [120, 121, 122], 3⟩], false, 0, none⟩
def fd5 : St := ⟨5, [⟨3, [120, 121, 122, 117, 118], 3⟩], false, 0, none⟩
def fd6 : St := ⟨5, [⟨3, [120, 121, 122, 117], 4⟩], true, 0, none⟩
def fd7 : St := ⟨5, [⟨3, [120, 121, 122, 117], 4⟩], false, 1, none⟩
def fd8 : St := ⟨5, [⟨3, [120, 121], 2⟩], false, 1, none⟩
def fd9 : St := ⟨5, [⟨3, [120, 121], 2⟩], false, 1, some (0, [1])⟩
def fd10 : St := ⟨5, [⟨3, [120, 121, 116], 3⟩], true, 1, none⟩
def fd11 : St := ⟨5, [⟨3, [120, 121, 116], 3⟩], false, 2, none⟩
theorem wf3 : (Lit.int .i64 3).wf = true := by decide
theorem wf4 : (Lit.int .i64 4).wf = true := by decide
theorem fd_r1 : Dk.create fd1 3 = (fd2, 0) := rfl
theorem fd_r2 : Dk.append fd2 3 [120, 121, 122] = (fd3, 0) := rfl
theorem fd_r3 : Dk.append fd3 3 [117, 118, 119] = (fd3, 60) := rfl
theorem fd_r4 : Dk.append fd3 4 [120] = (fd3, 4) := rfl
theorem fd_r5 : fd3.cap - tot fd3.fs = 2 := rfl
theorem fd_r6 : Dk.read fd3 3 1 2 = ([121, 122], 0) := rfl
theorem fd_r7 : Dk.read fd3 3 2 2 = ([], 2) := rfl
theorem fd_r8 : Dk.sync fd3 3 = (fd4, 0) := rfl
theorem fd_r9 : Dk.append fd4 3 [117, 118] = (fd5, 0) := rfl
theorem fd_r10 : Dk.crash fd5 [1] = (fd6, 0) := rfl
theorem fd_r11 : Dk.start fd6 = (fd7, 0) := rfl
theorem fd_r12 : Dk.size fd7 3 = (4, 0) := rfl
theorem fd_r13 : Dk.truncate fd7 3 5 = (fd7, 2) := rfl
theorem fd_r14 : Dk.truncate fd7 3 2 = (fd8, 0) := rfl
theorem fd_r15 : Dk.fail fd8 0 [1] = (fd9, 0) := rfl
theorem fd_r16 : Dk.append fd9 3 [116, 116] = (fd10, 61) := rfl
theorem fd_r17 : (!fd10.down) = false := rfl
theorem fd_r18 : Dk.start fd10 = (fd11, 0) := rfl
theorem fd_r19 : Dk.size fd11 3 = (3, 0) := rfl
/-- A list of one number, just made. -/
theorem keep_one (w : World) (x : Int) (t : TypeId) : KeepAt (w.alloc (.cells #[.int .i64 x] t)) (fun g => w.heap.size ≤ g ∧ g < (w.alloc (.cells #[.int .i64 x] t)).heap.size) (some ⟨w.heap.size, 0, none⟩) [x] := by
  refine .inr ⟨w.heap.size, 0, rfl, ⟨Nat.le_refl _, by simp⟩, fun j hj => ?_⟩
  obtain rfl : j = 0 := by simp at hj; omega
  simp
end Go.Proofs.YtajclcbclbppiaaGreat
end
section
namespace Go.Dk
open Go.RowKit
/-- An act. -/
structure Da where
  kind : Int
  n : Int
  at_ : Int
  size : Int
  s : List UInt8
  ko : Option Addr
  kc : Nat
  ks : List Int
/-- Its cells. -/
def Dc (a : Da) : List Value := [.int .u8 a.kind, .int .i64 a.n, .int .i64 a.at_, .int .i64 a.size, .string (ofL a.s), .slice a.ko a.ks.length a.kc]
def In64 (n : Int) : Prop := -9223372036854775808 ≤ n ∧ n ≤ 9223372036854775807
theorem in64_wf {n : Int} (h : In64 n) : (Lit.int .i64 n).wf = true := by
  have e : IntKind.i64.min = -9223372036854775808 := rfl
  have := h.1
  have := h.2
  simp [Lit.wf, e]
  omega
instance : Inhabited Da := ⟨⟨0, 0, 0, 0, [], none, 0, []⟩⟩
end Go.Dk
namespace Go.Proofs.YtajclcbclbppiaaGreat
open Go.ChangeShapes Go.WideShapes Go.RowKit Go.Deep Go.Dk
structure DaOk (w : World) (a : Da) : Prop where
  kind : 0 ≤ a.kind ∧ a.kind < 256
  n : In64 a.n
  at_ : In64 a.at_
  size : In64 a.size
  s : a.s.length ≤ 9223372036854775807
  ks : a.ks.length ≤ maxLen
  each : ∀ k ∈ a.ks, In64 k
  keep : KeepAt w (fun g => g < w.heap.size) a.ko a.ks
theorem DaOk.ext {w w' : World} {a : Da} (h : DaOk w a) (hx : Ext w w') : DaOk w' a := by
  refine ⟨h.kind, h.n, h.at_, h.size, h.s, h.ks, h.each, ?_⟩
  rcases h.keep.kept (w' := w') (fun g hg => Below.block hx g hg) with h | ⟨g, o, e, hg, hc⟩
  · exact .inl h
  · exact .inr ⟨g, o, e, Nat.lt_of_lt_of_le hg hx.size, hc⟩
theorem cellsInt : Tryz.prog.cellsOf 3 = 1 := by kernel_rfl
theorem cellsInts : Tryz.prog.cellsOf 57 = 1 := by kernel_rfl
theorem cellsU8 : Tryz.prog.cellsOf 5 = 1 := by kernel_rfl
theorem cellsStr : Tryz.prog.cellsOf 9 = 1 := by kernel_rfl
section
variable {H : Type} {enc : TypeId × Value → H} {w : World} {base : Nat} {sp : Nat → Bool} {held : Bool}
theorem cell_int {fuel : Nat} {v : Value} {x : DataW H × List MemPlace} (h : DataW.trod enc Tryz.prog w base sp held fuel 3 [v] = some x) : ∃ n, v = .int .i64 n ∧ In64 n := by
  obtain ⟨n, h1, _, h3⟩ := DataW.trod_int Tryz.underlying3 h
  simp only [List.cons.injEq, and_true] at h1
  exact ⟨n, h1, bounds_i64 h3⟩
set_option maxRecDepth 100000 in
/-- A list of numbers. -/
theorem open_ints {fuel : Nat} {v : Value} {x : DataW H × List MemPlace} (h : DataW.trod enc Tryz.prog w base sp held fuel 57 [v] = some x) :
    ∃ ko kc ks, v = .slice ko ks.length kc ∧ ks.length ≤ maxLen ∧ (∀ k ∈ ks, In64 k) ∧ KeepAt w (fun g => g < w.heap.size) ko ks := by
  rcases open_slice Tryz.underlying57 h with ⟨h1, _⟩ | ⟨a, len, cap, m, n, D, Pl, h1, hb, hl, hm, hmm, _, hx⟩
  · simp only [List.cons.injEq, and_true] at h1
    exact ⟨none, 0, [], h1, by simp, fun _ h => (by cases h), .inl rfl⟩
  simp only [List.cons.injEq, and_true] at h1
  have hlm : len ≤ m := by rw [hmm]; split <;> omega
  have each : ∀ i, i < len → ∃ q : Int, w.cell? (a.add i) = some (.int .i64 q) ∧ In64 q := fun i hi => by
    obtain ⟨cs', c1, c2⟩ := hx i (by omega)
    rw [cellsInt] at c1
    obtain ⟨_, hlen, hcell⟩ := World.cells?_some c1
    match cs', hlen with
    | [u], _ =>
      obtain ⟨q, rfl, hq⟩ := cell_int c2
      have := hcell 0 (by omega)
      rw [add_add] at this
      exact ⟨q, by simpa using this, hq⟩
  obtain ⟨q, hq⟩ := choose_lt each
  refine ⟨some a, cap, (List.range len).map q, by simpa using h1, by simp; omega, fun b hb => ?_, ?_⟩
  · obtain ⟨i, hi, rfl⟩ := List.mem_map.1 hb
    exact (hq i (List.mem_range.1 hi)).2
  · rcases Nat.eq_zero_or_pos len with rfl | hpos
    · exact .inl rfl
    · have h0 := (hq 0 hpos).1
      obtain ⟨g, o, sp'⟩ := a
      have hsp : sp' = none := by simpa [Addr.add] using World.cell?_spot h0
      subst hsp
      have hadd : ∀ k, (⟨g, o, none⟩ : Addr).add k = ⟨g, o + k, none⟩ := fun k => by unfold Addr.add; split <;> simp_all
      have hg : g < w.heap.size := by
        rw [hadd] at h0
        rcases Nat.lt_or_ge g w.heap.size with h | h
        · exact h
        · simp only [World.cell?, Array.getElem?_eq_none h] at h0
          cases h0
      refine .inr ⟨g, o, rfl, hg, fun i hi => ?_⟩
      have hi' : i < len := by simpa using hi
      have := (hq i hi').1
      rw [hadd] at this
      rw [this]
      simp
/-- A row of acts, told by its cells. -/
def Acts (w : World) (v : Value) (l : List Da) : Prop :=
  (∀ a ∈ l, DaOk w a) ∧ l.length ≤ maxLen ∧ ((∃ ao cap, v = .slice ao 0 cap ∧ l = []) ∨
    ∃ g o cap, v = .slice (some ⟨g, o, none⟩) l.length cap ∧ 0 < l.length ∧ g < w.heap.size ∧ ∀ i (h : i < l.length) j, j < 6 → w.cell? ⟨g, o + i * 6 + j, none⟩ = (Dc l[i])[j]?)
theorem Acts.ext {w w' : World} {v : Value} {l : List Da} (h : Acts w v l) (hx : Ext w w') : Acts w' v l := by
  refine ⟨fun a ha => (h.1 a ha).ext hx, h.2.1, ?_⟩
  rcases h.2.2 with h | ⟨g, o, cap, h1, h2, h3, h4⟩
  · exact .inl h
  · exact .inr ⟨g, o, cap, h1, h2, Nat.lt_of_lt_of_le h3 hx.size, fun i hi j hj => (hx.cell (p := ⟨g, o + i * 6 + j, none⟩) h3).trans (h4 i hi j hj)⟩
end
end Go.Proofs.YtajclcbclbppiaaGreat
end
section
namespace Go.Proofs.YtajclcbclbppiaaGreat
open Go.RowKit Go.Dk
/-- A row of acts at a place: its six cells. -/
theorem Acts.at {w : World} {ao : Option Addr} {n cap : Nat} {l : List Da} (h : Acts w (.slice ao n cap) l) (hn : l.length = n) (i : Nat) (hi : i < l.length) : ∃ g o, ao = some ⟨g, o, none⟩ ∧ g < w.heap.size ∧ ∀ w', Ext w w' → ∀ j, j < 6 → w'.cell? ⟨g, o + i * 6 + j, none⟩ = (Dc l[i])[j]? := by
  rcases h.2.2 with ⟨_, _, _, hnil⟩ | ⟨g, o, c2, hve, hpos, hg, hc⟩
  · subst hnil; simp at hi
  · simp only [Value.slice.injEq] at hve
    exact ⟨g, o, hve.1, hg, fun w' hx j hj => by rw [hx.cell (p := ⟨g, o + i * 6 + j, none⟩) hg]; exact hc i hi j hj⟩
/-- Are the acts more than is gone through? -/
def Gr (l : List Da) (most : Nat) : Prop := (∃ a ∈ l, 2000 < a.s.length ∨ 100 < a.ks.length) ∨ most < l.length
theorem gr_of {l : List Da} {n most k : Nat} (hn : l.length = n) (hk : k = n) (h : ∀ j (hj : j < l.length), j < k → l[j].s.length ≤ 2000 ∧ l[j].ks.length ≤ 100) : ((most : Int) < (n : Int)) ↔ Gr l most := by
  unfold Gr
  constructor
  · intro h; right; omega
  · rintro (⟨a, ha, h2⟩ | h2)
    · obtain ⟨j, hj, rfl⟩ := List.mem_iff_getElem.1 ha
      have := h j hj (by omega); omega
    · omega
open Classical in
/-- One act, in a row that is new. -/
theorem acts_one {w : World} {a : Da} (h : DaOk w a) (t : TypeId) : Acts (w.alloc (.cells (Dc a).toArray t)) (.slice (some ⟨w.heap.size, 0, none⟩) 1 1) [a] := by
  refine ⟨fun b hb => ?_, (show 1 ≤ maxLen by decide), .inr ⟨w.heap.size, 0, 1, rfl, Nat.one_pos, by simp, fun i hi j _ => ?_⟩⟩
  · obtain rfl : b = a := by simpa using hb
    exact h.ext ((Ext.refl w).alloc _)
  · obtain rfl : i = 0 := by simpa using hi
    have hb := heap_alloc_new w (.cells (Dc a).toArray t)
    simp only [World.cell?, hb]
    simp
end Go.Proofs.YtajclcbclbppiaaGreat
end
section
namespace Go.Proofs.YtajclcbclbppiaaGreat
open Go.RowKit Go.Maps Go.Dk Go.Shelf
theorem KeepAt.up {w w' : World} {ao : Option Addr} {l : List Int} (h : KeepAt w (fun g => g < w.heap.size) ao l) (hx : Ext w w') : KeepAt w' (fun g => g < w'.heap.size) ao l := by
  rcases h.kept (w' := w') (fun g hg => Below.block hx g hg) with h | ⟨g, o, e, hg, hc⟩
  · exact .inl h
  · exact .inr ⟨g, o, e, Nat.lt_of_lt_of_le hg hx.size, hc⟩
theorem KeepAt.row {w : World} {ao : Option Addr} {n cap : Nat} {l : List Int} (h : Rw w 1 ao n cap (Nums l)) : KeepAt w (fun g => g < w.heap.size) ao l := by
  have hl := h.len
  rw [Nums_length, Nat.mul_one] at hl
  subst hl
  exact KeepAt.of_row h h.lt
theorem KeepAt.one (w : World) (x : Int) (t : TypeId) : KeepAt (w.alloc (.cells #[.int .i64 x] t)) (fun g => g < (w.alloc (.cells #[.int .i64 x] t)).heap.size) (some ⟨w.heap.size, 0, none⟩) [x] := by
  rcases keep_one w x t with h | ⟨g, o, e, hg, hc⟩
  · exact .inl h
  · exact .inr ⟨g, o, e, hg.2, hc⟩
theorem KeepAt.at {w : World} {G : Nat → Prop} {ao : Option Addr} {l : List Int} (h : KeepAt w G ao l) (k : Nat) (hk : k < l.length) : ∃ g o, ao = some ⟨g, o, none⟩ ∧ w.cell? ⟨g, o + k, none⟩ = some (.int .i64 l[k]) := by
  rcases h with rfl | ⟨g, o, e, _, hc⟩
  · simp at hk
  · exact ⟨g, o, e, hc k hk⟩
end Go.Proofs.YtajclcbclbppiaaGreat
end
