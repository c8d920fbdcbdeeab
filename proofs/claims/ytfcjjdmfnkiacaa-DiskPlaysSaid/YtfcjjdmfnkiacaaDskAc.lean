/-
  Acts, opened: an Act's six cells, its list; a row of them.
-/
import Derived.Test.YtfcjjdmfnkiacaaDskDp
import Derived.Deep.Slices
import Derived.Deep.Strs
import Derived.OpenShut
import Derived.ProofKit
namespace Go.Dk
open Go.RowKit
/-- An act. -/
structure Da where
  kind : Int
  n : Int
  at_ : Int
  size : Int
  s : List UInt8
  ko : Option Addr
  kc : Nat
  ks : List Int
/-- Its cells. -/
def Dc (a : Da) : List Value := [.int .u8 a.kind, .int .i64 a.n, .int .i64 a.at_, .int .i64 a.size, .string (ofL a.s), .slice a.ko a.ks.length a.kc]
def In64 (n : Int) : Prop := -9223372036854775808 ≤ n ∧ n ≤ 9223372036854775807
theorem in64_wf {n : Int} (h : In64 n) : (Lit.int .i64 n).wf = true := by
  have e : IntKind.i64.min = -9223372036854775808 := rfl
  have := h.1
  have := h.2
  simp [Lit.wf, e]
  omega
instance : Inhabited Da := ⟨⟨0, 0, 0, 0, [], none, 0, []⟩⟩
end Go.Dk
namespace Go.Proofs.Ytfcjjdmfnkiacaa
open Go.ChangeShapes Go.WideShapes Go.RowKit Go.Deep Go.Dk
structure DaOk (w : World) (a : Da) : Prop where
  kind : 0 ≤ a.kind ∧ a.kind < 256
  n : In64 a.n
  at_ : In64 a.at_
  size : In64 a.size
  s : a.s.length ≤ 9223372036854775807
  ks : a.ks.length ≤ maxLen
  each : ∀ k ∈ a.ks, In64 k
  keep : KeepAt w (fun g => g < w.heap.size) a.ko a.ks
theorem DaOk.ext {w w' : World} {a : Da} (h : DaOk w a) (hx : Ext w w') : DaOk w' a := by
  refine ⟨h.kind, h.n, h.at_, h.size, h.s, h.ks, h.each, ?_⟩
  rcases h.keep.kept (w' := w') (fun g hg => Below.block hx g hg) with h | ⟨g, o, e, hg, hc⟩
  · exact .inl h
  · exact .inr ⟨g, o, e, Nat.lt_of_lt_of_le hg hx.size, hc⟩
theorem cellsAct : Try.prog.cellsOf 48 = 6 := by kernel_rfl
theorem cellsInt : Try.prog.cellsOf 3 = 1 := by kernel_rfl
theorem cellsInts : Try.prog.cellsOf 29 = 1 := by kernel_rfl
theorem cellsU8 : Try.prog.cellsOf 5 = 1 := by kernel_rfl
theorem cellsStr : Try.prog.cellsOf 9 = 1 := by kernel_rfl
section
variable {H : Type} {enc : TypeId × Value → H} {w : World} {base : Nat} {sp : Nat → Bool} {held : Bool}
theorem cell_int {fuel : Nat} {v : Value} {x : DataW H × List MemPlace} (h : DataW.trod enc Try.prog w base sp held fuel 3 [v] = some x) : ∃ n, v = .int .i64 n ∧ In64 n := by
  obtain ⟨n, h1, _, h3⟩ := DataW.trod_int Try.underlying3 h
  simp only [List.cons.injEq, and_true] at h1
  exact ⟨n, h1, bounds_i64 h3⟩
set_option maxRecDepth 100000 in
/-- A list of numbers. -/
theorem open_ints {fuel : Nat} {v : Value} {x : DataW H × List MemPlace} (h : DataW.trod enc Try.prog w base sp held fuel 29 [v] = some x) :
    ∃ ko kc ks, v = .slice ko ks.length kc ∧ ks.length ≤ maxLen ∧ (∀ k ∈ ks, In64 k) ∧ KeepAt w (fun g => g < w.heap.size) ko ks := by
  rcases open_slice Try.underlying29 h with ⟨h1, _⟩ | ⟨a, len, cap, m, n, D, Pl, h1, hb, hl, hm, hmm, _, hx⟩
  · simp only [List.cons.injEq, and_true] at h1
    exact ⟨none, 0, [], h1, by simp, fun _ h => (by cases h), .inl rfl⟩
  simp only [List.cons.injEq, and_true] at h1
  have hlm : len ≤ m := by rw [hmm]; split <;> omega
  have each : ∀ i, i < len → ∃ q : Int, w.cell? (a.add i) = some (.int .i64 q) ∧ In64 q := fun i hi => by
    obtain ⟨cs', c1, c2⟩ := hx i (by omega)
    rw [cellsInt] at c1
    obtain ⟨_, hlen, hcell⟩ := World.cells?_some c1
    match cs', hlen with
    | [u], _ =>
      obtain ⟨q, rfl, hq⟩ := cell_int c2
      have := hcell 0 (by omega)
      rw [add_add] at this
      exact ⟨q, by simpa using this, hq⟩
  obtain ⟨q, hq⟩ := choose_lt each
  refine ⟨some a, cap, (List.range len).map q, by simpa using h1, by simp; omega, fun b hb => ?_, ?_⟩
  · obtain ⟨i, hi, rfl⟩ := List.mem_map.1 hb
    exact (hq i (List.mem_range.1 hi)).2
  · rcases Nat.eq_zero_or_pos len with rfl | hpos
    · exact .inl rfl
    · have h0 := (hq 0 hpos).1
      obtain ⟨g, o, sp'⟩ := a
      have hsp : sp' = none := by simpa [Addr.add] using World.cell?_spot h0
      subst hsp
      have hadd : ∀ k, (⟨g, o, none⟩ : Addr).add k = ⟨g, o + k, none⟩ := fun k => by unfold Addr.add; split <;> simp_all
      have hg : g < w.heap.size := by
        rw [hadd] at h0
        rcases Nat.lt_or_ge g w.heap.size with h | h
        · exact h
        · simp only [World.cell?, Array.getElem?_eq_none h] at h0
          cases h0
      refine .inr ⟨g, o, rfl, hg, fun i hi => ?_⟩
      have hi' : i < len := by simpa using hi
      have := (hq i hi').1
      rw [hadd] at this
      rw [this]
      simp
set_option maxRecDepth 100000 in
theorem open_act {fuel : Nat} {cs : List Value} {x : DataW H × List MemPlace} (h : DataW.trod enc Try.prog w base sp held fuel 48 cs = some x) : ∃ a : Da, cs = Dc a ∧ DaOk w a := by
  obtain ⟨xs, k, _, _, hlen, hxl, hf⟩ := DataW.trod_struct Try.underlying48 h
  rw [cellsAct] at hlen
  match cs, hlen, xs, hxl with
  | [v0, v1, v2, v3, v4, v5], _, [y0, y1, y2, y3, y4, y5], _ =>
    have g0 := hf 0 _ rfl
    have g1 := hf 1 _ rfl
    have g2 := hf 2 _ rfl
    have g3 := hf 3 _ rfl
    have g4 := hf 4 _ rfl
    have g5 := hf 5 _ rfl
    simp [cellsInt, cellsInts, cellsStr, cellsU8] at g0 g1 g2 g3 g4 g5
    obtain ⟨kind, h1, _, h3⟩ := DataW.trod_int Try.underlying5 g0
    simp only [List.cons.injEq, and_true] at h1
    subst h1
    obtain ⟨n, rfl, bn⟩ := cell_int g1
    obtain ⟨a, rfl, ba⟩ := cell_int g2
    obtain ⟨z, rfl, bz⟩ := cell_int g3
    obtain ⟨s, hs, _, hl⟩ := DataW.trod_string Try.underlying9 g4
    simp only [List.cons.injEq, and_true] at hs
    subst hs
    obtain ⟨ko, kc, ks, rfl, k1, k2, k3⟩ := open_ints g5
    exact ⟨⟨kind, n, a, z, s.data.toList, ko, kc, ks⟩, rfl, ⟨⟨(bounds_u8 h3).1, Int.lt_add_one_of_le (bounds_u8 h3).2⟩, bn, ba, bz, hl, k1, k2, k3⟩⟩
set_option maxRecDepth 100000 in
/-- An act as an argument. -/
theorem open_act_arg {r : Reach} {b0 : Nat} {v : Value} {d : DataW H} {ps : List MemPlace} (hval : Value.okWide Try.prog w r b0 48 v) (h : DataW.Trod enc Try.prog w base sp held 48 v d ps) :
    ∃ a : Da, v = .agg (Dc a).toArray ∧ DaOk w a := by
  obtain ⟨n, hn⟩ := h
  unfold Value.okWide at hval
  rw [Try.underlying48] at hval
  obtain ⟨cs, rfl, _, _⟩ := hval
  obtain ⟨a, h1, h2⟩ := open_act hn
  refine ⟨a, ?_, h2⟩
  simp only [Value.cells] at h1
  rw [← h1]
/-- A row of acts, told by its cells. -/
def Acts (w : World) (v : Value) (l : List Da) : Prop :=
  (∀ a ∈ l, DaOk w a) ∧ l.length ≤ maxLen ∧ ((∃ ao cap, v = .slice ao 0 cap ∧ l = []) ∨
    ∃ g o cap, v = .slice (some ⟨g, o, none⟩) l.length cap ∧ 0 < l.length ∧ g < w.heap.size ∧ ∀ i (h : i < l.length) j, j < 6 → w.cell? ⟨g, o + i * 6 + j, none⟩ = (Dc l[i])[j]?)
theorem Acts.ext {w w' : World} {v : Value} {l : List Da} (h : Acts w v l) (hx : Ext w w') : Acts w' v l := by
  refine ⟨fun a ha => (h.1 a ha).ext hx, h.2.1, ?_⟩
  rcases h.2.2 with h | ⟨g, o, cap, h1, h2, h3, h4⟩
  · exact .inl h
  · exact .inr ⟨g, o, cap, h1, h2, Nat.lt_of_lt_of_le h3 hx.size, fun i hi j hj => (hx.cell (p := ⟨g, o + i * 6 + j, none⟩) h3).trans (h4 i hi j hj)⟩
set_option maxRecDepth 100000 in
theorem open_acts {fuel : Nat} {cs : List Value} {x : DataW H × List MemPlace} (h : DataW.trod enc Try.prog w base sp held fuel 42 cs = some x) : ∃ v l, cs = [v] ∧ Acts w v l := by
  rcases open_slice Try.underlying42 h with ⟨rfl, _⟩ | ⟨a, len, cap, m, n, D, Pl, rfl, hb, hl, hm, hmm, rfl, hx⟩
  · exact ⟨_, [], rfl, fun _ h => (by cases h), by simp, .inl ⟨_, _, rfl, rfl⟩⟩
  have hlm : len ≤ m := by rw [hmm]; split <;> omega
  have each : ∀ i, i < len → ∃ q : Da, (∀ j, j < 6 → w.cell? (a.add (i * 6 + j)) = (Dc q)[j]?) ∧ DaOk w q := by
    intro i hi
    obtain ⟨cs', h1, h2⟩ := hx i (by omega)
    rw [cellsAct] at h1
    obtain ⟨_, hlen, hcell⟩ := World.cells?_some h1
    obtain ⟨q, rfl, hq⟩ := open_act h2
    refine ⟨q, fun j hj => ?_, hq⟩
    have := hcell j hj
    rw [add_add] at this
    exact this
  obtain ⟨q, hq⟩ := choose_lt each
  refine ⟨_, (List.range len).map q, rfl, fun b hb => ?_, by simp; omega, ?_⟩
  · obtain ⟨i, hi, rfl⟩ := List.mem_map.1 hb
    exact (hq i (List.mem_range.1 hi)).2
  · rcases Nat.eq_zero_or_pos len with rfl | hpos
    · exact .inl ⟨_, _, rfl, rfl⟩
    · right
      have h0 := (hq 0 hpos).1 0 (by omega)
      obtain ⟨g, o, sp'⟩ := a
      have hsp : sp' = none := by
        have h0' : w.cell? ((⟨g, o, sp'⟩ : Addr).add (0 * 6 + 0)) = some (.int .u8 (q 0).kind) := h0
        simpa [Addr.add] using World.cell?_spot h0'
      subst hsp
      have hadd : ∀ k, (⟨g, o, none⟩ : Addr).add k = ⟨g, o + k, none⟩ := fun k => by unfold Addr.add; split <;> simp_all
      have hg : g < w.heap.size := by
        have h0' : w.cell? ⟨g, o + 0, none⟩ = some (.int .u8 (q 0).kind) := by rw [← hadd]; exact h0
        rcases Nat.lt_or_ge g w.heap.size with h | h
        · exact h
        · simp only [World.cell?, Array.getElem?_eq_none h] at h0'
          cases h0'
      refine ⟨g, o, cap, by simp, by simpa using hpos, hg, fun i hi j hj => ?_⟩
      have hi' : i < len := by simpa using hi
      have := (hq i hi').1 j hj
      rw [hadd] at this
      rw [Nat.add_assoc, this]
      simp
set_option maxRecDepth 100000 in
/-- Acts as an argument. -/
theorem open_acts_arg {r : Reach} {b0 : Nat} {v : Value} {d : DataW H} {ps : List MemPlace} (hval : Value.okWide Try.prog w r b0 42 v) (h : DataW.Trod enc Try.prog w base sp held 42 v d ps) : ∃ l, Acts w v l := by
  obtain ⟨n, hn⟩ := h
  obtain ⟨u, l, h1, h2⟩ := open_acts hn
  have : v = u := by
    cases v <;> simp only [Value.cells, List.cons.injEq, and_true] at h1 <;> first | exact h1 | skip
    simp [Value.okWide, Cell.okWide, Try.underlying42, Cell.ok] at hval
  rw [this]; exact ⟨l, h2⟩
end
end Go.Proofs.Ytfcjjdmfnkiacaa
