/-
  Acts, opened: an Act's ten cells; a row of them.
-/
import Derived.Test.YtjalikjakoddoaaNetPl
import Derived.Test.YtjalikjakoddoaaRows
import Derived.Deep.Slices
import Derived.OpenShut
import Derived.ProofKit
namespace Go.Nt
/-- An act: its kind, a message, two places. -/
abbrev Ac := Int × Msg × Int × Int
def Acl (a : Ac) : List Value := .int .u8 a.1 :: (Mc a.2.1 ++ [.int .i64 a.2.2.1, .int .i64 a.2.2.2])
def AcOk (a : Ac) : Prop := (0 ≤ a.1 ∧ a.1 < 256) ∧ a.2.1.2.2.2.1.length ≤ 9223372036854775807 ∧ (-9223372036854775808 ≤ a.2.2.1 ∧ a.2.2.1 ≤ 9223372036854775807) ∧ (-9223372036854775808 ≤ a.2.2.2 ∧ a.2.2.2 ≤ 9223372036854775807)
instance : Inhabited Ac := ⟨(0, (0, 0, 0, [], 0, 0, 0), 0, 0)⟩
end Go.Nt
namespace Go.Proofs.Ytjalikjakoddoaa
open Go.ChangeShapes Go.WideShapes Go.RowKit Go.Deep Go.Nt
theorem cellsMsg : Try.prog.cellsOf 32 = 7 := by kernel_rfl
theorem cellsKey : Try.prog.cellsOf 30 = 2 := by kernel_rfl
theorem cellsAct : Try.prog.cellsOf 34 = 10 := by kernel_rfl
theorem cellsInt : Try.prog.cellsOf 3 = 1 := by kernel_rfl
theorem cellsI64 : Try.prog.cellsOf 2 = 1 := by kernel_rfl
theorem cellsU8 : Try.prog.cellsOf 5 = 1 := by kernel_rfl
theorem cellsStr : Try.prog.cellsOf 9 = 1 := by kernel_rfl
section
variable {H : Type} {enc : TypeId × Value → H} {w : World} {base : Nat} {sp : Nat → Bool} {held : Bool}
theorem cell_int {fuel : Nat} {v : Value} {x : DataW H × List MemPlace} (h : DataW.trod enc Try.prog w base sp held fuel 3 [v] = some x) : ∃ n, v = .int .i64 n ∧ (-9223372036854775808 ≤ n ∧ n ≤ 9223372036854775807) := by
  obtain ⟨n, h1, _, h3⟩ := DataW.trod_int Try.underlying3 h
  simp only [List.cons.injEq, and_true] at h1
  exact ⟨n, h1, bounds_i64 h3⟩
theorem cell_i64 {fuel : Nat} {v : Value} {x : DataW H × List MemPlace} (h : DataW.trod enc Try.prog w base sp held fuel 2 [v] = some x) : ∃ n, v = .int .i64 n := by
  obtain ⟨n, h1, _, _⟩ := DataW.trod_int Try.underlying2 h
  simp only [List.cons.injEq, and_true] at h1
  exact ⟨n, h1⟩
theorem open_msg {fuel : Nat} {v0 v1 v2 v3 v4 v5 v6 : Value} {x : DataW H × List MemPlace} (h : DataW.trod enc Try.prog w base sp held fuel 32 [v0, v1, v2, v3, v4, v5, v6] = some x) :
    ∃ m : Msg, [v0, v1, v2, v3, v4, v5, v6] = Mc m ∧ m.2.2.2.1.length ≤ 9223372036854775807 := by
  obtain ⟨xs, k, _, _, _, hxl, hf⟩ := DataW.trod_struct Try.underlying32 h
  match xs, hxl with
  | [y0, y1, y2, y3, y4, y5], _ =>
    have g0 := hf 0 _ rfl
    have g1 := hf 1 _ rfl
    have g2 := hf 2 _ rfl
    have g3 := hf 3 _ rfl
    have g4 := hf 4 _ rfl
    have g5 := hf 5 _ rfl
    simp [cellsInt, cellsKey, cellsStr, cellsI64] at g0 g1 g2 g3 g4 g5
    obtain ⟨zs, k2, _, _, _, hzl, hz⟩ := DataW.trod_struct Try.underlying30 g1
    match zs, hzl with
    | [z0, z1], _ =>
      have q0 := hz 0 _ rfl
      have q1 := hz 1 _ rfl
      simp [cellsInt] at q0 q1
      obtain ⟨to, rfl, _⟩ := cell_int g0
      obtain ⟨ord, rfl, _⟩ := cell_int q0
      obtain ⟨deed, rfl, _⟩ := cell_int q1
      obtain ⟨s, hs, _, hl⟩ := DataW.trod_string Try.underlying9 g2
      simp only [List.cons.injEq, and_true] at hs
      subst hs
      obtain ⟨qty, rfl, _⟩ := cell_int g3
      obtain ⟨amt, rfl⟩ := cell_i64 g4
      obtain ⟨code, rfl, _⟩ := cell_int g5
      exact ⟨(to, ord, deed, s.data.toList, qty, amt, code), rfl, hl⟩
theorem open_act {fuel : Nat} {cs : List Value} {x : DataW H × List MemPlace} (h : DataW.trod enc Try.prog w base sp held fuel 34 cs = some x) : ∃ a : Ac, cs = Acl a ∧ AcOk a := by
  obtain ⟨xs, k, _, _, hlen, hxl, hf⟩ := DataW.trod_struct Try.underlying34 h
  rw [cellsAct] at hlen
  match cs, hlen, xs, hxl with
  | [v0, v1, v2, v3, v4, v5, v6, v7, v8, v9], _, [y0, y1, y2, y3], _ =>
    have g0 := hf 0 _ rfl
    have g1 := hf 1 _ rfl
    have g2 := hf 2 _ rfl
    have g3 := hf 3 _ rfl
    simp [cellsInt, cellsMsg, cellsU8] at g0 g1 g2 g3
    obtain ⟨kind, h1, _, h3⟩ := DataW.trod_int Try.underlying5 g0
    simp only [List.cons.injEq, and_true] at h1
    subst h1
    obtain ⟨m, hm, hl⟩ := open_msg g1
    obtain ⟨i, rfl, bi⟩ := cell_int g2
    obtain ⟨k, rfl, bk⟩ := cell_int g3
    refine ⟨(kind, m, i, k), ?_, ⟨(bounds_u8 h3).1, by have := (bounds_u8 h3).2; omega⟩, hl, bi, bk⟩
    show Value.int .u8 kind :: ([v1, v2, v3, v4, v5, v6, v7] ++ [.int .i64 i, .int .i64 k]) = _
    rw [hm]; rfl
/-- An act as an argument. -/
theorem open_act_arg {r : Reach} {b0 : Nat} {v : Value} {d : DataW H} {ps : List MemPlace} (hval : Value.okWide Try.prog w r b0 34 v) (h : DataW.Trod enc Try.prog w base sp held 34 v d ps) :
    ∃ a : Ac, v = .agg (Acl a).toArray ∧ AcOk a := by
  obtain ⟨n, hn⟩ := h
  unfold Value.okWide at hval
  rw [Try.underlying34] at hval
  obtain ⟨cs, rfl, _, _⟩ := hval
  obtain ⟨a, h1, h2⟩ := open_act hn
  refine ⟨a, ?_, h2⟩
  simp only [Value.cells] at h1
  rw [← h1]
/-- A row of acts, told by its cells. -/
def Acts (w : World) (v : Value) (l : List Ac) : Prop :=
  (∀ a ∈ l, AcOk a) ∧ l.length ≤ maxLen ∧ ((∃ ao cap, v = .slice ao 0 cap ∧ l = []) ∨
    ∃ g o cap, v = .slice (some ⟨g, o, none⟩) l.length cap ∧ 0 < l.length ∧ g < w.heap.size ∧ ∀ i (h : i < l.length) j, j < 10 → w.cell? ⟨g, o + i * 10 + j, none⟩ = (Acl l[i])[j]?)
theorem Acts.ext {w w' : World} {v : Value} {l : List Ac} (h : Acts w v l) (hx : Ext w w') : Acts w' v l := by
  refine ⟨h.1, h.2.1, ?_⟩
  rcases h.2.2 with h | ⟨g, o, cap, h1, h2, h3, h4⟩
  · exact .inl h
  · exact .inr ⟨g, o, cap, h1, h2, Nat.lt_of_lt_of_le h3 hx.size, fun i hi j hj => (hx.cell (p := ⟨g, o + i * 10 + j, none⟩) h3).trans (h4 i hi j hj)⟩
theorem open_acts {fuel : Nat} {cs : List Value} {x : DataW H × List MemPlace} (h : DataW.trod enc Try.prog w base sp held fuel 22 cs = some x) : ∃ v l, cs = [v] ∧ Acts w v l := by
  rcases open_slice Try.underlying22 h with ⟨rfl, _⟩ | ⟨a, len, cap, m, n, D, Pl, rfl, hb, hl, hm, hmm, rfl, hx⟩
  · exact ⟨_, [], rfl, fun _ h => (by cases h), by simp, .inl ⟨_, _, rfl, rfl⟩⟩
  have hlm : len ≤ m := by rw [hmm]; split <;> omega
  have each : ∀ i, i < len → ∃ q : Ac, (∀ j, j < 10 → w.cell? (a.add (i * 10 + j)) = (Acl q)[j]?) ∧ AcOk q := by
    intro i hi
    obtain ⟨cs', h1, h2⟩ := hx i (by omega)
    rw [cellsAct] at h1
    obtain ⟨_, hlen, hcell⟩ := World.cells?_some h1
    obtain ⟨q, rfl, hq⟩ := open_act h2
    refine ⟨q, fun j hj => ?_, hq⟩
    have := hcell j hj
    rw [add_add] at this
    exact this
  obtain ⟨q, hq⟩ := choose_lt each
  refine ⟨_, (List.range len).map q, rfl, fun b hb => ?_, by simp; omega, ?_⟩
  · obtain ⟨i, hi, rfl⟩ := List.mem_map.1 hb
    exact (hq i (List.mem_range.1 hi)).2
  · rcases Nat.eq_zero_or_pos len with rfl | hpos
    · exact .inl ⟨_, _, rfl, rfl⟩
    · right
      have h0 := (hq 0 hpos).1 0 (by omega)
      obtain ⟨g, o, sp'⟩ := a
      have hsp : sp' = none := by
        have h0' : w.cell? ((⟨g, o, sp'⟩ : Addr).add (0 * 10 + 0)) = some (.int .u8 (q 0).1) := h0
        simpa [Addr.add] using World.cell?_spot h0'
      subst hsp
      have hadd : ∀ k, (⟨g, o, none⟩ : Addr).add k = ⟨g, o + k, none⟩ := fun k => by unfold Addr.add; split <;> simp_all
      have hg : g < w.heap.size := by
        have h0' : w.cell? ⟨g, o + 0, none⟩ = some (.int .u8 (q 0).1) := by rw [← hadd]; exact h0
        rcases Nat.lt_or_ge g w.heap.size with h | h
        · exact h
        · simp only [World.cell?, Array.getElem?_eq_none h] at h0'
          cases h0'
      refine ⟨g, o, cap, by simp, by simpa using hpos, hg, fun i hi j hj => ?_⟩
      have hi' : i < len := by simpa using hi
      have := (hq i hi').1 j hj
      rw [hadd] at this
      rw [Nat.add_assoc, this]
      simp
/-- Acts as an argument. -/
theorem open_acts_arg {r : Reach} {b0 : Nat} {v : Value} {d : DataW H} {ps : List MemPlace} (hval : Value.okWide Try.prog w r b0 22 v) (h : DataW.Trod enc Try.prog w base sp held 22 v d ps) : ∃ l, Acts w v l := by
  obtain ⟨n, hn⟩ := h
  obtain ⟨u, l, h1, h2⟩ := open_acts hn
  have : v = u := by
    cases v <;> simp only [Value.cells, List.cons.injEq, and_true] at h1 <;> first | exact h1 | skip
    simp [Value.okWide, Cell.okWide, Try.underlying22, Cell.ok] at hval
  rw [this]; exact ⟨l, h2⟩
end
end Go.Proofs.Ytjalikjakoddoaa
