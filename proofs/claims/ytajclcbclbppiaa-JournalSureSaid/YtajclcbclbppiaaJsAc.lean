/-
  Acts of the journal's law as arguments; the walk of Great.
-/
import Derived.Test.YtajclcbclbppiaaJnKp
import Derived.Deep.Strs
import Derived.ProofKit
namespace Go.Jn
/-- An act. -/
structure Ja where
  kind : Int
  s : List UInt8
  n : Int
  z : Int
  ko : Option Addr
  kc : Nat
  ks : List Int
/-- Its cells. -/
def Jc (a : Ja) : List Value := [.int .u8 a.kind, .string (ofL a.s), .int .i64 a.n, .int .i64 a.z, .slice a.ko a.ks.length a.kc]
def In64 (n : Int) : Prop := -9223372036854775808 ≤ n ∧ n ≤ 9223372036854775807
instance : Inhabited Ja := ⟨⟨0, [], 0, 0, none, 0, []⟩⟩
end Go.Jn
namespace Go.Proofs.Ytajclcbclbppiaa
open Go.ChangeShapes Go.WideShapes Go.RowKit Go.Deep Go.Dk Go.Jn
structure JaOk (w : World) (a : Ja) : Prop where
  kind : 0 ≤ a.kind ∧ a.kind < 256
  n : In64 a.n
  z : In64 a.z
  s : a.s.length ≤ 9223372036854775807
  ks : a.ks.length ≤ maxLen
  each : ∀ k ∈ a.ks, In64 k
  keep : KeepAt w (fun g => g < w.heap.size) a.ko a.ks
theorem JaOk.ext {w w' : World} {a : Ja} (h : JaOk w a) (hx : Ext w w') : JaOk w' a := by
  refine ⟨h.kind, h.n, h.z, h.s, h.ks, h.each, ?_⟩
  rcases h.keep.kept (w' := w') (fun g hg => Below.block hx g hg) with h | ⟨g, o, e, hg, hc⟩
  · exact .inl h
  · exact .inr ⟨g, o, e, Nat.lt_of_lt_of_le hg hx.size, hc⟩
theorem cellsAct : Try.prog.cellsOf 37 = 5 := by kernel_rfl
theorem cellsInt : Try.prog.cellsOf 3 = 1 := by kernel_rfl
theorem cellsInts : Try.prog.cellsOf 35 = 1 := by kernel_rfl
theorem cellsU8 : Try.prog.cellsOf 5 = 1 := by kernel_rfl
theorem cellsStr : Try.prog.cellsOf 9 = 1 := by kernel_rfl
section
variable {H : Type} {enc : TypeId × Value → H} {w : World} {base : Nat} {sp : Nat → Bool} {held : Bool}
theorem cell_int {fuel : Nat} {v : Value} {x : DataW H × List MemPlace} (h : DataW.trod enc Try.prog w base sp held fuel 3 [v] = some x) : ∃ n, v = .int .i64 n ∧ In64 n := by
  obtain ⟨n, h1, _, h3⟩ := DataW.trod_int Try.underlying3 h
  simp only [List.cons.injEq, and_true] at h1
  exact ⟨n, h1, bounds_i64 h3⟩
set_option maxRecDepth 100000 in
/-- A list of numbers. -/
theorem open_ints {fuel : Nat} {v : Value} {x : DataW H × List MemPlace} (h : DataW.trod enc Try.prog w base sp held fuel 35 [v] = some x) :
    ∃ ko kc ks, v = .slice ko ks.length kc ∧ ks.length ≤ maxLen ∧ (∀ k ∈ ks, In64 k) ∧ KeepAt w (fun g => g < w.heap.size) ko ks := by
  rcases open_slice Try.underlying35 h with ⟨h1, _⟩ | ⟨a, len, cap, m, n, D, Pl, h1, hb, hl, hm, hmm, _, hx⟩
  · simp only [List.cons.injEq, and_true] at h1
    exact ⟨none, 0, [], h1, by simp, fun _ h => (by cases h), .inl rfl⟩
  simp only [List.cons.injEq, and_true] at h1
  have hlm : len ≤ m := by rw [hmm]; split <;> omega
  have each : ∀ i, i < len → ∃ q : Int, w.cell? (a.add i) = some (.int .i64 q) ∧ In64 q := fun i hi => by
    obtain ⟨cs', c1, c2⟩ := hx i (by omega)
    rw [cellsInt] at c1
    obtain ⟨_, hlen, hcell⟩ := World.cells?_some c1
    match cs', hlen with
    | [u], _ =>
      obtain ⟨q, rfl, hq⟩ := cell_int c2
      have := hcell 0 (by omega)
      rw [add_add] at this
      exact ⟨q, by simpa using this, hq⟩
  obtain ⟨q, hq⟩ := choose_lt each
  refine ⟨some a, cap, (List.range len).map q, by simpa using h1, by simp; omega, fun b hb => ?_, ?_⟩
  · obtain ⟨i, hi, rfl⟩ := List.mem_map.1 hb
    exact (hq i (List.mem_range.1 hi)).2
  · rcases Nat.eq_zero_or_pos len with rfl | hpos
    · exact .inl rfl
    · have h0 := (hq 0 hpos).1
      obtain ⟨g, o, sp'⟩ := a
      have hsp : sp' = none := by simpa [Addr.add] using World.cell?_spot h0
      subst hsp
      have hadd : ∀ k, (⟨g, o, none⟩ : Addr).add k = ⟨g, o + k, none⟩ := fun k => by unfold Addr.add; split <;> simp_all
      have hg : g < w.heap.size := by
        rw [hadd] at h0
        rcases Nat.lt_or_ge g w.heap.size with h | h
        · exact h
        · simp only [World.cell?, Array.getElem?_eq_none h] at h0
          cases h0
      refine .inr ⟨g, o, rfl, hg, fun i hi => ?_⟩
      have hi' : i < len := by simpa using hi
      have := (hq i hi').1
      rw [hadd] at this
      rw [this]
      simp
set_option maxRecDepth 100000 in
theorem open_act {fuel : Nat} {cs : List Value} {x : DataW H × List MemPlace} (h : DataW.trod enc Try.prog w base sp held fuel 37 cs = some x) : ∃ a : Ja, cs = Jc a ∧ JaOk w a := by
  obtain ⟨xs, k, _, _, hlen, hxl, hf⟩ := DataW.trod_struct Try.underlying37 h
  rw [cellsAct] at hlen
  match cs, hlen, xs, hxl with
  | [v0, v1, v2, v3, v4], _, [y0, y1, y2, y3, y4], _ =>
    have g0 := hf 0 _ rfl
    have g1 := hf 1 _ rfl
    have g2 := hf 2 _ rfl
    have g3 := hf 3 _ rfl
    have g4 := hf 4 _ rfl
    simp [cellsInt, cellsInts, cellsStr, cellsU8] at g0 g1 g2 g3 g4
    obtain ⟨kind, h1, _, h3⟩ := DataW.trod_int Try.underlying5 g0
    simp only [List.cons.injEq, and_true] at h1
    subst h1
    obtain ⟨s, hs, _, hl⟩ := DataW.trod_string Try.underlying9 g1
    simp only [List.cons.injEq, and_true] at hs
    subst hs
    obtain ⟨n, rfl, bn⟩ := cell_int g2
    obtain ⟨z, rfl, bz⟩ := cell_int g3
    obtain ⟨ko, kc, ks, rfl, k1, k2, k3⟩ := open_ints g4
    exact ⟨⟨kind, s.data.toList, n, z, ko, kc, ks⟩, rfl, ⟨⟨(bounds_u8 h3).1, Int.lt_add_one_of_le (bounds_u8 h3).2⟩, bn, bz, hl, k1, k2, k3⟩⟩
/-- A row of acts, told by its cells. -/
def Acts (w : World) (v : Value) (l : List Ja) : Prop :=
  (∀ a ∈ l, JaOk w a) ∧ l.length ≤ maxLen ∧ ((∃ ao cap, v = .slice ao 0 cap ∧ l = []) ∨
    ∃ g o cap, v = .slice (some ⟨g, o, none⟩) l.length cap ∧ 0 < l.length ∧ g < w.heap.size ∧ ∀ i (h : i < l.length) j, j < 5 → w.cell? ⟨g, o + i * 5 + j, none⟩ = (Jc l[i])[j]?)
theorem Acts.ext {w w' : World} {v : Value} {l : List Ja} (h : Acts w v l) (hx : Ext w w') : Acts w' v l := by
  refine ⟨fun a ha => (h.1 a ha).ext hx, h.2.1, ?_⟩
  rcases h.2.2 with h | ⟨g, o, cap, h1, h2, h3, h4⟩
  · exact .inl h
  · exact .inr ⟨g, o, cap, h1, h2, Nat.lt_of_lt_of_le h3 hx.size, fun i hi j hj => (hx.cell (p := ⟨g, o + i * 5 + j, none⟩) h3).trans (h4 i hi j hj)⟩
set_option maxRecDepth 100000 in
theorem open_acts {fuel : Nat} {cs : List Value} {x : DataW H × List MemPlace} (h : DataW.trod enc Try.prog w base sp held fuel 22 cs = some x) : ∃ v l, cs = [v] ∧ Acts w v l := by
  rcases open_slice Try.underlying22 h with ⟨rfl, _⟩ | ⟨a, len, cap, m, n, D, Pl, rfl, hb, hl, hm, hmm, rfl, hx⟩
  · exact ⟨_, [], rfl, fun _ h => (by cases h), by simp, .inl ⟨_, _, rfl, rfl⟩⟩
  have hlm : len ≤ m := by rw [hmm]; split <;> omega
  have each : ∀ i, i < len → ∃ q : Ja, (∀ j, j < 5 → w.cell? (a.add (i * 5 + j)) = (Jc q)[j]?) ∧ JaOk w q := by
    intro i hi
    obtain ⟨cs', h1, h2⟩ := hx i (by omega)
    rw [cellsAct] at h1
    obtain ⟨_, hlen, hcell⟩ := World.cells?_some h1
    obtain ⟨q, rfl, hq⟩ := open_act h2
    refine ⟨q, fun j hj => ?_, hq⟩
    have := hcell j hj
    rw [add_add] at this
    exact this
  obtain ⟨q, hq⟩ := choose_lt each
  refine ⟨_, (List.range len).map q, rfl, fun b hb => ?_, by simp; omega, ?_⟩
  · obtain ⟨i, hi, rfl⟩ := List.mem_map.1 hb
    exact (hq i (List.mem_range.1 hi)).2
  · rcases Nat.eq_zero_or_pos len with rfl | hpos
    · exact .inl ⟨_, _, rfl, rfl⟩
    · right
      have h0 := (hq 0 hpos).1 0 (by omega)
      obtain ⟨g, o, sp'⟩ := a
      have hsp : sp' = none := by
        have h0' : w.cell? ((⟨g, o, sp'⟩ : Addr).add (0 * 5 + 0)) = some (.int .u8 (q 0).kind) := h0
        simpa [Addr.add] using World.cell?_spot h0'
      subst hsp
      have hadd : ∀ k, (⟨g, o, none⟩ : Addr).add k = ⟨g, o + k, none⟩ := fun k => by unfold Addr.add; split <;> simp_all
      have hg : g < w.heap.size := by
        have h0' : w.cell? ⟨g, o + 0, none⟩ = some (.int .u8 (q 0).kind) := by rw [← hadd]; exact h0
        rcases Nat.lt_or_ge g w.heap.size with h | h
        · exact h
        · simp only [World.cell?, Array.getElem?_eq_none h] at h0'
          cases h0'
      refine ⟨g, o, cap, by simp, by simpa using hpos, hg, fun i hi j hj => ?_⟩
      have hi' : i < len := by simpa using hi
      have := (hq i hi').1 j hj
      rw [hadd] at this
      rw [Nat.add_assoc, this]
      simp
set_option maxRecDepth 100000 in
/-- Acts as an argument. -/
theorem open_acts_arg {r : Reach} {b0 : Nat} {v : Value} {d : DataW H} {ps : List MemPlace} (hval : Value.okWide Try.prog w r b0 22 v) (h : DataW.Trod enc Try.prog w base sp held 22 v d ps) : ∃ l, Acts w v l := by
  obtain ⟨n, hn⟩ := h
  obtain ⟨u, l, h1, h2⟩ := open_acts hn
  have : v = u := by
    cases v <;> simp only [Value.cells, List.cons.injEq, and_true] at h1 <;> first | exact h1 | skip
    simp [Value.okWide, Cell.okWide, Try.underlying22, Cell.ok] at hval
  rw [this]; exact ⟨l, h2⟩
end
/-- A row of acts at a place: its five cells. -/
theorem Acts.at {w : World} {ao : Option Addr} {n cap : Nat} {l : List Ja} (h : Acts w (.slice ao n cap) l) (hn : l.length = n) (i : Nat) (hi : i < l.length) : ∃ g o, ao = some ⟨g, o, none⟩ ∧ g < w.heap.size ∧ ∀ w', Ext w w' → ∀ j, j < 5 → w'.cell? ⟨g, o + i * 5 + j, none⟩ = (Jc l[i])[j]? := by
  rcases h.2.2 with ⟨_, _, _, hnil⟩ | ⟨g, o, c2, hve, hpos, hg, hc⟩
  · subst hnil; simp at hi
  · simp only [Value.slice.injEq] at hve
    exact ⟨g, o, hve.1, hg, fun w' hx j hj => by rw [hx.cell (p := ⟨g, o + i * 5 + j, none⟩) hg]; exact hc i hi j hj⟩
/-- Are the acts more than is gone through? -/
def Gr (l : List Ja) (most : Nat) : Prop := (∃ a ∈ l, 3000 < a.s.length ∨ 20 < a.ks.length) ∨ most < l.length
theorem gr_of {l : List Ja} {n most k : Nat} (hn : l.length = n) (hk : k = n) (h : ∀ j (hj : j < l.length), j < k → l[j].s.length ≤ 3000 ∧ l[j].ks.length ≤ 20) : ((most : Int) < (n : Int)) ↔ Gr l most := by
  unfold Gr
  constructor
  · intro h; right; omega
  · rintro (⟨a, ha, h2⟩ | h2)
    · obtain ⟨j, hj, rfl⟩ := List.mem_iff_getElem.1 ha
      have := h j hj (by omega); omega
    · omega
open Classical in
set_option maxHeartbeats 1000000 in
set_option maxRecDepth 100000 in
theorem great_any {w : World} {ao : Option Addr} {n cap : Nat} {l : List Ja} (h : Acts w (.slice ao n cap) l) (hn : l.length = n) (most : Nat) (mo : Int) (hmo : mo = most) :
    Calls Try.prog 6 #[.slice ao n cap, .int .i64 mo] w fun e w' => e = .returned (.bool (decide (Gr l most))) ∧ Ext w w' := by
  subst hmo
  have hmax := h.2.1
  rw [hn] at hmax
  unfold maxLen at hmax
  have HA := Lib.hid h
  clear h
  go_enter Try.func6, Try.ntmps6
  go_wp2
  go_loopw [5] (fun i wr => (∃ k : Nat, k ≤ n ∧ i = .int .i64 k ∧ ∀ j (hj : j < l.length), j < k → l[j].s.length ≤ 3000 ∧ l[j].ks.length ≤ 20) ∧ Ext w wr) (fun i _ => n - (intOf i).toNat)
  case atStart => exact ⟨⟨0, by omega, rfl, fun j _ h => absurd h (by omega)⟩, Ext.refl _⟩
  case round =>
    obtain ⟨⟨k, hk, rfl, hp⟩, hE⟩ := hrel
    have HP := Lib.hid hp
    clear hp
    by_cases hlt : k < n
    · obtain ⟨g, o, rfl, _, hc⟩ := HA.out.at hn k (by omega)
      have c4 := hc wr hE 1 (by omega)
      have c5 := hc wr hE 4 (by omega)
      obtain ⟨a, ha⟩ : ∃ a, a = l[k]'(by omega) := ⟨_, rfl⟩
      have hsz := (HA.out.1 a (by rw [ha]; exact List.getElem_mem _)).s
      have hsk := (HA.out.1 a (by rw [ha]; exact List.getElem_mem _)).ks
      unfold maxLen at hsk
      rw [← ha] at c4 c5
      have Ha := Lib.hid ha
      replace c4 : wr.cell? ⟨g, o + k * 5 + 1, none⟩ = some (.string (ofL a.s)) := c4
      replace c5 : wr.cell? ⟨g, o + k * 5 + 4, none⟩ = some (.slice a.ko a.ks.length a.kc) := c5
      clear hc ha
      by_cases hgr : a.s.length ≤ 3000
      · by_cases hgk : a.ks.length ≤ 20
        · go_wp2
          exact ⟨⟨⟨k + 1, by omega, by go_num, fun j hj hjk => by
            rcases Nat.lt_or_ge j k with h | h
            · exact HP.out j hj h
            · obtain rfl : j = k := by omega
              rw [← Ha.out]; exact ⟨hgr, hgk⟩⟩, hE⟩, by simp [intOf]; omega⟩
        · go_wp2
          go_ret
          have hG : Gr l most := .inl ⟨a, by rw [Ha.out]; exact List.getElem_mem _, .inr (by omega)⟩
          exact ⟨by simp [hG], hE⟩
      · go_wp2
        go_ret
        have hG : Gr l most := .inl ⟨a, by rw [Ha.out]; exact List.getElem_mem _, .inl (by omega)⟩
        exact ⟨by simp [hG], hE⟩
    · obtain rfl : k = n := by omega
      go_wp2
      go_ret
      have hg := gr_of (most := most) hn rfl HP.out
      exact ⟨by rw [show decide (Gr l most) = decide (most < k) from decide_eq_decide.2 (by rw [← hg]; exact Int.ofNat_lt)]; rfl, hE⟩
end Go.Proofs.Ytajclcbclbppiaa
