/-
  Rows made, and copied: 'make' and 'copy' of elements of any size.
-/
import Derived.Test.YtajclcbclbppiaaTn
import Derived.OwnWalk
namespace Go
open Go.RowKit
section
variable {P : Program}
theorem Rw.owns {w : World} {base size g n cap : Nat} {e : TypeId} {cs : List Value} (h : w.ownsRow base e size (.slice (some ⟨g, 0, none⟩) n cap) n cs) : Rw w size (some ⟨g, 0, none⟩) n cap cs := by
  obtain ⟨h1, h⟩ := h
  rcases h with ⟨h, _⟩ | ⟨g', cap', cur, hv, _, hb, hn, hm, hs, ht⟩
  · simp at h
  · simp only [Value.slice.injEq, Option.some.injEq, Addr.mk.injEq, and_true, true_and] at hv
    obtain ⟨rfl, rfl⟩ := hv
    have hg : g < w.heap.size := by
      rcases Nat.lt_or_ge g w.heap.size with h | h
      · exact h
      · rw [Array.getElem?_eq_none h] at hb; cases hb
    refine ⟨h1, hn, hm, .inr ⟨g, rfl, hg, fun j hj => ⟨?_, ?_⟩, fun j hj => ?_⟩⟩
    · simp only [World.cell?, hb]
      rw [← hs] at hj
      simp [Array.getElem?_eq_getElem hj]
    · simp only [World.frozen?, hb]; simp
    · simp only [World.cell?, hb, ← ht]
      rw [List.getElem?_take_of_lt hj]
      simp
/-- make([]T, n). -/
theorem wpList_make_rw (w : World) {ops : Array Oper} {rest : List Oper} {o : Oper} {a : Act} {Q : Exit → Act → World → Prop} (hg : o.guard = none) (l c : Operand) (t : TypeId) (hop : o.op = Op.makeSlice t l c)
    (e : TypeId) (i : TypeInfo) (z : Value) (size : Nat) (h1 : P.underlying t = some (.slice e)) (h2 : P.info? e = some i) (h3 : i.zero = some z) (h4 : i.size = size)
    (kl kc : IntKind) (L C : Int) (n : Nat) (hl : a.eval l = .int kl L) (hc : a.eval c = .int kc C) (hL : L = (n : Int)) (hC : C = (n : Int)) (b2 : i.bytes * n ≤ 281474976710656) (b3 : n ≤ maxLen)
    (hK : ∀ w', Rw w' size (some ⟨w.heap.size, 0, none⟩) n n (madeCells z.cells (n * size)).toList → Ext w w' → w.heap.size < w'.heap.size → wpList P ops Q rest (a.put o.dst (.slice (some ⟨w.heap.size, 0, none⟩) n n)) w') :
    wpList P ops Q (o :: rest) a w :=
  wpList_make_full w hg l c t hop w.heap.size e i z size h1 h2 h3 h4 kl kc L C n hl hc hL hC b2 b3 (Nat.le_refl _) (fun w' hown hgr => by
    have hr := Rw.owns hown
    exact hK w' hr ((Ext.refl w).grown hgr (by simp)) (hr.lt _ rfl))
/-- 'copy' of elements of any size: all is read before anything is written. -/
theorem run_copy_rows (w : World) (dT sT ty elem : TypeId) (i : TypeInfo) (b dLen dCap : Nat) (a : Addr) (sLen sCap : Nat) (cs : List Value)
    (hu : P.underlying dT = some (.slice elem)) (hq : P.info? elem = some i) (hn : cs.length = Nat.min sLen dLen * i.size)
    (hsrc : ∀ j v, cs[j]? = some v → w.cell? (a.add j) = some v) (hc : ∀ j, j < cs.length → (w.cell? ⟨b, j, none⟩).isSome = true) (hf : ∀ j, j < cs.length → w.frozen? ⟨b, j, none⟩ = false) (h1 : ∀ v ∈ cs, v.oneCell' = true) :
    (Builtin.copy_ #[dT, sT] ty #[.slice (some ⟨b, 0, none⟩) dLen dCap, .slice (some a) sLen sCap]).run P w = .ok (goInt (Nat.min sLen dLen)) (w.setCells b 0 cs) := by
  have hl := run_loadCells_list (P := P) w a cs hsrc
  have hst := run_storeCells_cells (P := P) b 0 cs 0 w (by simpa using hc) (by simpa using hf) h1
  simp [Builtin.copy_, run_underlying hu, Builtin.lenOf, Builtin.firstCells, sizeOf, typeInfo, hq, ← hn, hl, hst]
theorem run_copy_nothing (w : World) (dT sT ty elem : TypeId) (i : TypeInfo) (d a : Option Addr) (dLen dCap sLen sCap : Nat) (hu : P.underlying dT = some (.slice elem)) (hq : P.info? elem = some i) (hn : Nat.min sLen dLen = 0) :
    (Builtin.copy_ #[dT, sT] ty #[.slice d dLen dCap, .slice a sLen sCap]).run P w = .ok (goInt 0) w := by
  have hl : ∀ (x : Addr), (loadCells x 0).run P w = .ok #[] w := fun x => by simpa using run_loadCells_list (P := P) w x [] (by simp)
  cases d <;> cases a <;> simp [Builtin.copy_, run_underlying hu, Builtin.lenOf, Builtin.firstCells, sizeOf, typeInfo, hq, hn, storeCells, hl]
/-- A row is copied over one of its length. -/
theorem Rw.copied {w : World} {size g n cap cap' : Nat} {ao : Option Addr} {cs0 cs : List Value} (hd : Rw w size (some ⟨g, 0, none⟩) n cap cs0) (hs : Rw w size ao n cap' cs) (h1 : ∀ v ∈ cs, v.oneCell' = true)
    (dT sT ty elem : TypeId) (i : TypeInfo) (hu : P.underlying dT = some (.slice elem)) (hq : P.info? elem = some i) (hz : i.size = size) :
    ∃ w', (Builtin.copy_ #[dT, sT] ty #[.slice (some ⟨g, 0, none⟩) n cap, .slice ao n cap']).run P w = .ok (goInt n) w' ∧ Rw w' size (some ⟨g, 0, none⟩) n cap cs ∧ Fr (fun k => k = g) w w' := by
  subst hz
  rcases Nat.eq_zero_or_pos n with rfl | hn
  · refine ⟨w, run_copy_nothing w dT sT ty elem i _ _ 0 cap 0 cap' hu hq (by simp), ?_, Fr.refl _ _⟩
    have e1 : cs = [] := List.length_eq_zero_iff.1 (by rw [hs.len, Nat.zero_mul])
    have e2 : cs0 = [] := List.length_eq_zero_iff.1 (by rw [hd.len, Nat.zero_mul])
    rw [e1, ← e2]; exact hd
  · obtain ⟨b, rfl, hb, hc, _⟩ := hs.row hn
    have hlen := hs.len
    have hmin : Nat.min n n = n := Nat.min_self n
    rcases hd.at_ with ⟨h0, _⟩ | ⟨g', e, hg, k1, k2⟩
    · cases h0
    cases e
    have hle := Nat.mul_le_mul_right i.size hd.le
    have hr := run_copy_rows (P := P) w dT sT ty elem i g n cap ⟨b, 0, none⟩ n cap' cs hu hq (by rw [hmin]; exact hlen) (fun j v hj => by
        have : (⟨b, 0, none⟩ : Addr).add j = ⟨b, j, none⟩ := by unfold Addr.add; split <;> simp_all
        rw [this, hc j (by rw [← hlen]; exact (List.getElem?_eq_some_iff.1 hj).1), hj]) (fun j hj => (k1 j (by omega)).1) (fun j hj => (k1 j (by omega)).2) h1
    rw [hmin] at hr
    have hcell : ∀ j, j < cs.length → (w.cell? ⟨g, 0 + j, none⟩).isSome = true := fun j hj => by rw [Nat.zero_add]; exact (k1 j (by omega)).1
    have hf : Fr (fun k => k = g) w (w.setCells g 0 cs) := Fr.setCells (by intro _; rfl) _ _ _ (Fr.refl _ _)
    refine ⟨_, hr, ⟨hlen, hd.le, hd.max, .inr ⟨g, rfl, Nat.lt_of_lt_of_le hg hf.size, fun j hj => ⟨?_, by rw [World.frozen?_setCells]; exact (k1 j hj).2⟩, fun j hj => ?_⟩⟩, hf⟩
    · by_cases hin : j < cs.length
      · have := World.cell?_setCells_in g cs 0 w hcell j hin
        rw [Nat.zero_add] at this
        rw [this]; rfl
      · rw [World.cell?_setCells_out g cs 0 w ⟨g, j, none⟩ (fun _ _ => by show j < _ ∨ _ ≤ j; omega)]
        exact (k1 j hj).1
    · have := World.cell?_setCells_in g cs 0 w hcell j (by omega)
      rw [Nat.zero_add] at this
      rw [this, List.getElem?_eq_getElem (by omega)]
theorem wpList_copy_rw {ops : Array Oper} {rest : List Oper} {o : Oper} {a : Act} {w : World} {Q : Exit → Act → World → Prop} (hg : o.guard = none) (d s : Operand) (dT sT : TypeId)
    (hop : o.op = Op.call { callee := Callee.builtin Builtin.copy, args := #[d, s], argTypes := #[dT, sT] }) {v u : Value} (hv : a.eval d = v) (hu : a.eval s = u) {n : Nat} {R : World → Prop}
    (H : ∃ w', (Builtin.copy_ #[dT, sT] o.type #[v, u]).run P w = .ok (goInt n) w' ∧ R w') (hK : ∀ w', R w' → wpList P ops Q rest (a.put o.dst (goInt n)) w') : wpList P ops Q (o :: rest) a w := by
  refine wpList_plain hg fun K hK' => ?_
  obtain ⟨w', hrun, hR⟩ := H
  unfold Oper.wp
  simp [execOp, hop, resolve, invoke, builtin, hv, hu, hrun, Result.andThen]
  exact hK' _ _ (hK _ hR)
end
end Go
