/-
  Objects of the call's own: which blocks a step may have turned ('Fr'); rows of elements, told by their cells ('Rw'); append onto them.
  Objects that turn: their blocks ('Tn'), and two of them apart.
  Rows made, and copied: 'make' and 'copy' of elements of any size.
  The walk of records.Whole.
  The document's Whole; Texts.
  Records in a row, in plain Lean; the chapter's examples (recorded).
-/
import Derived.Test.YtajclcbclbppiaaGreatZ01
import Derived.Deep.Upon
import Derived.OwnWalk
import Derived.Test.YtajclcbclbppiaaGreatZ04
import Derived.RangeFuncNested
import Derived.BigRegionIn
import Derived.Shelf.RegionOpen
import Derived.Deep.RegionLaw
import Derived.BigQuiet
import Derived.Deep.QuietTactic
import Derived.Deep.Cut
section
namespace Go
open Go.RowKit
/-- Of all blocks that there were only those of F may have turned. -/
structure Fr (F : Nat → Prop) (w w' : World) : Prop where
  os : w'.os = w.os
  tape : w'.tape = w.tape
  output : w'.output = w.output
  size : w.heap.size ≤ w'.heap.size
  block : ∀ k, k < w.heap.size → ¬ F k → w'.heap[k]? = w.heap[k]?
theorem Fr.refl (F : Nat → Prop) (w : World) : Fr F w w := ⟨rfl, rfl, rfl, Nat.le_refl _, fun _ _ _ => rfl⟩
theorem Fr.mono {F G : Nat → Prop} {w w' : World} (h : Fr F w w') (hG : ∀ k, k < w.heap.size → F k → G k) : Fr G w w' := ⟨h.os, h.tape, h.output, h.size, fun k hk hn => h.block k hk (fun hf => hn (hG k hk hf))⟩
theorem Fr.trans {F G : Nat → Prop} {a b c : World} (h : Fr F a b) (k : Fr G b c) (hG : ∀ k, k < a.heap.size → G k → F k) : Fr F a c :=
  ⟨k.os.trans h.os, k.tape.trans h.tape, k.output.trans h.output, Nat.le_trans h.size k.size, fun i hi hn => (k.block i (Nat.lt_of_lt_of_le hi h.size) (fun hg => hn (hG i hi hg))).trans (h.block i hi hn)⟩
theorem Fr.ext {F : Nat → Prop} {a w w' : World} (h : Ext a w) (k : Fr F w w') (hF : ∀ k, F k → a.heap.size ≤ k) : Ext a w' :=
  ⟨k.os.trans (Below.os h), k.tape.trans (Below.tape h), k.output.trans (Below.output h), Nat.le_trans h.size k.size, fun i hi => (k.block i (Nat.lt_of_lt_of_le hi h.size) (fun hf => absurd (hF i hf) (by omega))).trans (Below.block h i hi)⟩
theorem Fr.of_ext {F : Nat → Prop} {w w' : World} (h : Ext w w') : Fr F w w' := ⟨Below.os h, Below.tape h, Below.output h, Below.size h, fun k hk _ => Below.block h k hk⟩
theorem Fr.drew {F : Nat → Prop} {a w : World} (h : Fr F a w) : Fr F a w.drew := ⟨h.os, h.tape, h.output, h.size, h.block⟩
theorem Fr.alloc {F : Nat → Prop} {a w : World} (h : Fr F a w) (o : Obj) : Fr F a (w.alloc o) := h.trans (Fr.of_ext (F := fun _ => False) ((Ext.refl w).alloc o)) (fun _ _ hf => hf.elim)
theorem Fr.setCell {F : Nat → Prop} {a w : World} (h : Fr F a w) {p : Addr} (hp : p.block < a.heap.size → F p.block) (u : Value) : Fr F a (w.setCell p u) :=
  ⟨h.os, h.tape, h.output, by show _ ≤ (w.heap.modify _ _).size; rw [Array.size_modify]; exact h.size, fun k hk hn => by
    have : k ≠ p.block := fun he => hn (he ▸ hp (he ▸ hk))
    show (w.heap.modify p.block _)[k]? = _
    rw [Array.getElem?_modify, if_neg (fun h => this h.symm)]
    exact h.block k hk hn⟩
theorem Fr.setCells {F : Nat → Prop} {a : World} {b : Nat} (hb : b < a.heap.size → F b) : ∀ (vs : List Value) (o : Nat) (w : World), Fr F a w → Fr F a (w.setCells b o vs)
  | [], _, _, h => h
  | v :: r, o, w, h => Fr.setCells hb r (o + 1) _ (h.setCell (by exact hb) v)

theorem Fr.cell {F : Nat → Prop} {w w' : World} (h : Fr F w w') {p : Addr} (hp : p.block < w.heap.size) (hn : ¬ F p.block) : w'.cell? p = w.cell? p := World.cell?_of_block (h.block _ hp hn)
theorem Fr.frozen {F : Nat → Prop} {w w' : World} (h : Fr F w w') {p : Addr} (hp : p.block < w.heap.size) (hn : ¬ F p.block) : w'.frozen? p = w.frozen? p := World.frozen?_of_block (h.block _ hp hn)

/-- The block of an address. -/
def ob (ao : Option Addr) : Option Nat := ao.map (·.block)
/-- A row of elements of so many cells each, at the head of a block, told by its cells. -/
structure Rw (w : World) (size : Nat) (ao : Option Addr) (n cap : Nat) (cs : List Value) : Prop where
  len : cs.length = n * size
  le : n ≤ cap
  max : cap ≤ maxLen
  at_ : (ao = none ∧ cap = 0) ∨ ∃ g, ao = some ⟨g, 0, none⟩ ∧ g < w.heap.size ∧ (∀ j, j < cap * size → (w.cell? ⟨g, j, none⟩).isSome = true ∧ w.frozen? ⟨g, j, none⟩ = false) ∧ ∀ j, j < n * size → w.cell? ⟨g, j, none⟩ = cs[j]?
theorem Rw.nil (w : World) (size : Nat) : Rw w size none 0 0 [] := ⟨by simp, Nat.le_refl _, by unfold maxLen; omega, .inl ⟨rfl, rfl⟩⟩
theorem Rw.kept {w w' : World} {size : Nat} {ao : Option Addr} {n cap : Nat} {cs : List Value} (h : Rw w size ao n cap cs) (hs : w.heap.size ≤ w'.heap.size) (hb : ∀ g, ob ao = some g → w'.heap[g]? = w.heap[g]?) : Rw w' size ao n cap cs := by
  refine ⟨h.len, h.le, h.max, ?_⟩
  rcases h.at_ with h | ⟨g, rfl, hg, h1, h2⟩
  · exact .inl h
  · have e := hb g rfl
    exact .inr ⟨g, rfl, Nat.lt_of_lt_of_le hg hs, fun j hj => ⟨by rw [World.cell?_of_block (a := ⟨g, j, none⟩) e]; exact (h1 j hj).1, (World.frozen?_of_block (a := ⟨g, j, none⟩) e).trans (h1 j hj).2⟩, fun j hj => (World.cell?_of_block (a := ⟨g, j, none⟩) e).trans (h2 j hj)⟩
theorem Rw.lt {w : World} {size : Nat} {ao : Option Addr} {n cap : Nat} {cs : List Value} (h : Rw w size ao n cap cs) : ∀ g, ob ao = some g → g < w.heap.size := by
  rcases h.at_ with ⟨rfl, _⟩ | ⟨g, rfl, hg, _⟩
  · intro g h; cases h
  · intro k hk; cases hk; exact hg
theorem Rw.ext {w w' : World} {size : Nat} {ao : Option Addr} {n cap : Nat} {cs : List Value} (h : Rw w size ao n cap cs) (hx : Ext w w') : Rw w' size ao n cap cs := h.kept hx.size (fun g hg => Below.block hx g (h.lt g hg))
theorem Rw.fr {F : Nat → Prop} {w w' : World} {size : Nat} {ao : Option Addr} {n cap : Nat} {cs : List Value} (h : Rw w size ao n cap cs) (hx : Fr F w w') (hF : ∀ g, ob ao = some g → ¬ F g) : Rw w' size ao n cap cs := h.kept hx.size (fun g hg => hx.block g (h.lt g hg) (hF g hg))
theorem Rw.row {w : World} {size : Nat} {ao : Option Addr} {n cap : Nat} {cs : List Value} (h : Rw w size ao n cap cs) (hn : 0 < n) : ∃ g, ao = some ⟨g, 0, none⟩ ∧ g < w.heap.size ∧ (∀ j, j < n * size → w.cell? ⟨g, j, none⟩ = cs[j]?) ∧ (∀ j, j < n * size → w.frozen? ⟨g, j, none⟩ = false) := by
  rcases h.at_ with ⟨_, h0⟩ | ⟨g, e, hg, h1, h2⟩
  · have := h.le; omega
  · exact ⟨g, e, hg, h2, fun j hj => (h1 j (Nat.lt_of_lt_of_le hj (Nat.mul_le_mul_right _ h.le))).2⟩
/-- The first k elements, as a row that has no room behind them. -/
theorem Rw.front {w : World} {size : Nat} {ao : Option Addr} {n cap : Nat} {cs : List Value} (h : Rw w size ao n cap cs) (k c : Nat) (hk : k ≤ c) (hc : c ≤ cap) (hkn : k ≤ n) (hn : 0 < n) : Rw w size ao k c (cs.take (k * size)) := by
  have hl := h.len
  have hkm : k * size ≤ n * size := Nat.mul_le_mul_right _ hkn
  refine ⟨by rw [List.length_take]; omega, hk, Nat.le_trans hc h.max, ?_⟩
  obtain ⟨g, rfl, hg, _, _⟩ := h.row hn
  rcases h.at_ with ⟨h0, _⟩ | ⟨g', e, _, h1, h2⟩
  · cases h0
  · cases e
    refine .inr ⟨g, rfl, hg, fun j hj => h1 j (Nat.lt_of_lt_of_le hj (Nat.mul_le_mul_right _ hc)), fun j hj => ?_⟩
    rw [h2 j (by omega), List.getElem?_take_of_lt hj]
/-- One cell of a row is set. -/
theorem Rw.set {w : World} {size : Nat} {g n cap : Nat} {cs : List Value} (h : Rw w size (some ⟨g, 0, none⟩) n cap cs) (j : Nat) (hj : j < n * size) (v : Value) : Rw (w.setCell ⟨g, j, none⟩ v) size (some ⟨g, 0, none⟩) n cap (cs.set j v) := by
  refine ⟨by rw [List.length_set]; exact h.len, h.le, h.max, ?_⟩
  rcases h.at_ with ⟨h0, _⟩ | ⟨g', e, hg, h1, h2⟩
  · cases h0
  · cases e
    refine .inr ⟨g, rfl, by show _ < (w.heap.modify _ _).size; rw [Array.size_modify]; exact hg, fun i hi => ⟨?_, by rw [World.frozen?_setCell]; exact (h1 i hi).2⟩, fun i hi => ?_⟩
    · by_cases he : i = j
      · subst he
        obtain ⟨u, hu⟩ := Option.isSome_iff_exists.1 (h1 i hi).1
        rw [World.cell?_setCell_same _ _ _ hu]; rfl
      · rw [World.cell?_setCell_other _ _ _ _ (by simp)]; exact (h1 i hi).1
    · have hl := h.len
      by_cases he : i = j
      · subst he
        obtain ⟨u, hu⟩ := Option.isSome_iff_exists.1 (h1 i (Nat.lt_of_lt_of_le hi (Nat.mul_le_mul_right _ h.le))).1
        rw [World.cell?_setCell_same _ _ _ hu, List.getElem?_set_self (by omega)]
      · rw [World.cell?_setCell_other _ _ _ _ (by simp), List.getElem?_set_ne (fun h => he h.symm)]
        exact h2 i hi

section
variable {P : Program}
/-- A row as what is appended or copied: from element k on. -/
theorem Rw.src {w : World} {size : Nat} {g n cap : Nat} {cs : List Value} (h : Rw w size (some ⟨g, 0, none⟩) n cap cs) {tx e' : TypeId} (hk : P.underlying tx = some (.slice e')) (h1 : ∀ u ∈ cs, u.oneCell' = true)
    (k m c : Nat) (hkm : k + m = n) {ad : Addr} (had : 0 < m → ad = ⟨g, k * size, none⟩) : Src P size tx (.slice (some ad) m c) m (cs.drop (k * size)) w := by
  have hl := h.len
  subst hkm
  refine Src.ofSlice w hk ad m c _ (by rw [List.length_drop, hl, Nat.add_mul]; omega) (fun j u hj => ?_) (fun u hu => h1 u (List.mem_of_mem_drop hu))
  have hjl : j < m * size := by
    have := (List.getElem?_eq_some_iff.1 hj).1
    rw [List.length_drop, hl, Nat.add_mul] at this; omega
  have hm : 0 < m := by
    rcases Nat.eq_zero_or_pos m with h | h
    · subst h; simp at hjl
    · exact h
  rw [had hm]
  obtain ⟨g', e, _, h2, _⟩ := h.row (by omega)
  cases e
  have : (⟨g, k * size, none⟩ : Addr).add j = ⟨g, k * size + j, none⟩ := by unfold Addr.add; split <;> simp_all
  rw [this, h2 _ (by rw [Nat.add_mul]; omega), ← hj, List.getElem?_drop]
/-- append onto a row. -/
theorem Rw.append {w : World} {size : Nat} {ao : Option Addr} {n cap : Nat} {cs : List Value} (h : Rw w size ao n cap cs) (t tx ty e : TypeId) (i : TypeInfo) (z : Value) (bytes : Nat) (ht : P.underlying t = some (.slice e)) (hi : P.info? e = some i) (hz : i.zero = some z)
    (hsize : i.size = size) (hby : i.bytes = bytes) (hzs : z.cells.size = size) (x : Value) (m : Nat) (news : List Value) (hs : Src P size tx x m news w) (h63 : n + m ≤ maxLen) (hbytes : (n + m) * bytes ≤ 140737488355328) :
    ∃ ao' cap' w', (Builtin.append_ #[t, tx] ty #[.slice ao n cap, x]).run P w = .ok (.slice ao' (n + m) cap') w' ∧ Rw w' size ao' (n + m) cap' (cs ++ news) ∧ Fr (fun k => ob ao = some k) w w' ∧ (ao' = ao ∨ ∃ g, ao' = some ⟨g, 0, none⟩ ∧ w.heap.size ≤ g) := by
  subst hsize
  subst hby
  have hl := h.len
  have hnl := hs.newsLen
  have hsmall : n + m ≤ 9223372036854775807 := by simp only [maxLen] at h63; omega
  have hlen : (cs ++ news).length = (n + m) * i.size := by rw [List.length_append, hl, hnl, Nat.add_mul]
  by_cases hroom : n + m ≤ cap
  · rcases h.at_ with ⟨rfl, h0⟩ | ⟨g, rfl, hg, h1, h2⟩
    · obtain rfl : m = 0 := by omega
      obtain rfl : n = 0 := by omega
      obtain rfl : news = [] := List.length_eq_zero_iff.1 (by rw [hnl, Nat.zero_mul])
      exact ⟨none, cap, w, run_append_nothing w t tx ty e i ht hi none 0 cap (Nat.zero_le _) x hs, by simpa using h, Fr.refl _ _, .inl rfl⟩
    · have hr := run_append_room_src (P := P) w t tx ty e i ht hi g 0 n cap x m news hs hroom
        (fun j hj => by rw [Nat.zero_add]; exact (h1 _ (by have := Nat.mul_le_mul_right i.size hroom; rw [Nat.add_mul] at this; omega)).1)
        (fun j hj => by rw [Nat.zero_add]; exact (h1 _ (by have := Nat.mul_le_mul_right i.size hroom; rw [Nat.add_mul] at this; omega)).2)
      have hcell : ∀ j, j < news.length → (w.cell? ⟨g, n * i.size + j, none⟩).isSome = true := fun j hj => (h1 _ (by have := Nat.mul_le_mul_right i.size hroom; rw [Nat.add_mul] at this; omega)).1
      rw [Nat.zero_add] at hr
      have hsz : (w.setCells g (n * i.size) news).heap.size = w.heap.size := (Nat.le_antisymm (by
        have : ∀ (vs : List Value) (o : Nat) (w : World), (w.setCells g o vs).heap.size ≤ w.heap.size := fun vs => by
          induction vs with
          | nil => intro o w; exact Nat.le_refl _
          | cons v r ih => intro o w; refine Nat.le_trans (ih _ _) ?_; show (w.heap.modify _ _).size ≤ _; rw [Array.size_modify]; exact Nat.le_refl _
        exact this _ _ _) (Fr.setCells (F := fun _ => True) (fun _ => trivial) news (n * i.size) w (Fr.refl _ w)).size)
      refine ⟨_, _, _, hr, ⟨hlen, hroom, h.max, .inr ⟨g, rfl, by rw [hsz]; exact hg, fun j hj => ⟨?_, by rw [World.frozen?_setCells]; exact (h1 j hj).2⟩, fun j hj => ?_⟩⟩, Fr.setCells (F := fun k => ob (some ⟨g, 0, none⟩) = some k) (fun _ => rfl) _ _ _ (Fr.refl _ _), .inl rfl⟩
      · by_cases hin : n * i.size ≤ j ∧ j < n * i.size + news.length
        · have := World.cell?_setCells_in g news (n * i.size) w hcell (j - n * i.size) (by omega)
          rw [show n * i.size + (j - n * i.size) = j by omega] at this
          rw [this]; rfl
        · rw [World.cell?_setCells_out g news (n * i.size) w ⟨g, j, none⟩ (fun _ _ => by show j < _ ∨ _ ≤ j; omega)]
          exact (h1 j hj).1
      · rw [Nat.add_mul] at hj
        by_cases hin : n * i.size ≤ j
        · have := World.cell?_setCells_in g news (n * i.size) w hcell (j - n * i.size) (by omega)
          rw [show n * i.size + (j - n * i.size) = j by omega] at this
          rw [this, List.getElem?_append_right (by omega), List.getElem?_eq_getElem (by omega)]
          simp only [hl]
        · rw [World.cell?_setCells_out g news (n * i.size) w ⟨g, j, none⟩ (fun _ _ => by show j < _ ∨ _ ≤ j; omega), List.getElem?_append_left (by omega)]
          exact h2 j (by omega)
  · have hold : (Builtin.firstCells i.size n (.slice ao n cap)).run P w.drew = .ok cs.toArray w.drew := by
      rcases h.at_ with ⟨rfl, h0⟩ | ⟨g, rfl, hg, h1, h2⟩
      · obtain rfl : n = 0 := by have := h.le; omega
        obtain rfl : cs = [] := List.length_eq_zero_iff.1 (by rw [hl, Nat.zero_mul])
        exact run_firstCells_none w.drew i.size 0 0 cap
      · refine run_firstCells_some w.drew i.size n ⟨g, 0, none⟩ n cap cs hl (fun j u hj => ?_)
        have hjl : j < n * i.size := by rw [← hl]; exact (List.getElem?_eq_some_iff.1 hj).1
        have : (⟨g, 0, none⟩ : Addr).add j = ⟨g, j, none⟩ := by unfold Addr.add; split <;> simp_all
        rw [this, ← hj]
        exact h2 j hjl
    have hg : cap < n + m := by omega
    have hr := run_append_grow_src (P := P) w t tx ty e i z ht hi hz ao n cap cs hold x m news hs hg (by omega) (growslice_fits hg hbytes)
    have hge := grownCap_ge w (n + m) cap e
    have hcm : grownCap w (n + m) cap e ≤ maxLen := grownCap_le_maxLen w (n + m) cap e h63
    have hnew : (w.drew.alloc (.cells ((cs ++ news).toArray ++ Builtin.zeroCells z.cells (grownCap w (n + m) cap e - (n + m))) e)).heap[w.heap.size]? = some (.cells ((cs ++ news).toArray ++ Builtin.zeroCells z.cells (grownCap w (n + m) cap e - (n + m))) e) := heap_alloc_new w.drew _
    have hasz : ((cs ++ news).toArray ++ Builtin.zeroCells z.cells (grownCap w (n + m) cap e - (n + m))).size = grownCap w (n + m) cap e * i.size := by
      simp only [Array.size_append, List.size_toArray, size_zeroCells, hzs, hlen, ← Nat.add_mul]
      congr 1
      omega
    refine ⟨_, _, _, hr, ⟨hlen, hge, hcm, .inr ⟨w.heap.size, rfl, by simp, fun j hj => ⟨?_, ?_⟩, fun j hj => ?_⟩⟩, Fr.of_ext (((Ext.refl w).drew).alloc _), .inr ⟨_, rfl, Nat.le_refl _⟩⟩
    · simp only [World.cell?, hnew]
      rw [← hasz] at hj
      rw [Array.getElem?_eq_getElem hj]; rfl
    · simp only [World.frozen?, hnew]; simp
    · simp only [World.cell?, hnew]
      rw [← hlen] at hj
      rw [Array.getElem?_append_left (by simpa using hj)]
      simp
/-- append as one step of a region that draws. -/
theorem step_append_rw {ops : Array Oper} {o : Oper} {a : Act} {w : World} {K : Act → World → Prop} {Q : Exit → Act → World → Prop} {E : Prop}
    (hg : o.guard = none) (s x : Operand) (t tx : TypeId) (hop : o.op = Op.call { callee := Callee.builtin Builtin.append, args := #[s, x], argTypes := #[t, tx] })
    {v u : Value} {n : Nat} (hv : a.eval s = v) (hu : a.eval x = u) {R : Option Addr → Nat → World → Prop}
    (H : ∃ ao' cap' w', (Builtin.append_ #[t, tx] o.type #[v, u]).run P w = .ok (.slice ao' n cap') w' ∧ R ao' cap' w')
    (hK : ∀ ao' cap' w', R ao' cap' w' → K (a.put o.dst (.slice ao' n cap')) w') :
    if Region.wanted o (yielded ops a.tmps) = true then Oper.wp P o a w K Q else E := by
  have hw : Region.wanted o (yielded ops a.tmps) = true := by simp [Region.wanted, hg]
  rw [if_pos hw]
  obtain ⟨ao', cap', w', hrun, hR⟩ := H
  unfold Oper.wp
  simp [execOp, hop, resolve, invoke, builtin, hv, hu, hrun, Result.andThen]
  exact hK _ _ _ hR
theorem wpList_append_rw {ops : Array Oper} {rest : List Oper} {o : Oper} {a : Act} {w : World} {Q : Exit → Act → World → Prop}
    (hg : o.guard = none) (s x : Operand) (t tx : TypeId) (hop : o.op = Op.call { callee := Callee.builtin Builtin.append, args := #[s, x], argTypes := #[t, tx] })
    {v u : Value} {n : Nat} (hv : a.eval s = v) (hu : a.eval x = u) {R : Option Addr → Nat → World → Prop}
    (H : ∃ ao' cap' w', (Builtin.append_ #[t, tx] o.type #[v, u]).run P w = .ok (.slice ao' n cap') w' ∧ R ao' cap' w')
    (hK : ∀ ao' cap' w', R ao' cap' w' → wpList P ops Q rest (a.put o.dst (.slice ao' n cap')) w') : wpList P ops Q (o :: rest) a w := by
  refine wpList_plain hg fun K hK' => ?_
  obtain ⟨ao', cap', w', hrun, hR⟩ := H
  unfold Oper.wp
  simp [execOp, hop, resolve, invoke, builtin, hv, hu, hrun, Result.andThen]
  exact hK' _ _ (hK _ _ _ hR)
end
end Go
end
section
namespace Go
open Go.RowKit
/-- What an object has become: F' are its blocks now; of old blocks only its own have turned. -/
structure Tn (F F' : Nat → Prop) (w w' : World) : Prop where
  fr : Fr F w w'
  new : ∀ k, F' k → F k ∨ w.heap.size ≤ k
/-- No block in common. -/
def Apart (F G : Nat → Prop) : Prop := ∀ k, F k → ¬ G k
/-- Blocks that there are. -/
def Under (F : Nat → Prop) (w : World) : Prop := ∀ k, F k → k < w.heap.size
/-- The blocks of two. -/
def Both (F G : Nat → Prop) : Nat → Prop := fun k => F k ∨ G k
theorem Tn.refl (F : Nat → Prop) (w : World) : Tn F F w w := ⟨Fr.refl F w, fun _ h => .inl h⟩
theorem Tn.trans {F F' F'' : Nat → Prop} {a b c : World} (h : Tn F F' a b) (k : Tn F' F'' b c) : Tn F F'' a c :=
  ⟨h.fr.trans k.fr (fun i hi hf => (h.new i hf).resolve_right (by omega)), fun i hi => (k.new i hi).elim (h.new i) (fun hb => .inr (Nat.le_trans h.fr.size hb))⟩
theorem Tn.of_ext {F : Nat → Prop} {w w' : World} (h : Ext w w') : Tn F F w w' := ⟨Fr.of_ext h, fun _ h => .inl h⟩
theorem Tn.ext {F F' : Nat → Prop} {a b c : World} (h : Tn F F' a b) (k : Ext b c) : Tn F F' a c := h.trans (Tn.of_ext k)
theorem Tn.drew {F F' : Nat → Prop} {a b : World} (h : Tn F F' a b) : Tn F F' a b.drew := h.ext (Ext.refl b).drew
theorem Under.mono {F : Nat → Prop} {w w' : World} (h : Under F w) (hs : w.heap.size ≤ w'.heap.size) : Under F w' := fun k hk => Nat.lt_of_lt_of_le (h k hk) hs
theorem Apart.symm {F G : Nat → Prop} (h : Apart F G) : Apart G F := fun k hk hf => h k hf hk
theorem Apart.turn {F F' G : Nat → Prop} {w w' : World} (h : Apart F G) (hG : Under G w) (t : Tn F F' w w') : Apart F' G :=
  fun k hk hg => (t.new k hk).elim (fun h1 => h k h1 hg) (fun h1 => by have := hG k hg; omega)
theorem Apart.turn' {F G G' : Nat → Prop} {w w' : World} (h : Apart F G) (hF : Under F w) (t : Tn G G' w w') : Apart F G' := (h.symm.turn hF t).symm
/-- An object that is new is apart from all that there was. -/
theorem Apart.fresh {F G : Nat → Prop} {w : World} (hF : Under F w) (hG : ∀ k, G k → w.heap.size ≤ k) : Apart F G := fun k hk hg => by have := hF k hk; have := hG k hg; omega
theorem Apart.both {F G H : Nat → Prop} (h : Apart F H) (k : Apart G H) : Apart (Both F G) H := fun i hi hh => hi.elim (fun hf => h i hf hh) (fun hg => k i hg hh)
theorem Apart.of_both {F G H : Nat → Prop} (h : Apart (Both F G) H) : Apart F H ∧ Apart G H := ⟨fun i hi => h i (.inl hi), fun i hi => h i (.inr hi)⟩
theorem Under.both {F G : Nat → Prop} {w : World} (h : Under F w) (k : Under G w) : Under (Both F G) w := fun i hi => hi.elim (h i) (k i)
theorem Tn.left {F F' G : Nat → Prop} {w w' : World} (h : Tn F F' w w') : Tn (Both F G) (Both F' G) w w' :=
  ⟨h.fr.mono (fun _ _ hf => .inl hf), fun i hi => hi.elim (fun hf => (h.new i hf).elim (fun a => .inl (.inl a)) .inr) (fun hg => .inl (.inr hg))⟩
theorem Tn.right {F G G' : Nat → Prop} {w w' : World} (h : Tn G G' w w') : Tn (Both F G) (Both F G') w w' :=
  ⟨h.fr.mono (fun _ _ hf => .inr hf), fun i hi => hi.elim (fun hf => .inl (.inl hf)) (fun hg => (h.new i hg).elim (fun a => .inl (.inr a)) .inr)⟩
/-- An object that is new, and turned since, is new. -/
theorem Tn.fresh {F F' : Nat → Prop} {a w w' : World} (h : Tn F F' w w') (hs : a.heap.size ≤ w.heap.size) (hF : ∀ k, F k → a.heap.size ≤ k) : ∀ k, F' k → a.heap.size ≤ k :=
  fun k hk => (h.new k hk).elim (hF k) (fun h1 => Nat.le_trans hs h1)
/-- Only what is new has turned. -/
theorem Tn.grown {F F' : Nat → Prop} {a w w' : World} (hx : Ext a w) (h : Tn F F' w w') (hF : ∀ k, F k → a.heap.size ≤ k) : Ext a w' :=
  have f := Fr.ext hx h.fr hF
  ⟨f.os, f.tape, f.output, f.size, fun k hk => f.block k hk⟩
/-- The cells of a block that has not turned. -/
theorem Fr.cells {F : Nat → Prop} {w w' : World} (h : Fr F w w') {g : Nat} {a : Array Value} {t : TypeId} (hb : w.heap[g]? = some (.cells a t)) (hn : ¬ F g) : (∀ o, w'.cell? ⟨g, o, none⟩ = a[o]?) ∧ ∀ o, w'.frozen? ⟨g, o, none⟩ = false := by
  have hg : g < w.heap.size := by
    rcases Nat.lt_or_ge g w.heap.size with h | h
    · exact h
    · rw [Array.getElem?_eq_none h] at hb; cases hb
  have h1 := (h.block g hg hn).trans hb
  exact ⟨fun o => by simp only [World.cell?, h1]; simp, fun o => by simp only [World.frozen?, h1]; simp⟩
/-- Only one block has turned, that is new since a. -/
theorem Fr.grownFrom {F : Nat → Prop} {a w w' : World} (h : Fr F w w') (hx : Ext a w) (hF : ∀ k, F k → a.heap.size ≤ k) : Ext a w' := Tn.grown hx (⟨h, fun _ h => .inl h⟩ : Tn F F w w') hF
/-- Seven cells that have been set. -/
theorem seven_cells (W : World) (b : Nat) (a0 a1 a2 a3 a4 a5 a6 : Value) (h : ∀ j, j < 7 → (W.cell? ⟨b, j, none⟩).isSome = true) {F : World}
    (hF : F = ((((((W.setCell ⟨b, 0, none⟩ a0).setCell ⟨b, 1, none⟩ a1).setCell ⟨b, 2, none⟩ a2).setCell ⟨b, 3, none⟩ a3).setCell ⟨b, 4, none⟩ a4).setCell ⟨b, 5, none⟩ a5).setCell ⟨b, 6, none⟩ a6) :
    F.cell? ⟨b, 0, none⟩ = some a0 ∧ F.cell? ⟨b, 1, none⟩ = some a1 ∧ F.cell? ⟨b, 2, none⟩ = some a2 ∧ F.cell? ⟨b, 3, none⟩ = some a3 ∧ F.cell? ⟨b, 4, none⟩ = some a4 ∧ F.cell? ⟨b, 5, none⟩ = some a5 ∧ F.cell? ⟨b, 6, none⟩ = some a6 := by
  have k := World.cell?_setCells_in b [a0, a1, a2, a3, a4, a5, a6] 0 W (fun j hj => by rw [Nat.zero_add]; exact h j (by simpa using hj))
  subst hF
  exact ⟨k 0 (by simp), k 1 (by simp), k 2 (by simp), k 3 (by simp), k 4 (by simp), k 5 (by simp), k 6 (by simp)⟩
theorem heap_two_first (w : World) (a b : Obj) : ((w.alloc a).alloc b).drew.heap[w.heap.size]? = some a := by
  show ((w.alloc a).alloc b).heap[w.heap.size]? = _
  rw [Below.heap_alloc _ _ _ (by simp)]
  exact heap_alloc_new w a
theorem heap_two_second (w : World) (a b : Obj) : ((w.alloc a).alloc b).drew.heap[w.heap.size + 1]? = some b := by
  have h := heap_alloc_new (w.alloc a) b
  rw [show (w.alloc a).heap.size = w.heap.size + 1 by simp] at h
  exact h
end Go
end
section
namespace Go
open Go.RowKit
section
variable {P : Program}
theorem Rw.owns {w : World} {base size g n cap : Nat} {e : TypeId} {cs : List Value} (h : w.ownsRow base e size (.slice (some ⟨g, 0, none⟩) n cap) n cs) : Rw w size (some ⟨g, 0, none⟩) n cap cs := by
  obtain ⟨h1, h⟩ := h
  rcases h with ⟨h, _⟩ | ⟨g', cap', cur, hv, _, hb, hn, hm, hs, ht⟩
  · simp at h
  · simp only [Value.slice.injEq, Option.some.injEq, Addr.mk.injEq, and_true, true_and] at hv
    obtain ⟨rfl, rfl⟩ := hv
    have hg : g < w.heap.size := by
      rcases Nat.lt_or_ge g w.heap.size with h | h
      · exact h
      · rw [Array.getElem?_eq_none h] at hb; cases hb
    refine ⟨h1, hn, hm, .inr ⟨g, rfl, hg, fun j hj => ⟨?_, ?_⟩, fun j hj => ?_⟩⟩
    · simp only [World.cell?, hb]
      rw [← hs] at hj
      simp [Array.getElem?_eq_getElem hj]
    · simp only [World.frozen?, hb]; simp
    · simp only [World.cell?, hb, ← ht]
      rw [List.getElem?_take_of_lt hj]
      simp
/-- make([]T, n). -/
theorem wpList_make_rw (w : World) {ops : Array Oper} {rest : List Oper} {o : Oper} {a : Act} {Q : Exit → Act → World → Prop} (hg : o.guard = none) (l c : Operand) (t : TypeId) (hop : o.op = Op.makeSlice t l c)
    (e : TypeId) (i : TypeInfo) (z : Value) (size : Nat) (h1 : P.underlying t = some (.slice e)) (h2 : P.info? e = some i) (h3 : i.zero = some z) (h4 : i.size = size)
    (kl kc : IntKind) (L C : Int) (n : Nat) (hl : a.eval l = .int kl L) (hc : a.eval c = .int kc C) (hL : L = (n : Int)) (hC : C = (n : Int)) (b2 : i.bytes * n ≤ 281474976710656) (b3 : n ≤ maxLen)
    (hK : ∀ w', Rw w' size (some ⟨w.heap.size, 0, none⟩) n n (madeCells z.cells (n * size)).toList → Ext w w' → w.heap.size < w'.heap.size → wpList P ops Q rest (a.put o.dst (.slice (some ⟨w.heap.size, 0, none⟩) n n)) w') :
    wpList P ops Q (o :: rest) a w :=
  wpList_make_full w hg l c t hop w.heap.size e i z size h1 h2 h3 h4 kl kc L C n hl hc hL hC b2 b3 (Nat.le_refl _) (fun w' hown hgr => by
    have hr := Rw.owns hown
    exact hK w' hr ((Ext.refl w).grown hgr (by simp)) (hr.lt _ rfl))
/-- 'copy' of elements of any size: all is read before anything is written. -/
theorem run_copy_rows (w : World) (dT sT ty elem : TypeId) (i : TypeInfo) (b dLen dCap : Nat) (a : Addr) (sLen sCap : Nat) (cs : List Value)
    (hu : P.underlying dT = some (.slice elem)) (hq : P.info? elem = some i) (hn : cs.length = Nat.min sLen dLen * i.size)
    (hsrc : ∀ j v, cs[j]? = some v → w.cell? (a.add j) = some v) (hc : ∀ j, j < cs.length → (w.cell? ⟨b, j, none⟩).isSome = true) (hf : ∀ j, j < cs.length → w.frozen? ⟨b, j, none⟩ = false) (h1 : ∀ v ∈ cs, v.oneCell' = true) :
    (Builtin.copy_ #[dT, sT] ty #[.slice (some ⟨b, 0, none⟩) dLen dCap, .slice (some a) sLen sCap]).run P w = .ok (goInt (Nat.min sLen dLen)) (w.setCells b 0 cs) := by
  have hl := run_loadCells_list (P := P) w a cs hsrc
  have hst := run_storeCells_cells (P := P) b 0 cs 0 w (by simpa using hc) (by simpa using hf) h1
  simp [Builtin.copy_, run_underlying hu, Builtin.lenOf, Builtin.firstCells, sizeOf, typeInfo, hq, ← hn, hl, hst]
theorem run_copy_nothing (w : World) (dT sT ty elem : TypeId) (i : TypeInfo) (d a : Option Addr) (dLen dCap sLen sCap : Nat) (hu : P.underlying dT = some (.slice elem)) (hq : P.info? elem = some i) (hn : Nat.min sLen dLen = 0) :
    (Builtin.copy_ #[dT, sT] ty #[.slice d dLen dCap, .slice a sLen sCap]).run P w = .ok (goInt 0) w := by
  have hl : ∀ (x : Addr), (loadCells x 0).run P w = .ok #[] w := fun x => by simpa using run_loadCells_list (P := P) w x [] (by simp)
  cases d <;> cases a <;> simp [Builtin.copy_, run_underlying hu, Builtin.lenOf, Builtin.firstCells, sizeOf, typeInfo, hq, hn, storeCells, hl]
/-- A row is copied over one of its length. -/
theorem Rw.copied {w : World} {size g n cap cap' : Nat} {ao : Option Addr} {cs0 cs : List Value} (hd : Rw w size (some ⟨g, 0, none⟩) n cap cs0) (hs : Rw w size ao n cap' cs) (h1 : ∀ v ∈ cs, v.oneCell' = true)
    (dT sT ty elem : TypeId) (i : TypeInfo) (hu : P.underlying dT = some (.slice elem)) (hq : P.info? elem = some i) (hz : i.size = size) :
    ∃ w', (Builtin.copy_ #[dT, sT] ty #[.slice (some ⟨g, 0, none⟩) n cap, .slice ao n cap']).run P w = .ok (goInt n) w' ∧ Rw w' size (some ⟨g, 0, none⟩) n cap cs ∧ Fr (fun k => k = g) w w' := by
  subst hz
  rcases Nat.eq_zero_or_pos n with rfl | hn
  · refine ⟨w, run_copy_nothing w dT sT ty elem i _ _ 0 cap 0 cap' hu hq (by simp), ?_, Fr.refl _ _⟩
    have e1 : cs = [] := List.length_eq_zero_iff.1 (by rw [hs.len, Nat.zero_mul])
    have e2 : cs0 = [] := List.length_eq_zero_iff.1 (by rw [hd.len, Nat.zero_mul])
    rw [e1, ← e2]; exact hd
  · obtain ⟨b, rfl, hb, hc, _⟩ := hs.row hn
    have hlen := hs.len
    have hmin : Nat.min n n = n := Nat.min_self n
    rcases hd.at_ with ⟨h0, _⟩ | ⟨g', e, hg, k1, k2⟩
    · cases h0
    cases e
    have hle := Nat.mul_le_mul_right i.size hd.le
    have hr := run_copy_rows (P := P) w dT sT ty elem i g n cap ⟨b, 0, none⟩ n cap' cs hu hq (by rw [hmin]; exact hlen) (fun j v hj => by
        have : (⟨b, 0, none⟩ : Addr).add j = ⟨b, j, none⟩ := by unfold Addr.add; split <;> simp_all
        rw [this, hc j (by rw [← hlen]; exact (List.getElem?_eq_some_iff.1 hj).1), hj]) (fun j hj => (k1 j (by omega)).1) (fun j hj => (k1 j (by omega)).2) h1
    rw [hmin] at hr
    have hcell : ∀ j, j < cs.length → (w.cell? ⟨g, 0 + j, none⟩).isSome = true := fun j hj => by rw [Nat.zero_add]; exact (k1 j (by omega)).1
    have hf : Fr (fun k => k = g) w (w.setCells g 0 cs) := Fr.setCells (by intro _; rfl) _ _ _ (Fr.refl _ _)
    refine ⟨_, hr, ⟨hlen, hd.le, hd.max, .inr ⟨g, rfl, Nat.lt_of_lt_of_le hg hf.size, fun j hj => ⟨?_, by rw [World.frozen?_setCells]; exact (k1 j hj).2⟩, fun j hj => ?_⟩⟩, hf⟩
    · by_cases hin : j < cs.length
      · have := World.cell?_setCells_in g cs 0 w hcell j hin
        rw [Nat.zero_add] at this
        rw [this]; rfl
      · rw [World.cell?_setCells_out g cs 0 w ⟨g, j, none⟩ (fun _ _ => by show j < _ ∨ _ ≤ j; omega)]
        exact (k1 j hj).1
    · have := World.cell?_setCells_in g cs 0 w hcell j (by omega)
      rw [Nat.zero_add] at this
      rw [this, List.getElem?_eq_getElem (by omega)]
theorem wpList_copy_rw {ops : Array Oper} {rest : List Oper} {o : Oper} {a : Act} {w : World} {Q : Exit → Act → World → Prop} (hg : o.guard = none) (d s : Operand) (dT sT : TypeId)
    (hop : o.op = Op.call { callee := Callee.builtin Builtin.copy, args := #[d, s], argTypes := #[dT, sT] }) {v u : Value} (hv : a.eval d = v) (hu : a.eval s = u) {n : Nat} {R : World → Prop}
    (H : ∃ w', (Builtin.copy_ #[dT, sT] o.type #[v, u]).run P w = .ok (goInt n) w' ∧ R w') (hK : ∀ w', R w' → wpList P ops Q rest (a.put o.dst (goInt n)) w') : wpList P ops Q (o :: rest) a w := by
  refine wpList_plain hg fun K hK' => ?_
  obtain ⟨w', hrun, hR⟩ := H
  unfold Oper.wp
  simp [execOp, hop, resolve, invoke, builtin, hv, hu, hrun, Result.andThen]
  exact hK' _ _ (hK _ hR)
end
end Go
end
section
namespace Go.Rc
/-- Where the last of them ends. -/
def endOf (l : List It) : Nat := (l.getLast?.map (·.2)).getD 0
theorem endOf_snoc (l : List It) (x : It) : endOf (l ++ [x]) = x.2 := by simp [endOf]
theorem pairs_length (s : List UInt8) : ∀ (f a : Nat), (pairs s f a).length ≤ s.length - a
  | 0, a => by simp [pairs]
  | f + 1, a => by
    unfold pairs
    cases h : getR s a with
    | none => simp
    | some x =>
      obtain ⟨p, b⟩ := x
      have := getR_next h
      have := pairs_length s f b
      simp only [List.length_cons]
      omega
theorem itsAt_length (s : List UInt8) (a : Nat) : (itsAt s a).length ≤ s.length := Nat.le_trans (pairs_length s _ a) (Nat.sub_le _ _)
def Se (L : List (List UInt8)) : List Value := L.map (fun x => .string (ofL x))
theorem Se_snoc (L : List (List UInt8)) (x : List UInt8) : Se (L ++ [x]) = Se L ++ [.string (ofL x)] := by simp [Se]
end Go.Rc
namespace Go.Proofs.YtajclcbclbppiaaGreat
open Go.RowKit Go.Shelf Go.Rc
attribute [local go_sem] Oper.semAt_some
theorem infoStr : (Tryz.prog.info? 9).map (fun i => (i.zero, i.size, i.bytes)) = some (some (.string (ofL [])), 1, 16) := by kernel_rfl
set_option maxHeartbeats 1000000 in
theorem each_any (s : List UInt8) (w : World) :
    Calls Tryz.prog 83 #[.string (ofL s)] w fun e w' => e = .returned (.func (.func 91) #[] #[.pointer (some ⟨w.heap.size, 0, none⟩)]) ∧ w' = w.alloc (.cells #[.string (ofL s)] 9) := by
  go_enter Tryz.func83, Tryz.ntmps83
  go_wp2
  go_ret
  exact ⟨rfl, rfl⟩
/-- What the loop over the records keeps: all that there was, and the iterator's box. -/
def KpW (n₀ Bn : Nat) (W W' : World) : Prop := Below n₀ W W' ∧ W'.heap[Bn]? = W.heap[Bn]?
theorem each_stops (n : Nat) (hn : 1 ≤ n) (Bn n₀ : Nat) (s : List UInt8) (hs : s.length ≤ 16770000) (w : World) (hc : Held s Bn w) :
    SeqStopsK Fence.wide n Tryz.prog 91 #[.pointer (some ⟨Bn, 0, none⟩)] encI (KpW n₀ Bn) (fun ys => ys = itsAt s 0) (fun pre => pre <+: itsAt s 0) (itsAt s 0).length w := fun l J Jx W hW hJ _ hY h0 =>
  each1_in n hn l Bn n₀ s hs J Jx (fun pre A B hj hx => hJ pre A B none hj ⟨Below.os hx, Below.tape hx, Below.output hx, Below.size hx, fun k hk _ => Below.block hx k hk⟩ (fun r e => by cases e)) hY W ((Below.block hW Bn (Boxed.lt hc)).trans hc) h0
/-- Behind 'payloads = append(payloads, p); end = n'. -/
theorem collect {W w1 : World} {n₀ n1 B0 B1 B2 : Nat} {v v' u u' : Value} {k m : Nat} {xs ys : List Value} {tmp : Obj} {s : List UInt8}
    (hO : Boxed W B0 36 v) (hE : Boxed W B1 3 u) (hH : Held s B2 W) (hrow : W.ownsRow n1 9 1 v k xs) (h0 : n₀ ≤ B0) (h1 : n₀ ≤ B1) (hn : n₀ ≤ n1) (b0 : B0 < n1) (b1 : B1 < n1) (b2 : B2 < n1) (h01 : B0 ≠ B1) (h02 : B0 ≠ B2) (h12 : B1 ≠ B2)
    (hs : n₀ ≤ W.heap.size) (hown' : w1.ownsRow n1 9 1 v' m ys) (hgrow : (W.alloc tmp).grownBy w1 v.ownBlock) :
    (Boxed w1 B0 36 v ∧ Boxed w1 B1 3 u) ∧ Boxed ((w1.setCell ⟨B0, 0, none⟩ v').setCell ⟨B1, 0, none⟩ u') B0 36 v' ∧ Boxed ((w1.setCell ⟨B0, 0, none⟩ v').setCell ⟨B1, 0, none⟩ u') B1 3 u' ∧ Held s B2 ((w1.setCell ⟨B0, 0, none⟩ v').setCell ⟨B1, 0, none⟩ u') ∧
      ((w1.setCell ⟨B0, 0, none⟩ v').setCell ⟨B1, 0, none⟩ u').ownsRow n1 9 1 v' m ys ∧ KeepsOthers W ((w1.setCell ⟨B0, 0, none⟩ v').setCell ⟨B1, 0, none⟩ u') ∧ KpW n₀ B2 W ((w1.setCell ⟨B0, 0, none⟩ v').setCell ⟨B1, 0, none⟩ u') := by
  have hb : ∀ g, v.ownBlock = some g → n1 ≤ g := fun g e => (hrow.lt g e).1
  have hb' : ∀ g, v'.ownBlock = some g → n1 ≤ g := fun g e => (hown'.lt g e).1
  have ne : ∀ B, B < n1 → some B ≠ v.ownBlock := fun B hB e => by have := hb B e.symm; omega
  have ne' : ∀ B, B < n1 → v'.ownBlock ≠ some B := fun B hB e => by have := hb' B e; omega
  have hO1 := (hO.alloc tmp).kept hgrow (ne B0 b0)
  have hE1 := (hE.alloc tmp).kept hgrow (ne B1 b1)
  have hH1 : Boxed w1 B2 9 (.string (ofL s)) := (Boxed.alloc hH tmp).kept hgrow (ne B2 b2)
  have g0 := grownBy_setCell' w1 B0 v'
  have g1 := grownBy_setCell' (w1.setCell ⟨B0, 0, none⟩ v') B1 u'
  have hH2 := (hH1.kept g0 (by simpa using fun e => h02 e.symm)).kept g1 (by simpa using fun e => h12 e.symm)
  refine ⟨⟨hO1, hE1⟩, (hO1.set v').kept g1 (by simpa using h01), (hE1.kept g0 (by simpa using fun e => h01 e.symm)).set u', hH2, (hown'.kept g0 (.inr (ne' B0 b0))).kept g1 (.inr (ne' B1 b1)), ?_, ?_, hH2.trans (show W.heap[B2]? = _ from hH).symm⟩
  · refine (((KeepsOthers.alloc W tmp).trans (KeepsOthers.of_grownBy hgrow fun j o ej hj => ?_)).trans (KeepsOthers.setCell _ _ _)).trans (KeepsOthers.setCell _ _ _)
    rcases (hrow.alloc tmp).2 with ⟨rfl, _⟩ | ⟨g, cap, cur, rfl, _, hgb, _⟩
    · simp [Value.ownBlock] at ej
    · obtain rfl : g = j := by simpa [Value.ownBlock] using ej
      rw [hgb] at hj; cases hj; rfl
  · exact ((((Below.refl n₀ W).alloc hs tmp).grown hgrow (by simp; omega) (fun j ej => Nat.le_trans hn (hb j ej))).setCell (p := ⟨B0, 0, none⟩) h0 v').setCell (p := ⟨B1, 0, none⟩) h1 u'
set_option maxRecDepth 100000 in
set_option maxHeartbeats 2000000 in
theorem whole_in (n : Nat) (hn : 3 ≤ n) (s : List UInt8) (hs : s.length ≤ 16770000) (w : World) :
    CallsIn Fence.wide n Tryz.prog 65 #[.string (ofL s)] w fun e W' => ∃ v, e = .returned (.tuple #[v, .int .i64 (endOf (itsAt s 0))]) ∧
      W'.ownsRow (w.heap.size + 3) 9 1 v (itsAt s 0).length (Se ((itsAt s 0).map (·.1))) ∧ Below w.heap.size w W' := by
  have h1 : 1 ≤ n := by omega
  obtain ⟨i0, hi, hz0, hz1, hz2⟩ := info_parts infoStr
  have hN : (itsAt s 0).length ≤ 16770000 := by have := itsAt_length s 0; omega
  have hNm : (itsAt s 0).length ≤ maxLen := by unfold maxLen; omega
  refine callsIn_of_wp_marks Tryz.func65 rfl trivial ?_ rfl
  simp only [Tryz.ntmps65, List.size_toArray, List.length_cons, List.length_nil, Nat.reduceAdd, Nat.reduceSub, Array.replicate_succ, Array.replicate_zero, List.push_toArray, List.append_toArray, List.nil_append, List.cons_append]
  gi_wp2_with (refine ⟨trivial, ?_⟩; gi_at_call 83; refine (callsIn_wide.2 (each_any s _)).mono ?_; rintro e w' ⟨rfl, rfl⟩)
  obtain ⟨W0, hW0⟩ : ∃ W0, ((w.alloc (.cells #[.slice none 0 0] 36)).alloc (.cells #[.int .i64 0] 3)).alloc (.cells #[.string (ofL s)] 9) = W0 := ⟨_, rfl⟩
  have hsz : W0.heap.size = w.heap.size + 3 := by rw [← hW0]; simp
  have bO : Boxed W0 w.heap.size 36 (.slice none 0 0) := by rw [← hW0]; exact ((Boxed.new w _ _).alloc _).alloc _
  have bE : Boxed W0 (w.heap.size + 1) 3 (.int .i64 0) := by
    have := (Boxed.new (w.alloc (.cells #[.slice none 0 0] 36)) 3 (.int .i64 0)).alloc (.cells #[.string (ofL s)] 9)
    rw [World.size_alloc] at this; rw [← hW0]; exact this
  have bH : Held s (w.heap.size + 1 + 1) W0 := by
    have := Boxed.new ((w.alloc (.cells #[.slice none 0 0] 36)).alloc (.cells #[.int .i64 0] 3)) 9 (.string (ofL s))
    rw [World.size_alloc, World.size_alloc] at this; rw [← hW0]; exact this
  have hB0 : Below w.heap.size w W0 := by rw [← hW0]; exact (((Below.refl _ w).alloc (Nat.le_refl _) _).alloc (by simp) _).alloc (by simp; omega) _
  rw [hW0]
  refine wpIn_rangeFunc_ownG rfl h1 (gf := 91) (lb := #[.pointer (some ⟨w.heap.size + 1 + 1, 0, none⟩)]) rfl trivial (enters_of Tryz.func91 (by kernel_rfl) rfl)
    (each_stops (n - 1) (by omega) (w.heap.size + 1 + 1) w.heap.size s hs W0 bH) (fun h k => ⟨h.1.trans k.1, k.2.trans h.2⟩) (fun W l o o' hl ho hc _ => ⟨belowK_b (w := w) (Nat.le_refl _) W l o o' (by omega) ho hc (by assumption), World.putObj_heap_other (by omega)⟩) (Below.refl _ _) (fun _ => rfl)
    (fun (pre : List It) W => (∃ v, (Boxed W w.heap.size 36 v ∧ W.ownsRow (w.heap.size + 3) 9 1 v pre.length (Se (pre.map (·.1))) ∧ True)) ∧ (Boxed W (w.heap.size + 1) 3 (.int .i64 (endOf pre)) ∧ Held s (w.heap.size + 1 + 1) W ∧ Below w.heap.size w W))
    (fun _ _ _ => False)
    (OwnFrom.and (Own.from (holdsRow_own (w.heap.size + 3) w.heap.size 36 9 1 (fun (pre : List It) => pre.length) (fun (pre : List It) => Se (pre.map (·.1))) (fun _ _ => True)) _) (OwnFrom.and (Own.from (boxed_own _ _ _) _) (OwnFrom.and (Own.from (boxed_own _ _ _) _) (ownFrom_below (Nat.le_refl _) (by omega)))))
    (fun _ _ _ _ _ hs _ _ => hs)
    ⟨⟨_, bO, World.ownsRow_nil _ _ _ _, trivial⟩, bE, bH, hB0⟩
    (fun x => { tmps := #[.string (ofL s), undef, .pointer (some ⟨w.heap.size, 0, none⟩), .pointer (some ⟨w.heap.size + 1, 0, none⟩), .string (ofL x.1), .int .i64 x.2, .string (ofL s), .func (.func 91) #[] #[.pointer (some ⟨w.heap.size + 1 + 1, 0, none⟩)], .string (ofL x.1), .int .i64 x.2, undef, undef, undef, undef, undef, undef, undef], defers := [] }) ?assign ?body ?done ?stop
  case assign =>
    intro l x W K hK
    gi_wp2
    exact hK
  case body =>
    rintro l pre x W ⟨⟨v, hv, hrow, _⟩, hE, hH, hB⟩ hlt
    have hc := hv.cell
    have hsB := hB.size
    gi_wp2_with (gi_at_builtin; (refine wpListIn_append_own _ rfl _ _ 36 rfl (w.heap.size + 3) 9 i0 (.string (ofL [])) 1 16 Tryz.underlying36 hi hz0 hz1 hz2 rfl (by decide) _ _ _ rfl (hrow.alloc _) ⟨W.heap.size, 0, none⟩ 1 1 [.string (ofL x.1)] rfl rfl (cell_one_new _ _ _) (by simp [Value.oneCell']) (by omega) (by omega) (by have := Boxed.lt hH; simp; omega) ?_); intro v' w1 hown' hgrow _; obtain ⟨g', cap', rfl⟩ := ownsRow_succ hown'; obtain ⟨⟨hv1, hE1⟩, hO2, hE2, hH2, hr2, hk2, hb2⟩ := collect (n₀ := w.heap.size) (u' := .int .i64 x.2) hv hE hH hrow (Nat.le_refl _) (by omega) (by omega) (by omega) (by omega) (by omega) (by omega) (by omega) (by omega) hsB hown' hgrow; have hc1 := hv1.cell; have hf1 := hv1.frozen; have hc2 := hE1.cell; have hf2 := hE1.frozen)
    exact ⟨hk2.from _, hb2, ⟨_, hO2, by rw [List.map_append]; simpa [Se] using hr2, trivial⟩, by rw [endOf_snoc]; exact hE2, hH2, hB.trans hb2.1⟩
  case done =>
    rintro D ys W hD rfl ⟨⟨v, hv, hrow, _⟩, hE, hH, hB⟩ hK
    obtain ⟨ao, nn, cp, rfl⟩ : ∃ ao nn cp, v = .slice ao nn cp := by
      rcases hrow.2 with ⟨rfl, _⟩ | ⟨g, cap, cur, rfl, _⟩
      · exact ⟨_, _, _, rfl⟩
      · exact ⟨_, _, _, rfl⟩
    have hc := hv.cell
    have hf := hv.frozen
    have hcE := hE.cell
    have hfE := hE.frozen
    gi_wp2
    gi_region
    all_goals
      gi_wp2
      obtain ⟨W2, hW2⟩ : ∃ W2, ((W.setCell ⟨w.heap.size, 0, none⟩ (.slice ao nn cp)).setCell ⟨w.heap.size + 1, 0, none⟩ (.int .i64 (endOf (itsAt s 0)))).drew = W2 := ⟨_, rfl⟩
      have hne : ∀ g, (Value.slice ao nn cp).ownBlock = some g → w.heap.size + 3 ≤ g := fun g e => (hrow.lt g e).1
      have g0 := grownBy_setCell' W w.heap.size (.slice ao nn cp)
      have g1 := grownBy_setCell' (W.setCell ⟨w.heap.size, 0, none⟩ (.slice ao nn cp)) (w.heap.size + 1) (.int .i64 (endOf (itsAt s 0)))
      have r0 := (hrow.kept g0 (.inr (fun e => by have := hne w.heap.size e; omega))).kept g1 (.inr (fun e => by have := hne (w.heap.size + 1) e; omega))
      have o0 := (hv.set (.slice ao nn cp)).kept g1 (by simp)
      have e0 := (hE.kept g0 (by simp)).set (.int .i64 (endOf (itsAt s 0)))
      have hrow2 : W2.ownsRow (w.heap.size + 3) 9 1 (.slice ao nn cp) (itsAt s 0).length (Se ((itsAt s 0).map (·.1))) := by rw [← hW2]; exact r0
      have hO2 : Boxed W2 w.heap.size 36 (.slice ao nn cp) := by rw [← hW2]; exact o0
      have hE2 : Boxed W2 (w.heap.size + 1) 3 (.int .i64 (endOf (itsAt s 0))) := by rw [← hW2]; exact e0
      have hK2 : W2.heap[D]? = some (.deferred (some [])) := by
        rw [← hW2]; exact (((KeepsOthers.setCell W ⟨w.heap.size, 0, none⟩ _).trans (KeepsOthers.setCell _ ⟨w.heap.size + 1, 0, none⟩ _))).same D _ hK rfl
      have hB2 : Below w.heap.size w W2 := by
        rw [← hW2]; exact ((hB.setCell (p := ⟨w.heap.size, 0, none⟩) (Nat.le_refl _) _).setCell (p := ⟨w.heap.size + 1, 0, none⟩) (by show w.heap.size ≤ w.heap.size + 1; omega) _).drew
      rw [hW2]
      have x0 : (W2.putObj D (.deferred none)).cell? ⟨w.heap.size, 0, none⟩ = some (.slice ao nn cp) := (World.cell?_of_block (a := ⟨w.heap.size, 0, none⟩) (World.putObj_heap_other (by show w.heap.size ≠ D; omega))).trans hO2.cell
      have x1 : (W2.putObj D (.deferred none)).cell? ⟨w.heap.size + 1, 0, none⟩ = some (.int .i64 (endOf (itsAt s 0))) := (World.cell?_of_block (a := ⟨w.heap.size + 1, 0, none⟩) (World.putObj_heap_other (by show w.heap.size + 1 ≠ D; omega))).trans hE2.cell
      refine ⟨by simp, .inl ⟨_, _, rfl, run_takeDeferred hK2, ?_⟩⟩
      refine ⟨_, by simp only [results, Tryz.results65]; simp [go_sem, x0, x1] <;> rfl, _, rfl, ownsRow_putObj hrow2 _ hK2 rfl, hB2.trans (belowK_b (w := w) (Nat.le_refl _) W2 D _ _ (by omega) hK2 rfl rfl)⟩
  case stop =>
    rintro D c pre W _ _ h _
    exact h.elim
/-- Whole: the payloads in a row, and where the last one ends. -/
theorem whole_any (s : List UInt8) (hs : s.length ≤ 16770000) (w : World) :
    Calls Tryz.prog 65 #[.string (ofL s)] w fun e W' => ∃ ao cap, e = .returned (.tuple #[.slice ao (itsAt s 0).length cap, .int .i64 (endOf (itsAt s 0))]) ∧
      Rw W' 1 ao (itsAt s 0).length cap (Se ((itsAt s 0).map (·.1))) ∧ Ext w W' := by
  refine (callsIn_wide (n := 3)).1 ((whole_in 3 (Nat.le_refl _) s hs w).mono ?_)
  rintro e W' ⟨v, rfl, hr, hb⟩
  have h0 := hr
  rcases hr.2 with ⟨rfl, hn⟩ | ⟨g, cap, cur, rfl, _⟩
  · have hl := hr.1
    rw [hn] at hl ⊢
    have hnil : Se ((itsAt s 0).map (·.1)) = [] := List.length_eq_zero_iff.1 (by simpa using hl)
    exact ⟨none, 0, rfl, by rw [hnil]; exact Rw.nil W' 1, hb⟩
  · exact ⟨_, cap, rfl, Rw.owns hr, hb⟩
end Go.Proofs.YtajclcbclbppiaaGreat
end
section
namespace Go.Rc
theorem Se_length (L : List (List UInt8)) : (Se L).length = L.length := by simp [Se]
theorem Se_one (L : List (List UInt8)) : ∀ u ∈ Se L, u.oneCell' = true := by
  intro u hu
  simp only [Se, List.mem_map] at hu
  obtain ⟨x, _, rfl⟩ := hu
  rfl
theorem Se_get (L : List (List UInt8)) (k : Nat) (hk : k < L.length) : (Se L)[k]? = some (.string (ofL (L[k]))) := by simp [Se, List.getElem?_eq_getElem hk]
end Go.Rc
namespace Go.Proofs.YtajclcbclbppiaaGreat
open Go.RowKit Go.Rc
theorem append_txt {w : World} {ao : Option Addr} {n cap : Nat} {L : List (List UInt8)} (h : Rw w 1 ao n cap (Se L)) {x : Value} (y : List UInt8) (hs : Src Tryz.prog 1 36 x 1 [.string (ofL y)] w) (hl : n + 1 ≤ 16777216) (ty : TypeId) :
    ∃ ao' cap' w', (Builtin.append_ #[36, 36] ty #[.slice ao n cap, x]).run Tryz.prog w = .ok (.slice ao' (n + 1) cap') w' ∧
      (Rw w' 1 ao' (n + 1) cap' (Se (L ++ [y])) ∧ Fr (fun k => ob ao = some k) w w' ∧ (ao' = ao ∨ ∃ g, ao' = some ⟨g, 0, none⟩ ∧ w.heap.size ≤ g)) := by
  obtain ⟨ti, hti, hz, hsz, hby⟩ := info_parts infoStr
  obtain ⟨ao', cap', w', h1, h2, h3⟩ := h.append 36 36 ty 9 ti _ 16 Tryz.underlying36 hti hz hsz hby rfl x 1 _ hs (by unfold maxLen; omega) (by omega)
  refine ⟨ao', cap', w', h1, ?_, h3⟩
  rw [Se_snoc]
  exact h2
theorem new_str (W : World) (y : List UInt8) (g : Nat) (hg : g = W.heap.size) : Src Tryz.prog 1 36 (.slice (some ⟨g, 0, none⟩) 1 1) 1 [.string (ofL y)] (W.alloc (.cells #[.string (ofL y)] 9)) := by
  subst hg
  have hb := heap_alloc_new W (.cells #[.string (ofL y)] 9)
  refine Src.ofSlice _ (e' := 9) Tryz.underlying36 _ 1 1 _ (by simp) (fun j u hj => ?_) (fun u hu => by simp at hu; subst hu; rfl)
  have : (⟨W.heap.size, 0, none⟩ : Addr).add j = ⟨W.heap.size, j, none⟩ := by unfold Addr.add; split <;> simp_all
  rw [this]
  simp only [World.cell?, hb]
  simpa using hj
set_option maxHeartbeats 1000000 in
set_option maxRecDepth 100000 in
theorem refWhole_any (s : List UInt8) (hs : s.length ≤ 16770000) (w : World) :
    Calls Tryz.prog 39 #[.string (ofL s)] w fun e W' => ∃ ao cap, e = .returned (.tuple #[.slice ao (itsAt s 0).length cap, .int .i64 (endOf (itsAt s 0))]) ∧
      Rw W' 1 ao (itsAt s 0).length cap (Se ((itsAt s 0).map (·.1))) ∧ Ext w W' := by
  have hN := itsAt_length s 0
  go_enter Tryz.func39, Tryz.ntmps39
  go_wp2
  go_loopw [4, 5] (fun l a wr => ∃ (pre : List It) (aN : Nat) (ao : Option Addr) (cap : Nat), l = .slice ao pre.length cap ∧ a = .int .i64 aN ∧ aN ≤ s.length ∧ itsAt s 0 = pre ++ itsAt s aN ∧ aN = endOf pre ∧
      Rw wr 1 ao pre.length cap (Se (pre.map (·.1))) ∧ (∀ g, ob ao = some g → w.heap.size ≤ g) ∧ Ext w wr) (fun _ a _ => s.length - (intOf a).toNat)
  case atStart => exact ⟨[], 0, none, 0, rfl, rfl, by omega, rfl, rfl, Rw.nil w 1, (fun g hg => by cases hg), Ext.refl w⟩
  case round =>
    obtain ⟨pre, aN, ao, cap, rfl, rfl, ha, hx, hend, hr, hf, hE⟩ := hrel
    have Hr := Lib.hid hr
    have Hf := Lib.hid hf
    have Hend := Lib.hid hend
    clear hr hf hend
    cases hg : getR s aN with
    | none =>
      have hgi : getI s (aN : Int) = none := by rw [getI_nat]; exact hg
      rw [itsAt_none hg, List.append_nil] at hx
      have G := Lib.hid (fun w' => refRget_none s aN hgi w' hs (by omega))
      unfold NoneV at G
      clear hg hgi
      go_wp2_with (go_at_call 70; with_reducible refine (G.out _).mono ?_; rintro e w1 ⟨rfl, hx1⟩; have Hx1 := Lib.hid hx1; clear hx1)
      go_ret2
      rw [hx, ← Hend.out]
      exact ⟨ao, cap, rfl, Hr.out.ext Hx1.out, hE.trans Hx1.out⟩
    | some y =>
      obtain ⟨p, b⟩ := y
      have Hnx := Lib.hid (getR_next hg)
      rw [itsAt_some hg] at hx
      have hpl : pre.length + 1 ≤ 16777216 := by rw [hx] at hN; simp at hN; omega
      have G := Lib.hid (fun w' => refRget_some s aN p b hg w' hs)
      unfold SomeV at G
      clear hg
      go_wp2_with (first | (go_at_call 70; with_reducible refine (G.out _).mono ?_; rintro e w1 ⟨rfl, hx1⟩; have Hx1 := Lib.hid hx1; clear hx1) | (at_builtin; refine wpList_append_rw rfl (.tmp 20) (.tmp 22) _ _ rfl rfl rfl (append_txt ((Hr.out.ext Hx1.out).ext ((Ext.refl _).alloc _)) p (new_str _ p _ rfl) hpl _) (fun ao' cap' w4 hR => ?_); have HR := Lib.hid hR; clear hR))
      obtain ⟨hr1, hr2, hr3⟩ := HR.out
      have hE1 := hE.trans Hx1.out
      have hnx := Hnx.out
      refine ⟨⟨pre ++ [(p, b)], b, ao', cap', by simp, by first | rfl | go_num, hnx.2.1, by rw [hx]; simp, by rw [endOf_snoc], by simpa using hr1, fun g hg => ?_, Fr.grownFrom hr2 (hE1.alloc _) (fun k hk => Hf.out k hk)⟩, by simp [intOf]; omega⟩
      rcases hr3 with rfl | ⟨k, rfl, hk⟩
      · exact Hf.out g hg
      · obtain rfl : k = g := by simpa [ob] using hg
        have := hE1.size; simp at hk; omega
set_option maxHeartbeats 1000000 in
set_option maxRecDepth 100000 in
theorem texts_yes {w : World} {ao bo : Option Addr} {n ca cb : Nat} {L : List (List UInt8)} (ha : Rw w 1 ao n ca (Se L)) (hb : Rw w 1 bo n cb (Se L)) (hn : n ≤ 16777216) :
    Calls Tryz.prog 13 #[.slice ao n ca, .slice bo n cb] w fun e w' => e = .returned (.bool true) ∧ Ext w w' := by
  have hl := ha.len
  rw [Se_length, Nat.mul_one] at hl
  have Ha := Lib.hid ha
  have Hb := Lib.hid hb
  clear ha hb
  go_enter Tryz.func13, Tryz.ntmps13
  go_wp2
  go_loopw [5] (fun i wr => (∃ k : Nat, k ≤ n ∧ i = .int .i64 k) ∧ Ext w wr) (fun i _ => n - (intOf i).toNat)
  case atStart => exact ⟨⟨0, by omega, rfl⟩, Ext.refl _⟩
  case round =>
    obtain ⟨⟨k, hk, rfl⟩, hE⟩ := hrel
    by_cases hlt : k < n
    · obtain ⟨g, rfl, hg, hx1, hx2⟩ := (Ha.out.ext hE).row (by omega)
      obtain ⟨f, rfl, hf, hx3, hx4⟩ := (Hb.out.ext hE).row (by omega)
      have c0 := hx1 k (by omega)
      have d0 := hx3 k (by omega)
      rw [Se_get L k (by omega)] at c0 d0
      clear hx1 hx2 hx3 hx4
      go_wp2
      go_quiet (fail)
      all_goals
        go_wp2
        exact ⟨⟨⟨k + 1, by omega, by go_num⟩, hE.drewN _⟩, by simp [intOf]; omega⟩
    · have : k = n := by omega
      subst this
      go_wp2
      go_ret
      exact ⟨rfl, hE⟩
/-- The two that stand there are alike. -/
theorem rget_any (s : List UInt8) (i : Int) (w : World) (hs : s.length ≤ 16770000) :
    Calls Tryz.prog 92 #[.string (ofL s), .int .i64 i] w fun e w' => e = .returned (match getI s i with | none => NoneV | some (p, b) => SomeV p b) ∧ Ext w w' := by
  cases h : getI s i with
  | none => exact rget_none s i h w hs
  | some x =>
    obtain ⟨p, b⟩ := x
    unfold getI at h
    split at h
    · rename_i h0
      obtain ⟨a, rfl⟩ := Int.eq_ofNat_of_zero_le h0
      exact rget_some s a p b h w hs
    · cases h
theorem refRget_any (s : List UInt8) (i : Int) (w : World) (hs : s.length ≤ 16770000) (hi9 : -9223372036854775808 ≤ i ∧ i ≤ 9223372036854775807) :
    Calls Tryz.prog 70 #[.string (ofL s), .int .i64 i] w fun e w' => e = .returned (match getI s i with | none => NoneV | some (p, b) => SomeV p b) ∧ Ext w w' := by
  cases h : getI s i with
  | none => exact refRget_none s i h w hs hi9
  | some x =>
    obtain ⟨p, b⟩ := x
    unfold getI at h
    split at h
    · rename_i h0
      obtain ⟨a, rfl⟩ := Int.eq_ofNat_of_zero_le h0
      exact refRget_some s a p b h w hs
    · cases h
end Go.Proofs.YtajclcbclbppiaaGreat
end
section
namespace Go.Rc
open Go.Bt Go.Sm
theorem recL_eq (p : List UInt8) : recL p = put p.length 4 ++ (p ++ le4 (sum (put p.length 4 ++ p))) := by unfold recL seal4; rw [List.append_assoc]
/-- A record that stands at a place, whatever stands around it. -/
theorem getR_at (pre p r : List UInt8) (hp : p.length ≤ 65536) : getR (pre ++ recL p ++ r) pre.length = some (p, pre.length + p.length + 8) := by
  have hd : (pre ++ recL p ++ r).drop pre.length = recL p ++ r := by rw [List.append_assoc, List.drop_left]
  have ha : askN (pre ++ recL p ++ r) pre.length = p.length := by
    unfold askN
    rw [hd, recL_eq, List.append_assoc]
    exact get_put4 p.length (by omega) _
  have hpl : payL (pre ++ recL p ++ r) pre.length = p := by
    unfold payL
    rw [ha, hd, recL_eq, List.append_assoc, List.drop_append_of_le_length (by rw [put4_length]; omega), List.drop_of_length_le (by rw [put4_length]; omega), List.nil_append, List.append_assoc, List.take_left]
  have hl : (pre ++ recL p ++ r).length = pre.length + (p.length + 8) + r.length := by simp only [List.length_append, recL_length]
  unfold getR
  have ht : recL p = (recL p ++ r).take (p.length + 8) := by rw [List.take_append_of_le_length (by rw [recL_length]; omega), List.take_of_length_le (by rw [recL_length]; omega)]
  rw [ha, hpl, hd, if_pos ⟨⟨by omega, hp, by omega⟩, ht⟩]
/-- A record that is cut off stands there no more. -/
theorem getR_cut (pre p : List UInt8) (m : Nat) (hp : p.length ≤ 65536) (hm : m < p.length + 8) : getR (pre ++ (recL p).take m) pre.length = none := by
  have hd : (pre ++ (recL p).take m).drop pre.length = (recL p).take m := by rw [List.drop_left]
  have hl : (pre ++ (recL p).take m).length = pre.length + m := by simp [recL_length]; omega
  unfold getR
  rw [if_neg]
  rintro ⟨⟨h1, h2, h3⟩, _⟩
  have ha : askN (pre ++ (recL p).take m) pre.length = p.length := by
    unfold askN
    rw [hd, List.take_take, Nat.min_eq_left (by omega), recL_eq]
    exact get_put4 p.length (by omega) _
  omega
theorem getR_short (s : List UInt8) (a : Nat) (h : s.length < a + 8) : getR s a = none := by
  unfold getR; rw [if_neg]; rintro ⟨⟨h1, _, _⟩, _⟩; omega
def rowL (ps : List (List UInt8)) : List UInt8 := ps.flatMap recL
/-- The payloads, and where each one's record ends, from a place on. -/
def itsOf : Nat → List (List UInt8) → List It
  | _, [] => []
  | a, p :: ps => (p, a + p.length + 8) :: itsOf (a + p.length + 8) ps
theorem itsOf_fst : ∀ (a : Nat) (ps : List (List UInt8)), (itsOf a ps).map (·.1) = ps
  | _, [] => rfl
  | a, p :: ps => by simp [itsOf, itsOf_fst (a + p.length + 8) ps]
theorem rowL_cons (p : List UInt8) (ps : List (List UInt8)) : rowL (p :: ps) = recL p ++ rowL ps := rfl
theorem itsAt_row : ∀ (ps : List (List UInt8)) (pre r : List UInt8), (∀ p ∈ ps, p.length ≤ 65536) →
    itsAt (pre ++ rowL ps ++ r) pre.length = itsOf pre.length ps ++ itsAt (pre ++ rowL ps ++ r) (pre.length + (rowL ps).length)
  | [], pre, r, _ => by simp [itsOf, rowL]
  | p :: ps, pre, r, h => by
    have h1 := getR_at pre p (rowL ps ++ r) (h p (by simp))
    have e : pre ++ rowL (p :: ps) ++ r = pre ++ recL p ++ (rowL ps ++ r) := by rw [rowL_cons]; simp
    have e2 : pre ++ rowL (p :: ps) ++ r = (pre ++ recL p) ++ rowL ps ++ r := by rw [rowL_cons]; simp
    have ih := itsAt_row ps (pre ++ recL p) r (fun x hx => h x (by simp [hx]))
    rw [← e2] at ih
    rw [← e] at h1
    rw [itsAt_some h1]
    have hl : (pre ++ recL p).length = pre.length + p.length + 8 := by simp [recL_length]; omega
    rw [hl] at ih
    rw [ih]
    have hl2 : pre.length + (rowL (p :: ps)).length = pre.length + p.length + 8 + (rowL ps).length := by rw [rowL_cons, List.length_append, recL_length]; omega
    rw [hl2]
    rfl
def ab : List UInt8 := [97, 98]
theorem ab_rec : recL ab = [0, 0, 0, 2, 97, 98] ++ le4 (sum (put 2 4 ++ ab)) := recL_eq ab
theorem ab_one : getR (recL ab) 1 = none := by
  unfold getR
  rw [if_neg]
  rintro ⟨⟨h1, h2, h3⟩, _⟩
  have ha : askN (recL ab) 1 = 609 := by
    unfold askN
    rw [ab_rec]
    rfl
  have hl : (recL ab).length = 10 := recL_length ab
  omega
theorem ab_its : itsAt (recL ab ++ recL ab) 0 = [(ab, 10), (ab, 20)] := by
  have h := itsAt_row [ab, ab] [] [] (by intro p hp; simp at hp; subst hp; decide)
  have e : ([] : List UInt8) ++ rowL [ab, ab] ++ [] = recL ab ++ recL ab := by simp [rowL]
  rw [e] at h
  have hl : (recL ab ++ recL ab).length = 20 := by rw [List.length_append, recL_length]; rfl
  have hn : itsAt (recL ab ++ recL ab) (([] : List UInt8).length + (rowL [ab, ab]).length) = [] := itsAt_none (getR_short _ _ (by rw [hl]; simp [rowL, recL_length, ab]))
  rw [hn] at h
  exact h
theorem ab_cut : itsAt ((recL ab ++ recL ab).take 19) 0 = [(ab, 10)] := by
  have e : (recL ab ++ recL ab).take 19 = [] ++ rowL [ab] ++ (recL ab).take 9 := by
    rw [List.take_append, List.take_of_length_le (by rw [recL_length]; decide), recL_length]; simp [rowL, ab]
  have h := itsAt_row [ab] [] ((recL ab).take 9) (by intro p hp; simp at hp; subst hp; decide)
  have hn : itsAt ([] ++ rowL [ab] ++ (recL ab).take 9) (([] : List UInt8).length + (rowL [ab]).length) = [] := by
    have := getR_cut (rowL [ab]) ab 9 (by decide) (by decide)
    exact itsAt_none (by simpa using this)
  rw [hn] at h
  rw [e]
  exact h
end Go.Rc
namespace Go.Proofs.YtajclcbclbppiaaGreat
open Go.RowKit Go.Rc
theorem whole_is {s : List UInt8} {l : List It} (h : itsAt s 0 = l) (hs : s.length ≤ 16770000) (w : World) {n : Nat} {e : Int} (hn : l.length = n) (he : (endOf l : Int) = e) {P : List (List UInt8)} (hP : l.map (·.1) = P) :
    Calls Tryz.prog 65 #[.string (ofL s)] w fun e' W' => ∃ ao cap, e' = .returned (.tuple #[.slice ao n cap, .int .i64 e]) ∧ Rw W' 1 ao n cap (Se P) ∧ Ext w W' := by
  subst hn; subst he; subst hP; subst h
  exact whole_any s hs w
theorem rget_is {s : List UInt8} {a : Nat} {p : List UInt8} {b : Nat} (h : getR s a = some (p, b)) {i bi : Int} (hi : i = a) (hb : (b : Int) = bi) (w : World) (hs : s.length ≤ 16770000) :
    Calls Tryz.prog 92 #[.string (ofL s), .int .i64 i] w fun e w' => e = .returned (.tuple #[.string (ofL p), .int .i64 bi, .bool true]) ∧ Ext w w' := by
  subst hi; subst hb; exact rget_some s a p b h w hs
theorem lit_strs {w : World} {g : Nat} (L : List (List UInt8)) (n : Nat) (hn : L.length = n) (hm : n ≤ 16777216) {t : TypeId} (hb : w.heap[g]? = some (.cells (Se L).toArray t)) : Rw w 1 (some ⟨g, 0, none⟩) n n (Se L) := by
  subst hn
  have hg : g < w.heap.size := by
    rcases Nat.lt_or_ge g w.heap.size with h | h
    · exact h
    · rw [Array.getElem?_eq_none h] at hb; cases hb
  refine ⟨by rw [Se_length, Nat.mul_one], Nat.le_refl _, by unfold maxLen; omega, .inr ⟨g, rfl, hg, fun j hj => ⟨?_, ?_⟩, fun j hj => ?_⟩⟩
  · rw [Nat.mul_one, ← Se_length] at hj
    simp only [World.cell?, hb]; simp [List.getElem?_eq_getElem hj]
  · simp only [World.frozen?, hb]; simp
  · simp only [World.cell?, hb]; simp
theorem str1 {w : World} {g : Nat} {t : TypeId} {a : List UInt8} (hb : w.heap[g]? = some (.cells #[.string (ofL a)] t)) : Rw w 1 (some ⟨g, 0, none⟩) 1 1 (Se [a]) := lit_strs [a] 1 rfl (by decide) (t := t) hb
theorem str2 {w : World} {g : Nat} {t : TypeId} {a b : List UInt8} (hb : w.heap[g]? = some (.cells #[.string (ofL a), .string (ofL b)] t)) : Rw w 1 (some ⟨g, 0, none⟩) 2 2 (Se [a, b]) := lit_strs [a, b] 2 rfl (by decide) (t := t) hb
end Go.Proofs.YtajclcbclbppiaaGreat
end
