/-
  Objects of the call's own: which blocks a step may have turned ('Fr'); rows of elements, told by their cells ('Rw'); append onto them.
-/
import Derived.Test.YtajclcbclbppiaaBase
import Derived.Deep.Upon
namespace Go
open Go.RowKit
/-- Of all blocks that there were only those of F may have turned. -/
structure Fr (F : Nat → Prop) (w w' : World) : Prop where
  os : w'.os = w.os
  tape : w'.tape = w.tape
  output : w'.output = w.output
  size : w.heap.size ≤ w'.heap.size
  block : ∀ k, k < w.heap.size → ¬ F k → w'.heap[k]? = w.heap[k]?
theorem Fr.refl (F : Nat → Prop) (w : World) : Fr F w w := ⟨rfl, rfl, rfl, Nat.le_refl _, fun _ _ _ => rfl⟩
theorem Fr.mono {F G : Nat → Prop} {w w' : World} (h : Fr F w w') (hG : ∀ k, k < w.heap.size → F k → G k) : Fr G w w' := ⟨h.os, h.tape, h.output, h.size, fun k hk hn => h.block k hk (fun hf => hn (hG k hk hf))⟩
theorem Fr.trans {F G : Nat → Prop} {a b c : World} (h : Fr F a b) (k : Fr G b c) (hG : ∀ k, k < a.heap.size → G k → F k) : Fr F a c :=
  ⟨k.os.trans h.os, k.tape.trans h.tape, k.output.trans h.output, Nat.le_trans h.size k.size, fun i hi hn => (k.block i (Nat.lt_of_lt_of_le hi h.size) (fun hg => hn (hG i hi hg))).trans (h.block i hi hn)⟩
theorem Fr.ext {F : Nat → Prop} {a w w' : World} (h : Ext a w) (k : Fr F w w') (hF : ∀ k, F k → a.heap.size ≤ k) : Ext a w' :=
  ⟨k.os.trans (Below.os h), k.tape.trans (Below.tape h), k.output.trans (Below.output h), Nat.le_trans h.size k.size, fun i hi => (k.block i (Nat.lt_of_lt_of_le hi h.size) (fun hf => absurd (hF i hf) (by omega))).trans (Below.block h i hi)⟩
theorem Fr.of_ext {F : Nat → Prop} {w w' : World} (h : Ext w w') : Fr F w w' := ⟨Below.os h, Below.tape h, Below.output h, Below.size h, fun k hk _ => Below.block h k hk⟩
theorem Fr.drew {F : Nat → Prop} {a w : World} (h : Fr F a w) : Fr F a w.drew := ⟨h.os, h.tape, h.output, h.size, h.block⟩
theorem Fr.alloc {F : Nat → Prop} {a w : World} (h : Fr F a w) (o : Obj) : Fr F a (w.alloc o) := h.trans (Fr.of_ext (F := fun _ => False) ((Ext.refl w).alloc o)) (fun _ _ hf => hf.elim)
theorem Fr.setCell {F : Nat → Prop} {a w : World} (h : Fr F a w) {p : Addr} (hp : p.block < a.heap.size → F p.block) (u : Value) : Fr F a (w.setCell p u) :=
  ⟨h.os, h.tape, h.output, by show _ ≤ (w.heap.modify _ _).size; rw [Array.size_modify]; exact h.size, fun k hk hn => by
    have : k ≠ p.block := fun he => hn (he ▸ hp (he ▸ hk))
    show (w.heap.modify p.block _)[k]? = _
    rw [Array.getElem?_modify, if_neg (fun h => this h.symm)]
    exact h.block k hk hn⟩
theorem Fr.setCells {F : Nat → Prop} {a : World} {b : Nat} (hb : b < a.heap.size → F b) : ∀ (vs : List Value) (o : Nat) (w : World), Fr F a w → Fr F a (w.setCells b o vs)
  | [], _, _, h => h
  | v :: r, o, w, h => Fr.setCells hb r (o + 1) _ (h.setCell (by exact hb) v)

theorem Fr.cell {F : Nat → Prop} {w w' : World} (h : Fr F w w') {p : Addr} (hp : p.block < w.heap.size) (hn : ¬ F p.block) : w'.cell? p = w.cell? p := World.cell?_of_block (h.block _ hp hn)
theorem Fr.frozen {F : Nat → Prop} {w w' : World} (h : Fr F w w') {p : Addr} (hp : p.block < w.heap.size) (hn : ¬ F p.block) : w'.frozen? p = w.frozen? p := World.frozen?_of_block (h.block _ hp hn)

/-- The block of an address. -/
def ob (ao : Option Addr) : Option Nat := ao.map (·.block)
/-- A row of elements of so many cells each, at the head of a block, told by its cells. -/
structure Rw (w : World) (size : Nat) (ao : Option Addr) (n cap : Nat) (cs : List Value) : Prop where
  len : cs.length = n * size
  le : n ≤ cap
  max : cap ≤ maxLen
  at_ : (ao = none ∧ cap = 0) ∨ ∃ g, ao = some ⟨g, 0, none⟩ ∧ g < w.heap.size ∧ (∀ j, j < cap * size → (w.cell? ⟨g, j, none⟩).isSome = true ∧ w.frozen? ⟨g, j, none⟩ = false) ∧ ∀ j, j < n * size → w.cell? ⟨g, j, none⟩ = cs[j]?
theorem Rw.nil (w : World) (size : Nat) : Rw w size none 0 0 [] := ⟨by simp, Nat.le_refl _, by unfold maxLen; omega, .inl ⟨rfl, rfl⟩⟩
theorem Rw.kept {w w' : World} {size : Nat} {ao : Option Addr} {n cap : Nat} {cs : List Value} (h : Rw w size ao n cap cs) (hs : w.heap.size ≤ w'.heap.size) (hb : ∀ g, ob ao = some g → w'.heap[g]? = w.heap[g]?) : Rw w' size ao n cap cs := by
  refine ⟨h.len, h.le, h.max, ?_⟩
  rcases h.at_ with h | ⟨g, rfl, hg, h1, h2⟩
  · exact .inl h
  · have e := hb g rfl
    exact .inr ⟨g, rfl, Nat.lt_of_lt_of_le hg hs, fun j hj => ⟨by rw [World.cell?_of_block (a := ⟨g, j, none⟩) e]; exact (h1 j hj).1, (World.frozen?_of_block (a := ⟨g, j, none⟩) e).trans (h1 j hj).2⟩, fun j hj => (World.cell?_of_block (a := ⟨g, j, none⟩) e).trans (h2 j hj)⟩
theorem Rw.lt {w : World} {size : Nat} {ao : Option Addr} {n cap : Nat} {cs : List Value} (h : Rw w size ao n cap cs) : ∀ g, ob ao = some g → g < w.heap.size := by
  rcases h.at_ with ⟨rfl, _⟩ | ⟨g, rfl, hg, _⟩
  · intro g h; cases h
  · intro k hk; cases hk; exact hg
theorem Rw.ext {w w' : World} {size : Nat} {ao : Option Addr} {n cap : Nat} {cs : List Value} (h : Rw w size ao n cap cs) (hx : Ext w w') : Rw w' size ao n cap cs := h.kept hx.size (fun g hg => Below.block hx g (h.lt g hg))
theorem Rw.fr {F : Nat → Prop} {w w' : World} {size : Nat} {ao : Option Addr} {n cap : Nat} {cs : List Value} (h : Rw w size ao n cap cs) (hx : Fr F w w') (hF : ∀ g, ob ao = some g → ¬ F g) : Rw w' size ao n cap cs := h.kept hx.size (fun g hg => hx.block g (h.lt g hg) (hF g hg))
theorem Rw.row {w : World} {size : Nat} {ao : Option Addr} {n cap : Nat} {cs : List Value} (h : Rw w size ao n cap cs) (hn : 0 < n) : ∃ g, ao = some ⟨g, 0, none⟩ ∧ g < w.heap.size ∧ (∀ j, j < n * size → w.cell? ⟨g, j, none⟩ = cs[j]?) ∧ (∀ j, j < n * size → w.frozen? ⟨g, j, none⟩ = false) := by
  rcases h.at_ with ⟨_, h0⟩ | ⟨g, e, hg, h1, h2⟩
  · have := h.le; omega
  · exact ⟨g, e, hg, h2, fun j hj => (h1 j (Nat.lt_of_lt_of_le hj (Nat.mul_le_mul_right _ h.le))).2⟩
/-- The first k elements, as a row that has no room behind them. -/
theorem Rw.front {w : World} {size : Nat} {ao : Option Addr} {n cap : Nat} {cs : List Value} (h : Rw w size ao n cap cs) (k c : Nat) (hk : k ≤ c) (hc : c ≤ cap) (hkn : k ≤ n) (hn : 0 < n) : Rw w size ao k c (cs.take (k * size)) := by
  have hl := h.len
  have hkm : k * size ≤ n * size := Nat.mul_le_mul_right _ hkn
  refine ⟨by rw [List.length_take]; omega, hk, Nat.le_trans hc h.max, ?_⟩
  obtain ⟨g, rfl, hg, _, _⟩ := h.row hn
  rcases h.at_ with ⟨h0, _⟩ | ⟨g', e, _, h1, h2⟩
  · cases h0
  · cases e
    refine .inr ⟨g, rfl, hg, fun j hj => h1 j (Nat.lt_of_lt_of_le hj (Nat.mul_le_mul_right _ hc)), fun j hj => ?_⟩
    rw [h2 j (by omega), List.getElem?_take_of_lt hj]
/-- One cell of a row is set. -/
theorem Rw.set {w : World} {size : Nat} {g n cap : Nat} {cs : List Value} (h : Rw w size (some ⟨g, 0, none⟩) n cap cs) (j : Nat) (hj : j < n * size) (v : Value) : Rw (w.setCell ⟨g, j, none⟩ v) size (some ⟨g, 0, none⟩) n cap (cs.set j v) := by
  refine ⟨by rw [List.length_set]; exact h.len, h.le, h.max, ?_⟩
  rcases h.at_ with ⟨h0, _⟩ | ⟨g', e, hg, h1, h2⟩
  · cases h0
  · cases e
    refine .inr ⟨g, rfl, by show _ < (w.heap.modify _ _).size; rw [Array.size_modify]; exact hg, fun i hi => ⟨?_, by rw [World.frozen?_setCell]; exact (h1 i hi).2⟩, fun i hi => ?_⟩
    · by_cases he : i = j
      · subst he
        obtain ⟨u, hu⟩ := Option.isSome_iff_exists.1 (h1 i hi).1
        rw [World.cell?_setCell_same _ _ _ hu]; rfl
      · rw [World.cell?_setCell_other _ _ _ _ (by simp)]; exact (h1 i hi).1
    · have hl := h.len
      by_cases he : i = j
      · subst he
        obtain ⟨u, hu⟩ := Option.isSome_iff_exists.1 (h1 i (Nat.lt_of_lt_of_le hi (Nat.mul_le_mul_right _ h.le))).1
        rw [World.cell?_setCell_same _ _ _ hu, List.getElem?_set_self (by omega)]
      · rw [World.cell?_setCell_other _ _ _ _ (by simp), List.getElem?_set_ne (fun h => he h.symm)]
        exact h2 i hi

section
variable {P : Program}
/-- A row as what is appended or copied: from element k on. -/
theorem Rw.src {w : World} {size : Nat} {g n cap : Nat} {cs : List Value} (h : Rw w size (some ⟨g, 0, none⟩) n cap cs) {tx e' : TypeId} (hk : P.underlying tx = some (.slice e')) (h1 : ∀ u ∈ cs, u.oneCell' = true)
    (k m c : Nat) (hkm : k + m = n) {ad : Addr} (had : 0 < m → ad = ⟨g, k * size, none⟩) : Src P size tx (.slice (some ad) m c) m (cs.drop (k * size)) w := by
  have hl := h.len
  subst hkm
  refine Src.ofSlice w hk ad m c _ (by rw [List.length_drop, hl, Nat.add_mul]; omega) (fun j u hj => ?_) (fun u hu => h1 u (List.mem_of_mem_drop hu))
  have hjl : j < m * size := by
    have := (List.getElem?_eq_some_iff.1 hj).1
    rw [List.length_drop, hl, Nat.add_mul] at this; omega
  have hm : 0 < m := by
    rcases Nat.eq_zero_or_pos m with h | h
    · subst h; simp at hjl
    · exact h
  rw [had hm]
  obtain ⟨g', e, _, h2, _⟩ := h.row (by omega)
  cases e
  have : (⟨g, k * size, none⟩ : Addr).add j = ⟨g, k * size + j, none⟩ := by unfold Addr.add; split <;> simp_all
  rw [this, h2 _ (by rw [Nat.add_mul]; omega), ← hj, List.getElem?_drop]
/-- append onto a row. -/
theorem Rw.append {w : World} {size : Nat} {ao : Option Addr} {n cap : Nat} {cs : List Value} (h : Rw w size ao n cap cs) (t tx ty e : TypeId) (i : TypeInfo) (z : Value) (bytes : Nat) (ht : P.underlying t = some (.slice e)) (hi : P.info? e = some i) (hz : i.zero = some z)
    (hsize : i.size = size) (hby : i.bytes = bytes) (hzs : z.cells.size = size) (x : Value) (m : Nat) (news : List Value) (hs : Src P size tx x m news w) (h63 : n + m ≤ maxLen) (hbytes : (n + m) * bytes ≤ 140737488355328) :
    ∃ ao' cap' w', (Builtin.append_ #[t, tx] ty #[.slice ao n cap, x]).run P w = .ok (.slice ao' (n + m) cap') w' ∧ Rw w' size ao' (n + m) cap' (cs ++ news) ∧ Fr (fun k => ob ao = some k) w w' ∧ (ao' = ao ∨ ∃ g, ao' = some ⟨g, 0, none⟩ ∧ w.heap.size ≤ g) := by
  subst hsize
  subst hby
  have hl := h.len
  have hnl := hs.newsLen
  have hsmall : n + m ≤ 9223372036854775807 := by simp only [maxLen] at h63; omega
  have hlen : (cs ++ news).length = (n + m) * i.size := by rw [List.length_append, hl, hnl, Nat.add_mul]
  by_cases hroom : n + m ≤ cap
  · rcases h.at_ with ⟨rfl, h0⟩ | ⟨g, rfl, hg, h1, h2⟩
    · obtain rfl : m = 0 := by omega
      obtain rfl : n = 0 := by omega
      obtain rfl : news = [] := List.length_eq_zero_iff.1 (by rw [hnl, Nat.zero_mul])
      exact ⟨none, cap, w, run_append_nothing w t tx ty e i ht hi none 0 cap (Nat.zero_le _) x hs, by simpa using h, Fr.refl _ _, .inl rfl⟩
    · have hr := run_append_room_src (P := P) w t tx ty e i ht hi g 0 n cap x m news hs hroom
        (fun j hj => by rw [Nat.zero_add]; exact (h1 _ (by have := Nat.mul_le_mul_right i.size hroom; rw [Nat.add_mul] at this; omega)).1)
        (fun j hj => by rw [Nat.zero_add]; exact (h1 _ (by have := Nat.mul_le_mul_right i.size hroom; rw [Nat.add_mul] at this; omega)).2)
      have hcell : ∀ j, j < news.length → (w.cell? ⟨g, n * i.size + j, none⟩).isSome = true := fun j hj => (h1 _ (by have := Nat.mul_le_mul_right i.size hroom; rw [Nat.add_mul] at this; omega)).1
      rw [Nat.zero_add] at hr
      have hsz : (w.setCells g (n * i.size) news).heap.size = w.heap.size := (Nat.le_antisymm (by
        have : ∀ (vs : List Value) (o : Nat) (w : World), (w.setCells g o vs).heap.size ≤ w.heap.size := fun vs => by
          induction vs with
          | nil => intro o w; exact Nat.le_refl _
          | cons v r ih => intro o w; refine Nat.le_trans (ih _ _) ?_; show (w.heap.modify _ _).size ≤ _; rw [Array.size_modify]; exact Nat.le_refl _
        exact this _ _ _) (Fr.setCells (F := fun _ => True) (fun _ => trivial) news (n * i.size) w (Fr.refl _ w)).size)
      refine ⟨_, _, _, hr, ⟨hlen, hroom, h.max, .inr ⟨g, rfl, by rw [hsz]; exact hg, fun j hj => ⟨?_, by rw [World.frozen?_setCells]; exact (h1 j hj).2⟩, fun j hj => ?_⟩⟩, Fr.setCells (F := fun k => ob (some ⟨g, 0, none⟩) = some k) (fun _ => rfl) _ _ _ (Fr.refl _ _), .inl rfl⟩
      · by_cases hin : n * i.size ≤ j ∧ j < n * i.size + news.length
        · have := World.cell?_setCells_in g news (n * i.size) w hcell (j - n * i.size) (by omega)
          rw [show n * i.size + (j - n * i.size) = j by omega] at this
          rw [this]; rfl
        · rw [World.cell?_setCells_out g news (n * i.size) w ⟨g, j, none⟩ (fun _ _ => by show j < _ ∨ _ ≤ j; omega)]
          exact (h1 j hj).1
      · rw [Nat.add_mul] at hj
        by_cases hin : n * i.size ≤ j
        · have := World.cell?_setCells_in g news (n * i.size) w hcell (j - n * i.size) (by omega)
          rw [show n * i.size + (j - n * i.size) = j by omega] at this
          rw [this, List.getElem?_append_right (by omega), List.getElem?_eq_getElem (by omega)]
          simp only [hl]
        · rw [World.cell?_setCells_out g news (n * i.size) w ⟨g, j, none⟩ (fun _ _ => by show j < _ ∨ _ ≤ j; omega), List.getElem?_append_left (by omega)]
          exact h2 j (by omega)
  · have hold : (Builtin.firstCells i.size n (.slice ao n cap)).run P w.drew = .ok cs.toArray w.drew := by
      rcases h.at_ with ⟨rfl, h0⟩ | ⟨g, rfl, hg, h1, h2⟩
      · obtain rfl : n = 0 := by have := h.le; omega
        obtain rfl : cs = [] := List.length_eq_zero_iff.1 (by rw [hl, Nat.zero_mul])
        exact run_firstCells_none w.drew i.size 0 0 cap
      · refine run_firstCells_some w.drew i.size n ⟨g, 0, none⟩ n cap cs hl (fun j u hj => ?_)
        have hjl : j < n * i.size := by rw [← hl]; exact (List.getElem?_eq_some_iff.1 hj).1
        have : (⟨g, 0, none⟩ : Addr).add j = ⟨g, j, none⟩ := by unfold Addr.add; split <;> simp_all
        rw [this, ← hj]
        exact h2 j hjl
    have hg : cap < n + m := by omega
    have hr := run_append_grow_src (P := P) w t tx ty e i z ht hi hz ao n cap cs hold x m news hs hg (by omega) (growslice_fits hg hbytes)
    have hge := grownCap_ge w (n + m) cap e
    have hcm : grownCap w (n + m) cap e ≤ maxLen := grownCap_le_maxLen w (n + m) cap e h63
    have hnew : (w.drew.alloc (.cells ((cs ++ news).toArray ++ Builtin.zeroCells z.cells (grownCap w (n + m) cap e - (n + m))) e)).heap[w.heap.size]? = some (.cells ((cs ++ news).toArray ++ Builtin.zeroCells z.cells (grownCap w (n + m) cap e - (n + m))) e) := heap_alloc_new w.drew _
    have hasz : ((cs ++ news).toArray ++ Builtin.zeroCells z.cells (grownCap w (n + m) cap e - (n + m))).size = grownCap w (n + m) cap e * i.size := by
      simp only [Array.size_append, List.size_toArray, size_zeroCells, hzs, hlen, ← Nat.add_mul]
      congr 1
      omega
    refine ⟨_, _, _, hr, ⟨hlen, hge, hcm, .inr ⟨w.heap.size, rfl, by simp, fun j hj => ⟨?_, ?_⟩, fun j hj => ?_⟩⟩, Fr.of_ext (((Ext.refl w).drew).alloc _), .inr ⟨_, rfl, Nat.le_refl _⟩⟩
    · simp only [World.cell?, hnew]
      rw [← hasz] at hj
      rw [Array.getElem?_eq_getElem hj]; rfl
    · simp only [World.frozen?, hnew]; simp
    · simp only [World.cell?, hnew]
      rw [← hlen] at hj
      rw [Array.getElem?_append_left (by simpa using hj)]
      simp
/-- append as one step of a region that draws. -/
theorem step_append_rw {ops : Array Oper} {o : Oper} {a : Act} {w : World} {K : Act → World → Prop} {Q : Exit → Act → World → Prop} {E : Prop}
    (hg : o.guard = none) (s x : Operand) (t tx : TypeId) (hop : o.op = Op.call { callee := Callee.builtin Builtin.append, args := #[s, x], argTypes := #[t, tx] })
    {v u : Value} {n : Nat} (hv : a.eval s = v) (hu : a.eval x = u) {R : Option Addr → Nat → World → Prop}
    (H : ∃ ao' cap' w', (Builtin.append_ #[t, tx] o.type #[v, u]).run P w = .ok (.slice ao' n cap') w' ∧ R ao' cap' w')
    (hK : ∀ ao' cap' w', R ao' cap' w' → K (a.put o.dst (.slice ao' n cap')) w') :
    if Region.wanted o (yielded ops a.tmps) = true then Oper.wp P o a w K Q else E := by
  have hw : Region.wanted o (yielded ops a.tmps) = true := by simp [Region.wanted, hg]
  rw [if_pos hw]
  obtain ⟨ao', cap', w', hrun, hR⟩ := H
  unfold Oper.wp
  simp [execOp, hop, resolve, invoke, builtin, hv, hu, hrun, Result.andThen]
  exact hK _ _ _ hR
theorem wpList_append_rw {ops : Array Oper} {rest : List Oper} {o : Oper} {a : Act} {w : World} {Q : Exit → Act → World → Prop}
    (hg : o.guard = none) (s x : Operand) (t tx : TypeId) (hop : o.op = Op.call { callee := Callee.builtin Builtin.append, args := #[s, x], argTypes := #[t, tx] })
    {v u : Value} {n : Nat} (hv : a.eval s = v) (hu : a.eval x = u) {R : Option Addr → Nat → World → Prop}
    (H : ∃ ao' cap' w', (Builtin.append_ #[t, tx] o.type #[v, u]).run P w = .ok (.slice ao' n cap') w' ∧ R ao' cap' w')
    (hK : ∀ ao' cap' w', R ao' cap' w' → wpList P ops Q rest (a.put o.dst (.slice ao' n cap')) w') : wpList P ops Q (o :: rest) a w := by
  refine wpList_plain hg fun K hK' => ?_
  obtain ⟨ao', cap', w', hrun, hR⟩ := H
  unfold Oper.wp
  simp [execOp, hop, resolve, invoke, builtin, hv, hu, hrun, Result.andThen]
  exact hK' _ _ (hK _ _ _ hR)
end
end Go
