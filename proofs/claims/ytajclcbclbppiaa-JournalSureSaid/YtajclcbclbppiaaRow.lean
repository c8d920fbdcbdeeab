/-
  Rows of bytes that a call owns: append, string(b), make, []byte(s), a store.
-/
import Derived.Test.YtajclcbclbppiaaBase
import Derived.Test.YtajclcbclbppiaaRows
import Derived.Laws.CopyRow
import Derived.Deep.DeepMust
namespace Go.Proofs.Ytajclcbclbppiaa
open Go.RowKit

theorem infoU8 : (Try.prog.info? 5).map (fun i => (i.zero, i.size, i.bytes)) = some (some (.int .u8 0), 1, 1) := by kernel_rfl
/-- Bytes as cells. -/
def U8 (l : List UInt8) : List Value := l.map fun c => .int .u8 c.toNat
theorem U8_length (l : List UInt8) : (U8 l).length = l.length := by simp [U8]
theorem U8_append (a b : List UInt8) : U8 (a ++ b) = U8 a ++ U8 b := by simp [U8]
theorem U8_one (l : List UInt8) : ∀ u ∈ U8 l, u.oneCell' = true := by
  intro u hu
  simp only [U8, List.mem_map] at hu
  obtain ⟨c, _, rfl⟩ := hu
  rfl
theorem U8_get (l : List UInt8) (j : Nat) (h : j < l.length) : (U8 l)[j]? = some (.int .u8 (l.getD j 0).toNat) := by
  simp [U8, h]
/-- v is a slice of its own with the bytes l, in a block from B on. -/
def Bs (w : World) (B : Nat) (v : Value) (l : List UInt8) : Prop := w.ownsRow B 5 1 v l.length (U8 l)
theorem Bs.nil (w : World) (B : Nat) : Bs w B (.slice none 0 0) [] := World.ownsRow_nil w B _ _

theorem Bs.alloc {w : World} {B : Nat} {v : Value} {l : List UInt8} (h : Bs w B v l) (o : Obj) : Bs (w.alloc o) B v l := World.ownsRow.alloc h o
theorem Bs.drew {w : World} {B : Nat} {v : Value} {l : List UInt8} (h : Bs w B v l) : Bs w.drew B v l := h
theorem Bs.lt {w : World} {B : Nat} {v : Value} {l : List UInt8} (h : Bs w B v l) : ∀ k, v.ownBlock = some k → B ≤ k ∧ k < w.heap.size := World.ownsRow.lt h
theorem Bs.kept {w w' : World} {B : Nat} {v : Value} {l : List UInt8} (h : Bs w B v l) (hb : Ext w w') : Bs w' B v l := by
  obtain ⟨h1, h⟩ := h
  refine ⟨h1, ?_⟩
  rcases h with h | ⟨g, cap, cur, h2, h3, h4, h5⟩
  · exact .inl h
  · refine .inr ⟨g, cap, cur, h2, h3, ?_, h5⟩
    rw [hb.block g (by
      rcases Nat.lt_or_ge g w.heap.size with h | h
      · exact h
      · simp [Array.getElem?_eq_none h] at h4)]
    exact h4
/-- append(b, bytes...) onto a slice of its own. -/
theorem append_bytes {w : World} {ops : Array Oper} {rest : List Oper} {o : Oper} {a : Act} {Q : Exit → Act → World → Prop} (hgd : o.guard = none) (s x : Nat)
    (ho : o.op = .call { callee := .builtin .append, args := #[.tmp s, .tmp x], argTypes := #[56, 56] })
    {B : Nat} {v : Value} {l : List UInt8} (hs : a.eval (.tmp s) = v) (hown : Bs w B v l)
    (ad : Addr) (m c : Nat) (news : List UInt8) (hx : a.eval (.tmp x) = .slice (some ad) m c) (hl : news.length = m)
    (hnews : ∀ j u, (U8 news)[j]? = some u → w.cell? (ad.add j) = some u) (hlen : l.length + m ≤ 16777216) (hbase : B ≤ w.heap.size)
    (h : ∀ v' w', Bs w' B v' (l ++ news) → w.grownBy w' v.ownBlock → wpList Try.prog ops Q rest (a.put o.dst v') w') : wpList Try.prog ops Q (o :: rest) a w := by
  obtain ⟨i, hi, hz, hsz, hby⟩ := info_parts infoU8
  refine wpList_append_own w hgd (.tmp s) (.tmp x) 56 ho B 5 i (.int .u8 0) 1 1 Try.underlying56 hi hz hsz hby rfl (by decide) v l.length (U8 l) hs hown ad m c (U8 news) hx (by rw [U8_length, hl, Nat.mul_one]) hnews (U8_one _) ?_ ?_ hbase ?_
  · unfold maxLen; omega
  · omega
  · intro v' w' hown' hg _
    refine h v' w' ?_ hg
    unfold Bs
    rw [U8_append, List.length_append, hl]
    exact hown'

/-- The one new cell of 'append(b, c)'. -/
theorem new_u8 (w : World) (c : UInt8) (n : Int) (hn : n = c.toNat) : ∀ j u, (U8 [c])[j]? = some u →
    (w.alloc (.cells #[.int .u8 n] 5)).cell? ((⟨w.heap.size, 0, none⟩ : Addr).add j) = some u := by
  intro j u h
  subst hn
  cases j with
  | zero =>
    simp [U8] at h
    subst h
    exact (World.cell?_alloc_at _ _ _ _ rfl).trans rfl
  | succ j => simp [U8] at h
/-- string(b) of a slice of its own. -/
theorem bytes_string {w : World} {B : Nat} {v : Value} {l : List UInt8} (h : Bs w B v l) : (convert 56 9 v).run Try.prog w = .ok (.string (ofL l)) w := by
  obtain ⟨hlen, h⟩ := h
  rcases h with ⟨rfl, hn⟩ | ⟨g, cap, cur, rfl, hb, hblk, hn, hm, hsz, htake⟩
  · have : l = [] := by cases l <;> simp_all
    subst this
    rw [run_convert_bytes_string w _ _ 5 _ _ _ Try.underlying56 Try.underlying5 Try.underlying9]
    rfl
  · have hc : ∀ i, i < l.length → w.cell? ⟨g, 0 + i, none⟩ = some (.int .u8 ((l.map fun c => (c.toNat : Int)).getD i 0)) := by
      intro i hi
      have h1 : (cur.toList.take (l.length * 1))[i]? = some (.int .u8 (l.getD i 0).toNat) := by rw [htake, U8_get l i hi]
      rw [List.getElem?_take_of_lt (by omega)] at h1
      simp only [World.cell?, hblk, Nat.zero_add]
      simp at h1 ⊢
      rw [h1]
      simp [hi]
    rw [run_convert_bytes_arg w 56 5 Try.underlying56 Try.underlying5 g 0 l.length cap (l.map fun c => (c.toNat : Int)) (by simp) hc 9 Try.underlying9]
    congr 2
    refine ofL_ext ?_
    simp [strOfNums_data, Function.comp_def]

/-! ### A row of bytes in a block of its own, whatever mark stands behind its cells -/
/-- Block g is a row of cap bytes, none of them frozen, the first of them l. -/
def Bz (w : World) (g cap : Nat) (l : List UInt8) : Prop :=
  ∃ cur lo hi, w.heap[g]? = some (.cells cur 5 (lo, hi)) ∧ cur.size = cap ∧ l.length ≤ cap ∧ (∀ j, j < cap → ¬ (lo ≤ j ∧ j < hi)) ∧ cur.toList.take l.length = U8 l
theorem Bz.lt {w : World} {g cap : Nat} {l : List UInt8} (h : Bz w g cap l) : g < w.heap.size := by
  obtain ⟨cur, lo, hi, hb, _⟩ := h
  rcases Nat.lt_or_ge g w.heap.size with h | h
  · exact h
  · simp [Array.getElem?_eq_none h] at hb
theorem Bz.le {w : World} {g cap : Nat} {l : List UInt8} (h : Bz w g cap l) : l.length ≤ cap := by obtain ⟨_, _, _, _, _, h, _⟩ := h; exact h
theorem Bz.of_block {w w' : World} {g cap : Nat} {l : List UInt8} (h : Bz w g cap l) (he : w'.heap[g]? = w.heap[g]?) : Bz w' g cap l := by
  obtain ⟨cur, lo, hi, hb, h⟩ := h
  exact ⟨cur, lo, hi, he.trans hb, h⟩
theorem Bz.kept {w w' : World} {g cap : Nat} {l : List UInt8} (h : Bz w g cap l) (hb : Ext w w') : Bz w' g cap l := h.of_block (Below.block hb g h.lt)
theorem Bz.cell {w : World} {g cap : Nat} {l : List UInt8} (h : Bz w g cap l) (j : Nat) (hj : j < l.length) : w.cell? ⟨g, j, none⟩ = some (.int .u8 (l.getD j 0).toNat) := by
  obtain ⟨cur, lo, hi, hb, hs, hl, hf, ht⟩ := h
  have h1 : (cur.toList.take l.length)[j]? = some (.int .u8 (l.getD j 0).toNat) := by rw [ht, U8_get l j hj]
  rw [List.getElem?_take_of_lt hj] at h1
  simp only [World.cell?, hb]
  simpa using h1
theorem Bz.frozen {w : World} {g cap : Nat} {l : List UInt8} (h : Bz w g cap l) (j : Nat) (hj : j < l.length) : w.frozen? ⟨g, j, none⟩ = false := by
  obtain ⟨cur, lo, hi, hb, hs, hl, hf, ht⟩ := h
  have := hf j (by omega)
  simp only [World.frozen?, hb]
  simpa [Nat.not_le, Nat.not_lt] using this
theorem Bz.set {w : World} {g cap : Nat} {l : List UInt8} (h : Bz w g cap l) (j : Nat) (c : UInt8) : Bz (w.setCell ⟨g, j, none⟩ (.int .u8 c.toNat)) g cap (l.set j c) := by
  obtain ⟨cur, lo, hi, hb, hs, hl, hf, ht⟩ := h
  refine ⟨cur.setIfInBounds j (.int .u8 c.toNat), lo, hi, ?_, by simpa using hs, by simpa using hl, hf, ?_⟩
  · have hg : g < w.heap.size := by
      rcases Nat.lt_or_ge g w.heap.size with h | h
      · exact h
      · simp [Array.getElem?_eq_none h] at hb
    have hb' : w.heap[g] = .cells cur 5 (lo, hi) := by
      rw [Array.getElem?_eq_getElem hg] at hb
      exact Option.some.inj hb
    show (w.heap.modify g _)[g]? = _
    rw [Array.getElem?_modify, if_pos rfl, hb]
    rfl
  · rw [Array.toList_setIfInBounds, List.length_set, List.take_set, ht]
    simp [U8, List.map_set]
theorem Bz.string {w : World} {g cap : Nat} {l : List UInt8} (h : Bz w g cap l) : (convert 56 9 (.slice (some ⟨g, 0, none⟩) l.length cap)).run Try.prog w = .ok (.string (ofL l)) w := by
  have := run_convert_bytes_back (P := Try.prog) w 56 9 5 ⟨g, 0, none⟩ cap l Try.underlying56 Try.underlying5 Try.underlying9 (fun j hj => by
    have h1 := h.cell j hj
    have h2 : (⟨g, 0, none⟩ : Addr).add j = ⟨g, j, none⟩ := by unfold Addr.add; split <;> simp_all
    rw [h2, h1]
    simp [hj])
  exact this
theorem Bz.owns {w : World} {g cap B : Nat} {l : List UInt8} (h : Bs w B (.slice (some ⟨g, 0, none⟩) l.length cap) l) : Bz w g cap l := by
  obtain ⟨h1, h⟩ := h
  rcases h with ⟨h, _⟩ | ⟨g', cap', cur, hv, _, hb, hn, hm, hs, ht⟩
  · simp at h
  · simp only [Value.slice.injEq, Option.some.injEq, Addr.mk.injEq, and_true, true_and] at hv
    obtain ⟨rfl, rfl⟩ := hv
    exact ⟨cur, 0, 0, hb, by simpa using hs, hn, by simp, by simpa using ht⟩
theorem Ext.setByte {a w : World} {g : Nat} (h : Ext a w) (hg : a.heap.size ≤ g) (j : Nat) (u : Value) : Ext a (w.setCell ⟨g, j, none⟩ u) := h.setCell hg u

/-- []byte(s). -/
theorem conv_bytes {w : World} {ops : Array Oper} {rest : List Oper} {o : Oper} {a : Act} {Q : Exit → Act → World → Prop} (hgd : o.guard = none) (x : Nat)
    (ho : o.op = .convert 9 56 (.tmp x)) {l : List UInt8} (hx : a.eval (.tmp x) = .string (ofL l))
    (h : ∀ cap w', Bz w' w.heap.size cap l → Ext w w' → w.heap.size < w'.heap.size → wpList Try.prog ops Q rest (a.put o.dst (.slice (some ⟨w.heap.size, 0, none⟩) l.length cap)) w') : wpList Try.prog ops Q (o :: rest) a w := by
  refine wpList_plain hgd fun K hK => ?_
  have hrun := run_bytes_of_string (P := Try.prog) w 9 56 5 (ofL l) Try.underlying9 Try.underlying56 Try.underlying5
  unfold Oper.wp
  simp [execOp, ho, hx, hrun, Result.andThen]
  have hsize : (bytesRow (ofL l) (grownCap w (ofL l).size 0 5)).size = grownCap w (ofL l).size 0 5 := by
    simp [bytesRow, grownCap, Question.cut]
  rw [ofL_size] at hsize
  rw [Oper.upon_value]
  refine hK _ _ (h _ _ ⟨_, _, _, heap_alloc_new w.drew _, hsize, ?_, ?_, ?_⟩ ((Ext.refl w).drew.alloc _) (by simp))
  · simp [grownCap, Question.cut]
  · intro j hj; rw [hsize]; omega
  · simp [bytesRow, U8]

/-- make([]byte, n). -/
theorem make_bytes {w : World} {ops : Array Oper} {rest : List Oper} {o : Oper} {a : Act} {Q : Exit → Act → World → Prop} (hgd : o.guard = none) (x y : Nat)
    (ho : o.op = .makeSlice 56 (.tmp x) (.tmp y)) {n : Nat} {i j : Int} (hx : a.eval (.tmp x) = .int .i64 i) (hy : a.eval (.tmp y) = .int .i64 j) (hi : i = n) (hj : j = n) (hn : n ≤ 16777216)
    (h : ∀ w', Bz w' w.heap.size n (List.replicate n 0) → Ext w w' → w.heap.size < w'.heap.size → wpList Try.prog ops Q rest (a.put o.dst (.slice (some ⟨w.heap.size, 0, none⟩) n n)) w') : wpList Try.prog ops Q (o :: rest) a w := by
  obtain ⟨ti, hti, hz, hsz, hby⟩ := info_parts infoU8
  refine wpList_make_full w hgd (.tmp x) (.tmp y) 56 ho w.heap.size 5 ti (.int .u8 0) 1 Try.underlying56 hti hz hsz .i64 .i64 i j n hx hy hi hj (by rw [hby]; omega) (by unfold maxLen; omega) (Nat.le_refl _) (fun w' hown hg => ?_)
  have hm : (madeCells (Value.int .u8 0).cells (n * 1)).toList = U8 (List.replicate n 0) := by
    refine List.ext_getElem (by simp [madeCells, U8]) fun i h1 h2 => ?_
    simp [madeCells, U8, Value.cells, Nat.mod_one]
  rw [hm] at hown
  have hown' : Bs w' w.heap.size (.slice (some ⟨w.heap.size, 0, none⟩) (List.replicate n (0 : UInt8)).length n) (List.replicate n 0) := by
    unfold Bs; simpa using hown
  refine h w' (Bz.owns hown') ((Ext.refl w).grown hg (by simp)) (hown'.lt _ rfl).2

/-! ### string([]byte{..}) -/
/-- The byte of a number. -/
def byt (x : Int) : UInt8 := UInt8.ofNat x.toNat
theorem byt_wf (x : Int) (h : 0 ≤ x ∧ x < 256) : ((byt x).toNat : Int) = x := by
  unfold byt; rw [UInt8.toNat_ofNat']; omega
theorem byt256 (n : Nat) : UInt8.ofNat n = byt ((n : Int) % 256) := by
  apply UInt8.toNat_inj.1
  unfold byt
  rw [UInt8.toNat_ofNat', UInt8.toNat_ofNat']
  omega
theorem conv_cells (w : World) (g : Nat) (xs : List Int) (h : ∀ i, i < xs.length → w.cell? ⟨g, i, none⟩ = some (.int .u8 (xs.getD i 0))) :
    (convert 56 9 (.slice (some ⟨g, 0, none⟩) xs.length xs.length)).run Try.prog w = .ok (.string (ofL (xs.map byt))) w := by
  rw [run_convert_bytes_arg w 56 5 Try.underlying56 Try.underlying5 g 0 xs.length xs.length xs rfl (fun i hi => by rw [Nat.zero_add]; exact h i hi) 9 Try.underlying9]
  rfl
@[go_sem] theorem conv_lit1 (w : World) (x : Int) : (convert 56 9 (.slice (some ⟨w.heap.size, 0, none⟩) 1 1)).run Try.prog (w.alloc (.cells #[.int .u8 x] 5)) =
    .ok (.string (ofL [byt x])) (w.alloc (.cells #[.int .u8 x] 5)) :=
  conv_cells _ _ [x] (fun i hi => by
    obtain rfl : i = 0 := by simpa using hi
    exact (World.cell?_alloc_at _ _ _ _ rfl).trans rfl)
@[go_sem] theorem conv_lit1_drew (w : World) (x : Int) : (convert 56 9 (.slice (some ⟨w.heap.size, 0, none⟩) 1 1)).run Try.prog (w.alloc (.cells #[.int .u8 x] 5)).drew =
    .ok (.string (ofL [byt x])) (w.alloc (.cells #[.int .u8 x] 5)).drew :=
  conv_cells _ _ [x] (fun i hi => by
    obtain rfl : i = 0 := by simpa using hi
    exact (World.cell?_alloc_at (w := w) _ _ _ _ rfl).trans rfl)
theorem conv_later1 {w w' : World} {x : Int} (h : Ext (w.alloc (.cells #[.int .u8 x] 5)) w') : (convert 56 9 (.slice (some ⟨w.heap.size, 0, none⟩) 1 1)).run Try.prog w' =
    .ok (.string (ofL [byt x])) w' :=
  conv_cells _ _ [x] (fun i hi => by
    obtain rfl : i = 0 := by simpa using hi
    rw [h.cell (by simp)]
    exact (World.cell?_alloc_at (w := w) _ _ _ _ rfl).trans rfl)
theorem conv_later1_drew {w w' : World} {x : Int} (h : Ext (w.alloc (.cells #[.int .u8 x] 5)).drew w') : (convert 56 9 (.slice (some ⟨w.heap.size, 0, none⟩) 1 1)).run Try.prog w' =
    .ok (.string (ofL [byt x])) w' := conv_later1 h.of_drew
theorem four_cells (w : World) (x0 x1 x2 x3 : Int) (i : Nat) (hi : i < [x0, x1, x2, x3].length) :
    (w.alloc (.cells #[.int .u8 x0, .int .u8 x1, .int .u8 x2, .int .u8 x3] 5)).cell? ⟨w.heap.size, i, none⟩ = some (.int .u8 ([x0, x1, x2, x3].getD i 0)) := by
  refine (World.cell?_alloc_at (w := w) _ _ _ _ rfl).trans ?_
  simp only [List.length_cons, List.length_nil] at hi
  match i, hi with
  | 0, _ => rfl
  | 1, _ => rfl
  | 2, _ => rfl
  | 3, _ => rfl
@[go_sem] theorem conv_lit4 (w : World) (x0 x1 x2 x3 : Int) : (convert 56 9 (.slice (some ⟨w.heap.size, 0, none⟩) 4 4)).run Try.prog (w.alloc (.cells #[.int .u8 x0, .int .u8 x1, .int .u8 x2, .int .u8 x3] 5)) =
    .ok (.string (ofL [byt x0, byt x1, byt x2, byt x3])) (w.alloc (.cells #[.int .u8 x0, .int .u8 x1, .int .u8 x2, .int .u8 x3] 5)) :=
  conv_cells _ _ [x0, x1, x2, x3] (fun i hi => four_cells w x0 x1 x2 x3 i hi)
@[go_sem] theorem conv_lit4_drew (w : World) (x0 x1 x2 x3 : Int) : (convert 56 9 (.slice (some ⟨w.heap.size, 0, none⟩) 4 4)).run Try.prog (w.alloc (.cells #[.int .u8 x0, .int .u8 x1, .int .u8 x2, .int .u8 x3] 5)).drew =
    .ok (.string (ofL [byt x0, byt x1, byt x2, byt x3])) (w.alloc (.cells #[.int .u8 x0, .int .u8 x1, .int .u8 x2, .int .u8 x3] 5)).drew :=
  conv_cells _ _ [x0, x1, x2, x3] (fun i hi => four_cells w x0 x1 x2 x3 i hi)
theorem byt_byte (c : UInt8) : byt (c.toNat : Int) = c := by unfold byt; simp
end Go.Proofs.Ytajclcbclbppiaa
