/-
  Strings as lists of bytes: 'ofL l' is the string with the bytes l. The walk's own forms of len, index, cut, join and test on such strings.
  Rows of bytes that a call owns: append, string(b), make, []byte(s), a store.
  The plain law of the layer bits: numbers in sevens and texts as lists of bytes. No program.
  The walk's integer forms of the layer bits, as numbers. No program.
  The walks of the layer bits: each function's contract.
  The document's answers of the layer bits: their walks.
-/
import Derived.WalkKit
import Derived.WalkLawsBesides
import Derived.WalkSpells
import Derived.Lib.Hide
import Derived.Test.YtajclcbclbppiaaGreatRows
import Derived.Laws.CopyRow
import Derived.Deep.DeepMust
import Derived.BigQuiet
import Derived.Deep.QuietTactic
import Derived.Deep.RegionWith
section
namespace Go
open Go.RowKit
/-- The string with these bytes. -/
def ofL (l : List UInt8) : ByteArray := ⟨l.toArray⟩
theorem ofL_data (s : ByteArray) : ofL s.data.toList = s := rfl
theorem ofL_ext {s t : ByteArray} (h : s.data.toList = t.data.toList) : s = t := by rw [← ofL_data s, ← ofL_data t, h]
@[simp] theorem ofL_dataL (l : List UInt8) : (ofL l).data.toList = l := rfl
@[simp] theorem ofL_dataA (l : List UInt8) : (ofL l).data = l.toArray := rfl
@[simp] theorem ofL_size (l : List UInt8) : (ofL l).size = l.length := rfl
@[simp] theorem ofL_toList (l : List UInt8) : (ofL l).toList = l := ByteArray.toList_mk l
@[simp] theorem ofL_inj (a b : List UInt8) : ofL a = ofL b ↔ a = b := ⟨fun h => congrArg (fun s => s.data.toList) h, fun h => by rw [h]⟩
@[simp] theorem ofL_empty : ByteArray.empty = ofL [] := rfl
theorem ofL_extract (l : List UInt8) (a b : Nat) : (ofL l).extract a b = ofL ((l.drop a).take (b - a)) :=
  ofL_ext (by simp [ByteArray.data_extract, List.extract_eq_take_drop])
@[simp] theorem ofL_extract_front (l : List UInt8) (b : Nat) : (ofL l).extract 0 b = ofL (l.take b) := by rw [ofL_extract]; simp
@[simp] theorem ofL_extract_back (l : List UInt8) (a : Nat) : (ofL l).extract a l.length = ofL (l.drop a) := by
  rw [ofL_extract, List.take_of_length_le (by simp)]
@[simp] theorem ofL_append (a b : List UInt8) : ofL a ++ ofL b = ofL (a ++ b) := ofL_ext (by simp [ByteArray.data_append])
@[simp] theorem ofL_getElem (l : List UInt8) (i : Nat) (h : i < (ofL l).size) : (ofL l)[i] = l.getD i 0 := by
  have h' : i < l.length := h
  rw [List.getD_eq_getElem?_getD, List.getElem?_eq_getElem h']
  rfl
section
variable {P : Program} (w : World)
@[go_sem] theorem run_index_ofL (t : TypeId) (l : List UInt8) (k : IntKind) (i : Int) (h : P.underlying t = some .string) :
    (Instr.index t (.string (ofL l)) (.int k i)).run P w =
      if 0 ≤ i ∧ i < l.length then .ok (.int .u8 (l.getD i.toNat 0).toNat) w
      else (boundsPanic k i l.length .index).run P w := by
  rw [run_index_string w t (ofL l) k i h]
  by_cases hi : 0 ≤ i ∧ i < l.length
  · rw [dif_pos (by simpa using hi), if_pos hi]; simp
  · rw [dif_neg (by simpa using hi), if_neg hi]; simp
end
theorem RowKit.Below.drewN {B : Nat} {a w : World} (h : Below B a w) (n : Nat) : Below B a (w.drewN n) := below_drewN h n
/-- The world has at most grown: all that there was is as it was. -/
def Ext (w w' : World) : Prop := Below w.heap.size w w'
theorem Ext.refl (w : World) : Ext w w := Below.refl _ _
theorem Ext.size {w w' : World} (h : Ext w w') : w.heap.size ≤ w'.heap.size := Below.size h
theorem Ext.trans {a b c : World} (h : Ext a b) (k : Ext b c) : Ext a c := Below.trans h (Below.mono k h.size)
theorem Ext.drew {a w : World} (h : Ext a w) : Ext a w.drew := Below.drew h
theorem Ext.drewN {a w : World} (h : Ext a w) (n : Nat) : Ext a (w.drewN n) := Below.drewN h n
theorem Ext.alloc {a w : World} (h : Ext a w) (o : Obj) : Ext a (w.alloc o) := Below.alloc h h.size o
theorem Ext.setCell {a w : World} (h : Ext a w) {p : Addr} (hp : a.heap.size ≤ p.block) (u : Value) : Ext a (w.setCell p u) := Below.setCell h hp u
theorem Ext.grown {a w w' : World} {row : Option Nat} (h : Ext a w) (hg : w.grownBy w' row) (hr : ∀ k, row = some k → a.heap.size ≤ k) : Ext a w' := Below.grown h hg h.size hr
theorem Ext.cell {w w' : World} (h : Ext w w') {p : Addr} (hp : p.block < w.heap.size) : w'.cell? p = w.cell? p := Below.cell h hp
theorem Ext.below {w w' : World} (h : Ext w w') : Below w.heap.size w w' := h
theorem Ext.of_drew {a w : World} (h : Ext a.drew w) : Ext a w := (Ext.refl a).drew.trans h
theorem ret_int {k : IntKind} {a b : Int} (h : a = b) : Ending.returned (.int k a) = .returned (.int k b) := by rw [h]
theorem ret_str {a b : ByteArray} (h : a = b) : Ending.returned (.string a) = .returned (.string b) := by rw [h]
/-- A contract used behind a world that has grown. -/
theorem Calls.ext {P : Program} {f : FuncId} {args : Array Value} {w w0 : World} {v : Value} {R : Ending → World → Prop}
    (h : Calls P f args w fun e w' => e = .returned v ∧ Ext w w') (h0 : Ext w0 w) (k : ∀ w', Ext w0 w' → R (.returned v) w') : Calls P f args w R :=
  h.mono fun e w' ⟨he, hx⟩ => by subst he; exact k w' (h0.trans hx)
attribute [simp] ofL_data
@[simp] theorem ofL_mk (a : Array UInt8) : ByteArray.mk a = ofL a.toList := rfl
end Go
end
section
namespace Go.Proofs.YtajclcbclbppiaaGreat
open Go.RowKit

theorem infoU8 : (Tryz.prog.info? 5).map (fun i => (i.zero, i.size, i.bytes)) = some (some (.int .u8 0), 1, 1) := by kernel_rfl
/-- Bytes as cells. -/
def U8 (l : List UInt8) : List Value := l.map fun c => .int .u8 c.toNat
theorem U8_length (l : List UInt8) : (U8 l).length = l.length := by simp [U8]
theorem U8_append (a b : List UInt8) : U8 (a ++ b) = U8 a ++ U8 b := by simp [U8]
theorem U8_one (l : List UInt8) : ∀ u ∈ U8 l, u.oneCell' = true := by
  intro u hu
  simp only [U8, List.mem_map] at hu
  obtain ⟨c, _, rfl⟩ := hu
  rfl
theorem U8_get (l : List UInt8) (j : Nat) (h : j < l.length) : (U8 l)[j]? = some (.int .u8 (l.getD j 0).toNat) := by
  simp [U8, h]
/-- v is a slice of its own with the bytes l, in a block from B on. -/
def Bs (w : World) (B : Nat) (v : Value) (l : List UInt8) : Prop := w.ownsRow B 5 1 v l.length (U8 l)
theorem Bs.nil (w : World) (B : Nat) : Bs w B (.slice none 0 0) [] := World.ownsRow_nil w B _ _

theorem Bs.alloc {w : World} {B : Nat} {v : Value} {l : List UInt8} (h : Bs w B v l) (o : Obj) : Bs (w.alloc o) B v l := World.ownsRow.alloc h o
theorem Bs.drew {w : World} {B : Nat} {v : Value} {l : List UInt8} (h : Bs w B v l) : Bs w.drew B v l := h
theorem Bs.lt {w : World} {B : Nat} {v : Value} {l : List UInt8} (h : Bs w B v l) : ∀ k, v.ownBlock = some k → B ≤ k ∧ k < w.heap.size := World.ownsRow.lt h
theorem Bs.kept {w w' : World} {B : Nat} {v : Value} {l : List UInt8} (h : Bs w B v l) (hb : Ext w w') : Bs w' B v l := by
  obtain ⟨h1, h⟩ := h
  refine ⟨h1, ?_⟩
  rcases h with h | ⟨g, cap, cur, h2, h3, h4, h5⟩
  · exact .inl h
  · refine .inr ⟨g, cap, cur, h2, h3, ?_, h5⟩
    rw [hb.block g (by
      rcases Nat.lt_or_ge g w.heap.size with h | h
      · exact h
      · simp [Array.getElem?_eq_none h] at h4)]
    exact h4
/-- append(b, bytes...) onto a slice of its own. -/
theorem append_bytes {w : World} {ops : Array Oper} {rest : List Oper} {o : Oper} {a : Act} {Q : Exit → Act → World → Prop} (hgd : o.guard = none) (s x : Nat)
    (ho : o.op = .call { callee := .builtin .append, args := #[.tmp s, .tmp x], argTypes := #[51, 51] })
    {B : Nat} {v : Value} {l : List UInt8} (hs : a.eval (.tmp s) = v) (hown : Bs w B v l)
    (ad : Addr) (m c : Nat) (news : List UInt8) (hx : a.eval (.tmp x) = .slice (some ad) m c) (hl : news.length = m)
    (hnews : ∀ j u, (U8 news)[j]? = some u → w.cell? (ad.add j) = some u) (hlen : l.length + m ≤ 16777216) (hbase : B ≤ w.heap.size)
    (h : ∀ v' w', Bs w' B v' (l ++ news) → w.grownBy w' v.ownBlock → wpList Tryz.prog ops Q rest (a.put o.dst v') w') : wpList Tryz.prog ops Q (o :: rest) a w := by
  obtain ⟨i, hi, hz, hsz, hby⟩ := info_parts infoU8
  refine wpList_append_own w hgd (.tmp s) (.tmp x) 51 ho B 5 i (.int .u8 0) 1 1 Tryz.underlying51 hi hz hsz hby rfl (by decide) v l.length (U8 l) hs hown ad m c (U8 news) hx (by rw [U8_length, hl, Nat.mul_one]) hnews (U8_one _) ?_ ?_ hbase ?_
  · unfold maxLen; omega
  · omega
  · intro v' w' hown' hg _
    refine h v' w' ?_ hg
    unfold Bs
    rw [U8_append, List.length_append, hl]
    exact hown'

/-- The one new cell of 'append(b, c)'. -/
theorem new_u8 (w : World) (c : UInt8) (n : Int) (hn : n = c.toNat) : ∀ j u, (U8 [c])[j]? = some u →
    (w.alloc (.cells #[.int .u8 n] 5)).cell? ((⟨w.heap.size, 0, none⟩ : Addr).add j) = some u := by
  intro j u h
  subst hn
  cases j with
  | zero =>
    simp [U8] at h
    subst h
    exact (World.cell?_alloc_at _ _ _ _ rfl).trans rfl
  | succ j => simp [U8] at h
/-- string(b) of a slice of its own. -/
theorem bytes_string {w : World} {B : Nat} {v : Value} {l : List UInt8} (h : Bs w B v l) : (convert 51 9 v).run Tryz.prog w = .ok (.string (ofL l)) w := by
  obtain ⟨hlen, h⟩ := h
  rcases h with ⟨rfl, hn⟩ | ⟨g, cap, cur, rfl, hb, hblk, hn, hm, hsz, htake⟩
  · have : l = [] := by cases l <;> simp_all
    subst this
    rw [run_convert_bytes_string w _ _ 5 _ _ _ Tryz.underlying51 Tryz.underlying5 Tryz.underlying9]
    rfl
  · have hc : ∀ i, i < l.length → w.cell? ⟨g, 0 + i, none⟩ = some (.int .u8 ((l.map fun c => (c.toNat : Int)).getD i 0)) := by
      intro i hi
      have h1 : (cur.toList.take (l.length * 1))[i]? = some (.int .u8 (l.getD i 0).toNat) := by rw [htake, U8_get l i hi]
      rw [List.getElem?_take_of_lt (by omega)] at h1
      simp only [World.cell?, hblk, Nat.zero_add]
      simp at h1 ⊢
      rw [h1]
      simp [hi]
    rw [run_convert_bytes_arg w 51 5 Tryz.underlying51 Tryz.underlying5 g 0 l.length cap (l.map fun c => (c.toNat : Int)) (by simp) hc 9 Tryz.underlying9]
    congr 2
    refine ofL_ext ?_
    simp [strOfNums_data, Function.comp_def]

/-! ### A row of bytes in a block of its own, whatever mark stands behind its cells -/
/-- Block g is a row of cap bytes, none of them frozen, the first of them l. -/
def Bz (w : World) (g cap : Nat) (l : List UInt8) : Prop :=
  ∃ cur lo hi, w.heap[g]? = some (.cells cur 5 (lo, hi)) ∧ cur.size = cap ∧ l.length ≤ cap ∧ (∀ j, j < cap → ¬ (lo ≤ j ∧ j < hi)) ∧ cur.toList.take l.length = U8 l
theorem Bz.lt {w : World} {g cap : Nat} {l : List UInt8} (h : Bz w g cap l) : g < w.heap.size := by
  obtain ⟨cur, lo, hi, hb, _⟩ := h
  rcases Nat.lt_or_ge g w.heap.size with h | h
  · exact h
  · simp [Array.getElem?_eq_none h] at hb
theorem Bz.le {w : World} {g cap : Nat} {l : List UInt8} (h : Bz w g cap l) : l.length ≤ cap := by obtain ⟨_, _, _, _, _, h, _⟩ := h; exact h
theorem Bz.of_block {w w' : World} {g cap : Nat} {l : List UInt8} (h : Bz w g cap l) (he : w'.heap[g]? = w.heap[g]?) : Bz w' g cap l := by
  obtain ⟨cur, lo, hi, hb, h⟩ := h
  exact ⟨cur, lo, hi, he.trans hb, h⟩
theorem Bz.kept {w w' : World} {g cap : Nat} {l : List UInt8} (h : Bz w g cap l) (hb : Ext w w') : Bz w' g cap l := h.of_block (Below.block hb g h.lt)
theorem Bz.cell {w : World} {g cap : Nat} {l : List UInt8} (h : Bz w g cap l) (j : Nat) (hj : j < l.length) : w.cell? ⟨g, j, none⟩ = some (.int .u8 (l.getD j 0).toNat) := by
  obtain ⟨cur, lo, hi, hb, hs, hl, hf, ht⟩ := h
  have h1 : (cur.toList.take l.length)[j]? = some (.int .u8 (l.getD j 0).toNat) := by rw [ht, U8_get l j hj]
  rw [List.getElem?_take_of_lt hj] at h1
  simp only [World.cell?, hb]
  simpa using h1
theorem Bz.frozen {w : World} {g cap : Nat} {l : List UInt8} (h : Bz w g cap l) (j : Nat) (hj : j < l.length) : w.frozen? ⟨g, j, none⟩ = false := by
  obtain ⟨cur, lo, hi, hb, hs, hl, hf, ht⟩ := h
  have := hf j (by omega)
  simp only [World.frozen?, hb]
  simpa [Nat.not_le, Nat.not_lt] using this
theorem Bz.set {w : World} {g cap : Nat} {l : List UInt8} (h : Bz w g cap l) (j : Nat) (c : UInt8) : Bz (w.setCell ⟨g, j, none⟩ (.int .u8 c.toNat)) g cap (l.set j c) := by
  obtain ⟨cur, lo, hi, hb, hs, hl, hf, ht⟩ := h
  refine ⟨cur.setIfInBounds j (.int .u8 c.toNat), lo, hi, ?_, by simpa using hs, by simpa using hl, hf, ?_⟩
  · have hg : g < w.heap.size := by
      rcases Nat.lt_or_ge g w.heap.size with h | h
      · exact h
      · simp [Array.getElem?_eq_none h] at hb
    have hb' : w.heap[g] = .cells cur 5 (lo, hi) := by
      rw [Array.getElem?_eq_getElem hg] at hb
      exact Option.some.inj hb
    show (w.heap.modify g _)[g]? = _
    rw [Array.getElem?_modify, if_pos rfl, hb]
    rfl
  · rw [Array.toList_setIfInBounds, List.length_set, List.take_set, ht]
    simp [U8, List.map_set]
theorem Bz.string {w : World} {g cap : Nat} {l : List UInt8} (h : Bz w g cap l) : (convert 51 9 (.slice (some ⟨g, 0, none⟩) l.length cap)).run Tryz.prog w = .ok (.string (ofL l)) w := by
  have := run_convert_bytes_back (P := Tryz.prog) w 51 9 5 ⟨g, 0, none⟩ cap l Tryz.underlying51 Tryz.underlying5 Tryz.underlying9 (fun j hj => by
    have h1 := h.cell j hj
    have h2 : (⟨g, 0, none⟩ : Addr).add j = ⟨g, j, none⟩ := by unfold Addr.add; split <;> simp_all
    rw [h2, h1]
    simp [hj])
  exact this
theorem Bz.owns {w : World} {g cap B : Nat} {l : List UInt8} (h : Bs w B (.slice (some ⟨g, 0, none⟩) l.length cap) l) : Bz w g cap l := by
  obtain ⟨h1, h⟩ := h
  rcases h with ⟨h, _⟩ | ⟨g', cap', cur, hv, _, hb, hn, hm, hs, ht⟩
  · simp at h
  · simp only [Value.slice.injEq, Option.some.injEq, Addr.mk.injEq, and_true, true_and] at hv
    obtain ⟨rfl, rfl⟩ := hv
    exact ⟨cur, 0, 0, hb, by simpa using hs, hn, by simp, by simpa using ht⟩
theorem Ext.setByte {a w : World} {g : Nat} (h : Ext a w) (hg : a.heap.size ≤ g) (j : Nat) (u : Value) : Ext a (w.setCell ⟨g, j, none⟩ u) := h.setCell hg u

/-- []byte(s). -/
theorem conv_bytes {w : World} {ops : Array Oper} {rest : List Oper} {o : Oper} {a : Act} {Q : Exit → Act → World → Prop} (hgd : o.guard = none) (x : Nat)
    (ho : o.op = .convert 9 51 (.tmp x)) {l : List UInt8} (hx : a.eval (.tmp x) = .string (ofL l))
    (h : ∀ cap w', Bz w' w.heap.size cap l → Ext w w' → w.heap.size < w'.heap.size → wpList Tryz.prog ops Q rest (a.put o.dst (.slice (some ⟨w.heap.size, 0, none⟩) l.length cap)) w') : wpList Tryz.prog ops Q (o :: rest) a w := by
  refine wpList_plain hgd fun K hK => ?_
  have hrun := run_bytes_of_string (P := Tryz.prog) w 9 51 5 (ofL l) Tryz.underlying9 Tryz.underlying51 Tryz.underlying5
  unfold Oper.wp
  simp [execOp, ho, hx, hrun, Result.andThen]
  have hsize : (bytesRow (ofL l) (grownCap w (ofL l).size 0 5)).size = grownCap w (ofL l).size 0 5 := by
    simp [bytesRow, grownCap, Question.cut]
  rw [ofL_size] at hsize
  rw [Oper.upon_value]
  refine hK _ _ (h _ _ ⟨_, _, _, heap_alloc_new w.drew _, hsize, ?_, ?_, ?_⟩ ((Ext.refl w).drew.alloc _) (by simp))
  · simp [grownCap, Question.cut]
  · intro j hj; rw [hsize]; omega
  · simp [bytesRow, U8]

/-- make([]byte, n). -/
theorem make_bytes {w : World} {ops : Array Oper} {rest : List Oper} {o : Oper} {a : Act} {Q : Exit → Act → World → Prop} (hgd : o.guard = none) (x y : Nat)
    (ho : o.op = .makeSlice 51 (.tmp x) (.tmp y)) {n : Nat} {i j : Int} (hx : a.eval (.tmp x) = .int .i64 i) (hy : a.eval (.tmp y) = .int .i64 j) (hi : i = n) (hj : j = n) (hn : n ≤ 16777216)
    (h : ∀ w', Bz w' w.heap.size n (List.replicate n 0) → Ext w w' → w.heap.size < w'.heap.size → wpList Tryz.prog ops Q rest (a.put o.dst (.slice (some ⟨w.heap.size, 0, none⟩) n n)) w') : wpList Tryz.prog ops Q (o :: rest) a w := by
  obtain ⟨ti, hti, hz, hsz, hby⟩ := info_parts infoU8
  refine wpList_make_full w hgd (.tmp x) (.tmp y) 51 ho w.heap.size 5 ti (.int .u8 0) 1 Tryz.underlying51 hti hz hsz .i64 .i64 i j n hx hy hi hj (by rw [hby]; omega) (by unfold maxLen; omega) (Nat.le_refl _) (fun w' hown hg => ?_)
  have hm : (madeCells (Value.int .u8 0).cells (n * 1)).toList = U8 (List.replicate n 0) := by
    refine List.ext_getElem (by simp [madeCells, U8]) fun i h1 h2 => ?_
    simp [madeCells, U8, Value.cells, Nat.mod_one]
  rw [hm] at hown
  have hown' : Bs w' w.heap.size (.slice (some ⟨w.heap.size, 0, none⟩) (List.replicate n (0 : UInt8)).length n) (List.replicate n 0) := by
    unfold Bs; simpa using hown
  refine h w' (Bz.owns hown') ((Ext.refl w).grown hg (by simp)) (hown'.lt _ rfl).2

/-! ### string([]byte{..}) -/
/-- The byte of a number. -/
def byt (x : Int) : UInt8 := UInt8.ofNat x.toNat
theorem byt_wf (x : Int) (h : 0 ≤ x ∧ x < 256) : ((byt x).toNat : Int) = x := by
  unfold byt; rw [UInt8.toNat_ofNat']; omega
theorem byt256 (n : Nat) : UInt8.ofNat n = byt ((n : Int) % 256) := by
  apply UInt8.toNat_inj.1
  unfold byt
  rw [UInt8.toNat_ofNat', UInt8.toNat_ofNat']
  omega
theorem conv_cells (w : World) (g : Nat) (xs : List Int) (h : ∀ i, i < xs.length → w.cell? ⟨g, i, none⟩ = some (.int .u8 (xs.getD i 0))) :
    (convert 51 9 (.slice (some ⟨g, 0, none⟩) xs.length xs.length)).run Tryz.prog w = .ok (.string (ofL (xs.map byt))) w := by
  rw [run_convert_bytes_arg w 51 5 Tryz.underlying51 Tryz.underlying5 g 0 xs.length xs.length xs rfl (fun i hi => by rw [Nat.zero_add]; exact h i hi) 9 Tryz.underlying9]
  rfl
@[go_sem] theorem conv_lit1 (w : World) (x : Int) : (convert 51 9 (.slice (some ⟨w.heap.size, 0, none⟩) 1 1)).run Tryz.prog (w.alloc (.cells #[.int .u8 x] 5)) =
    .ok (.string (ofL [byt x])) (w.alloc (.cells #[.int .u8 x] 5)) :=
  conv_cells _ _ [x] (fun i hi => by
    obtain rfl : i = 0 := by simpa using hi
    exact (World.cell?_alloc_at _ _ _ _ rfl).trans rfl)
@[go_sem] theorem conv_lit1_drew (w : World) (x : Int) : (convert 51 9 (.slice (some ⟨w.heap.size, 0, none⟩) 1 1)).run Tryz.prog (w.alloc (.cells #[.int .u8 x] 5)).drew =
    .ok (.string (ofL [byt x])) (w.alloc (.cells #[.int .u8 x] 5)).drew :=
  conv_cells _ _ [x] (fun i hi => by
    obtain rfl : i = 0 := by simpa using hi
    exact (World.cell?_alloc_at (w := w) _ _ _ _ rfl).trans rfl)
theorem conv_later1 {w w' : World} {x : Int} (h : Ext (w.alloc (.cells #[.int .u8 x] 5)) w') : (convert 51 9 (.slice (some ⟨w.heap.size, 0, none⟩) 1 1)).run Tryz.prog w' =
    .ok (.string (ofL [byt x])) w' :=
  conv_cells _ _ [x] (fun i hi => by
    obtain rfl : i = 0 := by simpa using hi
    rw [h.cell (by simp)]
    exact (World.cell?_alloc_at (w := w) _ _ _ _ rfl).trans rfl)
theorem conv_later1_drew {w w' : World} {x : Int} (h : Ext (w.alloc (.cells #[.int .u8 x] 5)).drew w') : (convert 51 9 (.slice (some ⟨w.heap.size, 0, none⟩) 1 1)).run Tryz.prog w' =
    .ok (.string (ofL [byt x])) w' := conv_later1 h.of_drew
theorem four_cells (w : World) (x0 x1 x2 x3 : Int) (i : Nat) (hi : i < [x0, x1, x2, x3].length) :
    (w.alloc (.cells #[.int .u8 x0, .int .u8 x1, .int .u8 x2, .int .u8 x3] 5)).cell? ⟨w.heap.size, i, none⟩ = some (.int .u8 ([x0, x1, x2, x3].getD i 0)) := by
  refine (World.cell?_alloc_at (w := w) _ _ _ _ rfl).trans ?_
  simp only [List.length_cons, List.length_nil] at hi
  match i, hi with
  | 0, _ => rfl
  | 1, _ => rfl
  | 2, _ => rfl
  | 3, _ => rfl
@[go_sem] theorem conv_lit4 (w : World) (x0 x1 x2 x3 : Int) : (convert 51 9 (.slice (some ⟨w.heap.size, 0, none⟩) 4 4)).run Tryz.prog (w.alloc (.cells #[.int .u8 x0, .int .u8 x1, .int .u8 x2, .int .u8 x3] 5)) =
    .ok (.string (ofL [byt x0, byt x1, byt x2, byt x3])) (w.alloc (.cells #[.int .u8 x0, .int .u8 x1, .int .u8 x2, .int .u8 x3] 5)) :=
  conv_cells _ _ [x0, x1, x2, x3] (fun i hi => four_cells w x0 x1 x2 x3 i hi)
@[go_sem] theorem conv_lit4_drew (w : World) (x0 x1 x2 x3 : Int) : (convert 51 9 (.slice (some ⟨w.heap.size, 0, none⟩) 4 4)).run Tryz.prog (w.alloc (.cells #[.int .u8 x0, .int .u8 x1, .int .u8 x2, .int .u8 x3] 5)).drew =
    .ok (.string (ofL [byt x0, byt x1, byt x2, byt x3])) (w.alloc (.cells #[.int .u8 x0, .int .u8 x1, .int .u8 x2, .int .u8 x3] 5)).drew :=
  conv_cells _ _ [x0, x1, x2, x3] (fun i hi => four_cells w x0 x1 x2 x3 i hi)
theorem byt_byte (c : UInt8) : byt (c.toNat : Int) = c := by unfold byt; simp
end Go.Proofs.YtajclcbclbppiaaGreat
end
section
namespace Go.Bt
/-- A number in sevens; f: how many bytes more there may be. -/
def varF : Nat → Nat → List UInt8
  | 0, n => [UInt8.ofNat n]
  | f + 1, n => if n < 128 then [UInt8.ofNat n] else UInt8.ofNat (n % 128 + 128) :: varF f (n / 128)
def var (n : Nat) : List UInt8 := varF 9 n
/-- What stands ahead, from the i-th byte on: the number of what is left, and what is behind it. -/
def readR : Nat → List UInt8 → Option (Nat × List UInt8)
  | _, [] => none
  | i, c :: cs =>
    if 10 ≤ i then none
    else if 128 ≤ c.toNat then (readR (i + 1) cs).map fun p => (c.toNat - 128 + 128 * p.1, p.2)
    else if (0 < i ∧ c.toNat = 0) ∨ (i = 9 ∧ 1 < c.toNat) then none
    else some (c.toNat, cs)
def read (l : List UInt8) : Option (Nat × List UInt8) := readR 0 l
def cut (l : List UInt8) : Option (List UInt8 × List UInt8) :=
  match read l with
  | some (n, r) => if n ≤ r.length then some (r.take n, r.drop n) else none
  | none => none
def text (l : List UInt8) : List UInt8 := var l.length ++ l
def put (n size : Nat) : List UInt8 := (List.range size).map fun i => UInt8.ofNat (n / 2 ^ (8 * (size - 1 - i)))
def getF : Nat → List UInt8 → Nat
  | n, [] => n
  | n, c :: cs => getF (n * 256 + c.toNat) cs
def get (l : List UInt8) : Nat := getF 0 (l.take 8)

theorem varF_length (f n : Nat) : 1 ≤ (varF f n).length ∧ (varF f n).length ≤ f + 1 := by
  induction f generalizing n with
  | zero => simp [varF]
  | succ f ih => unfold varF; split
                 · simp
                 · have := ih (n / 128); simp; omega
theorem var_length (n : Nat) : 1 ≤ (var n).length ∧ (var n).length ≤ 10 := varF_length 9 n

theorem u8_ofNat (n : Nat) (h : n < 256) : (UInt8.ofNat n).toNat = n := by simp [UInt8.toNat_ofNat']; omega
theorem u8_eta (c : UInt8) : UInt8.ofNat c.toNat = c := by simp

theorem pow_split (i : Nat) (h : i ≤ 9) : 2 ^ (64 - 7 * i) = 128 * 2 ^ (64 - 7 * (i + 1)) ∨ i = 9 := by
  rcases Nat.lt_or_ge i 9 with h' | h'
  · left; rw [show 64 - 7 * i = 7 + (64 - 7 * (i + 1)) by omega, Nat.pow_add]
  · right; omega

/-- What is put is read, whatever stands behind. -/
theorem readR_varF (f i n : Nat) (b : List UInt8) (hf : f + i = 9) (hn : n < 2 ^ (64 - 7 * i)) (hp : i = 0 ∨ 0 < n) :
    readR i (varF f n ++ b) = some (n, b) := by
  induction f generalizing i n with
  | zero =>
    obtain rfl : i = 9 := by omega
    have : n < 2 := by simpa using hn
    have h1 := u8_ofNat n (by omega)
    simp only [varF, List.cons_append, List.nil_append, readR, h1]
    rw [if_neg (by omega), if_neg (by omega), if_neg (by omega)]
  | succ f ih =>
    unfold varF
    split
    · rename_i h
      have h1 := u8_ofNat n (by omega)
      simp only [List.cons_append, List.nil_append, readR, h1]
      rw [if_neg (by omega), if_neg (by omega), if_neg (by omega)]
    · rename_i h
      have h1 := u8_ofNat (n % 128 + 128) (by omega)
      have hs := pow_split i (by omega)
      simp only [List.cons_append, readR, h1]
      rw [if_neg (by omega), if_pos (by omega), ih (i + 1) (n / 128) (by omega) (by omega) (by omega)]
      simp; omega
theorem read_var (n : Nat) (b : List UInt8) (hn : n < 2 ^ 64) : read (var n ++ b) = some (n, b) := readR_varF 9 0 n b rfl (by simpa using hn) (.inl rfl)

/-- What is read has the bytes that stood there. -/
theorem varF_readR (f i : Nat) (l : List UInt8) (n : Nat) (r : List UInt8) (hf : f + i = 9) (h : readR i l = some (n, r)) :
    l = varF f n ++ r ∧ n < 2 ^ (64 - 7 * i) ∧ (i = 0 ∨ 0 < n) := by
  induction f generalizing i l n with
  | zero =>
    obtain rfl : i = 9 := by omega
    match l with
    | [] => simp [readR] at h
    | c :: cs =>
      simp only [readR] at h
      rw [if_neg (by omega)] at h
      split at h
      · match cs with
        | [] => simp [readR] at h
        | d :: ds => simp [readR] at h
      · split at h
        · simp at h
        · rename_i h1 h2
          simp only [Option.some.injEq, Prod.mk.injEq] at h
          obtain ⟨rfl, rfl⟩ := h
          refine ⟨by simp [varF], ?_, ?_⟩
          · have : c.toNat < 2 := by
              rcases Nat.lt_or_ge 1 c.toNat with h' | h'
              · exact absurd (Or.inr ⟨trivial, h'⟩) h2
              · omega
            simpa using this
          · exact .inr (by
              rcases Nat.eq_zero_or_pos c.toNat with h' | h'
              · exact absurd (Or.inl ⟨by omega, h'⟩) h2
              · exact h')
  | succ f ih =>
    match l with
    | [] => simp [readR] at h
    | c :: cs =>
      have hc := c.toNat_lt
      have hs := pow_split i (by omega)
      simp only [readR] at h
      rw [if_neg (by omega)] at h
      split at h
      · rename_i h1
        cases hr : readR (i + 1) cs with
        | none => simp [hr] at h
        | some p =>
          obtain ⟨m, q⟩ := p
          simp only [hr, Option.map_some, Option.some.injEq, Prod.mk.injEq] at h
          obtain ⟨rfl, rfl⟩ := h
          obtain ⟨e, hm, hp⟩ := ih (i + 1) cs m (by omega) hr
          have h128 : 128 * 2 ^ (64 - 7 * (i + 1)) = 2 ^ (64 - 7 * i) := by omega
          refine ⟨?_, by omega, by omega⟩
          unfold varF
          rw [if_neg (by omega)]
          rw [show (c.toNat - 128 + 128 * m) / 128 = m by omega, show (c.toNat - 128 + 128 * m) % 128 + 128 = c.toNat by omega, List.cons_append, ← e]
          simp
      · split at h
        · simp at h
        · rename_i h1 h2
          simp only [Option.some.injEq, Prod.mk.injEq] at h
          obtain ⟨rfl, rfl⟩ := h
          refine ⟨?_, ?_, ?_⟩
          · unfold varF; rw [if_pos (by omega)]; simp
          · rcases hs with hs | hs
            · have : 0 < 2 ^ (64 - 7 * (i + 1)) := Nat.pow_pos (by omega)
              omega
            · omega
          · omega
theorem var_read (l : List UInt8) (n : Nat) (r : List UInt8) (h : read l = some (n, r)) : l = var n ++ r ∧ n < 2 ^ 64 := by
  obtain ⟨a, b, _⟩ := varF_readR 9 0 l n r rfl h
  exact ⟨a, by simpa using b⟩

theorem cut_text (s b : List UInt8) (hs : s.length < 2 ^ 64) : cut (text s ++ b) = some (s, b) := by
  unfold cut text
  rw [List.append_assoc, read_var _ _ hs]
  simp
theorem text_cut (l t b : List UInt8) (h : cut l = some (t, b)) : text t ++ b = l := by
  unfold cut at h
  split at h
  · rename_i n r hr
    obtain ⟨e, _⟩ := var_read l n r hr
    split at h
    · simp only [Option.some.injEq, Prod.mk.injEq] at h
      obtain ⟨rfl, rfl⟩ := h
      unfold text
      rw [e, List.length_take, Nat.min_eq_left ‹_›, List.append_assoc, List.take_append_drop]
    · simp at h
  · simp at h
end Go.Bt
namespace Go.Bt
/-- What holds ahead of the k-th byte: m is the number of the bytes that were. -/
def ReadRel (l : List UInt8) (k m : Nat) : Prop := (k ≤ 9 → m < 128 ^ k) ∧ m < 18446744073709551616 ∧ read l = (readR k (l.drop k)).map fun p => (m + 128 ^ k * p.1, p.2)
theorem ReadRel.start (l : List UInt8) : ReadRel l 0 0 := by
  refine ⟨by simp, by omega, ?_⟩
  simp [Bt.read]
theorem readR_ten (l : List UInt8) : readR 10 l = none := by cases l <;> simp [readR]
theorem ReadRel.step {l : List UInt8} {k m m' : Nat} (h : ReadRel l k m) (hk : k < l.length) (h10 : k ≤ 9) (hc : 128 ≤ (l[k]).toNat) (h64 : m' < 18446744073709551616)
    (hm : k ≤ 8 ∨ (l[k]).toNat % 128 ≤ 1 → m' = m + (l[k]).toNat % 128 * 128 ^ k) : ReadRel l (k + 1) m' := by
  obtain ⟨h1, _, h2⟩ := h
  have h1 := h1 h10
  have hu := (l[k]).toNat_lt
  rw [List.drop_eq_getElem_cons hk] at h2
  simp only [readR] at h2
  rw [if_neg (by omega), if_pos hc] at h2
  by_cases h9 : k = 9
  · subst h9
    rw [readR_ten] at h2
    exact ⟨by omega, h64, by rw [h2, readR_ten]; rfl⟩
  · have hm := hm (.inl (by omega))
    have hp : 128 ^ (k + 1) = 128 ^ k * 128 := Nat.pow_succ ..
    have hx : (l[k]).toNat % 128 * 128 ^ k ≤ 127 * 128 ^ k := Nat.mul_le_mul_right _ (by omega)
    refine ⟨fun _ => by omega, h64, ?_⟩
    rw [h2, Option.map_map]
    congr 1
    funext p
    simp only [Function.comp_apply, hm, Nat.mul_add, Prod.mk.injEq, and_true]
    have e : (l[k]).toNat - 128 = (l[k]).toNat % 128 := by omega
    rw [e, hp, Nat.mul_comm (128 ^ k) ((l[k]).toNat % 128), Nat.mul_assoc]
    omega
theorem ReadRel.fails {l : List UInt8} {k m : Nat} (h : ReadRel l k m) (hk : k < l.length) (h10 : k ≤ 9) (hc : ¬ 128 ≤ (l[k]).toNat)
    (hx : (0 < k ∧ (l[k]).toNat = 0) ∨ (k = 9 ∧ 1 < (l[k]).toNat)) : read l = none := by
  obtain ⟨_, _, h2⟩ := h
  rw [List.drop_eq_getElem_cons hk] at h2
  simp only [readR] at h2
  rw [if_neg (by omega), if_neg hc, if_pos hx] at h2
  exact h2
theorem ReadRel.done {l : List UInt8} {k m m' : Nat} (h : ReadRel l k m) (hk : k < l.length) (h10 : k ≤ 9) (hc : ¬ 128 ≤ (l[k]).toNat)
    (hx : ¬ ((0 < k ∧ (l[k]).toNat = 0) ∨ (k = 9 ∧ 1 < (l[k]).toNat)))
    (hm : k ≤ 8 ∨ (l[k]).toNat % 128 ≤ 1 → m' = m + (l[k]).toNat % 128 * 128 ^ k) : read l = some (m', l.drop (k + 1)) := by
  obtain ⟨_, _, h2⟩ := h
  rw [List.drop_eq_getElem_cons hk] at h2
  simp only [readR] at h2
  rw [if_neg (by omega), if_neg hc, if_neg hx] at h2
  have hm := hm (by omega)
  rw [h2, hm, Nat.mod_eq_of_lt (by omega), Nat.mul_comm]
  rfl
theorem ReadRel.ends {l : List UInt8} {k m : Nat} (h : ReadRel l k m) (hk : l.length ≤ k ∨ k = 10) : read l = none := by
  obtain ⟨_, _, h2⟩ := h
  rcases hk with hk | rfl
  · rw [List.drop_of_length_le hk] at h2
    simpa [readR] using h2
  · rw [readR_ten] at h2
    exact h2
end Go.Bt
end
section
namespace Go.Bt
theorem pow128 (k : Nat) : (2 : Nat) ^ (7 * k) = 128 ^ k := by rw [Nat.pow_mul]
theorem or_step (m k c : Nat) (hm : m < 128 ^ k) (hk : k ≤ 9) (hc : c < 256) :
    ∃ m' : Nat, bits .or .u64 (m : Int) (IntKind.u64.wrap (IntKind.u64.wrap (bits .and .u8 (c : Int) 127) * 2 ^ (7 * k))) = (m' : Int) ∧
      m' < 18446744073709551616 ∧ (k ≤ 8 ∨ c % 128 ≤ 1 → m' = m + (c % 128) * 128 ^ k) := by
  have h9 : 128 ^ k ≤ 128 ^ 9 := Nat.pow_le_pow_right (by omega) hk
  have e1 : bits .and .u8 (c : Int) 127 = ((c % 128 : Nat) : Int) := by
    have := u8_and_nat c 127 hc (by omega)
    rw [nat_mask7] at this
    exact this
  have e2 : IntKind.u64.wrap ((c % 128 : Nat) : Int) = ((c % 128 : Nat) : Int) := by rw [IntKind.wrap_u64]; omega
  have e3 : ((c % 128 : Nat) : Int) * 2 ^ (7 * k) = ((c % 128 * 128 ^ k : Nat) : Int) := by
    rw [← pow128, Int.natCast_mul, Int.natCast_pow]; rfl
  have e4 : IntKind.u64.wrap ((c % 128 * 128 ^ k : Nat) : Int) = ((c % 128 * 128 ^ k % 18446744073709551616 : Nat) : Int) := by
    rw [IntKind.wrap_u64, Int.natCast_emod]; rfl
  have hm64 : m < 18446744073709551616 := by have : (128 : Nat) ^ 9 < 18446744073709551616 := by decide
                                             omega
  rw [e1, e2, e3, e4, u64_or_nat m _ hm64 (Nat.mod_lt _ (by decide))]
  refine ⟨_, rfl, ?_, ?_⟩
  · exact Nat.or_lt_two_pow (n := 64) hm64 (Nat.mod_lt _ (by decide))
  · intro h
    have hlt : c % 128 * 128 ^ k < 18446744073709551616 := by
      rcases h with h | h
      · have h8 : 128 ^ k ≤ 128 ^ 8 := Nat.pow_le_pow_right (by omega) h
        have : c % 128 * 128 ^ k ≤ 127 * 128 ^ 8 := Nat.mul_le_mul (by omega) h8
        have : (127 * 128 ^ 8 : Nat) < 18446744073709551616 := by decide
        omega
      · have : c % 128 * 128 ^ k ≤ 1 * 128 ^ 9 := Nat.mul_le_mul h h9
        have : (1 * 128 ^ 9 : Nat) < 18446744073709551616 := by decide
        omega
    rw [Nat.mod_eq_of_lt hlt, Nat.or_comm, nat_join (7 * k) _ _ (by rw [pow128]; exact Nat.mul_mod_left _ _) (by rw [pow128]; exact hm), Nat.add_comm]
theorem or128 (x : Nat) : bits .or .u8 (IntKind.u8.wrap (x : Int)) 128 = ((UInt8.ofNat (x % 128 + 128)).toNat : Int) := by
  have e1 : IntKind.u8.wrap (x : Int) = ((x % 256 : Nat) : Int) := by rw [IntKind.wrap_u8, Int.natCast_emod]; rfl
  have e2 : (UInt8.ofNat (x % 128 + 128)).toNat = x % 128 + 128 := by simp [UInt8.toNat_ofNat']; omega
  rw [e1, e2]
  have := u8_or_nat (x % 256) 128 (by omega) (by omega)
  refine this.trans ?_
  congr 1
  have h1 : x % 256 ||| 128 = x % 128 ||| 128 := by
    apply Nat.eq_of_testBit_eq
    intro i
    rw [Nat.testBit_or, Nat.testBit_or, show (256 : Nat) = 2 ^ 8 from rfl, show (128 : Nat) = 2 ^ 7 from rfl, Nat.testBit_mod_two_pow, Nat.testBit_mod_two_pow, Nat.testBit_two_pow]
    by_cases h7 : i = 7
    · subst h7; simp
    · have : (decide (7 = i)) = false := by simp; omega
      rw [this, Bool.or_false, Bool.or_false]
      have : decide (i < 8) = decide (i < 7) := by congr 1; simp; omega
      rw [this]
  rw [h1, Nat.or_comm, nat_join 7 128 (x % 128) (by decide) (Nat.mod_lt _ (by decide)), Nat.add_comm]
end Go.Bt
namespace Go.Bt
/-- Sign, as a number. -/
def sign (n : Int) : Nat := if n < 0 then ((-1 - n) * 2 + 1).toNat else (n * 2).toNat
/-- Back, as a number. -/
def back (n : Nat) : Int := if n % 2 = 1 then -1 - ((n / 2 : Nat) : Int) else ((n / 2 : Nat) : Int)
theorem back_sign (n : Int) : back (sign n) = n := by unfold back sign; split <;> split <;> omega
theorem sign_back (n : Nat) : sign (back n) = n := by unfold back sign; split <;> split <;> omega
theorem xor_ones (a : Nat) (h : a < 18446744073709551616) : a ^^^ 18446744073709551615 = 18446744073709551615 - a := by
  apply Nat.eq_of_testBit_eq
  intro i
  have h1 : (18446744073709551615 : Nat) - a = 2 ^ 64 - (a + 1) := by omega
  rw [h1, Nat.testBit_two_pow_sub_succ h, Nat.testBit_xor, show (18446744073709551615 : Nat) = 2 ^ 64 - 1 from rfl, Nat.testBit_two_pow_sub_one]
  by_cases hi : i < 64
  · simp [hi]
  · have : a.testBit i = false := Nat.testBit_lt_two_pow (Nat.lt_of_lt_of_le h (by rw [show (18446744073709551616 : Nat) = 2 ^ 64 from rfl]; exact Nat.pow_le_pow_right (by omega) (by omega)))
    simp [hi, this]
theorem sign_bits (n : Int) (h1 : -9223372036854775808 ≤ n) (h2 : n ≤ 9223372036854775807) :
    bits .xor .u64 (IntKind.u64.wrap (IntKind.u64.wrap n * 2)) (IntKind.u64.wrap (n / 9223372036854775808)) = ((sign n : Nat) : Int) := by
  by_cases hn : n < 0
  · have e1 : IntKind.u64.wrap (IntKind.u64.wrap n * 2) = ((18446744073709551616 - (-n).toNat * 2 : Nat) : Int) := by
      simp only [IntKind.wrap_u64]; omega
    have e2 : IntKind.u64.wrap (n / 9223372036854775808) = ((18446744073709551615 : Nat) : Int) := by
      simp only [IntKind.wrap_u64]; omega
    rw [e1, e2, u64_xor_nat _ _ (by omega) (by omega), xor_ones _ (by omega)]
    unfold sign
    rw [if_pos hn]
    omega
  · have e1 : IntKind.u64.wrap (IntKind.u64.wrap n * 2) = ((n.toNat * 2 : Nat) : Int) := by
      simp only [IntKind.wrap_u64]; omega
    have e2 : IntKind.u64.wrap (n / 9223372036854775808) = ((0 : Nat) : Int) := by
      simp only [IntKind.wrap_u64]; omega
    rw [e1, e2, u64_xor_nat _ _ (by omega) (by omega), Nat.xor_zero]
    unfold sign
    rw [if_neg hn]
    omega
theorem i64_xor_zero (m : Nat) (h : m < 9223372036854775808) : bits .xor .i64 (m : Int) 0 = (m : Int) := by
  show IntKind.i64.wrap ((BitVec.ofInt 64 (m : Int) ^^^ BitVec.ofInt 64 0 : BitVec 64).toNat : Int) = _
  rw [BitVec.toNat_xor, BitVec.ofInt_natCast, BitVec.toNat_ofNat, show (BitVec.ofInt 64 0).toNat = 0 from rfl, Nat.xor_zero, Nat.mod_eq_of_lt (by omega), IntKind.wrap_i64]
  omega
theorem i64_xor_neg (m : Nat) (h : m < 9223372036854775808) : bits .xor .i64 (m : Int) (-1) = -1 - (m : Int) := by
  show IntKind.i64.wrap ((BitVec.ofInt 64 (m : Int) ^^^ BitVec.ofInt 64 (-1) : BitVec 64).toNat : Int) = _
  rw [BitVec.toNat_xor, BitVec.ofInt_natCast, BitVec.toNat_ofNat, show (BitVec.ofInt 64 (-1)).toNat = 18446744073709551615 from rfl, Nat.mod_eq_of_lt (by omega), xor_ones m (by omega), IntKind.wrap_i64]
  omega
theorem back_bits (n : Nat) (h : n < 18446744073709551616) :
    bits .xor .i64 ((n : Int) / 2) (RowKit.wrap64 (-RowKit.wrap64 (bits .and .u64 (n : Int) 1))) = back n := by
  have e1 : bits .and .u64 (n : Int) 1 = ((n % 2 : Nat) : Int) := by
    have := u64_and_nat n 1 h (by omega)
    rw [nat_mask1] at this
    exact this
  have e2 : RowKit.wrap64 ((n % 2 : Nat) : Int) = ((n % 2 : Nat) : Int) := IntWalk.wrap64_in _ (by omega)
  rw [e1, e2, show (n : Int) / 2 = ((n / 2 : Nat) : Int) from rfl]
  unfold back
  split
  · rename_i h1
    rw [h1, show RowKit.wrap64 (-((1 : Nat) : Int)) = -1 from IntWalk.wrap64_in _ (by omega), i64_xor_neg _ (by omega)]
  · rename_i h1
    rw [show n % 2 = 0 by omega, show RowKit.wrap64 (-((0 : Nat) : Int)) = 0 from IntWalk.wrap64_in _ (by omega), i64_xor_zero _ (by omega)]
theorem sign_lt (n : Int) (h1 : -9223372036854775808 ≤ n) (h2 : n ≤ 9223372036854775807) : sign n < 18446744073709551616 := by unfold sign; split <;> omega
theorem back_range (n : Nat) (h : n < 18446744073709551616) : -9223372036854775808 ≤ back n ∧ back n ≤ 9223372036854775807 := by unfold back; split <;> omega
end Go.Bt
end
section
namespace Go.Proofs.YtajclcbclbppiaaGreat
open Go.RowKit Go.Bt

/-! ### Read -/
def readV (l : List UInt8) : Value := match Bt.read l with | some (n, r) => .tuple #[.int .u64 n, .string (ofL r), .bool true] | none => .tuple #[.int .u64 0, .string (ofL []), .bool false]
theorem readV_none {l : List UInt8} (h : Bt.read l = none) : readV l = .tuple #[.int .u64 0, .string (ofL []), .bool false] := by simp [readV, h]
theorem readV_some {l : List UInt8} {n r} (h : Bt.read l = some (n, r)) : readV l = .tuple #[.int .u64 n, .string (ofL r), .bool true] := by simp [readV, h]
/-! ### Var -/
def VarRel (w wr : World) (n : Nat) (m : Value) (v : Value) : Prop :=
  ∃ (x : Nat) (out : List UInt8), m = .int .u64 x ∧ out.length ≤ 9 ∧ x < 2 ^ (64 - 7 * out.length) ∧ var n = out ++ varF (9 - out.length) x ∧ Bs wr w.heap.size v out ∧ Ext w wr
theorem varF_lt {f x : Nat} (h : x < 128) : varF f x = [UInt8.ofNat x] := by cases f <;> simp [varF, h]
theorem varF_ge {f x : Nat} (hf : 0 < f) (h : ¬ x < 128) : varF f x = UInt8.ofNat (x % 128 + 128) :: varF (f - 1) (x / 128) := by
  obtain ⟨f, rfl⟩ : ∃ g, f = g + 1 := ⟨f - 1, by omega⟩
  simp [varF, h]
theorem varStep {n x : Nat} {out : List UInt8} (hx : x < 2 ^ (64 - 7 * out.length)) (hv : var n = out ++ varF (9 - out.length) x) (hk9 : out.length ≤ 9) (hlt : ¬ x < 128) :
    (out ++ [UInt8.ofNat (x % 128 + 128)]).length ≤ 9 ∧ x / 128 < 2 ^ (64 - 7 * (out ++ [UInt8.ofNat (x % 128 + 128)]).length) ∧
    var n = (out ++ [UInt8.ofNat (x % 128 + 128)]) ++ varF (9 - (out ++ [UInt8.ofNat (x % 128 + 128)]).length) (x / 128) := by
  have h9 : out.length < 9 := by
    rcases Nat.lt_or_ge out.length 9 with h | h
    · exact h
    · have : out.length = 9 := by omega
      rw [this] at hx
      simp at hx; omega
  have hs := pow_split out.length (by omega)
  rw [List.length_append, List.length_singleton]
  refine ⟨by omega, by omega, ?_⟩
  rw [hv, varF_ge (by omega) hlt, List.append_assoc, show 9 - (out.length + 1) = 9 - out.length - 1 by omega]
  rfl

/-! ### Sign, Back, Text, Cut -/
def cutV (l : List UInt8) : Value := match Bt.cut l with | some (t, r) => .tuple #[.string (ofL t), .string (ofL r), .bool true] | none => .tuple #[.string (ofL []), .string (ofL []), .bool false]
theorem cutV_none {l : List UInt8} (h : Bt.cut l = none) : cutV l = .tuple #[.string (ofL []), .string (ofL []), .bool false] := by simp [cutV, h]
theorem cutV_some {l : List UInt8} {n r} (h : Bt.cut l = some (n, r)) : cutV l = .tuple #[.string (ofL n), .string (ofL r), .bool true] := by simp [cutV, h]
theorem read_length {l : List UInt8} {n r} (h : Bt.read l = some (n, r)) : r.length ≤ l.length ∧ n < 18446744073709551616 := by
  obtain ⟨rfl, h2⟩ := var_read l n r h
  simp; exact h2
/-! ### Put -/
def putPart (n size k : Nat) : List UInt8 := (List.range size).map fun i => if i < k then UInt8.ofNat (n / 2 ^ (8 * (size - 1 - i))) else 0
theorem putPart_length (n size k : Nat) : (putPart n size k).length = size := by simp [putPart]
theorem putPart_zero (n size : Nat) : putPart n size 0 = List.replicate size 0 := by
  unfold putPart
  refine List.ext_getElem (by simp) fun i h1 h2 => ?_
  simp
theorem putPart_all (n size : Nat) : putPart n size size = put n size := by
  unfold putPart put
  refine List.map_congr_left fun i hi => ?_
  rw [if_pos (by simpa using hi)]
theorem putPart_set (n size k : Nat) : (putPart n size k).set k (UInt8.ofNat (n / 2 ^ (8 * (size - 1 - k)))) = putPart n size (k + 1) := by
  refine List.ext_getElem (by simp [putPart]) fun i h1 h2 => ?_
  simp only [putPart, List.getElem_set, List.getElem_map, List.getElem_range]
  by_cases h : k = i
  · subst h; simp
  · rw [if_neg h]
    by_cases h' : i < k
    · rw [if_pos h', if_pos (by omega)]
    · rw [if_neg h', if_neg (by omega)]
theorem byte_shr (n e : Nat) : (n : Int) / 2 ^ e % 256 = ((UInt8.ofNat (n / 2 ^ e)).toNat : Int) := by
  rw [UInt8.toNat_ofNat', Int.natCast_emod, Int.natCast_ediv, Int.natCast_pow]
  rfl
set_option maxRecDepth 100000 in
theorem put_yes (n s : Nat) (w : World) (hn : n < 18446744073709551616) (h1 : 1 ≤ s) (h8 : s ≤ 8) :
    Calls Tryz.prog 72 #[.int .u64 n, .int .i64 s] w fun e w' => e = .returned (.string (ofL (put n s))) ∧ Ext w w' := by
  have Hn := Lib.hid hn; clear hn
  go_enter Tryz.func72, Tryz.ntmps72
  go_wp2_with (at_make; refine make_bytes rfl 13 13 rfl rfl rfl rfl rfl (by omega) (fun w1 hz hx hlt => ?_))
  try simp only [ofL_mk]
  rw [← putPart_zero n] at hz
  have Hz := Lib.hid hz; clear hz
  go_loopw [16] (fun i wr => ∃ k : Nat, k ≤ s ∧ i = .int .i64 k ∧ Bz wr w.heap.size s (putPart n s k) ∧ Ext w wr) (fun i _ => s - (intOf i).toNat)
  case atStart => exact ⟨0, by omega, rfl, Hz.out, hx⟩
  case round =>
    obtain ⟨k, hk, rfl, hz, hE⟩ := hrel
    by_cases hlt : k < s
    · have hc := hz.cell k (by rw [putPart_length]; exact hlt)
      have hf := hz.frozen k (by rw [putPart_length]; exact hlt)
      have Hz := Lib.hid hz; clear hz
      go_wp2
      rw [byte_shr]
      have hz2 := Hz.out.set k (UInt8.ofNat (n / 2 ^ (8 * (s - 1 - k))))
      rw [putPart_set] at hz2
      exact ⟨⟨k + 1, by omega, by go_num, hz2, hE.setCell (Nat.le_refl _) _⟩, by simp [intOf]; omega⟩
    · obtain rfl : k = s := by omega
      have hs := hz.string
      rw [putPart_length] at hs
      have Hz := Lib.hid hz; clear hz
      go_wp2
      go_ret
      exact ⟨by rw [← putPart_all]; rfl, hE⟩
theorem put_at (n s : Nat) (i : Int) (hi : i = s) (w : World) (hn : n < 18446744073709551616) (h1 : 1 ≤ s) (h8 : s ≤ 8) :
    Calls Tryz.prog 72 #[.int .u64 n, .int .i64 i] w fun e w' => e = .returned (.string (ofL (put n s))) ∧ Ext w w' := by
  subst hi; exact put_yes n s w hn h1 h8
theorem put_no (n : Nat) (i : Int) (w : World) (h : i < 1 ∨ 8 < i) :
    Calls Tryz.prog 72 #[.int .u64 n, .int .i64 i] w fun e w' => e = .returned (.string (ofL [])) ∧ Ext w w' := by
  have h' : i < 1 ∨ ¬ i < 1 ∧ 8 < i := by omega
  clear h
  rcases h' with h | ⟨h, h2⟩
  all_goals
    go_enter Tryz.func72, Tryz.ntmps72
    go_wp2
    go_ret
    exact ⟨rfl, Ext.refl _⟩
/-! ### Get -/
theorem getF_snoc (n : Nat) (l : List UInt8) (c : UInt8) : getF n (l ++ [c]) = getF n l * 256 + c.toNat := by
  induction l generalizing n with
  | nil => rfl
  | cons d ds ih => exact ih _
theorem getF_lt (l : List UInt8) (n : Nat) (k : Nat) (h : n < 256 ^ k) : getF n l < 256 ^ (k + l.length) := by
  induction l generalizing n k with
  | nil => simpa [getF] using h
  | cons c cs ih =>
    have hc := c.toNat_lt
    have := ih (n * 256 + c.toNat) (k + 1) (by rw [Nat.pow_succ]; omega)
    simp only [getF, List.length_cons]
    rw [show k + (cs.length + 1) = k + 1 + cs.length by omega]
    exact this
theorem getF_take_lt (l : List UInt8) (k : Nat) : getF 0 (l.take k) < 256 ^ k := by
  have h1 := getF_lt (l.take k) 0 0 (by simp)
  have h2 : (l.take k).length ≤ k := by simp; omega
  have h3 : 256 ^ (0 + (l.take k).length) ≤ 256 ^ k := Nat.pow_le_pow_right (by omega) (by omega)
  omega
theorem get_lt (l : List UInt8) : Bt.get l < 18446744073709551616 := getF_take_lt l 8
theorem take_snoc (l : List UInt8) (k : Nat) (h : k < l.length) : l.take (k + 1) = l.take k ++ [l[k]] := by
  rw [List.take_succ_eq_append_getElem h]
theorem get_or (m c : Nat) (hm : m < 72057594037927936) (hc : c < 256) : bits .or .u64 (IntKind.u64.wrap ((m : Int) * 256)) (IntKind.u64.wrap (c : Int)) = ((m * 256 + c : Nat) : Int) := by
  have e1 : IntKind.u64.wrap ((m : Int) * 256) = ((m * 256 : Nat) : Int) := by rw [IntKind.wrap_u64]; omega
  have e2 : IntKind.u64.wrap (c : Int) = (c : Int) := by rw [IntKind.wrap_u64]; omega
  rw [e1, e2, u64_or_nat _ _ (by omega) (by omega), nat_join 8 _ _ (by omega) (by omega)]
set_option maxRecDepth 100000 in
theorem get_any (l : List UInt8) (w : World) (hl : l.length ≤ 16777216) :
    Calls Tryz.prog 105 #[.string (ofL l)] w fun e w' => e = .returned (.int .u64 (Bt.get l)) ∧ Ext w w' := by
  by_cases h8 : l.length ≤ 8
  all_goals
    go_enter Tryz.func105, Tryz.ntmps105
    go_wp2
    go_loop [3, 8] (fun n i => ∃ k : Nat, k ≤ l.length ∧ k ≤ 8 ∧ i = .int .i64 k ∧ n = .int .u64 (getF 0 (l.take k))) (fun _ i => 8 - (intOf i).toNat)
    case atStart => exact ⟨0, by omega, by omega, rfl, rfl⟩
    case round =>
      obtain ⟨k, hk, hk8, rfl, rfl⟩ := hrel
      by_cases hlt : k < l.length ∧ k < 8
      · obtain ⟨h1, h2⟩ := hlt
        have hm : getF 0 (l.take k) < 72057594037927936 := by
          have h3 := getF_take_lt l k
          have h4 : 256 ^ k ≤ 256 ^ 7 := Nat.pow_le_pow_right (by omega) (by omega)
          have : (256 : Nat) ^ 7 = 72057594037927936 := by decide
          omega
        have Hm := Lib.hid (get_or (getF 0 (l.take k)) (l[k]).toNat hm (l[k]).toNat_lt)
        have Ht := Lib.hid (take_snoc l k h1)
        clear hm
        go_wp2
        go_round
        case rel => exact ⟨k + 1, by omega, by omega, by go_num, by rw [Hm.out, Ht.out, getF_snoc]⟩
        case measure => simp [intOf]; omega
      · have he : getF 0 (l.take k) = Bt.get l := by
          unfold Bt.get
          rcases Nat.lt_or_ge k l.length with h | h
          · rw [show k = 8 by omega]
          · rw [List.take_of_length_le h, List.take_of_length_le (by omega)]
        have He := Lib.hid he; clear he
        go_wp2
        go_ret
        exact ⟨by rw [← He.out]; rfl, Ext.refl _⟩
end Go.Proofs.YtajclcbclbppiaaGreat
end
section
namespace Go.Bt
theorem put_succ (n k : Nat) : put n (k + 1) = UInt8.ofNat (n / 256 ^ k) :: put n k := by
  unfold put
  rw [List.range_succ_eq_map, List.map_cons, List.map_map]
  congr 1
  · rw [show 8 * (k + 1 - 1 - 0) = 8 * k by omega, Nat.pow_mul]
  · refine List.map_congr_left fun i hi => ?_
    simp only [Function.comp_apply]
    rw [show k + 1 - 1 - (i + 1) = k - 1 - i by omega]
theorem div_pow_succ (n k : Nat) : n / 256 ^ k / 256 = n / 256 ^ (k + 1) := by rw [Nat.div_div_eq_div_mul, Nat.pow_succ]
/-- The number of bytes in sevens. -/
def val : List UInt8 → Nat
  | [] => 0
  | c :: cs => c.toNat % 128 + 128 * val cs
def valM (l : List UInt8) : Nat := val l % 18446744073709551616
theorem valM_lt (l : List UInt8) : valM l < 18446744073709551616 := Nat.mod_lt _ (by decide)
theorem valM_cons (c : UInt8) (l : List UInt8) : valM (c :: l) = (valM l * 128 + c.toNat % 128) % 18446744073709551616 := by
  unfold valM; simp only [val]; omega
theorem varF_shape (f n : Nat) (h : n < 128 ^ (f + 1)) : ∃ init last, varF f n = init ++ [last] ∧ (∀ c ∈ init, 128 ≤ UInt8.toNat c) ∧ last.toNat < 128 ∧ val (varF f n) = n := by
  induction f generalizing n with
  | zero =>
    have h : n < 128 := by simpa using h
    have h1 := u8_ofNat n (by omega)
    exact ⟨[], UInt8.ofNat n, rfl, by simp, by omega, by simp only [varF, val, h1]; omega⟩
  | succ f ih =>
    by_cases hlt : n < 128
    · have h1 := u8_ofNat n (by omega)
      exact ⟨[], UInt8.ofNat n, by simp [varF, hlt], by simp, by omega, by simp only [varF, if_pos hlt, val, h1]; omega⟩
    · obtain ⟨init, last, h1, h2, h3, h4⟩ := ih (n / 128) (by rw [Nat.pow_succ] at h; omega)
      have h5 := u8_ofNat (n % 128 + 128) (by omega)
      refine ⟨UInt8.ofNat (n % 128 + 128) :: init, last, by simp [varF, hlt, h1], ?_, h3, by simp only [varF, if_neg hlt, val, h5, h4]; omega⟩
      intro c hc
      rcases List.mem_cons.1 hc with rfl | hc
      · omega
      · exact h2 c hc
/-- What stands ahead up to the first byte below 128. -/
def Front (l : List UInt8) (k : Nat) : Prop := ∀ j, j < k → 128 ≤ (l.getD j 0).toNat
theorem read_front_of {l : List UInt8} {k : Nat} (hf : Front l k) (hc : (l.getD k 0).toNat < 128) {m : Nat} {r : List UInt8} (h : Bt.read l = some (m, r)) :
    l.take (k + 1) = var m ∧ l.drop (k + 1) = r ∧ valM (l.take (k + 1)) = m ∧ k ≤ 9 := by
  obtain ⟨hl, hm⟩ := var_read l m r h
  have h10 : (2 : Nat) ^ 64 < 128 ^ 10 := by decide
  obtain ⟨init, last, h1, h2, h3, h4⟩ := varF_shape 9 m (by omega)
  have h1 : var m = init ++ [last] := h1
  have hlen := var_length m
  rw [h1, List.length_append, List.length_singleton] at hlen
  have hk' : k = init.length := by
    rcases Nat.lt_trichotomy k init.length with hlt | heq | hgt
    · have := h2 (l.getD k 0) (by
        rw [hl, h1, List.append_assoc, List.getD_eq_getElem?_getD, List.getElem?_append_left hlt, List.getElem?_eq_getElem hlt]
        exact List.getElem_mem hlt)
      omega
    · exact heq
    · have := hf init.length hgt
      rw [hl, h1, List.append_assoc, List.getD_eq_getElem?_getD, List.getElem?_append_right (Nat.le_refl _), Nat.sub_self] at this
      simp at this
      omega
  have ht : l.take (k + 1) = var m := by
    rw [hl, hk', List.take_append_of_le_length (by rw [h1]; simp), List.take_of_length_le (by rw [h1]; simp)]
  refine ⟨ht, ?_, ?_, by omega⟩
  · rw [hl, hk', List.drop_append_of_le_length (by rw [h1]; simp), List.drop_of_length_le (by rw [h1]; simp)]
    rfl
  · rw [ht]; unfold valM; rw [show var m = varF 9 m from rfl, h4]; omega
theorem read_none_of_front {l : List UInt8} {k : Nat} (hf : Front l k) (hk : l.length ≤ k ∨ 9 < k) : Bt.read l = none := by
  cases h : Bt.read l with
  | none => rfl
  | some p =>
    obtain ⟨m, r⟩ := p
    obtain ⟨hl, hm⟩ := var_read l m r h
    have h10 : (2 : Nat) ^ 64 < 128 ^ 10 := by decide
    obtain ⟨init, last, h1, h2, h3, h4⟩ := varF_shape 9 m (by omega)
    have h1 : var m = init ++ [last] := h1
    have hlen := var_length m
    rw [h1, List.length_append, List.length_singleton] at hlen
    have hll : init.length + 1 ≤ l.length := by rw [hl, h1]; simp
    have := hf init.length (by omega)
    rw [hl, h1, List.append_assoc, List.getD_eq_getElem?_getD, List.getElem?_append_right (Nat.le_refl _), Nat.sub_self] at this
    simp at this
    omega
theorem read_none_var {l : List UInt8} {k : Nat} (h : Bt.read l = none) : (var (valM (l.take (k + 1))) == l.take (k + 1)) = false := by
  rw [beq_eq_false_iff_ne]
  intro he
  have := read_var (valM (l.take (k + 1))) (l.drop (k + 1)) (valM_lt _)
  rw [he, List.take_append_drop, h] at this
  cases this
end Go.Bt
namespace Go.Proofs.YtajclcbclbppiaaGreat
open Go.RowKit Go.Bt
theorem byt128 (n : Nat) : UInt8.ofNat (n % 128 + 128) = byt ((n : Int) % 128 + 128) := by
  unfold byt; congr 1
/-! ### the document's Sign, Back, Text, Cut -/
/-! ### the document's Put, Get -/
set_option maxRecDepth 100000 in
theorem refPut_yes (n s : Nat) (w : World) (hn : n < 18446744073709551616) (h1 : 1 ≤ s) (h8 : s ≤ 8) :
    Calls Tryz.prog 75 #[.int .u64 n, .int .i64 s] w fun e w' => e = .returned (.string (ofL (put n s))) ∧ Ext w w' := by
  have Hn := Lib.hid hn; clear hn
  go_enter Tryz.func75, Tryz.ntmps75
  go_wp2
  try simp only [ofL_mk]
  go_loopw [0, 5, 6] (fun a b i wr => ∃ k : Nat, k ≤ s ∧ i = .int .i64 k ∧ a = .int .u64 (n / 256 ^ k : Nat) ∧ b = .string (ofL (put n k)) ∧ Ext w wr) (fun _ _ i _ => s - (intOf i).toNat)
  case atStart => exact ⟨0, by omega, rfl, by simp, rfl, Ext.refl _⟩
  case round =>
    obtain ⟨k, hk, rfl, rfl, rfl, hE⟩ := hrel
    have hlt64 : n / 256 ^ k < 18446744073709551616 := Nat.lt_of_le_of_lt (Nat.div_le_self _ _) Hn.out
    by_cases hlt : k < s
    · have Hp := Lib.hid (put_succ n k)
      have Hd := Lib.hid (div_pow_succ n k)
      have hl : (put n k).length = k := by simp [put]
      have hl' : (put n k).length ≤ 8 := by omega
      have hx : (n / 256 ^ k : Nat) ≤ 18446744073709551615 := by omega
      obtain ⟨x, hxx⟩ : ∃ x, n / 256 ^ k = x := ⟨_, rfl⟩
      rw [hxx] at hx Hp Hd ⊢
      clear hl hlt64 hxx
      go_wp2
      exact ⟨⟨k + 1, by omega, by go_num, by rw [← Hd.out]; rfl, by rw [Hp.out, byt256], hE.alloc _⟩, by simp [intOf]; omega⟩
    · go_wp2
      go_ret
      have : k = s := by omega
      exact ⟨ret_str (by rw [this]), hE⟩

theorem refPut_no (n : Nat) (i : Int) (w : World) (h : i < 1 ∨ 8 < i) :
    Calls Tryz.prog 75 #[.int .u64 n, .int .i64 i] w fun e w' => e = .returned (.string (ofL [])) ∧ Ext w w' := by
  have h' : i < 1 ∨ ¬ i < 1 ∧ 8 < i := by omega
  clear h
  rcases h' with h | ⟨h, h2⟩
  all_goals
    go_enter Tryz.func75, Tryz.ntmps75
    go_wp2
    go_ret
    exact ⟨rfl, Ext.refl _⟩
set_option maxRecDepth 100000 in
theorem refGet_any (l : List UInt8) (w : World) (hl : l.length ≤ 16777216) :
    Calls Tryz.prog 85 #[.string (ofL l)] w fun e w' => e = .returned (.int .u64 (Bt.get l)) ∧ Ext w w' := by
  go_enter Tryz.func85, Tryz.ntmps85
  go_wp2
  go_loop [3, 4] (fun n i => ∃ k : Nat, k ≤ l.length ∧ k ≤ 8 ∧ i = .int .i64 k ∧ n = .int .u64 (getF 0 (l.take k))) (fun _ i => 8 - (intOf i).toNat)
  case atStart => exact ⟨0, by omega, by omega, rfl, rfl⟩
  case round =>
    obtain ⟨k, hk, hk8, rfl, rfl⟩ := hrel
    have hm := getF_take_lt l k
    by_cases h1 : k < l.length
    · by_cases h2 : k < 8
      · have hx : getF 0 (l.take k) ≤ 72057594037927935 := by
          have h4 : 256 ^ k ≤ 256 ^ 7 := Nat.pow_le_pow_right (by omega) (by omega)
          have : (256 : Nat) ^ 7 = 72057594037927936 := by decide
          omega
        have Hs := Lib.hid (getF_snoc 0 (l.take k) (l[k]))
        have Ht := Lib.hid (take_snoc l k h1)
        have hc := (l[k]).toNat_lt
        obtain ⟨x, hxx⟩ : ∃ x, getF 0 (l.take k) = x := ⟨_, rfl⟩
        obtain ⟨c, hcc⟩ : ∃ c, l[k] = c := ⟨_, rfl⟩
        rw [hxx] at hx Hs ⊢
        rw [hcc] at hc Hs Ht
        clear hm hxx
        go_wp2
        go_round
        case rel => exact ⟨k + 1, by omega, by omega, by go_num, by rw [Ht.out, Hs.out]; rfl⟩
        case measure => simp [intOf]; omega
      · have He := Lib.hid (show getF 0 (l.take k) = Bt.get l by unfold Bt.get; rw [show k = 8 by omega])
        clear hm
        go_wp2
        go_ret
        exact ⟨by rw [← He.out]; rfl, Ext.refl _⟩
    · have He := Lib.hid (show getF 0 (l.take k) = Bt.get l by unfold Bt.get; rw [List.take_of_length_le (by omega), List.take_of_length_le (by omega)])
      clear hm
      go_wp2
      go_ret
      exact ⟨by rw [← He.out]; rfl, Ext.refl _⟩
end Go.Proofs.YtajclcbclbppiaaGreat
end
