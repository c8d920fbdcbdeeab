/-
  Strings as lists of bytes: 'ofL l' is the string with the bytes l. The walk's own forms of len, index, cut, join and test on such strings.
-/
import Derived.WalkKit
import Derived.WalkLawsBesides
import Derived.WalkSpells
import Derived.Lib.Hide
namespace Go
open Go.RowKit
/-- The string with these bytes. -/
def ofL (l : List UInt8) : ByteArray := ⟨l.toArray⟩
theorem ofL_data (s : ByteArray) : ofL s.data.toList = s := rfl
theorem ofL_ext {s t : ByteArray} (h : s.data.toList = t.data.toList) : s = t := by rw [← ofL_data s, ← ofL_data t, h]
@[simp] theorem ofL_dataL (l : List UInt8) : (ofL l).data.toList = l := rfl
@[simp] theorem ofL_dataA (l : List UInt8) : (ofL l).data = l.toArray := rfl
@[simp] theorem ofL_size (l : List UInt8) : (ofL l).size = l.length := rfl
@[simp] theorem ofL_toList (l : List UInt8) : (ofL l).toList = l := ByteArray.toList_mk l
@[simp] theorem ofL_inj (a b : List UInt8) : ofL a = ofL b ↔ a = b := ⟨fun h => congrArg (fun s => s.data.toList) h, fun h => by rw [h]⟩
@[simp] theorem ofL_empty : ByteArray.empty = ofL [] := rfl
theorem ofL_extract (l : List UInt8) (a b : Nat) : (ofL l).extract a b = ofL ((l.drop a).take (b - a)) :=
  ofL_ext (by simp [ByteArray.data_extract, List.extract_eq_take_drop])
@[simp] theorem ofL_extract_front (l : List UInt8) (b : Nat) : (ofL l).extract 0 b = ofL (l.take b) := by rw [ofL_extract]; simp
@[simp] theorem ofL_extract_back (l : List UInt8) (a : Nat) : (ofL l).extract a l.length = ofL (l.drop a) := by
  rw [ofL_extract, List.take_of_length_le (by simp)]
@[simp] theorem ofL_append (a b : List UInt8) : ofL a ++ ofL b = ofL (a ++ b) := ofL_ext (by simp [ByteArray.data_append])
@[simp] theorem ofL_getElem (l : List UInt8) (i : Nat) (h : i < (ofL l).size) : (ofL l)[i] = l.getD i 0 := by
  have h' : i < l.length := h
  rw [List.getD_eq_getElem?_getD, List.getElem?_eq_getElem h']
  rfl
section
variable {P : Program} (w : World)
@[go_sem] theorem run_index_ofL (t : TypeId) (l : List UInt8) (k : IntKind) (i : Int) (h : P.underlying t = some .string) :
    (Instr.index t (.string (ofL l)) (.int k i)).run P w =
      if 0 ≤ i ∧ i < l.length then .ok (.int .u8 (l.getD i.toNat 0).toNat) w
      else (boundsPanic k i l.length .index).run P w := by
  rw [run_index_string w t (ofL l) k i h]
  by_cases hi : 0 ≤ i ∧ i < l.length
  · rw [dif_pos (by simpa using hi), if_pos hi]; simp
  · rw [dif_neg (by simpa using hi), if_neg hi]; simp
end
theorem RowKit.Below.drewN {B : Nat} {a w : World} (h : Below B a w) (n : Nat) : Below B a (w.drewN n) := below_drewN h n
/-- The world has at most grown: all that there was is as it was. -/
def Ext (w w' : World) : Prop := Below w.heap.size w w'
theorem Ext.refl (w : World) : Ext w w := Below.refl _ _
theorem Ext.size {w w' : World} (h : Ext w w') : w.heap.size ≤ w'.heap.size := Below.size h
theorem Ext.trans {a b c : World} (h : Ext a b) (k : Ext b c) : Ext a c := Below.trans h (Below.mono k h.size)
theorem Ext.drew {a w : World} (h : Ext a w) : Ext a w.drew := Below.drew h
theorem Ext.drewN {a w : World} (h : Ext a w) (n : Nat) : Ext a (w.drewN n) := Below.drewN h n
theorem Ext.alloc {a w : World} (h : Ext a w) (o : Obj) : Ext a (w.alloc o) := Below.alloc h h.size o
theorem Ext.setCell {a w : World} (h : Ext a w) {p : Addr} (hp : a.heap.size ≤ p.block) (u : Value) : Ext a (w.setCell p u) := Below.setCell h hp u
theorem Ext.grown {a w w' : World} {row : Option Nat} (h : Ext a w) (hg : w.grownBy w' row) (hr : ∀ k, row = some k → a.heap.size ≤ k) : Ext a w' := Below.grown h hg h.size hr
theorem Ext.cell {w w' : World} (h : Ext w w') {p : Addr} (hp : p.block < w.heap.size) : w'.cell? p = w.cell? p := Below.cell h hp
theorem Ext.below {w w' : World} (h : Ext w w') : Below w.heap.size w w' := h
theorem Ext.of_drew {a w : World} (h : Ext a.drew w) : Ext a w := (Ext.refl a).drew.trans h
theorem ret_int {k : IntKind} {a b : Int} (h : a = b) : Ending.returned (.int k a) = .returned (.int k b) := by rw [h]
theorem ret_str {a b : ByteArray} (h : a = b) : Ending.returned (.string a) = .returned (.string b) := by rw [h]
/-- A contract used behind a world that has grown. -/
theorem Calls.ext {P : Program} {f : FuncId} {args : Array Value} {w w0 : World} {v : Value} {R : Ending → World → Prop}
    (h : Calls P f args w fun e w' => e = .returned v ∧ Ext w w') (h0 : Ext w0 w) (k : ∀ w', Ext w0 w' → R (.returned v) w') : Calls P f args w R :=
  h.mono fun e w' ⟨he, hx⟩ => by subst he; exact k w' (h0.trans hx)
attribute [simp] ofL_data
@[simp] theorem ofL_mk (a : Array UInt8) : ByteArray.mk a = ofL a.toList := rfl
end Go
