/-
  The walks of the layer bits: each function's contract.
-/
import Derived.Test.YtajclcbclbppiaaRow
import Derived.Test.YtajclcbclbppiaaBitsPl
import Derived.Test.YtajclcbclbppiaaBitsAr
import Derived.BigQuiet
import Derived.Deep.QuietTactic
namespace Go.Proofs.Ytajclcbclbppiaa
open Go.RowKit Go.Bt

/-! ### Read -/
def readV (l : List UInt8) : Value := match Bt.read l with | some (n, r) => .tuple #[.int .u64 n, .string (ofL r), .bool true] | none => .tuple #[.int .u64 0, .string (ofL []), .bool false]
theorem readV_none {l : List UInt8} (h : Bt.read l = none) : readV l = .tuple #[.int .u64 0, .string (ofL []), .bool false] := by simp [readV, h]
theorem readV_some {l : List UInt8} {n r} (h : Bt.read l = some (n, r)) : readV l = .tuple #[.int .u64 n, .string (ofL r), .bool true] := by simp [readV, h]
/-! ### Var -/
def VarRel (w wr : World) (n : Nat) (m : Value) (v : Value) : Prop :=
  ∃ (x : Nat) (out : List UInt8), m = .int .u64 x ∧ out.length ≤ 9 ∧ x < 2 ^ (64 - 7 * out.length) ∧ var n = out ++ varF (9 - out.length) x ∧ Bs wr w.heap.size v out ∧ Ext w wr
theorem varF_lt {f x : Nat} (h : x < 128) : varF f x = [UInt8.ofNat x] := by cases f <;> simp [varF, h]
theorem varF_ge {f x : Nat} (hf : 0 < f) (h : ¬ x < 128) : varF f x = UInt8.ofNat (x % 128 + 128) :: varF (f - 1) (x / 128) := by
  obtain ⟨f, rfl⟩ : ∃ g, f = g + 1 := ⟨f - 1, by omega⟩
  simp [varF, h]
theorem varStep {n x : Nat} {out : List UInt8} (hx : x < 2 ^ (64 - 7 * out.length)) (hv : var n = out ++ varF (9 - out.length) x) (hk9 : out.length ≤ 9) (hlt : ¬ x < 128) :
    (out ++ [UInt8.ofNat (x % 128 + 128)]).length ≤ 9 ∧ x / 128 < 2 ^ (64 - 7 * (out ++ [UInt8.ofNat (x % 128 + 128)]).length) ∧
    var n = (out ++ [UInt8.ofNat (x % 128 + 128)]) ++ varF (9 - (out ++ [UInt8.ofNat (x % 128 + 128)]).length) (x / 128) := by
  have h9 : out.length < 9 := by
    rcases Nat.lt_or_ge out.length 9 with h | h
    · exact h
    · have : out.length = 9 := by omega
      rw [this] at hx
      simp at hx; omega
  have hs := pow_split out.length (by omega)
  rw [List.length_append, List.length_singleton]
  refine ⟨by omega, by omega, ?_⟩
  rw [hv, varF_ge (by omega) hlt, List.append_assoc, show 9 - (out.length + 1) = 9 - out.length - 1 by omega]
  rfl

/-! ### Sign, Back, Text, Cut -/
def cutV (l : List UInt8) : Value := match Bt.cut l with | some (t, r) => .tuple #[.string (ofL t), .string (ofL r), .bool true] | none => .tuple #[.string (ofL []), .string (ofL []), .bool false]
theorem cutV_none {l : List UInt8} (h : Bt.cut l = none) : cutV l = .tuple #[.string (ofL []), .string (ofL []), .bool false] := by simp [cutV, h]
theorem cutV_some {l : List UInt8} {n r} (h : Bt.cut l = some (n, r)) : cutV l = .tuple #[.string (ofL n), .string (ofL r), .bool true] := by simp [cutV, h]
theorem read_length {l : List UInt8} {n r} (h : Bt.read l = some (n, r)) : r.length ≤ l.length ∧ n < 18446744073709551616 := by
  obtain ⟨rfl, h2⟩ := var_read l n r h
  simp; exact h2
/-! ### Put -/
def putPart (n size k : Nat) : List UInt8 := (List.range size).map fun i => if i < k then UInt8.ofNat (n / 2 ^ (8 * (size - 1 - i))) else 0
theorem putPart_length (n size k : Nat) : (putPart n size k).length = size := by simp [putPart]
theorem putPart_zero (n size : Nat) : putPart n size 0 = List.replicate size 0 := by
  unfold putPart
  refine List.ext_getElem (by simp) fun i h1 h2 => ?_
  simp
theorem putPart_all (n size : Nat) : putPart n size size = put n size := by
  unfold putPart put
  refine List.map_congr_left fun i hi => ?_
  rw [if_pos (by simpa using hi)]
theorem putPart_set (n size k : Nat) : (putPart n size k).set k (UInt8.ofNat (n / 2 ^ (8 * (size - 1 - k)))) = putPart n size (k + 1) := by
  refine List.ext_getElem (by simp [putPart]) fun i h1 h2 => ?_
  simp only [putPart, List.getElem_set, List.getElem_map, List.getElem_range]
  by_cases h : k = i
  · subst h; simp
  · rw [if_neg h]
    by_cases h' : i < k
    · rw [if_pos h', if_pos (by omega)]
    · rw [if_neg h', if_neg (by omega)]
theorem byte_shr (n e : Nat) : (n : Int) / 2 ^ e % 256 = ((UInt8.ofNat (n / 2 ^ e)).toNat : Int) := by
  rw [UInt8.toNat_ofNat', Int.natCast_emod, Int.natCast_ediv, Int.natCast_pow]
  rfl
set_option maxRecDepth 100000 in
theorem put_yes (n s : Nat) (w : World) (hn : n < 18446744073709551616) (h1 : 1 ≤ s) (h8 : s ≤ 8) :
    Calls Try.prog 52 #[.int .u64 n, .int .i64 s] w fun e w' => e = .returned (.string (ofL (put n s))) ∧ Ext w w' := by
  have Hn := Lib.hid hn; clear hn
  go_enter Try.func52, Try.ntmps52
  go_wp2_with (at_make; refine make_bytes rfl 13 13 rfl rfl rfl rfl rfl (by omega) (fun w1 hz hx hlt => ?_))
  try simp only [ofL_mk]
  rw [← putPart_zero n] at hz
  have Hz := Lib.hid hz; clear hz
  go_loopw [16] (fun i wr => ∃ k : Nat, k ≤ s ∧ i = .int .i64 k ∧ Bz wr w.heap.size s (putPart n s k) ∧ Ext w wr) (fun i _ => s - (intOf i).toNat)
  case atStart => exact ⟨0, by omega, rfl, Hz.out, hx⟩
  case round =>
    obtain ⟨k, hk, rfl, hz, hE⟩ := hrel
    by_cases hlt : k < s
    · have hc := hz.cell k (by rw [putPart_length]; exact hlt)
      have hf := hz.frozen k (by rw [putPart_length]; exact hlt)
      have Hz := Lib.hid hz; clear hz
      go_wp2
      rw [byte_shr]
      have hz2 := Hz.out.set k (UInt8.ofNat (n / 2 ^ (8 * (s - 1 - k))))
      rw [putPart_set] at hz2
      exact ⟨⟨k + 1, by omega, by go_num, hz2, hE.setCell (Nat.le_refl _) _⟩, by simp [intOf]; omega⟩
    · obtain rfl : k = s := by omega
      have hs := hz.string
      rw [putPart_length] at hs
      have Hz := Lib.hid hz; clear hz
      go_wp2
      go_ret
      exact ⟨by rw [← putPart_all]; rfl, hE⟩
theorem put_at (n s : Nat) (i : Int) (hi : i = s) (w : World) (hn : n < 18446744073709551616) (h1 : 1 ≤ s) (h8 : s ≤ 8) :
    Calls Try.prog 52 #[.int .u64 n, .int .i64 i] w fun e w' => e = .returned (.string (ofL (put n s))) ∧ Ext w w' := by
  subst hi; exact put_yes n s w hn h1 h8
theorem put_no (n : Nat) (i : Int) (w : World) (h : i < 1 ∨ 8 < i) :
    Calls Try.prog 52 #[.int .u64 n, .int .i64 i] w fun e w' => e = .returned (.string (ofL [])) ∧ Ext w w' := by
  have h' : i < 1 ∨ ¬ i < 1 ∧ 8 < i := by omega
  clear h
  rcases h' with h | ⟨h, h2⟩
  all_goals
    go_enter Try.func52, Try.ntmps52
    go_wp2
    go_ret
    exact ⟨rfl, Ext.refl _⟩
/-! ### Get -/
theorem getF_snoc (n : Nat) (l : List UInt8) (c : UInt8) : getF n (l ++ [c]) = getF n l * 256 + c.toNat := by
  induction l generalizing n with
  | nil => rfl
  | cons d ds ih => exact ih _
theorem getF_lt (l : List UInt8) (n : Nat) (k : Nat) (h : n < 256 ^ k) : getF n l < 256 ^ (k + l.length) := by
  induction l generalizing n k with
  | nil => simpa [getF] using h
  | cons c cs ih =>
    have hc := c.toNat_lt
    have := ih (n * 256 + c.toNat) (k + 1) (by rw [Nat.pow_succ]; omega)
    simp only [getF, List.length_cons]
    rw [show k + (cs.length + 1) = k + 1 + cs.length by omega]
    exact this
theorem getF_take_lt (l : List UInt8) (k : Nat) : getF 0 (l.take k) < 256 ^ k := by
  have h1 := getF_lt (l.take k) 0 0 (by simp)
  have h2 : (l.take k).length ≤ k := by simp; omega
  have h3 : 256 ^ (0 + (l.take k).length) ≤ 256 ^ k := Nat.pow_le_pow_right (by omega) (by omega)
  omega
theorem get_lt (l : List UInt8) : Bt.get l < 18446744073709551616 := getF_take_lt l 8
theorem take_snoc (l : List UInt8) (k : Nat) (h : k < l.length) : l.take (k + 1) = l.take k ++ [l[k]] := by
  rw [List.take_succ_eq_append_getElem h]
theorem get_or (m c : Nat) (hm : m < 72057594037927936) (hc : c < 256) : bits .or .u64 (IntKind.u64.wrap ((m : Int) * 256)) (IntKind.u64.wrap (c : Int)) = ((m * 256 + c : Nat) : Int) := by
  have e1 : IntKind.u64.wrap ((m : Int) * 256) = ((m * 256 : Nat) : Int) := by rw [IntKind.wrap_u64]; omega
  have e2 : IntKind.u64.wrap (c : Int) = (c : Int) := by rw [IntKind.wrap_u64]; omega
  rw [e1, e2, u64_or_nat _ _ (by omega) (by omega), nat_join 8 _ _ (by omega) (by omega)]
set_option maxRecDepth 100000 in
theorem get_any (l : List UInt8) (w : World) (hl : l.length ≤ 16777216) :
    Calls Try.prog 85 #[.string (ofL l)] w fun e w' => e = .returned (.int .u64 (Bt.get l)) ∧ Ext w w' := by
  by_cases h8 : l.length ≤ 8
  all_goals
    go_enter Try.func85, Try.ntmps85
    go_wp2
    go_loop [3, 8] (fun n i => ∃ k : Nat, k ≤ l.length ∧ k ≤ 8 ∧ i = .int .i64 k ∧ n = .int .u64 (getF 0 (l.take k))) (fun _ i => 8 - (intOf i).toNat)
    case atStart => exact ⟨0, by omega, by omega, rfl, rfl⟩
    case round =>
      obtain ⟨k, hk, hk8, rfl, rfl⟩ := hrel
      by_cases hlt : k < l.length ∧ k < 8
      · obtain ⟨h1, h2⟩ := hlt
        have hm : getF 0 (l.take k) < 72057594037927936 := by
          have h3 := getF_take_lt l k
          have h4 : 256 ^ k ≤ 256 ^ 7 := Nat.pow_le_pow_right (by omega) (by omega)
          have : (256 : Nat) ^ 7 = 72057594037927936 := by decide
          omega
        have Hm := Lib.hid (get_or (getF 0 (l.take k)) (l[k]).toNat hm (l[k]).toNat_lt)
        have Ht := Lib.hid (take_snoc l k h1)
        clear hm
        go_wp2
        go_round
        case rel => exact ⟨k + 1, by omega, by omega, by go_num, by rw [Hm.out, Ht.out, getF_snoc]⟩
        case measure => simp [intOf]; omega
      · have he : getF 0 (l.take k) = Bt.get l := by
          unfold Bt.get
          rcases Nat.lt_or_ge k l.length with h | h
          · rw [show k = 8 by omega]
          · rw [List.take_of_length_le h, List.take_of_length_le (by omega)]
        have He := Lib.hid he; clear he
        go_wp2
        go_ret
        exact ⟨by rw [← He.out]; rfl, Ext.refl _⟩
end Go.Proofs.Ytajclcbclbppiaa
