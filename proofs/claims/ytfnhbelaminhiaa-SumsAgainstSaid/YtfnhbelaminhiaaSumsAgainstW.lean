/-
  SumsAgainst: the walk.
-/
import Derived.Test.YtfnhbelaminhiaaSumsSh
import Derived.Test.YtfnhbelaminhiaaSumsBu
import Derived.Test.YtfnhbelaminhiaaSumsBent
import Derived.OpenShut
import Derived.Deep.RegionHeld3
import Derived.Deep.Cut
import Derived.Lib.LazyBuf
namespace Go.Sm
/-- l with noughts behind it, n bytes in all. -/
def pad (l : List UInt8) (n : Nat) : List UInt8 := l ++ List.replicate (n - l.length) 0
theorem pad_length (l : List UInt8) (n : Nat) (h : l.length ≤ n) : (pad l n).length = n := by simp [pad]; omega
theorem sums_against (a b : List UInt8) (n : Nat) (ha : a.length ≤ n) (hb : b.length ≤ n) :
    (sum (xorL (pad a n) (pad b n)) ^^^ sum (List.replicate n 0)) = sum (pad a n) ^^^ sum (pad b n) := by
  have h1 := run_xor ones ones (pad a n) (pad b n) (by rw [pad_length _ _ ha, pad_length _ _ hb])
  have h2 := run_xor ones ones (xorL (pad a n) (pad b n)) (List.replicate n 0) (by rw [xorL_length _ _ (by rw [pad_length _ _ ha, pad_length _ _ hb]), pad_length _ _ ha]; simp)
  have h3 : xorL (xorL (pad a n) (pad b n)) (List.replicate n 0) = xorL (pad a n) (pad b n) := by
    have : ∀ l : List UInt8, xorL l (List.replicate l.length 0) = l := fun l => by
      induction l with
      | nil => rfl
      | cons c l ih => simp [List.replicate_succ, xorL, ih]
    have hl : (xorL (pad a n) (pad b n)).length = n := by rw [xorL_length _ _ (by rw [pad_length _ _ ha, pad_length _ _ hb]), pad_length _ _ ha]
    have := this (xorL (pad a n) (pad b n))
    rw [hl] at this
    exact this
  rw [h3] at h2
  have hn : ∀ x y : W32, ~~~ x ^^^ ~~~ y = x ^^^ y := fun x y => by
    apply ext32; intro i hi
    simp only [BitVec.getLsbD_xor, BitVec.getLsbD_not]
    cases x.getLsbD i <;> cases y.getLsbD i <;> simp [hi]
  unfold sum
  rw [hn, hn, ← h2, ← h1]
/-- What stands in the row when the first k bytes are put against each other. -/
def xpart (x y : List UInt8) (k n : Nat) : List UInt8 := (xorL x y).take k ++ List.replicate (n - k) 0
theorem xpart_set {x y : List UInt8} {k n : Nat} (hx : x.length = n) (hy : y.length = n) (hk : k < n) : (xpart x y k n).set k (x.getD k 0 ^^^ y.getD k 0) = xpart x y (k + 1) n := by
  have hl : (xorL x y).length = n := by rw [xorL_length _ _ (by omega), hx]
  have hg : (xorL x y)[k]'(by omega) = x.getD k 0 ^^^ y.getD k 0 := by
    have := xorL_get x y (by omega) k (by omega)
    rw [List.getElem?_eq_getElem (by omega)] at this
    exact Option.some.inj this
  unfold xpart
  rw [List.set_append_right _ _ (by simp; omega)]
  simp only [List.length_take, hl, Nat.min_eq_left (Nat.le_of_lt hk), Nat.sub_self]
  rw [show n - k = (n - (k + 1)) + 1 by omega, List.replicate_succ, List.set_cons_zero, List.take_succ_eq_append_getElem (by omega), hg, List.append_assoc]
  rfl
theorem xor_u8b (c d : UInt8) : bits .xor .u8 (c.toNat : Int) (d.toNat : Int) = ((c ^^^ d).toNat : Int) := by
  rw [u8_xor_nat _ _ c.toNat_lt d.toNat_lt, UInt8.toNat_xor]
end Go.Sm
namespace Go.Proofs.Ytfnhbelaminhiaa
open Go.RowKit Go.Sm Go.Bt
attribute [local go_sem ↓] Go.wp_at_zero Go.wp_at_succ

theorem setCells_block {k b : Nat} (hk : k ≠ b) : ∀ (vs : List Value) (o : Nat) (w : World), (w.setCells b o vs).heap[k]? = w.heap[k]?
  | [], _, _ => rfl
  | v :: r, o, w => by
    rw [World.setCells, setCells_block hk r (o + 1) _]
    show (w.heap.modify b _)[k]? = _
    rw [Array.getElem?_modify, if_neg (fun h => hk h.symm)]
theorem setBlock {w : World} {k b j : Nat} (hk : k ≠ b) (v : Value) (d : World → World := World.drew) (hd : ∀ w, (d w).heap = w.heap := by exact fun _ => rfl) : (d (w.setCell ⟨b, j, none⟩ v)).heap[k]? = w.heap[k]? := by
  rw [hd]
  show (w.heap.modify b _)[k]? = _
  rw [Array.getElem?_modify, if_neg (fun h => hk h.symm)]
theorem Bz.sets {g cap : Nat} : ∀ (news : List UInt8) (o : Nat) (l : List UInt8) (w : World), Bz w g cap l → o + news.length ≤ l.length →
    Bz (w.setCells g o (U8 news)) g cap (l.take o ++ news ++ l.drop (o + news.length))
  | [], o, l, w, h, _ => by simpa [World.setCells, U8] using h
  | c :: r, o, l, w, h, hl => by
    simp only [List.length_cons] at hl
    have := Bz.sets r (o + 1) _ _ (h.set o c) (by rw [List.length_set]; omega)
    have e : (l.set o c).take (o + 1) ++ r ++ (l.set o c).drop (o + 1 + r.length) = l.take o ++ (c :: r) ++ l.drop (o + (c :: r).length) := by
      rw [List.length_cons, ← Nat.add_assoc, Nat.add_right_comm o r.length 1]
      have h1 : (l.set o c).take (o + 1) = l.take o ++ [c] := by
        rw [List.take_succ_eq_append_getElem (by rw [List.length_set]; omega)]
        simp [List.take_set_of_le]
      rw [h1, List.drop_set_of_lt (by omega)]
      simp
    rw [e] at this
    exact this
theorem madeU8 (n : Nat) : (madeCells (Value.int .u8 0).cells (n * 1)).toList = U8 (List.replicate n 0) := by
  refine List.ext_getElem (by simp [madeCells, U8]) fun i h1 h2 => ?_
  simp [madeCells, U8, Value.cells, Nat.mod_one]
theorem make_u8 (n : Nat) (hn : n ≤ 16777216) : ∃ R : Array Value, R.toList = U8 (List.replicate n 0) ∧
    ∀ w, (Instr.makeSlice 46 (.int .i64 n) (.int .i64 n)).run Try.prog w = .ok (.slice (some ⟨w.heap.size, 0, none⟩) n n) (w.alloc (.cells R 5)) := by
  obtain ⟨ti, hti, hz, hsz, hby⟩ := info_parts infoU8
  refine ⟨_, madeU8 n, fun w => ?_⟩
  have hr := run_make (P := Try.prog) w 46 5 ti (.int .u8 0) Try.underlying46 hti hz .i64 .i64 n n (by omega) (Int.le_refl _) (by rw [hby]; omega) (by omega)
  rw [hsz] at hr
  simpa using hr
theorem Bz.new {w : World} {R : Array Value} {n : Nat} (hR : R.toList = U8 (List.replicate n 0)) {g : Nat} (hg : w.heap[g]? = some (.cells R 5)) : Bz w g n (List.replicate n 0) := by
  have hs : R.size = n := by rw [← Array.length_toList, hR, U8_length, List.length_replicate]
  refine ⟨R, 0, 0, hg, hs, by simp, by simp, ?_⟩
  rw [hR, List.take_of_length_le (by rw [U8_length]; exact Nat.le_refl _)]
/-- copy(b, s) of a text that fits. -/
theorem copy_bytes {w : World} {ops : Array Oper} {rest : List Oper} {o : Oper} {a : Act} {Q : Exit → Act → World → Prop} (hgd : o.guard = none) (d x : Nat)
    (ho : o.op = .call { callee := .builtin .copy, args := #[.tmp d, .tmp x], argTypes := #[46, 9] })
    {g cap n : Nat} {l s : List UInt8} (hz : Bz w g cap l) (hln : l.length = n) (hd : a.eval (.tmp d) = .slice (some ⟨g, 0, none⟩) n cap) (hx : a.eval (.tmp x) = .string (ofL s)) (hs : s.length ≤ n)
    (h : ∀ w', w' = w.setCells g 0 (U8 s) → Bz w' g cap (s ++ l.drop s.length) → wpList Try.prog ops Q rest (a.put o.dst (.int .i64 s.length)) w') : wpList Try.prog ops Q (o :: rest) a w := by
  subst hln
  refine wpList_plain hgd fun K hK => ?_
  have hrun := run_copy_string (P := Try.prog) w 46 9 o.type 5 g 0 l.length cap (ofL s) Try.underlying46 (fun w => by kernel_rfl) (by rw [ofL_size]; exact hs)
    (fun j hj => by rw [ofL_size] at hj; rw [Nat.zero_add, hz.cell j (by omega)]; rfl) (fun j hj => by rw [ofL_size] at hj; rw [Nat.zero_add]; exact hz.frozen j (by omega))
  unfold Oper.wp
  simp [execOp, ho, resolve, invoke, builtin, hd, hx, hrun, Result.andThen]
  have hz2 := hz.sets s 0 l w (by omega)
  simp only [List.take_zero, List.nil_append, Nat.zero_add] at hz2
  have := h _ rfl hz2
  exact hK _ _ this
theorem four_allocs (w : World) (o : Obj) : ((((w.alloc o).alloc o).alloc o).alloc o).drew.heap[w.heap.size]? = some o ∧ ((((w.alloc o).alloc o).alloc o).alloc o).drew.heap[w.heap.size + 1]? = some o ∧
    ((((w.alloc o).alloc o).alloc o).alloc o).drew.heap[w.heap.size + 1 + 1]? = some o ∧ ((((w.alloc o).alloc o).alloc o).alloc o).drew.heap[w.heap.size + 1 + 1 + 1]? = some o := by
  have h : ((((w.alloc o).alloc o).alloc o).alloc o).drew.heap = (((w.heap.push o).push o).push o).push o := rfl
  rw [h]
  refine ⟨?_, ?_, ?_, ?_⟩ <;> simp only [Array.getElem?_push, Array.size_push]
  all_goals repeat first | rfl | rw [if_pos rfl] | rw [if_neg (by omega)]
set_option maxRecDepth 100000 in
set_option maxHeartbeats 2000000 in
theorem sumsAgainst_any (a b : List UInt8) (w : World) (ha : a.length ≤ 9223372036854775807) (hb : b.length ≤ 9223372036854775807) :
    Calls Try.prog 13 #[.string (ofL a), .string (ofL b)] w fun e w' => e = .returned (.bool true) ∧ Ext w w' := by
  have hE := Ext.refl w
  by_cases h1 : 1500 < a.length
  · go_enter Try.func13, Try.ntmps13
    go_wp2_with (go_at_call 37; with_reducible refine (works_any _).ext hE (fun w1 hE => ?_))
    go_ret
    exact ⟨rfl, hE⟩
  by_cases h2 : 1500 < b.length
  · go_enter Try.func13, Try.ntmps13
    go_wp2_with (go_at_call 37; with_reducible refine (works_any _).ext hE (fun w1 hE => ?_))
    go_ret
    exact ⟨rfl, hE⟩
  clear ha hb
  obtain ⟨n, hn, han, hbn, hn2⟩ : ∃ n, max a.length b.length = n ∧ a.length ≤ n ∧ b.length ≤ n ∧ n ≤ 1500 := ⟨_, rfl, by omega, by omega, by omega⟩
  obtain ⟨R, hR, hmk⟩ := make_u8 n (by omega)
  have HR := Lib.hid hR
  clear hR
  go_enter Try.func13, Try.ntmps13
  go_upto_region 3 with fail
  go_cut [5] from 10 (fun v wx => v = .slice (some ⟨w.heap.size, 0, none⟩) n n ∧ wx = w.alloc (.cells R 5))
  case first =>
    by_cases hab : a.length < b.length
    · have hnb : n = b.length := by omega
      subst hnb
      go_wp2_with fail
      go_meet
      exact ⟨rfl, rfl⟩
    · have hnb : n = a.length := by omega
      subst hnb
      go_wp2_with fail
      go_meet
      exact ⟨rfl, rfl⟩
  case rest =>
    obtain ⟨rfl, rfl⟩ := hcut
    go_upto_region 4 with fail
    go_cut [6, 7, 8] from 10 (fun vx vy vb wx => ∃ gx gy gb, vx = .slice (some ⟨gx, 0, none⟩) n n ∧ vy = .slice (some ⟨gy, 0, none⟩) n n ∧ vb = .slice (some ⟨gb, 0, none⟩) n n ∧ w.heap.size < gx ∧ w.heap.size < gy ∧ w.heap.size < gb ∧ gx ≠ gy ∧ gx ≠ gb ∧ gy ≠ gb ∧
      Bz wx w.heap.size n (List.replicate n 0) ∧ Bz wx gx n (List.replicate n 0) ∧ Bz wx gy n (List.replicate n 0) ∧ Bz wx gb n (List.replicate n 0) ∧ Ext w wx)
    case first =>
      obtain ⟨q0, q1, q2, q3⟩ := four_allocs w (.cells R 5)
      have B0 := Lib.hid (Bz.new HR.out q0)
      have B1 := Lib.hid (Bz.new HR.out q1)
      have B2 := Lib.hid (Bz.new HR.out q2)
      have B3 := Lib.hid (Bz.new HR.out q3)
      have HX := Lib.hid (((((hE.alloc (.cells R 5)).alloc (.cells R 5)).alloc (.cells R 5)).alloc (.cells R 5)).drew)
      clear q0 q1 q2 q3 HR
      go_region
      all_goals
        go_wp2_with fail
        go_meet
        refine ⟨_, _, _, rfl, rfl, rfl, by omega, by omega, by omega, by omega, by omega, by omega, B0.out, ?_, ?_, ?_, HX.out⟩
        all_goals first | exact B1.out | exact B2.out | exact B3.out
    case rest =>
      obtain ⟨gx, gy, gb, rfl, rfl, rfl, lx, ly, lb, nxy, nxb, nyb, z0, zx, zy, zb, hE⟩ := hcut
      have Z0 := Lib.hid z0
      have Zx := Lib.hid zx
      have Zy := Lib.hid zy
      have Zb := Lib.hid zb
      clear z0 zx zy zb HR hmk
      have hrl : (List.replicate n (0 : UInt8)).length = n := List.length_replicate
      go_wp2_with (first
        | (with_reducible refine copy_bytes rfl 34 35 rfl Zx.out hrl rfl rfl han (fun w3 hw3 hz3 => ?_); have ZX := Lib.hid hz3; clear hz3
           have Z0' := Lib.hid (Z0.out.of_block (w' := w3) (by rw [hw3]; exact setCells_block (by omega) _ _ _))
           have Zy' := Lib.hid (Zy.out.of_block (w' := w3) (by rw [hw3]; exact setCells_block (by omega) _ _ _))
           have Zb' := Lib.hid (Zb.out.of_block (w' := w3) (by rw [hw3]; exact setCells_block (by omega) _ _ _))
           have hE3 : Ext w w3 := by rw [hw3]; exact below_setCells (by omega) _ _ _ hE
           clear hw3)
        | (with_reducible refine copy_bytes rfl 37 38 rfl Zy'.out hrl rfl rfl hbn (fun w4 hw4 hz4 => ?_); have ZY := Lib.hid hz4; clear hz4
           have Z0'' := Lib.hid (Z0'.out.of_block (w' := w4) (by rw [hw4]; exact setCells_block (by omega) _ _ _))
           have ZX'' := Lib.hid (ZX.out.of_block (w' := w4) (by rw [hw4]; exact setCells_block (by omega) _ _ _))
           have Zb'' := Lib.hid (Zb'.out.of_block (w' := w4) (by rw [hw4]; exact setCells_block (by omega) _ _ _))
           have hE4 : Ext w w4 := by rw [hw4]; exact below_setCells (by omega) _ _ _ hE3
           clear hw4))
      clear hE hE3 Z0 Zx Zy Zb Z0' Zy' Zb' ZX hrl
      obtain ⟨X, hX, hXl⟩ : ∃ X, a ++ (List.replicate n (0 : UInt8)).drop a.length = X ∧ X.length = n := ⟨_, rfl, by simp; omega⟩
      obtain ⟨Y, hY, hYl⟩ : ∃ Y, b ++ (List.replicate n (0 : UInt8)).drop b.length = Y ∧ Y.length = n := ⟨_, rfl, by simp; omega⟩
      rw [hX] at ZX''
      rw [hY] at ZY
      have HS := Lib.hid (show (sum (xorL X Y) ^^^ sum (List.replicate n 0)) = sum X ^^^ sum Y by
        have := sums_against a b n han hbn
        unfold pad at this
        rw [← hX, ← hY, List.drop_replicate, List.drop_replicate]
        exact this)
      clear hX hY
      go_loopw [42] (fun i wr => ∃ k : Nat, k ≤ n ∧ i = .int .i64 k ∧ Bz wr w.heap.size n (List.replicate n 0) ∧ Bz wr gx n X ∧ Bz wr gy n Y ∧ Bz wr gb n (xpart X Y k n) ∧ Ext w wr) (fun i _ => n - (intOf i).toNat)
      case atStart => exact ⟨0, by omega, rfl, Z0''.out, ZX''.out, ZY.out, by unfold xpart; exact Zb''.out, hE4⟩
      case round =>
        clear Z0'' ZX'' ZY Zb''
        obtain ⟨k, hk, rfl, z0, zx, zy, zb, hE⟩ := hrel
        have hpl : (xpart X Y k n).length = n := by
          have := xorL_length X Y (by omega)
          simp [xpart]; omega
        by_cases hlt : k < n
        · have c1 := zx.cell k (by omega)
          have c2 := zy.cell k (by omega)
          have c3 := zb.cell k (by omega)
          have f1 := zx.frozen k (by omega)
          have f2 := zy.frozen k (by omega)
          have f3 := zb.frozen k (by omega)
          have hx8 := xor_u8b (X.getD k 0) (Y.getD k 0)
          have ZB := Lib.hid (zb.set k (X.getD k 0 ^^^ Y.getD k 0))
          rw [xpart_set hXl hYl hlt] at ZB
          obtain ⟨x, hxx⟩ : ∃ x, X.getD k 0 = x := ⟨_, rfl⟩
          obtain ⟨y, hyy⟩ : ∃ y, Y.getD k 0 = y := ⟨_, rfl⟩
          rw [hxx] at c1 hx8 ZB
          rw [hyy] at c2 hx8 ZB
          obtain ⟨d, hd⟩ : ∃ d, x ^^^ y = d := ⟨_, rfl⟩
          rw [hd] at hx8 ZB
          have Z0 := Lib.hid z0
          have Zx := Lib.hid zx
          have Zy := Lib.hid zy
          clear z0 zx zy zb hxx hyy hd hpl
          go_upto_region 10 with fail
          go_region
          go_wp2_with fail
          exact ⟨⟨k + 1, by omega, by go_num, Z0.out.of_block (setBlock (by omega) _ _), Zx.out.of_block (setBlock (by omega) _ _), Zy.out.of_block (setBlock (by omega) _ _), ZB.out, Ext.drew (hE.setCell (show w.heap.size ≤ (⟨gb, k, none⟩ : Addr).block from Nat.le_of_lt lb) _)⟩, by simp [intOf]; omega⟩
        · obtain rfl : k = n := by omega
          have hBl := xorL_length X Y (by omega)
          rw [show xpart X Y k k = xorL X Y by unfold xpart; rw [List.take_of_length_le (by omega)]; simp] at zb
          obtain ⟨V, hV⟩ : ∃ V, xorL X Y = V := ⟨_, rfl⟩
          obtain ⟨O, hO, hOl⟩ : ∃ O, List.replicate k (0 : UInt8) = O ∧ O.length = k := ⟨_, rfl, by simp⟩
          rw [hV] at hBl zb HS
          rw [hO] at z0 HS
          have cvx : ∀ w', Ext wr w' → (convert 46 9 (.slice (some ⟨gx, 0, none⟩) k k)).run Try.prog w' = .ok (.string (ofL X)) w' := fun w' hw' => by
            have := (zx.kept hw').string; rw [hXl] at this; exact this
          have cvy : ∀ w', Ext wr w' → (convert 46 9 (.slice (some ⟨gy, 0, none⟩) k k)).run Try.prog w' = .ok (.string (ofL Y)) w' := fun w' hw' => by
            have := (zy.kept hw').string; rw [hYl] at this; exact this
          have cvb : ∀ w', Ext wr w' → (convert 46 9 (.slice (some ⟨gb, 0, none⟩) k k)).run Try.prog w' = .ok (.string (ofL V)) w' := fun w' hw' => by
            have := (zb.kept hw').string; rw [show V.length = k by omega] at this; exact this
          have cv0 : ∀ w', Ext wr w' → (convert 46 9 (.slice (some ⟨w.heap.size, 0, none⟩) k k)).run Try.prog w' = .ok (.string (ofL O)) w' := fun w' hw' => by
            have := (z0.kept hw').string; rw [hOl] at this; exact this
          have S1 := Lib.hid (fun w' => sum_same V w' (by omega))
          have S2 := Lib.hid (fun w' => sum_same O w' (by omega))
          have S3 := Lib.hid (fun w' => sum_same X w' (by omega))
          have S4 := Lib.hid (fun w' => sum_same Y w' (by omega))
          obtain ⟨s1, h1s⟩ : ∃ s, sum V = s := ⟨_, rfl⟩
          obtain ⟨s2, h2s⟩ : ∃ s, sum O = s := ⟨_, rfl⟩
          obtain ⟨s3, h3s⟩ : ∃ s, sum X = s := ⟨_, rfl⟩
          obtain ⟨s4, h4s⟩ : ∃ s, sum Y = s := ⟨_, rfl⟩
          rw [h1s] at S1
          rw [h2s] at S2
          rw [h3s] at S3
          rw [h4s] at S4
          have hs := HS.out
          rw [h1s, h2s, h3s, h4s] at hs
          have e1 := xor_W s1 s2
          have e2 := xor_W s3 s4
          rw [hs] at e1
          obtain ⟨q, hq⟩ : ∃ q, s3 ^^^ s4 = q := ⟨_, rfl⟩
          rw [hq] at e1 e2
          clear z0 zx zy zb HS hV hO h1s h2s h3s h4s hs hq hBl
          go_wp2_with fail
          go_region_held3 (fun w' => Ext wr w') (first | exact Ext.refl _ | exact Ext.drew (Ext.refl _) | assumption | (refine Ext.trans ?_ hx1; first | assumption | exact Ext.refl _ | exact Ext.drew (Ext.refl _))) (first | (go_at_call 33; first | (with_reducible refine (S1.out _).mono ?_; rintro e w1 ⟨rfl, rfl⟩) | (with_reducible refine (S2.out _).mono ?_; rintro e w1 ⟨rfl, rfl⟩) | (with_reducible refine (S3.out _).mono ?_; rintro e w1 ⟨rfl, rfl⟩) | (with_reducible refine (S4.out _).mono ?_; rintro e w1 ⟨rfl, rfl⟩)) | (go_at_call 37; refine (works_any _).mono ?_; rintro e w1 ⟨rfl, hx1⟩))
          go_wp2
          go_ret
          exact ⟨rfl, hE.trans (by assumption)⟩
theorem sumsAgainst_walk (a0 : ByteArray) (w0 : a0.size ≤ maxLen) (a1 : ByteArray) (w1 : a1.size ≤ maxLen) (w : World) :
    Calls Try.prog 13 #[.string a0, .string a1] w fun e w' => e = .returned (.bool true) ∧ Ext w w' := by
  rw [← ofL_data a0, ← ofL_data a1]
  exact sumsAgainst_any a0.data.toList a1.data.toList w (by unfold maxLen at w0; exact w0) (by unfold maxLen at w1; exact w1)
end Go.Proofs.Ytfnhbelaminhiaa
