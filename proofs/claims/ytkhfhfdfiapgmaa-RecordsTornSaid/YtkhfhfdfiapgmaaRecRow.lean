/-
  The walk of Row; payloads as an argument.
-/
import Derived.Test.YtkhfhfdfiapgmaaRecRd
import Derived.Deep.Strs
import Derived.OpenShut
import Derived.ProofKit
namespace Go.Rc
/-- Where the records of a row end. -/
def ends : Nat → List (List UInt8) → List Int
  | a, [] => [(a : Int)]
  | a, p :: ps => (a : Int) :: ends (a + p.length + 8) ps
theorem ends_length : ∀ (a : Nat) (ps : List (List UInt8)), (ends a ps).length = ps.length + 1
  | _, [] => rfl
  | a, p :: ps => by simp [ends, ends_length]
theorem rowL_snoc (ps : List (List UInt8)) (p : List UInt8) : rowL (ps ++ [p]) = rowL ps ++ recL p := by simp [rowL]
theorem ends_snoc : ∀ (a : Nat) (ps : List (List UInt8)) (p : List UInt8), ends a (ps ++ [p]) = ends a ps ++ [((a + (rowL ps).length + p.length + 8 : Nat) : Int)]
  | a, [], p => by simp [ends, rowL]
  | a, q :: ps, p => by
    show (a : Int) :: ends (a + q.length + 8) (ps ++ [p]) = _
    rw [ends_snoc]
    have : a + q.length + 8 + (rowL ps).length + p.length + 8 = a + (rowL (q :: ps)).length + p.length + 8 := by rw [rowL_cons, List.length_append, recL_length]; omega
    rw [this]; rfl
theorem ends_get : ∀ (a : Nat) (ps : List (List UInt8)) (k : Nat), k ≤ ps.length → (ends a ps).getD k 0 = ((a + (rowL (ps.take k)).length : Nat) : Int)
  | a, [], 0, _ => by simp [ends, rowL]
  | a, p :: ps, 0, _ => by simp [ends, rowL]
  | a, p :: ps, k + 1, h => by
    show (ends (a + p.length + 8) ps).getD k 0 = _
    rw [ends_get _ ps k (by simpa using h)]
    have : a + p.length + 8 + (rowL (ps.take k)).length = a + (rowL ((p :: ps).take (k + 1))).length := by rw [List.take_succ_cons, rowL_cons, List.length_append, recL_length]; omega
    rw [this]
def I64 (l : List Int) : List Value := l.map (fun x => .int .i64 x)
theorem I64_get (l : List Int) (k : Nat) (hk : k < l.length) : (I64 l)[k]? = some (.int .i64 (l.getD k 0)) := by simp [I64, List.getElem?_eq_getElem hk]
end Go.Rc
namespace Go.Proofs.Ytkhfhfdfiapgmaa
open Go.RowKit Go.Rc Go.Deep Go.ChangeShapes Go.WideShapes
/-- Payloads as an argument: a row of strings. -/
def Strs (w : World) (v : Value) (L : List (List UInt8)) : Prop :=
  (∀ x ∈ L, x.length ≤ 9223372036854775807) ∧ L.length ≤ maxLen ∧ ((∃ ao cap, v = .slice ao 0 cap ∧ L = []) ∨
    ∃ g o cap, v = .slice (some ⟨g, o, none⟩) L.length cap ∧ L.length ≤ cap ∧ 0 < L.length ∧ g < w.heap.size ∧ ∀ i (h : i < L.length), w.cell? ⟨g, o + i, none⟩ = some (.string (ofL L[i])))
section
variable {H : Type} {enc : TypeId × Value → H} {w : World} {base : Nat} {sp : Nat → Bool} {held : Bool}
theorem open_strs_arg {r : Reach} {b0 : Nat} {v : Value} {d : DataW H} {ps : List MemPlace} (hval : Value.okWide Try.prog w r b0 27 v) (h : DataW.Trod enc Try.prog w base sp held 27 v d ps) : ∃ L, Strs w v L := by
  obtain ⟨n, hn⟩ := h
  have key : ∃ u L, v.cells.toList = [u] ∧ Strs w u L := by
    rcases open_slice1 Try.underlying27 (by kernel_rfl) hn with ⟨h1, _⟩ | ⟨a, len, cap, m, k, V, D, Pl, h1, hb, hl, hm, hmm, _, hx⟩
    · exact ⟨_, [], h1, fun _ h => (by cases h), by simp, .inl ⟨_, _, rfl, rfl⟩⟩
    have hlm : len ≤ m := by rw [hmm]; split <;> omega
    have each : ∀ i, i < len → ∃ q : List UInt8, w.cell? (a.add i) = some (.string (ofL q)) ∧ q.length ≤ 9223372036854775807 := fun i hi => by
      obtain ⟨c1, c2⟩ := hx i (by omega)
      obtain ⟨s, hs, _, hsl⟩ := DataW.trod_string Try.underlying9 c2
      simp only [List.cons.injEq, and_true] at hs
      exact ⟨s.data.toList, by rw [c1, hs, ofL_data], hsl⟩
    obtain ⟨q, hq⟩ := choose_lt each
    refine ⟨_, (List.range len).map q, h1, fun x hx => ?_, by simp; omega, ?_⟩
    · obtain ⟨i, hi, rfl⟩ := List.mem_map.1 hx
      exact (hq i (List.mem_range.1 hi)).2
    · rcases Nat.eq_zero_or_pos len with rfl | hpos
      · exact .inl ⟨_, _, rfl, rfl⟩
      · right
        have h0 := (hq 0 hpos).1
        obtain ⟨g, o, sp'⟩ := a
        have hsp : sp' = none := by simpa [Addr.add] using World.cell?_spot h0
        subst hsp
        have hadd : ∀ k, (⟨g, o, none⟩ : Addr).add k = ⟨g, o + k, none⟩ := fun k => by unfold Addr.add; split <;> simp_all
        have hg : g < w.heap.size := by
          rw [hadd] at h0
          rcases Nat.lt_or_ge g w.heap.size with h | h
          · exact h
          · simp only [World.cell?, Array.getElem?_eq_none h] at h0
            cases h0
        refine ⟨g, o, cap, by simp, by simpa using hl, by simpa using hpos, hg, fun i hi => ?_⟩
        have hi' : i < len := by simpa using hi
        have := (hq i hi').1
        rw [hadd] at this
        rw [this]
        simp
  obtain ⟨u, L, h1, h2⟩ := key
  have : v = u := by
    cases v <;> simp only [Value.cells, List.cons.injEq, and_true] at h1 <;> first | exact h1 | skip
    simp [Value.okWide, Cell.okWide, Try.underlying27, Cell.ok] at hval
  rw [this]; exact ⟨L, h2⟩
end
/-- The row that Row makes, if it makes one. -/
def rowOk (L : List (List UInt8)) : Prop := L.length ≤ 20 ∧ ∀ x ∈ L, x.length ≤ 500
theorem rowL_le (L : List (List UInt8)) (h : ∀ x ∈ L, x.length ≤ 500) : (rowL L).length ≤ 508 * L.length := by
  induction L with
  | nil => simp [rowL]
  | cons p ps ih =>
    rw [rowL_cons, List.length_append, recL_length]
    have := ih (fun x hx => h x (by simp [hx]))
    have := h p (by simp)
    simp only [List.length_cons]; omega
theorem infoInt : (Try.prog.info? 3).map (fun i => (i.zero, i.size, i.bytes)) = some (some (.int .i64 0), 1, 8) := by kernel_rfl
theorem append_int {w : World} {ao : Option Addr} {n cap : Nat} {L : List Int} (h : Rw w 1 ao n cap (I64 L)) {x : Value} (y : Int) (hs : Src Try.prog 1 29 x 1 [.int .i64 y] w) (hl : n + 1 ≤ 16777216) (ty : TypeId) :
    ∃ ao' cap' w', (Builtin.append_ #[29, 29] ty #[.slice ao n cap, x]).run Try.prog w = .ok (.slice ao' (n + 1) cap') w' ∧
      (Rw w' 1 ao' (n + 1) cap' (I64 (L ++ [y])) ∧ Fr (fun k => ob ao = some k) w w' ∧ (ao' = ao ∨ ∃ g, ao' = some ⟨g, 0, none⟩ ∧ w.heap.size ≤ g)) := by
  obtain ⟨ti, hti, hz, hsz, hby⟩ := info_parts infoInt
  obtain ⟨ao', cap', w', h1, h2, h3⟩ := h.append 29 29 ty 3 ti _ 8 Try.underlying29 hti hz hsz hby rfl x 1 _ hs (by unfold maxLen; omega) (by omega)
  refine ⟨ao', cap', w', h1, ?_, h3⟩
  have e : I64 (L ++ [y]) = I64 L ++ [.int .i64 y] := by simp [I64]
  rw [e]
  exact h2
theorem new_int (W : World) (y : Int) (g : Nat) (hg : g = W.heap.size) : Src Try.prog 1 29 (.slice (some ⟨g, 0, none⟩) 1 1) 1 [.int .i64 y] (W.alloc (.cells #[.int .i64 y] 3)) := by
  subst hg
  have hb := heap_alloc_new W (.cells #[.int .i64 y] 3)
  refine Src.ofSlice _ (e' := 3) Try.underlying29 _ 1 1 _ (by simp) (fun j u hj => ?_) (fun u hu => by simp at hu; subst hu; rfl)
  have : (⟨W.heap.size, 0, none⟩ : Addr).add j = ⟨W.heap.size, j, none⟩ := by unfold Addr.add; split <;> simp_all
  rw [this]
  simp only [World.cell?, hb]
  simpa using hj
theorem int_row (W : World) (t : TypeId) : Rw (W.alloc (.cells #[.int .i64 0] t)) 1 (some ⟨W.heap.size, 0, none⟩) 1 1 (I64 (ends 0 [])) := by
  have hb := heap_alloc_new W (.cells #[.int .i64 0] t)
  refine ⟨rfl, Nat.le_refl _, by decide, .inr ⟨W.heap.size, rfl, by simp, fun j hj => ?_, fun j hj => ?_⟩⟩
  · obtain rfl : j = 0 := by omega
    exact ⟨by simp only [World.cell?, hb]; rfl, by simp only [World.frozen?, hb]; simp⟩
  · obtain rfl : j = 0 := by omega
    simp only [World.cell?, hb]; rfl
set_option maxHeartbeats 1000000 in
set_option maxRecDepth 100000 in
theorem row_yes {w : World} {v : Value} {L : List (List UInt8)} (hS : Strs w v L) (hok : rowOk L) :
    Calls Try.prog 13 #[v] w fun e w' => ∃ ao cap, e = .returned (.tuple #[.string (ofL (rowL L)), .slice ao (L.length + 1) cap, .bool true]) ∧
      Rw w' 1 ao (L.length + 1) cap (I64 (ends 0 L)) ∧ Ext w w' := by
  obtain ⟨ao, n, cap, hv, hn⟩ : ∃ ao n cap, v = .slice ao n cap ∧ L.length = n := by
    rcases hS.2.2 with ⟨ao, cap, rfl, rfl⟩ | ⟨g, o, cap, rfl, _⟩
    · exact ⟨_, _, _, rfl, rfl⟩
    · exact ⟨_, _, _, rfl, rfl⟩
  subst hv
  rw [hn]
  have hn20 : n ≤ 20 := by have := hok.1; omega
  have HS := Lib.hid hS
  have HO := Lib.hid hok
  clear hS hok
  go_enter Try.func13, Try.ntmps13
  go_wp2
  go_loopw [5, 6, 7] (fun s at_ i wr => ∃ (k : Nat) (ao' : Option Addr) (cap' : Nat), k ≤ n ∧ i = .int .i64 k ∧ s = .string (ofL (rowL (L.take k))) ∧ at_ = .slice ao' (k + 1) cap' ∧ Rw wr 1 ao' (k + 1) cap' (I64 (ends 0 (L.take k))) ∧
      (∀ g, ob ao' = some g → w.heap.size ≤ g) ∧ Ext w wr) (fun _ _ i _ => n - (intOf i).toNat)
  case atStart => exact ⟨0, some ⟨w.heap.size, 0, none⟩, 1, by omega, rfl, rfl, rfl, int_row w _, fun g hg => by simp [ob] at hg; omega, (Ext.refl w).alloc _⟩
  case round =>
    obtain ⟨k, ao', cap', hk, rfl, rfl, rfl, hr, hf, hE⟩ := hrel
    have Hr := Lib.hid hr
    have Hf := Lib.hid hf
    clear hr hf
    by_cases hlt : k < n
    · have hkL : k < L.length := by omega
      obtain ⟨g, o, hao, hc⟩ : ∃ g o, ao = some ⟨g, o, none⟩ ∧ ∀ w', Ext w w' → w'.cell? ⟨g, o + k, none⟩ = some (.string (ofL L[k])) := by
        rcases HS.out.2.2 with ⟨_, _, _, hnil⟩ | ⟨g, o, c2, hve, _, hpos, hg, hc⟩
        · subst hnil; simp at hkL
        · simp only [Value.slice.injEq] at hve
          exact ⟨g, o, hve.1, fun w' hx => by rw [hx.cell (p := ⟨g, o + k, none⟩) hg]; exact hc k hkL⟩
      subst hao
      have hc0 := hc wr hE
      obtain ⟨p, hp⟩ : ∃ p, p = L[k] := ⟨_, rfl⟩
      have hp5 : p.length ≤ 500 := by rw [hp]; exact HO.out.2 _ (List.getElem_mem _)
      rw [← hp] at hc0
      have htk : L.take (k + 1) = L.take k ++ [p] := by rw [hp, List.take_succ_eq_append_getElem hkL]
      have hrow : (rowL (L.take k)).length ≤ 508 * 20 := by
        have := rowL_le (L.take k) (fun x hx => HO.out.2 x (List.mem_of_mem_take hx))
        have : (L.take k).length ≤ 20 := by rw [List.length_take]; omega
        omega
      have P1 := Lib.hid (fun w' => refRput_yes p w' (by omega))
      have hrl : (recL p).length = p.length + 8 := recL_length p
      have hR2 := rowL_snoc (L.take k) p
      have hE2 := ends_snoc 0 (L.take k) p
      rw [← htk] at hR2 hE2
      obtain ⟨q, hq⟩ : ∃ q, recL p = q := ⟨_, rfl⟩
      obtain ⟨R, hRR⟩ : ∃ R, rowL (L.take k) = R := ⟨_, rfl⟩
      rw [hq] at P1 hrl hR2
      rw [hRR] at hR2 hE2 hrow ⊢
      have hR2 := Lib.hid hR2
      have hE2 := Lib.hid hE2
      clear hc hp htk hq hRR
      go_wp2_with (first | (go_at_call 11; with_reducible refine (P1.out _).mono ?_; rintro e w1 ⟨rfl, hx1⟩; have Hx1 := Lib.hid hx1; clear hx1) | (at_builtin; refine wpList_append_rw rfl (.tmp 37) (.tmp 40) _ _ rfl rfl rfl (append_int ((Hr.out.ext Hx1.out).ext ((Ext.refl _).alloc _)) _ (new_int _ _ _ rfl) (by omega) _) (fun ao2 cap2 w4 hR => ?_); have HR := Lib.hid hR; clear hR))
      obtain ⟨hr1, hr2, hr3⟩ := HR.out
      have hE1 := hE.trans Hx1.out
      refine ⟨⟨k + 1, ao2, cap2, by omega, by go_num, by rw [hR2.out], rfl, ?_, fun g hg => ?_, Fr.grownFrom hr2 (hE1.alloc _) (fun k hk => Hf.out k hk)⟩, by simp [intOf]; omega⟩
      · rw [hE2.out, show ((0 + R.length + p.length + 8 : Nat) : Int) = (R.length : Int) + ((p.length : Int) + 8) by omega]
        exact hr1
      · rcases hr3 with rfl | ⟨j, rfl, hj⟩
        · exact Hf.out g hg
        · obtain rfl : j = g := by simpa [ob] using hg
          have := hE1.size; simp at hj; omega
    · obtain rfl : k = n := by omega
      have htk : L.take k = L := List.take_of_length_le (by omega)
      rw [htk] at Hr ⊢
      go_wp2_with fail
      go_ret3
      exact ⟨ao', cap', rfl, Hr.out, hE⟩
set_option maxHeartbeats 1000000 in
set_option maxRecDepth 100000 in
theorem row_no {w : World} {v : Value} {L : List (List UInt8)} (hS : Strs w v L) (hok : ¬ rowOk L) :
    Calls Try.prog 13 #[v] w fun e w' => e = .returned (.tuple #[.string (ofL []), .slice none 0 0, .bool false]) ∧ Ext w w' := by
  obtain ⟨ao, n, cap, hv, hn⟩ : ∃ ao n cap, v = .slice ao n cap ∧ L.length = n := by
    rcases hS.2.2 with ⟨ao, cap, rfl, rfl⟩ | ⟨g, o, cap, rfl, _⟩
    · exact ⟨_, _, _, rfl, rfl⟩
    · exact ⟨_, _, _, rfl, rfl⟩
  subst hv
  have hmax := hS.2.1
  rw [hn] at hmax
  unfold maxLen at hmax
  by_cases hn20 : n ≤ 20
  · have HS := Lib.hid hS
    have HO := Lib.hid hok
    clear hS hok
    go_enter Try.func13, Try.ntmps13
    go_wp2
    go_loopw [5, 6, 7] (fun s at_ i wr => ∃ (k : Nat) (R : List UInt8) (ao' : Option Addr) (cap' : Nat) (E : List Int), k ≤ n ∧ i = .int .i64 k ∧ s = .string (ofL R) ∧ R.length ≤ 508 * k ∧ (∀ j (hj : j < L.length), j < k → (L[j]).length ≤ 500) ∧ at_ = .slice ao' (k + 1) cap' ∧ Rw wr 1 ao' (k + 1) cap' (I64 E) ∧
        (∀ g, ob ao' = some g → w.heap.size ≤ g) ∧ Ext w wr) (fun _ _ i _ => n - (intOf i).toNat)
    case atStart => exact ⟨0, [], some ⟨w.heap.size, 0, none⟩, 1, _, by omega, rfl, rfl, by simp, fun j _ h => absurd h (by omega), rfl, int_row w _, fun g hg => by simp [ob] at hg; omega, (Ext.refl w).alloc _⟩
    case round =>
      obtain ⟨k, R, ao', cap', E, hk, rfl, rfl, hRl, hpre, rfl, hr, hf, hE⟩ := hrel
      have Hr := Lib.hid hr
      have Hf := Lib.hid hf
      have Hpre := Lib.hid hpre
      clear hr hf hpre
      by_cases hlt : k < n
      · have hkL : k < L.length := by omega
        obtain ⟨g, o, hao, hc⟩ : ∃ g o, ao = some ⟨g, o, none⟩ ∧ ∀ w', Ext w w' → w'.cell? ⟨g, o + k, none⟩ = some (.string (ofL L[k])) := by
          rcases HS.out.2.2 with ⟨_, _, _, hnil⟩ | ⟨g, o, c2, hve, _, hpos, hg, hc⟩
          · subst hnil; simp at hkL
          · simp only [Value.slice.injEq] at hve
            exact ⟨g, o, hve.1, fun w' hx => by rw [hx.cell (p := ⟨g, o + k, none⟩) hg]; exact hc k hkL⟩
        subst hao
        have hc0 := hc wr hE
        obtain ⟨p, hp⟩ : ∃ p, p = L[k] := ⟨_, rfl⟩
        have hpm : p.length ≤ 9223372036854775807 := by rw [hp]; exact HS.out.1 _ (List.getElem_mem _)
        rw [← hp] at hc0
        have Hp := Lib.hid hp
        clear hc hp
        by_cases hp5 : p.length ≤ 500
        · have P1 := Lib.hid (fun w' => refRput_yes p w' (by omega))
          have hrl : (recL p).length = p.length + 8 := recL_length p
          obtain ⟨q, hq⟩ : ∃ q, recL p = q := ⟨_, rfl⟩
          rw [hq] at P1 hrl
          clear hq
          go_wp2_with (first | (go_at_call 11; with_reducible refine (P1.out _).mono ?_; rintro e w1 ⟨rfl, hx1⟩; have Hx1 := Lib.hid hx1; clear hx1) | (at_builtin; refine wpList_append_rw rfl (.tmp 37) (.tmp 40) _ _ rfl rfl rfl (append_int ((Hr.out.ext Hx1.out).ext ((Ext.refl _).alloc _)) _ (new_int _ _ _ rfl) (by omega) _) (fun ao2 cap2 w4 hR => ?_); have HR := Lib.hid hR; clear hR))
          obtain ⟨hr1, hr2, hr3⟩ := HR.out
          have hE1 := hE.trans Hx1.out
          refine ⟨⟨k + 1, R ++ q, ao2, cap2, _, by omega, by go_num, rfl, by rw [List.length_append]; omega, fun j hj hjk => ?_, rfl, hr1, fun g hg => ?_, Fr.grownFrom hr2 (hE1.alloc _) (fun k hk => Hf.out k hk)⟩, by simp [intOf]; omega⟩
          · rcases Nat.lt_or_ge j k with h | h
            · exact Hpre.out j hj h
            · obtain rfl : j = k := by omega
              rw [← Hp.out]; exact hp5
          · rcases hr3 with rfl | ⟨j, rfl, hj⟩
            · exact Hf.out g hg
            · obtain rfl : j = g := by simpa [ob] using hg
              have := hE1.size; simp at hj; omega
        · go_wp2_with fail
          go_ret3
          exact ⟨rfl, hE⟩
      · exfalso
        exact HO.out ⟨by omega, fun x hx => by
          obtain ⟨j, hj, rfl⟩ := List.mem_iff_getElem.1 hx
          exact Hpre.out j hj (by omega)⟩
  · clear hS hok
    go_enter Try.func13, Try.ntmps13
    go_wp2_with fail
    go_ret3
    exact ⟨rfl, Ext.refl _⟩
end Go.Proofs.Ytkhfhfdfiapgmaa
