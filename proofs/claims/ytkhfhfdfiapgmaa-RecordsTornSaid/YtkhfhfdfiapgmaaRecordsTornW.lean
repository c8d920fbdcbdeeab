/-
  The walk of RecordsTorn.
-/
import Derived.Test.YtkhfhfdfiapgmaaRecordsRowW
namespace Go.Rc
theorem rowL_append (a b : List (List UInt8)) : rowL (a ++ b) = rowL a ++ rowL b := by simp [rowL]
theorem endOf_itsOf : ∀ (ps : List (List UInt8)) (a : Nat), ps ≠ [] → endOf (itsOf a ps) = a + (rowL ps).length
  | [], _, h => absurd rfl h
  | [p], a, _ => by simp [itsOf, endOf, rowL, recL_length]; omega
  | p :: q :: ps, a, _ => by
    have ih := endOf_itsOf (q :: ps) (a + p.length + 8) (by simp)
    have e : endOf (itsOf a (p :: q :: ps)) = endOf (itsOf (a + p.length + 8) (q :: ps)) := by simp [endOf, itsOf]
    rw [e, ih, rowL_cons p, List.length_append, recL_length]; omega
theorem endOf_all (ps : List (List UInt8)) : endOf (itsOf 0 ps) = (rowL ps).length := by
  cases ps with
  | nil => rfl
  | cons p ps => rw [endOf_itsOf _ _ (by simp)]; omega
theorem torn_its (L : List (List UInt8)) (hok : ∀ p ∈ L, p.length ≤ 65536) (k m : Nat) (hk : k ≤ (rowL L).length) (hm : m ≤ L.length) (h1 : (rowL (L.take m)).length ≤ k) (h2 : m = L.length ∨ k < (rowL (L.take (m + 1))).length) :
    itsAt ((rowL L).take k) 0 = itsOf 0 (L.take m) := by
  have hsp : rowL L = rowL (L.take m) ++ rowL (L.drop m) := by rw [← rowL_append, List.take_append_drop]
  have htk : (rowL L).take k = rowL (L.take m) ++ (rowL (L.drop m)).take (k - (rowL (L.take m)).length) := by
    rw [hsp, List.take_append, List.take_of_length_le h1]
  have hrow := itsAt_row (L.take m) [] ((rowL (L.drop m)).take (k - (rowL (L.take m)).length)) (fun p hp => hok p (List.mem_of_mem_take hp))
  rw [List.nil_append, ← htk] at hrow
  have hnone : getR ((rowL L).take k) (rowL (L.take m)).length = none := by
    by_cases he : m = L.length
    · subst he
      rw [List.take_of_length_le (Nat.le_refl _)] at h1 ⊢
      exact getR_short _ _ (by rw [List.length_take]; omega)
    · have hm2 : m < L.length := by omega
      have hd : L.drop m = L[m] :: L.drop (m + 1) := List.drop_eq_getElem_cons hm2
      have ht : L.take (m + 1) = L.take m ++ [L[m]] := List.take_succ_eq_append_getElem hm2
      have h3 := h2.resolve_left he
      rw [ht, rowL_snoc, List.length_append, recL_length] at h3
      rw [htk, hd, rowL_cons, List.take_append_of_le_length (by rw [recL_length]; omega)]
      exact getR_cut _ _ _ (hok _ (List.getElem_mem hm2)) (by omega)
  have hn2 : itsAt ((rowL L).take k) (([] : List UInt8).length + (rowL (L.take m)).length) = [] := by rw [List.length_nil, Nat.zero_add]; exact itsAt_none hnone
  rw [hn2, List.append_nil] at hrow
  exact hrow
end Go.Rc
namespace Go.Proofs.Ytkhfhfdfiapgmaa
open Go.RowKit Go.Rc
/-- The first m of the payloads, where they stand. -/
def Fro (w : World) (ao : Option Addr) (m : Nat) (L : List (List UInt8)) : Prop := m = 0 ∨ ∃ g o, ao = some ⟨g, o, none⟩ ∧ g < w.heap.size ∧ ∀ i, i < m → w.cell? ⟨g, o + i, none⟩ = (Se L)[i]?
set_option maxHeartbeats 1000000 in
set_option maxRecDepth 100000 in
theorem texts_front {w : World} {ao bo : Option Addr} {n ca cb : Nat} {L : List (List UInt8)} (ha : Rw w 1 ao n ca (Se L)) (hb : Fro w bo n L) (hn : n ≤ 16777216) :
    Calls Try.prog 15 #[.slice ao n ca, .slice bo n cb] w fun e w' => e = .returned (.bool true) ∧ Ext w w' := by
  have hl := ha.len
  rw [Se_length, Nat.mul_one] at hl
  have Ha := Lib.hid ha
  have Hb := Lib.hid hb
  clear ha hb
  go_enter Try.func15, Try.ntmps15
  go_wp2
  go_loopw [5] (fun i wr => (∃ k : Nat, k ≤ n ∧ i = .int .i64 k) ∧ Ext w wr) (fun i _ => n - (intOf i).toNat)
  case atStart => exact ⟨⟨0, by omega, rfl⟩, Ext.refl _⟩
  case round =>
    obtain ⟨⟨k, hk, rfl⟩, hE⟩ := hrel
    by_cases hlt : k < n
    · obtain ⟨g, rfl, hg, hx1, hx2⟩ := (Ha.out.ext hE).row (by omega)
      obtain ⟨f, o, rfl, hf, hx3⟩ := Hb.out.resolve_left (by omega)
      have c0 := hx1 k (by omega)
      have d0 : wr.cell? ⟨f, o + k, none⟩ = some (.string (ofL L[k])) := by rw [hE.cell (p := ⟨f, o + k, none⟩) hf, hx3 k hlt, Se_get L k (by omega)]
      rw [Se_get L k (by omega)] at c0
      clear hx1 hx2 hx3
      go_wp2
      go_quiet (fail)
      all_goals
        go_wp2
        exact ⟨⟨⟨k + 1, by omega, by go_num⟩, hE.drewN _⟩, by simp [intOf]; omega⟩
    · have : k = n := by omega
      subst this
      go_wp2
      go_ret
      exact ⟨rfl, hE⟩
theorem Fro.ext {w w' : World} {ao : Option Addr} {m : Nat} {L : List (List UInt8)} (h : Fro w ao m L) (hx : Ext w w') : Fro w' ao m L := by
  rcases h with h | ⟨g, o, h1, h2, h3⟩
  · exact .inl h
  · exact .inr ⟨g, o, h1, Nat.lt_of_lt_of_le h2 hx.size, fun i hi => (hx.cell (p := ⟨g, o + i, none⟩) h2).trans (h3 i hi)⟩
theorem strs_front {w : World} {ao : Option Addr} {n cap : Nat} {L : List (List UInt8)} (h : Strs w (.slice ao n cap) L) (hn : L.length = n) (m : Nat) (hm : m ≤ n) : m ≤ cap ∧ ∀ w', Ext w w' → Fro w' ao m (L.take m) := by
  rcases h.2.2 with ⟨_, _, _, hnil⟩ | ⟨g, o, c2, hve, hcp, hpos, hg, hc⟩
  · subst hnil; simp at hn; exact ⟨by omega, fun w' _ => .inl (by omega)⟩
  · simp only [Value.slice.injEq] at hve
    obtain ⟨h1, h2, h3⟩ := hve
    refine ⟨by omega, fun w' hx => .inr ⟨g, o, h1, Nat.lt_of_lt_of_le hg hx.size, fun i hi => ?_⟩⟩
    rw [hx.cell (p := ⟨g, o + i, none⟩) hg, hc i (by omega), Se_get _ i (by rw [List.length_take]; omega), List.getElem_take]
set_option maxHeartbeats 2000000 in
set_option maxRecDepth 100000 in
theorem recordsTorn_any (w : World) (v : Value) (L : List (List UInt8)) (hS : Strs w v L) (pl : Nat) (hpl : pl < 65536) :
    Calls Try.prog 6 #[v, .int .u16 pl] w fun e w' => e = .returned (.bool true) ∧ Ext w w' := by
  by_cases hok : rowOk L
  · have R1 := Lib.hid (row_yes hS hok)
    have HS := Lib.hid hS
    have HO := Lib.hid hok
    obtain ⟨ao, n, cap, hv, hn⟩ : ∃ ao n cap, v = .slice ao n cap ∧ L.length = n := by
      rcases hS.2.2 with ⟨ao, cap, rfl, rfl⟩ | ⟨g, o, cap, rfl, _⟩
      · exact ⟨_, _, _, rfl, rfl⟩
      · exact ⟨_, _, _, rfl, rfl⟩
    subst hv
    have hn20 := hok.1
    have hrl := rowL_le L hok.2
    obtain ⟨R, hR⟩ : ∃ R, rowL L = R := ⟨_, rfl⟩
    rw [hR, hn] at R1
    rw [hn] at hn20
    rw [hR, hn] at hrl
    obtain ⟨k, hk, hkk⟩ := mod_nat pl (R.length + 1) (by omega)
    have hkk3 : (pl : Int) % ((R.length : Int) + 1) = (k : Int) := by rw [← hkk]; rfl
    have HR := Lib.hid hR
    clear hkk hS hok hR
    go_enter Try.func6, Try.ntmps6
    go_wp2_with (go_at_call 13; with_reducible refine R1.out.mono ?_; rintro e w1 ⟨bo, bc, rfl, hr, hE⟩; have Hr := Lib.hid hr; clear hr)
    go_loopw [9] (fun i wr => (∃ m : Nat, m ≤ n ∧ i = .int .i64 m ∧ (rowL (L.take m)).length ≤ k) ∧ wr = w1) (fun i _ => n - (intOf i).toNat)
    case atStart => exact ⟨⟨0, by omega, rfl, by simp [rowL]⟩, rfl⟩
    case round =>
      obtain ⟨⟨m, hm, rfl, hmk⟩, rfl⟩ := hrel
      obtain ⟨g, rfl, hg, hx1, hx2⟩ := Hr.out.row (by omega)
      have c0 := hx1 m (by omega)
      rw [I64_get _ m (by rw [ends_length]; omega), show (ends 0 L).getD m 0 = (((rowL (L.take m)).length : Nat) : Int) by have := ends_get 0 L m (by omega); simpa using this] at c0
      obtain ⟨e0, he0⟩ : ∃ e0, (rowL (L.take m)).length = e0 := ⟨_, rfl⟩
      have He0 := Lib.hid he0
      rw [he0] at c0 hmk
      clear he0
      by_cases hlt : m < n
      · have c1 := hx1 (m + 1) (by omega)
        rw [I64_get _ (m + 1) (by rw [ends_length]; omega), show (ends 0 L).getD (m + 1) 0 = (((rowL (L.take (m + 1))).length : Nat) : Int) by have := ends_get 0 L (m + 1) (by omega); simpa using this] at c1
        obtain ⟨e1, he1⟩ : ∃ e1, (rowL (L.take (m + 1))).length = e1 := ⟨_, rfl⟩
        have He1 := Lib.hid he1
        rw [he1] at c1
        clear he1 hx1 hx2
        by_cases hle : e1 ≤ k
        · go_wp2_with fail
          exact ⟨⟨⟨m + 1, by omega, by go_num, by rw [He1.out]; exact hle⟩, trivial⟩, by simp [intOf]; omega⟩
        · have hits := torn_its L (fun p hp => by have := HO.out.2 p hp; omega) k m (by rw [HR.out]; omega) (by omega) (by rw [He0.out]; exact hmk) (.inr (by rw [He1.out]; omega))
          rw [HR.out] at hits
          have W1 := Lib.hid (fun w' => whole_is hits (by rw [List.length_take]; omega) w' (n := m) (e := (e0 : Int)) (by rw [← List.length_map (f := fun x : It => x.1), itsOf_fst, List.length_take]; omega) (by rw [endOf_all, He0.out]) (P := L.take m) (itsOf_fst 0 _))
          clear hits
          obtain ⟨hcap, hfr⟩ := strs_front HS.out hn m (by omega)
          have hfr := Lib.hid (hfr _ hE)
          have hkR : k ≤ R.length := by omega
          go_wp2_with (first | (go_at_call 14; with_reducible refine (W1.out _).mono ?_; rintro e w4 ⟨lo, lc, rfl, hr4, hx4⟩; have Hr4 := Lib.hid hr4; have Hx4 := Lib.hid hx4; have c4 := (hx4.cell (p := ⟨g, m, none⟩) hg).trans c0; clear hr4 hx4) | (go_at_call 15; with_reducible refine (texts_front Hr4.out (hfr.out.ext Hx4.out) (by omega)).mono ?_; rintro e w5 ⟨rfl, hx5⟩; have c5 := (hx5.cell (p := ⟨g, m, none⟩) (Nat.lt_of_lt_of_le hg Hx4.out.size)).trans c4; have hE5 := (hE.trans Hx4.out).trans hx5; clear hx5) | (go_at_call 9; with_reducible refine (recorded_any _).ext hE5 (fun w6 hE6 => ?_)))
          go_ret
          exact ⟨rfl, hE6⟩
      · obtain rfl : m = n := by omega
        have hits := torn_its L (fun p hp => by have := HO.out.2 p hp; omega) k m (by rw [HR.out]; omega) (by omega) (by rw [He0.out]; exact hmk) (.inl hn.symm)
        rw [HR.out] at hits
        have W1 := Lib.hid (fun w' => whole_is hits (by rw [List.length_take]; omega) w' (n := m) (e := (e0 : Int)) (by rw [← List.length_map (f := fun x : It => x.1), itsOf_fst, List.length_take]; omega) (by rw [endOf_all, He0.out]) (P := L.take m) (itsOf_fst 0 _))
        clear hx1 hx2
        clear hits
        obtain ⟨hcap, hfr⟩ := strs_front HS.out hn m (by omega)
        have hfr := Lib.hid (hfr _ hE)
        have hkR : k ≤ R.length := by omega
        go_wp2_with (first | (go_at_call 14; with_reducible refine (W1.out _).mono ?_; rintro e w4 ⟨lo, lc, rfl, hr4, hx4⟩; have Hr4 := Lib.hid hr4; have Hx4 := Lib.hid hx4; have c4 := (hx4.cell (p := ⟨g, m, none⟩) hg).trans c0; clear hr4 hx4) | (go_at_call 15; with_reducible refine (texts_front Hr4.out (hfr.out.ext Hx4.out) (by omega)).mono ?_; rintro e w5 ⟨rfl, hx5⟩; have c5 := (hx5.cell (p := ⟨g, m, none⟩) (Nat.lt_of_lt_of_le hg Hx4.out.size)).trans c4; have hE5 := (hE.trans Hx4.out).trans hx5; clear hx5) | (go_at_call 9; with_reducible refine (recorded_any _).ext hE5 (fun w6 hE6 => ?_)))
        go_ret
        exact ⟨rfl, hE6⟩
  · have R1 := Lib.hid (row_no hS hok)
    clear hS hok
    go_enter Try.func6, Try.ntmps6
    go_wp2_with (first | (go_at_call 13; with_reducible refine R1.out.mono ?_; rintro e w1 ⟨rfl, hE⟩) | (go_at_call 9; with_reducible refine (recorded_any _).ext hE (fun w2 hE => ?_)))
    go_ret
    exact ⟨rfl, hE⟩
theorem recordsTorn_walk (w : World) (v : Value) (L : List (List UInt8)) (hS : Strs w v L) (a1 : Int) (w1 : (Lit.int .u16 a1).wf = true) :
    Calls Try.prog 6 #[v, .int .u16 a1] w fun e w' => e = .returned (.bool true) ∧ Ext w w' := by
  obtain ⟨h3, h4⟩ := bounds_u16 w1
  obtain ⟨m, rfl⟩ := Int.eq_ofNat_of_zero_le h3
  exact recordsTorn_any w v L hS m (by omega)
end Go.Proofs.Ytkhfhfdfiapgmaa
