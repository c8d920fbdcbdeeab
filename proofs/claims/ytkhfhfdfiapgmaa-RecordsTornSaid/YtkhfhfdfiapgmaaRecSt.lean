/-
  The document's Whole; Texts.
-/
import Derived.Test.YtkhfhfdfiapgmaaRecWh
import Derived.Deep.RegionLaw
import Derived.BigQuiet
import Derived.Deep.QuietTactic
namespace Go.Rc
theorem Se_length (L : List (List UInt8)) : (Se L).length = L.length := by simp [Se]
theorem Se_one (L : List (List UInt8)) : ∀ u ∈ Se L, u.oneCell' = true := by
  intro u hu
  simp only [Se, List.mem_map] at hu
  obtain ⟨x, _, rfl⟩ := hu
  rfl
theorem Se_get (L : List (List UInt8)) (k : Nat) (hk : k < L.length) : (Se L)[k]? = some (.string (ofL (L[k]))) := by simp [Se, List.getElem?_eq_getElem hk]
end Go.Rc
namespace Go.Proofs.Ytkhfhfdfiapgmaa
open Go.RowKit Go.Rc
theorem append_str {w : World} {ao : Option Addr} {n cap : Nat} {L : List (List UInt8)} (h : Rw w 1 ao n cap (Se L)) {x : Value} (y : List UInt8) (hs : Src Try.prog 1 27 x 1 [.string (ofL y)] w) (hl : n + 1 ≤ 16777216) (ty : TypeId) :
    ∃ ao' cap' w', (Builtin.append_ #[27, 27] ty #[.slice ao n cap, x]).run Try.prog w = .ok (.slice ao' (n + 1) cap') w' ∧
      (Rw w' 1 ao' (n + 1) cap' (Se (L ++ [y])) ∧ Fr (fun k => ob ao = some k) w w' ∧ (ao' = ao ∨ ∃ g, ao' = some ⟨g, 0, none⟩ ∧ w.heap.size ≤ g)) := by
  obtain ⟨ti, hti, hz, hsz, hby⟩ := info_parts infoStr
  obtain ⟨ao', cap', w', h1, h2, h3⟩ := h.append 27 27 ty 9 ti _ 16 Try.underlying27 hti hz hsz hby rfl x 1 _ hs (by unfold maxLen; omega) (by omega)
  refine ⟨ao', cap', w', h1, ?_, h3⟩
  rw [Se_snoc]
  exact h2
theorem new_str (W : World) (y : List UInt8) (g : Nat) (hg : g = W.heap.size) : Src Try.prog 1 27 (.slice (some ⟨g, 0, none⟩) 1 1) 1 [.string (ofL y)] (W.alloc (.cells #[.string (ofL y)] 9)) := by
  subst hg
  have hb := heap_alloc_new W (.cells #[.string (ofL y)] 9)
  refine Src.ofSlice _ (e' := 9) Try.underlying27 _ 1 1 _ (by simp) (fun j u hj => ?_) (fun u hu => by simp at hu; subst hu; rfl)
  have : (⟨W.heap.size, 0, none⟩ : Addr).add j = ⟨W.heap.size, j, none⟩ := by unfold Addr.add; split <;> simp_all
  rw [this]
  simp only [World.cell?, hb]
  simpa using hj
set_option maxHeartbeats 1000000 in
set_option maxRecDepth 100000 in
theorem refWhole_any (s : List UInt8) (hs : s.length ≤ 16770000) (w : World) :
    Calls Try.prog 22 #[.string (ofL s)] w fun e W' => ∃ ao cap, e = .returned (.tuple #[.slice ao (itsAt s 0).length cap, .int .i64 (endOf (itsAt s 0))]) ∧
      Rw W' 1 ao (itsAt s 0).length cap (Se ((itsAt s 0).map (·.1))) ∧ Ext w W' := by
  have hN := itsAt_length s 0
  go_enter Try.func22, Try.ntmps22
  go_wp2
  go_loopw [4, 5] (fun l a wr => ∃ (pre : List It) (aN : Nat) (ao : Option Addr) (cap : Nat), l = .slice ao pre.length cap ∧ a = .int .i64 aN ∧ aN ≤ s.length ∧ itsAt s 0 = pre ++ itsAt s aN ∧ aN = endOf pre ∧
      Rw wr 1 ao pre.length cap (Se (pre.map (·.1))) ∧ (∀ g, ob ao = some g → w.heap.size ≤ g) ∧ Ext w wr) (fun _ a _ => s.length - (intOf a).toNat)
  case atStart => exact ⟨[], 0, none, 0, rfl, rfl, by omega, rfl, rfl, Rw.nil w 1, (fun g hg => by cases hg), Ext.refl w⟩
  case round =>
    obtain ⟨pre, aN, ao, cap, rfl, rfl, ha, hx, hend, hr, hf, hE⟩ := hrel
    have Hr := Lib.hid hr
    have Hf := Lib.hid hf
    have Hend := Lib.hid hend
    clear hr hf hend
    cases hg : getR s aN with
    | none =>
      have hgi : getI s (aN : Int) = none := by rw [getI_nat]; exact hg
      rw [itsAt_none hg, List.append_nil] at hx
      have G := Lib.hid (fun w' => refRget_none s aN hgi w' hs (by omega))
      unfold NoneV at G
      clear hg hgi
      go_wp2_with (go_at_call 21; with_reducible refine (G.out _).mono ?_; rintro e w1 ⟨rfl, hx1⟩; have Hx1 := Lib.hid hx1; clear hx1)
      go_ret2
      rw [hx, ← Hend.out]
      exact ⟨ao, cap, rfl, Hr.out.ext Hx1.out, hE.trans Hx1.out⟩
    | some y =>
      obtain ⟨p, b⟩ := y
      have Hnx := Lib.hid (getR_next hg)
      rw [itsAt_some hg] at hx
      have hpl : pre.length + 1 ≤ 16777216 := by rw [hx] at hN; simp at hN; omega
      have G := Lib.hid (fun w' => refRget_some s aN p b hg w' hs)
      unfold SomeV at G
      clear hg
      go_wp2_with (first | (go_at_call 21; with_reducible refine (G.out _).mono ?_; rintro e w1 ⟨rfl, hx1⟩; have Hx1 := Lib.hid hx1; clear hx1) | (at_builtin; refine wpList_append_rw rfl (.tmp 20) (.tmp 22) _ _ rfl rfl rfl (append_str ((Hr.out.ext Hx1.out).ext ((Ext.refl _).alloc _)) p (new_str _ p _ rfl) hpl _) (fun ao' cap' w4 hR => ?_); have HR := Lib.hid hR; clear hR))
      obtain ⟨hr1, hr2, hr3⟩ := HR.out
      have hE1 := hE.trans Hx1.out
      have hnx := Hnx.out
      refine ⟨⟨pre ++ [(p, b)], b, ao', cap', by simp, by first | rfl | go_num, hnx.2.1, by rw [hx]; simp, by rw [endOf_snoc], by simpa using hr1, fun g hg => ?_, Fr.grownFrom hr2 (hE1.alloc _) (fun k hk => Hf.out k hk)⟩, by simp [intOf]; omega⟩
      rcases hr3 with rfl | ⟨k, rfl, hk⟩
      · exact Hf.out g hg
      · obtain rfl : k = g := by simpa [ob] using hg
        have := hE1.size; simp at hk; omega
set_option maxHeartbeats 1000000 in
set_option maxRecDepth 100000 in
theorem texts_yes {w : World} {ao bo : Option Addr} {n ca cb : Nat} {L : List (List UInt8)} (ha : Rw w 1 ao n ca (Se L)) (hb : Rw w 1 bo n cb (Se L)) (hn : n ≤ 16777216) :
    Calls Try.prog 15 #[.slice ao n ca, .slice bo n cb] w fun e w' => e = .returned (.bool true) ∧ Ext w w' := by
  have hl := ha.len
  rw [Se_length, Nat.mul_one] at hl
  have Ha := Lib.hid ha
  have Hb := Lib.hid hb
  clear ha hb
  go_enter Try.func15, Try.ntmps15
  go_wp2
  go_loopw [5] (fun i wr => (∃ k : Nat, k ≤ n ∧ i = .int .i64 k) ∧ Ext w wr) (fun i _ => n - (intOf i).toNat)
  case atStart => exact ⟨⟨0, by omega, rfl⟩, Ext.refl _⟩
  case round =>
    obtain ⟨⟨k, hk, rfl⟩, hE⟩ := hrel
    by_cases hlt : k < n
    · obtain ⟨g, rfl, hg, hx1, hx2⟩ := (Ha.out.ext hE).row (by omega)
      obtain ⟨f, rfl, hf, hx3, hx4⟩ := (Hb.out.ext hE).row (by omega)
      have c0 := hx1 k (by omega)
      have d0 := hx3 k (by omega)
      rw [Se_get L k (by omega)] at c0 d0
      clear hx1 hx2 hx3 hx4
      go_wp2
      go_quiet (fail)
      all_goals
        go_wp2
        exact ⟨⟨⟨k + 1, by omega, by go_num⟩, hE.drewN _⟩, by simp [intOf]; omega⟩
    · have : k = n := by omega
      subst this
      go_wp2
      go_ret
      exact ⟨rfl, hE⟩
/-- The two that stand there are alike. -/
theorem rget_any (s : List UInt8) (i : Int) (w : World) (hs : s.length ≤ 16770000) :
    Calls Try.prog 16 #[.string (ofL s), .int .i64 i] w fun e w' => e = .returned (match getI s i with | none => NoneV | some (p, b) => SomeV p b) ∧ Ext w w' := by
  cases h : getI s i with
  | none => exact rget_none s i h w hs
  | some x =>
    obtain ⟨p, b⟩ := x
    unfold getI at h
    split at h
    · rename_i h0
      obtain ⟨a, rfl⟩ := Int.eq_ofNat_of_zero_le h0
      exact rget_some s a p b h w hs
    · cases h
theorem refRget_any (s : List UInt8) (i : Int) (w : World) (hs : s.length ≤ 16770000) (hi9 : -9223372036854775808 ≤ i ∧ i ≤ 9223372036854775807) :
    Calls Try.prog 21 #[.string (ofL s), .int .i64 i] w fun e w' => e = .returned (match getI s i with | none => NoneV | some (p, b) => SomeV p b) ∧ Ext w w' := by
  cases h : getI s i with
  | none => exact refRget_none s i h w hs hi9
  | some x =>
    obtain ⟨p, b⟩ := x
    unfold getI at h
    split at h
    · rename_i h0
      obtain ⟨a, rfl⟩ := Int.eq_ofNat_of_zero_le h0
      exact refRget_some s a p b h w hs
    · cases h
set_option maxHeartbeats 1000000 in
set_option maxRecDepth 100000 in
theorem stands_any (s : List UInt8) (i : Int) (w : World) (hs : s.length ≤ 16770000) (hi9 : -9223372036854775808 ≤ i ∧ i ≤ 9223372036854775807) :
    Calls Try.prog 12 #[.string (ofL s), .int .i64 i] w fun e w' => e = .returned (.bool true) ∧ Ext w w' := by
  have G1 := Lib.hid (fun w' => rget_any s i w' hs)
  have G2 := Lib.hid (fun w' => refRget_any s i w' hs hi9)
  have W1 := Lib.hid (fun w' => whole_any s hs w')
  have W2 := Lib.hid (fun w' => refWhole_any s hs w')
  have hN := itsAt_length s 0
  obtain ⟨p, b, ok, hv⟩ : ∃ (p : List UInt8) (b : Int) (ok : Bool), (match getI s i with | none => NoneV | some (p, b) => SomeV p b) = .tuple #[.string (ofL p), .int .i64 b, .bool ok] := by
    cases getI s i with
    | none => exact ⟨[], 0, false, rfl⟩
    | some x => exact ⟨x.1, x.2, true, rfl⟩
  rw [hv] at G1 G2
  clear hv hi9
  go_enter Try.func12, Try.ntmps12
  go_wp2_with (first | (go_at_call 16; with_reducible refine (G1.out _).mono ?_; rintro e w1 ⟨rfl, hx1⟩; have Hx1 := Lib.hid hx1; clear hx1) | (go_at_call 21; with_reducible refine (G2.out _).mono ?_; rintro e w2 ⟨rfl, hx2⟩; have Hx2 := Lib.hid hx2; clear hx2) | (go_at_call 14; with_reducible refine (W1.out _).mono ?_; rintro e w3 ⟨ao, ca, rfl, hr3, hx3⟩; have Hx3 := Lib.hid hx3; have Hr3 := Lib.hid hr3; clear hx3 hr3) | (go_at_call 22; with_reducible refine (W2.out _).mono ?_; rintro e w4 ⟨bo, cb, rfl, hr4, hx4⟩; have Hx4 := Lib.hid hx4; have Hr4 := Lib.hid hr4; clear hx4 hr4) | (go_at_call 15; with_reducible refine (texts_yes (Hr3.out.ext Hx4.out) Hr4.out (by omega)).mono ?_; rintro e w5 ⟨rfl, hx5⟩))
  go_ret
  exact ⟨by simp, (((Hx1.out.trans Hx2.out).trans Hx3.out).trans Hx4.out).trans hx5⟩
end Go.Proofs.Ytkhfhfdfiapgmaa
