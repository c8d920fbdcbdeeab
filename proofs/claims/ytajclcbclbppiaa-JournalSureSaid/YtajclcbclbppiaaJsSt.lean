/-
  The walks of same and with: states compared, an entry more.
-/
import Derived.Test.YtajclcbclbppiaaJsAc
import Derived.Laws.BitsAllLaws
import Derived.Deep.RegionLaw
import Derived.Deep.RegionHeld3
namespace Go.Proofs.Ytajclcbclbppiaa
open Go.RowKit Go.Maps Go.Dk Go.Rc Go.Jn Go.Shelf
variable {W w w' : World} {O O' F : Nat → Prop} {p q : Nat} {S S' S2 : St} {J J' : Jo} {ps : List (List UInt8)}
theorem and_low (n : Int) (m : Nat) (hm : m ≤ 1000) : 0 ≤ bits .and .i64 n (m : Int) ∧ bits .and .i64 n (m : Int) ≤ m := by
  have h : (BitVec.ofInt 64 n &&& BitVec.ofInt 64 (m : Int)).toNat ≤ m := by
    rw [BitVec.toNat_and, ofInt_u64 m (by omega)]
    exact Nat.and_le_right
  have e : bits .and .i64 n (m : Int) = ((BitVec.ofInt 64 n &&& BitVec.ofInt 64 (m : Int)).toNat : Int) := by
    show IntKind.i64.wrap ((BitVec.ofInt 64 n &&& BitVec.ofInt 64 (m : Int)).toNat : Int) = _
    exact IntWalk.i64_in _ ⟨by omega, by omega⟩
  omega
set_option maxHeartbeats 1000000 in
set_option maxRecDepth 100000 in
theorem same_is {ao bo : Option Addr} {n m ca cb : Nat} {s t : List UInt8} {A B : List (List UInt8)} (ha : Ro w ao n A) (hb : Ro w bo m B) (hn : n ≤ 16777216) (hm : m ≤ 16777216) :
    Calls Try.prog 18 #[.agg #[.string (ofL s), .slice ao n ca], .agg #[.string (ofL t), .slice bo m cb]] w fun e w' => e = .returned (.bool (decide (s :: A = t :: B))) ∧ Ext w w' := by
  have hx := ((Ext.refl w).alloc (.cells #[.string (ofL s), .slice ao n ca] 34)).alloc (.cells #[.string (ofL t), .slice bo m cb] 34)
  have T := Lib.hid (fun w' (hx : Ext w w') => texts_any (ca := ca) (cb := cb) (ha.ext hx) (hb.ext hx) hn hm)
  clear ha hb
  by_cases hst : s = t
  · subst hst
    have e : decide (s :: A = s :: B) = decide (A = B) := by simp
    rw [e]
    go_enter Try.func18, Try.ntmps18
    go_wp2_with (go_at_call 41; (with_reducible refine (T.out _ hx).mono ?_); rintro x w2 ⟨rfl, hx2⟩; have HX2 := Lib.hid hx2; clear hx2)
    go_ret
    exact ⟨rfl, hx.trans HX2.out⟩
  · have e : decide (s :: A = t :: B) = false := by simp [hst]
    have hne : (s == t) = false := beq_false_of_ne hst
    rw [e]
    go_enter Try.func18, Try.ntmps18
    go_wp2
    go_ret
    exact ⟨rfl, hx⟩
theorem ro_src {ao : Option Addr} {n ca : Nat} {A : List (List UInt8)} (h : Ro w ao n A) : Src Try.prog 1 30 (.slice ao n ca) n (Se A) w := by
  have hl := h.1
  have hse : (Se A).length = n * 1 := by rw [Se_length, hl]; omega
  rcases h.2 with rfl | ⟨g, o, rfl, hg, hc⟩
  · have hA : A = [] := List.length_eq_zero_iff.1 hl
    subst hA
    cases ao with
    | none => exact Src.ofNil _ (e' := 9) Try.underlying30 ca
    | some a => exact Src.ofSlice _ (e' := 9) Try.underlying30 a 0 ca [] (by simp) (fun j u hj => by simp at hj) (fun u hu => by cases hu)
  · refine Src.ofSlice _ (e' := 9) Try.underlying30 _ n ca _ hse (fun j u hj => ?_) (Se_one A)
    have hjn : j < n := by
      have := (List.getElem?_eq_some_iff.1 hj).1
      omega
    have : (⟨g, o, none⟩ : Addr).add j = ⟨g, o + j, none⟩ := by unfold Addr.add; split <;> simp_all
    rw [this, hc j hjn]
    exact hj
theorem append_txts {ao : Option Addr} {n cap : Nat} {L : List (List UInt8)} (h : Rw w 1 ao n cap (Se L)) {x : Value} {m : Nat} {A : List (List UInt8)} (hs : Src Try.prog 1 30 x m (Se A) w) (hl : n + m ≤ 16777216) (ty : TypeId) :
    ∃ ao' cap' w', (Builtin.append_ #[30, 30] ty #[.slice ao n cap, x]).run Try.prog w = .ok (.slice ao' (n + m) cap') w' ∧
      (Rw w' 1 ao' (n + m) cap' (Se (L ++ A)) ∧ Fr (fun k => ob ao = some k) w w' ∧ (ao' = ao ∨ ∃ g, ao' = some ⟨g, 0, none⟩ ∧ w.heap.size ≤ g)) := by
  obtain ⟨ti, hti, hz, hsz, hby⟩ := info_parts infoStr
  obtain ⟨ao', cap', w', h1, h2, h3⟩ := h.append 30 30 ty 9 ti _ 16 Try.underlying30 hti hz hsz hby rfl x m _ hs (by unfold maxLen; omega) (by omega)
  refine ⟨ao', cap', w', h1, ?_, h3⟩
  have : Se (L ++ A) = Se L ++ Se A := by simp [Se]
  rw [this]
  exact h2
theorem rw_ro {ao : Option Addr} {n cap : Nat} {L : List (List UInt8)} (h : Rw w 1 ao n cap (Se L)) : Ro w ao n L := by
  have hl := h.len
  rw [Se_length, Nat.mul_one] at hl
  refine ⟨hl, ?_⟩
  rcases Nat.eq_zero_or_pos n with h0 | h0
  · exact .inl h0
  · obtain ⟨g, e, hg, hc, _⟩ := h.row h0
    exact .inr ⟨g, 0, e, hg, fun j hj => by rw [Nat.zero_add]; exact hc j (by omega)⟩
theorem ob_no (n : Nat) : ∀ k, ob none = some k → n ≤ k := fun k h => by cases h
theorem own_new {V a : World} {ao : Option Addr} (hx : Ext V a) (h : ao = none ∨ ∃ g, ao = some ⟨g, 0, none⟩ ∧ a.heap.size ≤ g) : ∀ g, ob ao = some g → V.heap.size ≤ g := by
  rcases h with rfl | ⟨g, rfl, hg⟩
  · intro g hg; cases hg
  · intro k hk
    obtain rfl : g = k := by simpa [ob] using hk
    exact Nat.le_trans hx.size hg
theorem own_then {V a : World} {ao bo : Option Addr} (hn : ∀ g, ob ao = some g → V.heap.size ≤ g) (hx : Ext V a) (h : bo = ao ∨ ∃ g, bo = some ⟨g, 0, none⟩ ∧ a.heap.size ≤ g) : ∀ g, ob bo = some g → V.heap.size ≤ g := by
  rcases h with rfl | ⟨g, rfl, hg⟩
  · exact hn
  · intro k hk
    obtain rfl : g = k := by simpa [ob] using hk
    exact Nat.le_trans hx.size hg
theorem ro_kept {a b : World} {ao : Option Addr} {n : Nat} {L : List (List UInt8)} (hf : Fr (fun k => ob none = some k) a b) (h : Ro a ao n L) : Ro b ao n L := h.fr hf (fun g _ h => by cases h)
set_option maxHeartbeats 2000000 in
set_option maxRecDepth 100000 in
theorem with_is {ao : Option Addr} {n ca : Nat} {s x : List UInt8} {A : List (List UInt8)} (ha : Ro w ao n A) (hn : n ≤ 16000000) :
    Calls Try.prog 14 #[.agg #[.string (ofL s), .slice ao n ca], .string (ofL x)] w fun e w' => ∃ bo cb, e = .returned (.agg #[.string (ofL s), .slice bo (n + 1) cb]) ∧ Ro w' bo (n + 1) (A ++ [x]) ∧ Ext w w' ∧ ∀ g, ob bo = some g → w.heap.size ≤ g := by
  have HA := Lib.hid ha
  clear ha
  go_enter Try.func14, Try.ntmps14
  go_wp2_with fail
  obtain ⟨V, hV⟩ : ∃ V, V = (w.alloc (.cells #[.string (ofL s), .slice ao n ca] 34)).alloc (.cells #[.string (ofL []), .slice none 0 0] 34) := ⟨_, rfl⟩
  have hwV : Ext w V := by rw [hV]; exact ((Ext.refl w).alloc _).alloc _
  have hsV : V.heap.size = w.heap.size + 2 := by rw [hV]; simp
  have v0 : V.cell? ⟨w.heap.size, 0, none⟩ = some (.string (ofL s)) := by rw [hV]; simp
  have v1 : V.cell? ⟨w.heap.size, 1, none⟩ = some (.slice ao n ca) := by rw [hV]; simp
  have u0 : V.cell? ⟨w.heap.size + 1, 0, none⟩ = some (.string (ofL [])) := by rw [hV]; exact World.cell?_alloc_at _ _ _ 0 (by simp)
  have u1 : V.cell? ⟨w.heap.size + 1, 1, none⟩ = some (.slice none 0 0) := by rw [hV]; exact World.cell?_alloc_at _ _ _ 1 (by simp)
  have hbV : V.heap[w.heap.size + 1]? = some (.cells #[.string (ofL []), .slice none 0 0] 34) := by
    have := heap_alloc_new (w.alloc (.cells #[.string (ofL s), .slice ao n ca] 34)) (.cells #[.string (ofL []), .slice none 0 0] 34)
    rw [hV]
    simpa using this
  have ufz : ∀ j, V.frozen? ⟨w.heap.size + 1, j, none⟩ = false := fun j => by simp only [World.frozen?, hbV]; simp
  rw [← hV]
  have d0 : ∀ w', Fr (fun k => k = w.heap.size + 1) V w' → w'.cell? ⟨w.heap.size, 0, none⟩ = some (.string (ofL s)) := fun w' hf => (hf.cell (p := ⟨w.heap.size, 0, none⟩) (show w.heap.size < V.heap.size by omega) (show ¬ w.heap.size = w.heap.size + 1 by omega)).trans v0
  have d1 : ∀ w', Fr (fun k => k = w.heap.size + 1) V w' → w'.cell? ⟨w.heap.size, 1, none⟩ = some (.slice ao n ca) := fun w' hf => (hf.cell (p := ⟨w.heap.size, 1, none⟩) (show w.heap.size < V.heap.size by omega) (show ¬ w.heap.size = w.heap.size + 1 by omega)).trans v1
  have HWV := Lib.hid hwV
  have HU := Lib.hid (fun w' (hx : Ext V w') => (show w'.cell? ⟨w.heap.size + 1, 0, none⟩ = some (.string (ofL [])) ∧ w'.cell? ⟨w.heap.size + 1, 1, none⟩ = some (.slice none 0 0) ∧ w'.frozen? ⟨w.heap.size + 1, 0, none⟩ = false ∧ w'.frozen? ⟨w.heap.size + 1, 1, none⟩ = false from
    ⟨(hx.cell (p := ⟨w.heap.size + 1, 0, none⟩) (show w.heap.size + 1 < V.heap.size by omega)).trans u0, (hx.cell (p := ⟨w.heap.size + 1, 1, none⟩) (show w.heap.size + 1 < V.heap.size by omega)).trans u1, (World.frozen?_of_block (a := ⟨w.heap.size + 1, 0, none⟩) (Below.block hx _ (show w.heap.size + 1 < V.heap.size by omega))).trans (ufz 0), (World.frozen?_of_block (a := ⟨w.heap.size + 1, 1, none⟩) (Below.block hx _ (show w.heap.size + 1 < V.heap.size by omega))).trans (ufz 1)⟩))
  have HSV := Lib.hid hsV
  clear hV hwV v0 v1 u0 u1 hbV ufz hsV
  go_region_held3 (fun w' => Fr (fun k => k = w.heap.size + 1) V w') (first | (with_reducible exact Fr.of_ext E2) | exact ((Fr.of_ext E2).setCell (by intro _; rfl) _).setCell (by intro _; rfl) _ | (with_reducible exact Fr.of_ext (E1.alloc _)) | (with_reducible exact Fr.of_ext E1) | (with_reducible exact Fr.of_ext (((Ext.refl V).alloc _).drew)) | (with_reducible exact Fr.of_ext (Ext.refl V).drew)) (first
    | ((with_reducible show @ite _ _ _ (Oper.wp _ _ _ (w1) _ _) _); refine step_append_rw rfl (.tmp 9) (.tmp 11) 30 30 rfl rfl rfl (append_txts (w := w1) (m := 1) (A := [x]) HR0.out HS.out (by omega) _) (fun a2 c2 w2 hR => ?_); obtain ⟨hr1, hr2, hr3⟩ := hR; have E2 : Ext V w2 := Fr.grownFrom hr2 E1 (fun k hk => HN.out k hk); have ⟨g0, g1, g2, g3⟩ := HU.out w2 E2; have HR2 := Lib.hid hr1; have HQ2 := Lib.hid (own_then HN.out E1 hr3); clear hr1 hr2 hr3)
    | ((with_reducible show @ite _ _ _ (Oper.wp _ _ _ (World.alloc w1 _) _ _) _); refine step_append_rw rfl (.tmp 9) (.tmp 11) 30 30 rfl rfl rfl (append_txts (w := w1.alloc (.cells #[.string (ofL x)] 9)) (m := 1) (A := [x]) (HR1.out.ext ((Ext.refl _).alloc _)) (ro_src (ro_one (heap_alloc_new w1 (.cells #[.string (ofL x)] 9)))) (by omega) _) (fun a2 c2 w2 hR => ?_); obtain ⟨hr1, hr2, hr3⟩ := hR; have E2 : Ext V w2 := Fr.grownFrom hr2 (E1.alloc _) (fun k hk => HN.out k hk); have ⟨g0, g1, g2, g3⟩ := HU.out w2 E2; have HR2 := Lib.hid hr1; have HQ2 := Lib.hid (own_then HN.out (E1.alloc _) hr3); clear hr1 hr2 hr3)
    | ((with_reducible show @ite _ _ _ (Oper.wp _ _ _ (World.drew V) _ _) _); refine step_append_rw rfl (.const (.slice none 0 0)) (.tmp 8) 30 30 rfl rfl rfl (append_txts (w := V.drew) (L := []) (A := A) (Rw.nil V.drew 1) (ro_src (HA.out.ext (HWV.out.trans (Ext.refl V).drew))) (by omega) _) (fun a1 c1 w1 hR => ?_); obtain ⟨hr1, hr2, hr3⟩ := hR; have HR0 := Lib.hid (show Rw w1 1 a1 (0 + n) c1 (Se A) from hr1); rw [Nat.zero_add, List.nil_append] at hr1; have E1 : Ext V w1 := Fr.grownFrom hr2 (Ext.refl V).drew (ob_no _); have HR1 := Lib.hid hr1; have HN := Lib.hid (own_new (Ext.refl V).drew hr3); clear hr1 hr2 hr3)
    | ((with_reducible show @ite _ _ _ (Oper.wp _ _ _ (World.drew (World.alloc V _)) _ _) _); refine step_append_rw rfl (.const (.slice none 0 0)) (.tmp 8) 30 30 rfl rfl rfl (append_txts (w := (V.alloc (.cells #[.string (ofL x)] 9)).drew) (L := []) (A := A) (Rw.nil (V.alloc (.cells #[.string (ofL x)] 9)).drew 1) (ro_src (HA.out.ext (HWV.out.trans ((Ext.refl V).alloc _).drew))) (by omega) _) (fun a1 c1 w1 hR => ?_); obtain ⟨hr1, hr2, hr3⟩ := hR; have HR0 := Lib.hid (show Rw w1 1 a1 (0 + n) c1 (Se A) from hr1); rw [Nat.zero_add, List.nil_append] at hr1; have E1 : Ext V w1 := Fr.grownFrom hr2 ((Ext.refl V).alloc _).drew (ob_no _); have HR1 := Lib.hid hr1; have HS := Lib.hid (ro_src (ca := 1) (ro_kept hr2 ((ro_one (heap_alloc_new V (.cells #[.string (ofL x)] 9))).ext (Ext.refl _).drew))); have HN := Lib.hid (own_new ((Ext.refl V).alloc _).drew hr3); clear hr1 hr2 hr3))
  all_goals
    go_wp2_with fail
    have q0 : (w2.setCell ⟨w.heap.size + 1, 0, none⟩ (.string (ofL s))).cell? ⟨w.heap.size + 1, 0, none⟩ = some (.string (ofL s)) := World.cell?_setCell_same _ _ _ g0
    have q1 : ((w2.setCell ⟨w.heap.size + 1, 0, none⟩ (.string (ofL s))).setCell ⟨w.heap.size + 1, 1, none⟩ (.slice a2 (n + 1) c2)).cell? ⟨w.heap.size + 1, 1, none⟩ = some (.slice a2 (n + 1) c2) := World.cell?_setCell_same _ _ _ ((World.cell?_setCell_other _ _ _ _ (by simp)).trans g1)
    refine bodyPost_ret (show _ = Result.ok (.agg #[.string (ofL s), .slice a2 (n + 1) c2]) _ from by simp [results, Try.results14, go_sem, q0, q1]) rfl ?_
    have hfr : Fr (fun k => k = w.heap.size + 1) w2 ((w2.setCell ⟨w.heap.size + 1, 0, none⟩ (.string (ofL s))).setCell ⟨w.heap.size + 1, 1, none⟩ (.slice a2 (n + 1) c2)) := ((Fr.refl _ w2).setCell (p := ⟨w.heap.size + 1, 0, none⟩) (by intro _; rfl) _).setCell (p := ⟨w.heap.size + 1, 1, none⟩) (by intro _; rfl) _
    have hsV := HSV.out
    have hro : Ro w2 a2 (n + 1) (A ++ [x]) := by
      have h := rw_ro HR2.out
      try simp only [Nat.zero_add] at h
      exact h
    refine ⟨a2, c2, rfl, hro.fr hfr (fun g hg e => by have := HQ2.out g hg; omega), hfr.grownFrom (HWV.out.trans E2) (fun k hk => by omega), fun g hg => by have := HQ2.out g hg; omega⟩
end Go.Proofs.Ytajclcbclbppiaa
