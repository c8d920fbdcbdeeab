/-
  The walk of records.Whole.
-/
import Derived.Test.YtajclcbclbppiaaJRecIt
import Derived.Test.YtajclcbclbppiaaGen
import Derived.RangeFuncNested
import Derived.BigRegionIn
import Derived.Shelf.RegionOpen
namespace Go.Rc
/-- Where the last of them ends. -/
def endOf (l : List It) : Nat := (l.getLast?.map (·.2)).getD 0
theorem endOf_snoc (l : List It) (x : It) : endOf (l ++ [x]) = x.2 := by simp [endOf]
theorem pairs_length (s : List UInt8) : ∀ (f a : Nat), (pairs s f a).length ≤ s.length - a
  | 0, a => by simp [pairs]
  | f + 1, a => by
    unfold pairs
    cases h : getR s a with
    | none => simp
    | some x =>
      obtain ⟨p, b⟩ := x
      have := getR_next h
      have := pairs_length s f b
      simp only [List.length_cons]
      omega
theorem itsAt_length (s : List UInt8) (a : Nat) : (itsAt s a).length ≤ s.length := Nat.le_trans (pairs_length s _ a) (Nat.sub_le _ _)
def Se (L : List (List UInt8)) : List Value := L.map (fun x => .string (ofL x))
theorem Se_snoc (L : List (List UInt8)) (x : List UInt8) : Se (L ++ [x]) = Se L ++ [.string (ofL x)] := by simp [Se]
end Go.Rc
namespace Go.Proofs.Ytajclcbclbppiaa
open Go.RowKit Go.Shelf Go.Rc
attribute [local go_sem] Oper.semAt_some
theorem infoStr : (Try.prog.info? 9).map (fun i => (i.zero, i.size, i.bytes)) = some (some (.string (ofL [])), 1, 16) := by kernel_rfl
set_option maxHeartbeats 1000000 in
theorem each_any (s : List UInt8) (w : World) :
    Calls Try.prog 64 #[.string (ofL s)] w fun e w' => e = .returned (.func (.func 71) #[] #[.pointer (some ⟨w.heap.size, 0, none⟩)]) ∧ w' = w.alloc (.cells #[.string (ofL s)] 9) := by
  go_enter Try.func64, Try.ntmps64
  go_wp2
  go_ret
  exact ⟨rfl, rfl⟩
/-- What the loop over the records keeps: all that there was, and the iterator's box. -/
def KpW (n₀ Bn : Nat) (W W' : World) : Prop := Below n₀ W W' ∧ W'.heap[Bn]? = W.heap[Bn]?
theorem each_stops (n : Nat) (hn : 1 ≤ n) (Bn n₀ : Nat) (s : List UInt8) (hs : s.length ≤ 16770000) (w : World) (hc : Held s Bn w) :
    SeqStopsK Fence.wide n Try.prog 71 #[.pointer (some ⟨Bn, 0, none⟩)] encI (KpW n₀ Bn) (fun ys => ys = itsAt s 0) (fun pre => pre <+: itsAt s 0) (itsAt s 0).length w := fun l J Jx W hW hJ _ hY h0 =>
  each1_in n hn l Bn n₀ s hs J Jx (fun pre A B hj hx => hJ pre A B none hj ⟨Below.os hx, Below.tape hx, Below.output hx, Below.size hx, fun k hk _ => Below.block hx k hk⟩ (fun r e => by cases e)) hY W ((Below.block hW Bn (Boxed.lt hc)).trans hc) h0
/-- Behind 'payloads = append(payloads, p); end = n'. -/
theorem collect {W w1 : World} {n₀ n1 B0 B1 B2 : Nat} {v v' u u' : Value} {k m : Nat} {xs ys : List Value} {tmp : Obj} {s : List UInt8}
    (hO : Boxed W B0 30 v) (hE : Boxed W B1 3 u) (hH : Held s B2 W) (hrow : W.ownsRow n1 9 1 v k xs) (h0 : n₀ ≤ B0) (h1 : n₀ ≤ B1) (hn : n₀ ≤ n1) (b0 : B0 < n1) (b1 : B1 < n1) (b2 : B2 < n1) (h01 : B0 ≠ B1) (h02 : B0 ≠ B2) (h12 : B1 ≠ B2)
    (hs : n₀ ≤ W.heap.size) (hown' : w1.ownsRow n1 9 1 v' m ys) (hgrow : (W.alloc tmp).grownBy w1 v.ownBlock) :
    (Boxed w1 B0 30 v ∧ Boxed w1 B1 3 u) ∧ Boxed ((w1.setCell ⟨B0, 0, none⟩ v').setCell ⟨B1, 0, none⟩ u') B0 30 v' ∧ Boxed ((w1.setCell ⟨B0, 0, none⟩ v').setCell ⟨B1, 0, none⟩ u') B1 3 u' ∧ Held s B2 ((w1.setCell ⟨B0, 0, none⟩ v').setCell ⟨B1, 0, none⟩ u') ∧
      ((w1.setCell ⟨B0, 0, none⟩ v').setCell ⟨B1, 0, none⟩ u').ownsRow n1 9 1 v' m ys ∧ KeepsOthers W ((w1.setCell ⟨B0, 0, none⟩ v').setCell ⟨B1, 0, none⟩ u') ∧ KpW n₀ B2 W ((w1.setCell ⟨B0, 0, none⟩ v').setCell ⟨B1, 0, none⟩ u') := by
  have hb : ∀ g, v.ownBlock = some g → n1 ≤ g := fun g e => (hrow.lt g e).1
  have hb' : ∀ g, v'.ownBlock = some g → n1 ≤ g := fun g e => (hown'.lt g e).1
  have ne : ∀ B, B < n1 → some B ≠ v.ownBlock := fun B hB e => by have := hb B e.symm; omega
  have ne' : ∀ B, B < n1 → v'.ownBlock ≠ some B := fun B hB e => by have := hb' B e; omega
  have hO1 := (hO.alloc tmp).kept hgrow (ne B0 b0)
  have hE1 := (hE.alloc tmp).kept hgrow (ne B1 b1)
  have hH1 : Boxed w1 B2 9 (.string (ofL s)) := (Boxed.alloc hH tmp).kept hgrow (ne B2 b2)
  have g0 := grownBy_setCell' w1 B0 v'
  have g1 := grownBy_setCell' (w1.setCell ⟨B0, 0, none⟩ v') B1 u'
  have hH2 := (hH1.kept g0 (by simpa using fun e => h02 e.symm)).kept g1 (by simpa using fun e => h12 e.symm)
  refine ⟨⟨hO1, hE1⟩, (hO1.set v').kept g1 (by simpa using h01), (hE1.kept g0 (by simpa using fun e => h01 e.symm)).set u', hH2, (hown'.kept g0 (.inr (ne' B0 b0))).kept g1 (.inr (ne' B1 b1)), ?_, ?_, hH2.trans (show W.heap[B2]? = _ from hH).symm⟩
  · refine (((KeepsOthers.alloc W tmp).trans (KeepsOthers.of_grownBy hgrow fun j o ej hj => ?_)).trans (KeepsOthers.setCell _ _ _)).trans (KeepsOthers.setCell _ _ _)
    rcases (hrow.alloc tmp).2 with ⟨rfl, _⟩ | ⟨g, cap, cur, rfl, _, hgb, _⟩
    · simp [Value.ownBlock] at ej
    · obtain rfl : g = j := by simpa [Value.ownBlock] using ej
      rw [hgb] at hj; cases hj; rfl
  · exact ((((Below.refl n₀ W).alloc hs tmp).grown hgrow (by simp; omega) (fun j ej => Nat.le_trans hn (hb j ej))).setCell (p := ⟨B0, 0, none⟩) h0 v').setCell (p := ⟨B1, 0, none⟩) h1 u'
set_option maxRecDepth 100000 in
set_option maxHeartbeats 2000000 in
theorem whole_in (n : Nat) (hn : 3 ≤ n) (s : List UInt8) (hs : s.length ≤ 16770000) (w : World) :
    CallsIn Fence.wide n Try.prog 46 #[.string (ofL s)] w fun e W' => ∃ v, e = .returned (.tuple #[v, .int .i64 (endOf (itsAt s 0))]) ∧
      W'.ownsRow (w.heap.size + 3) 9 1 v (itsAt s 0).length (Se ((itsAt s 0).map (·.1))) ∧ Below w.heap.size w W' := by
  have h1 : 1 ≤ n := by omega
  obtain ⟨i0, hi, hz0, hz1, hz2⟩ := info_parts infoStr
  have hN : (itsAt s 0).length ≤ 16770000 := by have := itsAt_length s 0; omega
  have hNm : (itsAt s 0).length ≤ maxLen := by unfold maxLen; omega
  refine callsIn_of_wp_marks Try.func46 rfl trivial ?_ rfl
  simp only [Try.ntmps46, List.size_toArray, List.length_cons, List.length_nil, Nat.reduceAdd, Nat.reduceSub, Array.replicate_succ, Array.replicate_zero, List.push_toArray, List.append_toArray, List.nil_append, List.cons_append]
  gi_wp2_with (refine ⟨trivial, ?_⟩; gi_at_call 64; refine (callsIn_wide.2 (each_any s _)).mono ?_; rintro e w' ⟨rfl, rfl⟩)
  obtain ⟨W0, hW0⟩ : ∃ W0, ((w.alloc (.cells #[.slice none 0 0] 30)).alloc (.cells #[.int .i64 0] 3)).alloc (.cells #[.string (ofL s)] 9) = W0 := ⟨_, rfl⟩
  have hsz : W0.heap.size = w.heap.size + 3 := by rw [← hW0]; simp
  have bO : Boxed W0 w.heap.size 30 (.slice none 0 0) := by rw [← hW0]; exact ((Boxed.new w _ _).alloc _).alloc _
  have bE : Boxed W0 (w.heap.size + 1) 3 (.int .i64 0) := by
    have := (Boxed.new (w.alloc (.cells #[.slice none 0 0] 30)) 3 (.int .i64 0)).alloc (.cells #[.string (ofL s)] 9)
    rw [World.size_alloc] at this; rw [← hW0]; exact this
  have bH : Held s (w.heap.size + 1 + 1) W0 := by
    have := Boxed.new ((w.alloc (.cells #[.slice none 0 0] 30)).alloc (.cells #[.int .i64 0] 3)) 9 (.string (ofL s))
    rw [World.size_alloc, World.size_alloc] at this; rw [← hW0]; exact this
  have hB0 : Below w.heap.size w W0 := by rw [← hW0]; exact (((Below.refl _ w).alloc (Nat.le_refl _) _).alloc (by simp) _).alloc (by simp; omega) _
  rw [hW0]
  refine wpIn_rangeFunc_ownG rfl h1 (gf := 71) (lb := #[.pointer (some ⟨w.heap.size + 1 + 1, 0, none⟩)]) rfl trivial (enters_of Try.func71 (by kernel_rfl) rfl)
    (each_stops (n - 1) (by omega) (w.heap.size + 1 + 1) w.heap.size s hs W0 bH) (fun h k => ⟨h.1.trans k.1, k.2.trans h.2⟩) (fun W l o o' hl ho hc _ => ⟨belowK_b (w := w) (Nat.le_refl _) W l o o' (by omega) ho hc (by assumption), World.putObj_heap_other (by omega)⟩) (Below.refl _ _) (fun _ => rfl)
    (fun (pre : List It) W => (∃ v, (Boxed W w.heap.size 30 v ∧ W.ownsRow (w.heap.size + 3) 9 1 v pre.length (Se (pre.map (·.1))) ∧ True)) ∧ (Boxed W (w.heap.size + 1) 3 (.int .i64 (endOf pre)) ∧ Held s (w.heap.size + 1 + 1) W ∧ Below w.heap.size w W))
    (fun _ _ _ => False)
    (OwnFrom.and (Own.from (holdsRow_own (w.heap.size + 3) w.heap.size 30 9 1 (fun (pre : List It) => pre.length) (fun (pre : List It) => Se (pre.map (·.1))) (fun _ _ => True)) _) (OwnFrom.and (Own.from (boxed_own _ _ _) _) (OwnFrom.and (Own.from (boxed_own _ _ _) _) (ownFrom_below (Nat.le_refl _) (by omega)))))
    (fun _ _ _ _ _ hs _ _ => hs)
    ⟨⟨_, bO, World.ownsRow_nil _ _ _ _, trivial⟩, bE, bH, hB0⟩
    (fun x => { tmps := #[.string (ofL s), undef, .pointer (some ⟨w.heap.size, 0, none⟩), .pointer (some ⟨w.heap.size + 1, 0, none⟩), .string (ofL x.1), .int .i64 x.2, .string (ofL s), .func (.func 71) #[] #[.pointer (some ⟨w.heap.size + 1 + 1, 0, none⟩)], .string (ofL x.1), .int .i64 x.2, undef, undef, undef, undef, undef, undef, undef], defers := [] }) ?assign ?body ?done ?stop
  case assign =>
    intro l x W K hK
    gi_wp2
    exact hK
  case body =>
    rintro l pre x W ⟨⟨v, hv, hrow, _⟩, hE, hH, hB⟩ hlt
    have hc := hv.cell
    have hsB := hB.size
    gi_wp2_with (gi_at_builtin; (refine wpListIn_append_own _ rfl _ _ 30 rfl (w.heap.size + 3) 9 i0 (.string (ofL [])) 1 16 Try.underlying30 hi hz0 hz1 hz2 rfl (by decide) _ _ _ rfl (hrow.alloc _) ⟨W.heap.size, 0, none⟩ 1 1 [.string (ofL x.1)] rfl rfl (cell_one_new _ _ _) (by simp [Value.oneCell']) (by omega) (by omega) (by have := Boxed.lt hH; simp; omega) ?_); intro v' w1 hown' hgrow _; obtain ⟨g', cap', rfl⟩ := ownsRow_succ hown'; obtain ⟨⟨hv1, hE1⟩, hO2, hE2, hH2, hr2, hk2, hb2⟩ := collect (n₀ := w.heap.size) (u' := .int .i64 x.2) hv hE hH hrow (Nat.le_refl _) (by omega) (by omega) (by omega) (by omega) (by omega) (by omega) (by omega) (by omega) hsB hown' hgrow; have hc1 := hv1.cell; have hf1 := hv1.frozen; have hc2 := hE1.cell; have hf2 := hE1.frozen)
    exact ⟨hk2.from _, hb2, ⟨_, hO2, by rw [List.map_append]; simpa [Se] using hr2, trivial⟩, by rw [endOf_snoc]; exact hE2, hH2, hB.trans hb2.1⟩
  case done =>
    rintro D ys W hD rfl ⟨⟨v, hv, hrow, _⟩, hE, hH, hB⟩ hK
    obtain ⟨ao, nn, cp, rfl⟩ : ∃ ao nn cp, v = .slice ao nn cp := by
      rcases hrow.2 with ⟨rfl, _⟩ | ⟨g, cap, cur, rfl, _⟩
      · exact ⟨_, _, _, rfl⟩
      · exact ⟨_, _, _, rfl⟩
    have hc := hv.cell
    have hf := hv.frozen
    have hcE := hE.cell
    have hfE := hE.frozen
    gi_wp2
    gi_region
    all_goals
      gi_wp2
      obtain ⟨W2, hW2⟩ : ∃ W2, ((W.setCell ⟨w.heap.size, 0, none⟩ (.slice ao nn cp)).setCell ⟨w.heap.size + 1, 0, none⟩ (.int .i64 (endOf (itsAt s 0)))).drew = W2 := ⟨_, rfl⟩
      have hne : ∀ g, (Value.slice ao nn cp).ownBlock = some g → w.heap.size + 3 ≤ g := fun g e => (hrow.lt g e).1
      have g0 := grownBy_setCell' W w.heap.size (.slice ao nn cp)
      have g1 := grownBy_setCell' (W.setCell ⟨w.heap.size, 0, none⟩ (.slice ao nn cp)) (w.heap.size + 1) (.int .i64 (endOf (itsAt s 0)))
      have r0 := (hrow.kept g0 (.inr (fun e => by have := hne w.heap.size e; omega))).kept g1 (.inr (fun e => by have := hne (w.heap.size + 1) e; omega))
      have o0 := (hv.set (.slice ao nn cp)).kept g1 (by simp)
      have e0 := (hE.kept g0 (by simp)).set (.int .i64 (endOf (itsAt s 0)))
      have hrow2 : W2.ownsRow (w.heap.size + 3) 9 1 (.slice ao nn cp) (itsAt s 0).length (Se ((itsAt s 0).map (·.1))) := by rw [← hW2]; exact r0
      have hO2 : Boxed W2 w.heap.size 30 (.slice ao nn cp) := by rw [← hW2]; exact o0
      have hE2 : Boxed W2 (w.heap.size + 1) 3 (.int .i64 (endOf (itsAt s 0))) := by rw [← hW2]; exact e0
      have hK2 : W2.heap[D]? = some (.deferred (some [])) := by
        rw [← hW2]; exact (((KeepsOthers.setCell W ⟨w.heap.size, 0, none⟩ _).trans (KeepsOthers.setCell _ ⟨w.heap.size + 1, 0, none⟩ _))).same D _ hK rfl
      have hB2 : Below w.heap.size w W2 := by
        rw [← hW2]; exact ((hB.setCell (p := ⟨w.heap.size, 0, none⟩) (Nat.le_refl _) _).setCell (p := ⟨w.heap.size + 1, 0, none⟩) (by show w.heap.size ≤ w.heap.size + 1; omega) _).drew
      rw [hW2]
      have x0 : (W2.putObj D (.deferred none)).cell? ⟨w.heap.size, 0, none⟩ = some (.slice ao nn cp) := (World.cell?_of_block (a := ⟨w.heap.size, 0, none⟩) (World.putObj_heap_other (by show w.heap.size ≠ D; omega))).trans hO2.cell
      have x1 : (W2.putObj D (.deferred none)).cell? ⟨w.heap.size + 1, 0, none⟩ = some (.int .i64 (endOf (itsAt s 0))) := (World.cell?_of_block (a := ⟨w.heap.size + 1, 0, none⟩) (World.putObj_heap_other (by show w.heap.size + 1 ≠ D; omega))).trans hE2.cell
      refine ⟨by simp, .inl ⟨_, _, rfl, run_takeDeferred hK2, ?_⟩⟩
      refine ⟨_, by simp only [results, Try.results46]; simp [go_sem, x0, x1] <;> rfl, _, rfl, ownsRow_putObj hrow2 _ hK2 rfl, hB2.trans (belowK_b (w := w) (Nat.le_refl _) W2 D _ _ (by omega) hK2 rfl rfl)⟩
  case stop =>
    rintro D c pre W _ _ h _
    exact h.elim
/-- Whole: the payloads in a row, and where the last one ends. -/
theorem whole_any (s : List UInt8) (hs : s.length ≤ 16770000) (w : World) :
    Calls Try.prog 46 #[.string (ofL s)] w fun e W' => ∃ ao cap, e = .returned (.tuple #[.slice ao (itsAt s 0).length cap, .int .i64 (endOf (itsAt s 0))]) ∧
      Rw W' 1 ao (itsAt s 0).length cap (Se ((itsAt s 0).map (·.1))) ∧ Ext w W' := by
  refine (callsIn_wide (n := 3)).1 ((whole_in 3 (Nat.le_refl _) s hs w).mono ?_)
  rintro e W' ⟨v, rfl, hr, hb⟩
  have h0 := hr
  rcases hr.2 with ⟨rfl, hn⟩ | ⟨g, cap, cur, rfl, _⟩
  · have hl := hr.1
    rw [hn] at hl ⊢
    have hnil : Se ((itsAt s 0).map (·.1)) = [] := List.length_eq_zero_iff.1 (by simpa using hl)
    exact ⟨none, 0, rfl, by rw [hnil]; exact Rw.nil W' 1, hb⟩
  · exact ⟨_, cap, rfl, Rw.owns hr, hb⟩
end Go.Proofs.Ytajclcbclbppiaa
