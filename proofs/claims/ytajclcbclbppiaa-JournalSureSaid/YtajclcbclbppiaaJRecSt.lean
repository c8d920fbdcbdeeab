/-
  The document's Whole; Texts.
-/
import Derived.Test.YtajclcbclbppiaaJRecWh
import Derived.Deep.RegionLaw
import Derived.BigQuiet
import Derived.Deep.QuietTactic
namespace Go.Rc
theorem Se_length (L : List (List UInt8)) : (Se L).length = L.length := by simp [Se]
theorem Se_one (L : List (List UInt8)) : ∀ u ∈ Se L, u.oneCell' = true := by
  intro u hu
  simp only [Se, List.mem_map] at hu
  obtain ⟨x, _, rfl⟩ := hu
  rfl
theorem Se_get (L : List (List UInt8)) (k : Nat) (hk : k < L.length) : (Se L)[k]? = some (.string (ofL (L[k]))) := by simp [Se, List.getElem?_eq_getElem hk]
end Go.Rc
namespace Go.Proofs.Ytajclcbclbppiaa
open Go.RowKit Go.Rc
theorem append_txt {w : World} {ao : Option Addr} {n cap : Nat} {L : List (List UInt8)} (h : Rw w 1 ao n cap (Se L)) {x : Value} (y : List UInt8) (hs : Src Try.prog 1 30 x 1 [.string (ofL y)] w) (hl : n + 1 ≤ 16777216) (ty : TypeId) :
    ∃ ao' cap' w', (Builtin.append_ #[30, 30] ty #[.slice ao n cap, x]).run Try.prog w = .ok (.slice ao' (n + 1) cap') w' ∧
      (Rw w' 1 ao' (n + 1) cap' (Se (L ++ [y])) ∧ Fr (fun k => ob ao = some k) w w' ∧ (ao' = ao ∨ ∃ g, ao' = some ⟨g, 0, none⟩ ∧ w.heap.size ≤ g)) := by
  obtain ⟨ti, hti, hz, hsz, hby⟩ := info_parts infoStr
  obtain ⟨ao', cap', w', h1, h2, h3⟩ := h.append 30 30 ty 9 ti _ 16 Try.underlying30 hti hz hsz hby rfl x 1 _ hs (by unfold maxLen; omega) (by omega)
  refine ⟨ao', cap', w', h1, ?_, h3⟩
  rw [Se_snoc]
  exact h2
theorem new_str (W : World) (y : List UInt8) (g : Nat) (hg : g = W.heap.size) : Src Try.prog 1 30 (.slice (some ⟨g, 0, none⟩) 1 1) 1 [.string (ofL y)] (W.alloc (.cells #[.string (ofL y)] 9)) := by
  subst hg
  have hb := heap_alloc_new W (.cells #[.string (ofL y)] 9)
  refine Src.ofSlice _ (e' := 9) Try.underlying30 _ 1 1 _ (by simp) (fun j u hj => ?_) (fun u hu => by simp at hu; subst hu; rfl)
  have : (⟨W.heap.size, 0, none⟩ : Addr).add j = ⟨W.heap.size, j, none⟩ := by unfold Addr.add; split <;> simp_all
  rw [this]
  simp only [World.cell?, hb]
  simpa using hj
set_option maxHeartbeats 1000000 in
set_option maxRecDepth 100000 in
theorem texts_yes {w : World} {ao bo : Option Addr} {n ca cb : Nat} {L : List (List UInt8)} (ha : Rw w 1 ao n ca (Se L)) (hb : Rw w 1 bo n cb (Se L)) (hn : n ≤ 16777216) :
    Calls Try.prog 41 #[.slice ao n ca, .slice bo n cb] w fun e w' => e = .returned (.bool true) ∧ Ext w w' := by
  have hl := ha.len
  rw [Se_length, Nat.mul_one] at hl
  have Ha := Lib.hid ha
  have Hb := Lib.hid hb
  clear ha hb
  go_enter Try.func41, Try.ntmps41
  go_wp2
  go_loopw [5] (fun i wr => (∃ k : Nat, k ≤ n ∧ i = .int .i64 k) ∧ Ext w wr) (fun i _ => n - (intOf i).toNat)
  case atStart => exact ⟨⟨0, by omega, rfl⟩, Ext.refl _⟩
  case round =>
    obtain ⟨⟨k, hk, rfl⟩, hE⟩ := hrel
    by_cases hlt : k < n
    · obtain ⟨g, rfl, hg, hx1, hx2⟩ := (Ha.out.ext hE).row (by omega)
      obtain ⟨f, rfl, hf, hx3, hx4⟩ := (Hb.out.ext hE).row (by omega)
      have c0 := hx1 k (by omega)
      have d0 := hx3 k (by omega)
      rw [Se_get L k (by omega)] at c0 d0
      clear hx1 hx2 hx3 hx4
      go_wp2
      go_quiet (fail)
      all_goals
        go_wp2
        exact ⟨⟨⟨k + 1, by omega, by go_num⟩, hE.drewN _⟩, by simp [intOf]; omega⟩
    · have : k = n := by omega
      subst this
      go_wp2
      go_ret
      exact ⟨rfl, hE⟩
/-- The two that stand there are alike. -/
theorem rget_any (s : List UInt8) (i : Int) (w : World) (hs : s.length ≤ 16770000) :
    Calls Try.prog 72 #[.string (ofL s), .int .i64 i] w fun e w' => e = .returned (match getI s i with | none => NoneV | some (p, b) => SomeV p b) ∧ Ext w w' := by
  cases h : getI s i with
  | none => exact rget_none s i h w hs
  | some x =>
    obtain ⟨p, b⟩ := x
    unfold getI at h
    split at h
    · rename_i h0
      obtain ⟨a, rfl⟩ := Int.eq_ofNat_of_zero_le h0
      exact rget_some s a p b h w hs
    · cases h
end Go.Proofs.Ytajclcbclbppiaa
