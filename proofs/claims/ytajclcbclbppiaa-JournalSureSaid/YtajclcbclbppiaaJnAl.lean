/-
  The walks of the journal: steps ('all'), the closures of lay, mend and Append, a file laid.
-/
import Derived.Test.YtajclcbclbppiaaJnPl
import Derived.Test.YtajclcbclbppiaaDskDp
import Derived.Deep.RegionHeld3
namespace Go.Jn
open Go.Dk
theorem runs_drop {fs : List (St → St × Int)} {k : Nat} {f : St → St × Int} (hf : fs[k]? = some f) (S : St) : runs (fs.drop k) S = if (f S).2 = 0 then runs (fs.drop (k + 1)) (f S).1 else f S := by
  obtain ⟨hk, rfl⟩ := List.getElem?_eq_some_iff.1 hf
  rw [List.drop_eq_getElem_cons hk]
  rfl
end Go.Jn
namespace Go.Proofs.Ytajclcbclbppiaa
open Go.RowKit Go.Maps Go.Dk Go.Rc Go.Jn Go.Shelf
variable {W w w' : World} {O O' : Nat → Prop} {p : Nat} {S S' : St}
theorem lit_row {w : World} {g : Nat} (vs : List Value) (n : Nat) (hn : vs.length = n) (hm : n ≤ 16777216) {t : TypeId} (hb : w.heap[g]? = some (.cells vs.toArray t)) : Rw w 1 (some ⟨g, 0, none⟩) n n vs := by
  subst hn
  have hg : g < w.heap.size := by
    rcases Nat.lt_or_ge g w.heap.size with h | h
    · exact h
    · rw [Array.getElem?_eq_none h] at hb; cases hb
  refine ⟨by rw [Nat.mul_one], Nat.le_refl _, by unfold maxLen; omega, .inr ⟨g, rfl, hg, fun j hj => ⟨?_, ?_⟩, fun j hj => ?_⟩⟩
  · rw [Nat.mul_one] at hj
    simp only [World.cell?, hb]; simp [List.getElem?_eq_getElem hj]
  · simp only [World.frozen?, hb]; simp
  · simp only [World.cell?, hb]; simp
/-- Back to what was there ahead. -/
theorem Dp.back (h : Dp W O p S w) {V : World} (hx : Ext w V) (h' : Dp V O' p S' w') (hO : ∀ k, O k → O' k) : Dp W O p S' w' := by
  obtain ⟨_, _, h3, _, h7⟩ := h
  obtain ⟨β, k1, k3, k4, _⟩ := h'
  exact ⟨β, k1, (h3.trans (Fr.of_ext (F := fun _ => False) hx) (fun _ _ hf => hf.elim)).trans k3 (fun _ _ hk ho => hk (hO _ ho)), fun k hk => k4 k (hO k hk), h7⟩
/-- O, and all that is new. -/
def New (O : Nat → Prop) (a b : World) : Nat → Prop := fun k => O k ∨ (a.heap.size ≤ k ∧ k < b.heap.size)
theorem Dp.news (h : Dp W O p S w) {V : World} (hx : Ext w V) : Dp V (New O w V) p S V := by
  have hu : Under O W := by obtain ⟨_, _, _, _, h⟩ := h; exact h
  have hs := h.fr.size
  refine h.base (fun k hk => ?_) hx (fun k hk => hk.imp (fun h => h) (fun h => h.1))
  rcases hk with hk | hk
  · have := hu k hk; have := hx.size; omega
  · exact hk.2
/-- What a closure does with the disk. -/
def StepAt (W : World) (O : Nat → Prop) (p : Nat) (v : Value) (f : St → St × Int) : Prop :=
  ∃ N lb, v = .func (.func N) #[] lb ∧ (∀ args w, (callFunc N args).run Try.prog w = .ok (.enter N args) w) ∧
    ∀ S w, Dp W O p S w → Calls Try.prog N lb w fun x w' => x = .returned (.int .i64 (f S).2) ∧ Dp W O p (f S).1 w'
def Steps (W : World) (O : Nat → Prop) (p : Nat) (vs : List Value) (fs : List (St → St × Int)) : Prop :=
  vs.length = fs.length ∧ ∀ (k : Nat) (v : Value) (f : St → St × Int), vs[k]? = some v → fs[k]? = some f → StepAt W O p v f
theorem Steps.nil (W : World) (O : Nat → Prop) (p : Nat) : Steps W O p [] [] := ⟨rfl, fun k v f h => by simp at h⟩
theorem Steps.cons {v : Value} {f : St → St × Int} {vs : List Value} {fs : List (St → St × Int)} (h : StepAt W O p v f) (hs : Steps W O p vs fs) : Steps W O p (v :: vs) (f :: fs) := by
  refine ⟨by simp [hs.1], fun k u g hu hg => ?_⟩
  cases k with
  | zero => simp at hu hg; subst hu; subst hg; exact h
  | succ k => exact hs.2 k u g (by simpa using hu) (by simpa using hg)
set_option maxHeartbeats 1000000 in
set_option maxRecDepth 100000 in
theorem all_is {vs : List Value} {fs : List (St → St × Int)} {ao : Option Addr} {n cap : Nat} (hs : Steps W O p vs fs) (hn : vs.length = n) (hr : Rw W 1 ao n cap vs) (hO : ∀ g, ob ao = some g → O g) (hm : n ≤ 16777216) (h : Dp W O p S w) {e : Int} (hx : runs fs S = (S', e)) :
    Calls Try.prog 35 #[.slice ao n cap] w fun x w' => x = .returned (.int .i64 e) ∧ Dp W O p S' w' := by
  have HS := Lib.hid hs
  have HR := Lib.hid hr
  have hfl := hs.1
  clear hs hr
  go_enter Try.func35, Try.ntmps35
  go_wp2
  go_loopw [8] (fun i wr => ∃ (k : Nat) (S1 : St), k ≤ n ∧ i = .int .i64 k ∧ Dp W O p S1 wr ∧ runs (fs.drop k) S1 = (S', e)) (fun i _ => n - (intOf i).toNat)
  case atStart => exact ⟨0, S, by omega, rfl, h, hx⟩
  case round =>
    obtain ⟨k, S1, hk, rfl, hD, hx1⟩ := hrel
    by_cases hlt : k < n
    · obtain ⟨g, rfl, hg, h1, h2⟩ := HR.out.row (by omega)
      have c0 := h1 k (by omega)
      obtain ⟨v, hv⟩ : ∃ v, vs[k]? = some v := ⟨_, List.getElem?_eq_getElem (by omega)⟩
      obtain ⟨f, hf⟩ : ∃ f, fs[k]? = some f := ⟨_, List.getElem?_eq_getElem (by omega)⟩
      rw [hv] at c0
      have c1 := (hD.fr.cell (p := ⟨g, k, none⟩) hg (fun hn => hn (hO g rfl))).trans c0
      obtain ⟨N, lb, rfl, eN, hC⟩ := HS.out.2 k v f hv hf
      have hC := hC S1 wr hD
      rw [runs_drop hf] at hx1
      obtain ⟨S2, e2, hfe⟩ : ∃ S2 e2, f S1 = (S2, e2) := ⟨_, _, rfl⟩
      rw [hfe] at hx1 hC
      have HC := Lib.hid hC
      clear hC h1 h2 c0 hD h hx
      by_cases he : e2 = 0
      · subst he
        rw [if_pos rfl] at hx1
        go_wp2_with (go_at_fn N; (refine HC.out.mono ?_); rintro x w1 ⟨rfl, hD1⟩; have HD1 := Lib.hid hD1; clear hD1)
        exact ⟨⟨k + 1, S2, by omega, by go_num, HD1.out, hx1⟩, by simp [intOf]; omega⟩
      · rw [if_neg he] at hx1
        obtain ⟨rfl, rfl⟩ := Prod.mk.inj hx1
        go_wp2_with (go_at_fn N; (refine HC.out.mono ?_); rintro x w1 ⟨rfl, hD1⟩; have HD1 := Lib.hid hD1; clear hD1)
        go_ret
        exact ⟨rfl, HD1.out⟩
    · obtain rfl : k = n := by omega
      rw [List.drop_of_length_le (by omega)] at hx1
      obtain ⟨rfl, rfl⟩ := Prod.mk.inj hx1
      have HD := Lib.hid hD
      clear hD
      go_wp2
      go_ret
      exact ⟨rfl, HD.out⟩
/-! ### the closures -/
section
variable {n e : Int} {s : List UInt8} {b c d q : Nat}
theorem Dp.box (h : Dp W O p S w) (hu : Under O W) (hb : O b) {i : Nat} {v : Value} (c0 : W.cell? ⟨b, i, none⟩ = some v) : w.cell? ⟨b, i, none⟩ = some v :=
  (h.fr.cell (p := ⟨b, i, none⟩) (hu b hb) (fun h => h hb)).trans c0
set_option maxRecDepth 100000 in
theorem lay1_step (hu : Under O W) (hb : O b) (hc : O c) (c0 : W.cell? ⟨b, 0, none⟩ = some (.pointer (some ⟨p, 0, none⟩))) (c1 : W.cell? ⟨c, 0, none⟩ = some (.int .i64 n)) (hn : (Lit.int .i64 n).wf = true) :
    StepAt W O p (.func (.func 53) #[] #[.pointer (some ⟨b, 0, none⟩), .pointer (some ⟨c, 0, none⟩)]) (fun S => create S n) := by
  refine ⟨_, _, rfl, enters_of Try.func53 (by kernel_rfl) rfl, fun S w hD => ?_⟩
  have d0 := hD.box hu hb c0
  have d1 := hD.box hu hc c1
  obtain ⟨S2, e2, hx⟩ : ∃ S2 e2, create S n = (S2, e2) := ⟨_, _, rfl⟩
  have C := Lib.hid (k_create hD hn hx)
  dsimp only
  rw [hx]
  clear hx hD c0 c1
  go_enter Try.func53, Try.ntmps53
  go_wp2_with (go_at_call 54; (with_reducible refine C.out.mono ?_); rintro x w1 ⟨rfl, hD1⟩; have HD1 := Lib.hid hD1; clear hD1)
  go_ret
  exact ⟨rfl, HD1.out⟩
set_option maxRecDepth 100000 in
theorem lay2_step (hu : Under O W) (hb : O b) (hc : O c) (hd : O d) (c0 : W.cell? ⟨b, 0, none⟩ = some (.pointer (some ⟨p, 0, none⟩))) (c1 : W.cell? ⟨c, 0, none⟩ = some (.int .i64 n)) (c2 : W.cell? ⟨d, 0, none⟩ = some (.string (ofL s))) (hn : (Lit.int .i64 n).wf = true) :
    StepAt W O p (.func (.func 55) #[] #[.pointer (some ⟨b, 0, none⟩), .pointer (some ⟨c, 0, none⟩), .pointer (some ⟨d, 0, none⟩)]) (fun S => append S n s) := by
  refine ⟨_, _, rfl, enters_of Try.func55 (by kernel_rfl) rfl, fun S w hD => ?_⟩
  have d0 := hD.box hu hb c0
  have d1 := hD.box hu hc c1
  have d2 := hD.box hu hd c2
  obtain ⟨S2, e2, hx⟩ : ∃ S2 e2, append S n s = (S2, e2) := ⟨_, _, rfl⟩
  have C := Lib.hid (k_append hD hn hx)
  dsimp only
  rw [hx]
  clear hx hD c0 c1 c2
  go_enter Try.func55, Try.ntmps55
  go_wp2_with (go_at_call 37; (with_reducible refine C.out.mono ?_); rintro x w1 ⟨rfl, hD1⟩; have HD1 := Lib.hid hD1; clear hD1)
  go_ret
  exact ⟨rfl, HD1.out⟩
set_option maxRecDepth 100000 in
theorem lay3_step (hu : Under O W) (hb : O b) (hc : O c) (c0 : W.cell? ⟨b, 0, none⟩ = some (.pointer (some ⟨p, 0, none⟩))) (c1 : W.cell? ⟨c, 0, none⟩ = some (.int .i64 n)) (hn : (Lit.int .i64 n).wf = true) :
    StepAt W O p (.func (.func 56) #[] #[.pointer (some ⟨b, 0, none⟩), .pointer (some ⟨c, 0, none⟩)]) (fun S => sync S n) := by
  refine ⟨_, _, rfl, enters_of Try.func56 (by kernel_rfl) rfl, fun S w hD => ?_⟩
  have d0 := hD.box hu hb c0
  have d1 := hD.box hu hc c1
  obtain ⟨S2, e2, hx⟩ : ∃ S2 e2, sync S n = (S2, e2) := ⟨_, _, rfl⟩
  have C := Lib.hid (k_sync hD hn hx)
  dsimp only
  rw [hx]
  clear hx hD c0 c1
  go_enter Try.func56, Try.ntmps56
  go_wp2_with (go_at_call 39; (with_reducible refine C.out.mono ?_); rintro x w1 ⟨rfl, hD1⟩; have HD1 := Lib.hid hD1; clear hD1)
  go_ret
  exact ⟨rfl, HD1.out⟩
set_option maxRecDepth 100000 in
theorem mend1_step (hu : Under O W) (hb : O b) (hc : O c) (hd : O d) (c0 : W.cell? ⟨b, 0, none⟩ = some (.pointer (some ⟨p, 0, none⟩))) (c1 : W.cell? ⟨c, 0, none⟩ = some (.int .i64 n)) (c2 : W.cell? ⟨d, 0, none⟩ = some (.int .i64 e)) (hn : (Lit.int .i64 n).wf = true) :
    StepAt W O p (.func (.func 47) #[] #[.pointer (some ⟨b, 0, none⟩), .pointer (some ⟨c, 0, none⟩), .pointer (some ⟨d, 0, none⟩)]) (fun S => truncate S n e) := by
  refine ⟨_, _, rfl, enters_of Try.func47 (by kernel_rfl) rfl, fun S w hD => ?_⟩
  have d0 := hD.box hu hb c0
  have d1 := hD.box hu hc c1
  have d2 := hD.box hu hd c2
  obtain ⟨S2, e2, hx⟩ : ∃ S2 e2, truncate S n e = (S2, e2) := ⟨_, _, rfl⟩
  have C := Lib.hid (k_truncate hD hn hx)
  dsimp only
  rw [hx]
  clear hx hD c0 c1 c2
  go_enter Try.func47, Try.ntmps47
  go_wp2_with (go_at_call 48; (with_reducible refine C.out.mono ?_); rintro x w1 ⟨rfl, hD1⟩; have HD1 := Lib.hid hD1; clear hD1)
  go_ret
  exact ⟨rfl, HD1.out⟩
set_option maxRecDepth 100000 in
theorem mend2_step (hu : Under O W) (hb : O b) (hc : O c) (c0 : W.cell? ⟨b, 0, none⟩ = some (.pointer (some ⟨p, 0, none⟩))) (c1 : W.cell? ⟨c, 0, none⟩ = some (.int .i64 n)) (hn : (Lit.int .i64 n).wf = true) :
    StepAt W O p (.func (.func 49) #[] #[.pointer (some ⟨b, 0, none⟩), .pointer (some ⟨c, 0, none⟩)]) (fun S => sync S n) := by
  refine ⟨_, _, rfl, enters_of Try.func49 (by kernel_rfl) rfl, fun S w hD => ?_⟩
  have d0 := hD.box hu hb c0
  have d1 := hD.box hu hc c1
  obtain ⟨S2, e2, hx⟩ : ∃ S2 e2, sync S n = (S2, e2) := ⟨_, _, rfl⟩
  have C := Lib.hid (k_sync hD hn hx)
  dsimp only
  rw [hx]
  clear hx hD c0 c1
  go_enter Try.func49, Try.ntmps49
  go_wp2_with (go_at_call 39; (with_reducible refine C.out.mono ?_); rintro x w1 ⟨rfl, hD1⟩; have HD1 := Lib.hid hD1; clear hD1)
  go_ret
  exact ⟨rfl, HD1.out⟩
set_option maxRecDepth 100000 in
theorem mend3_step (hu : Under O W) (hb : O b) (hc : O c) (c0 : W.cell? ⟨b, 0, none⟩ = some (.pointer (some ⟨p, 0, none⟩))) (c1 : W.cell? ⟨c, 0, none⟩ = some (.int .i64 n)) (hn : (Lit.int .i64 n).wf = true) :
    StepAt W O p (.func (.func 50) #[] #[.pointer (some ⟨b, 0, none⟩), .pointer (some ⟨c, 0, none⟩)]) (fun S => delete S n) := by
  refine ⟨_, _, rfl, enters_of Try.func50 (by kernel_rfl) rfl, fun S w hD => ?_⟩
  have d0 := hD.box hu hb c0
  have d1 := hD.box hu hc c1
  obtain ⟨S2, e2, hx⟩ : ∃ S2 e2, delete S n = (S2, e2) := ⟨_, _, rfl⟩
  have C := Lib.hid (k_delete hD hn hx)
  dsimp only
  rw [hx]
  clear hx hD c0 c1
  go_enter Try.func50, Try.ntmps50
  go_wp2_with (go_at_call 32; (with_reducible refine C.out.mono ?_); rintro x w1 ⟨rfl, hD1⟩; have HD1 := Lib.hid hD1; clear hD1)
  go_ret
  exact ⟨rfl, HD1.out⟩
set_option maxHeartbeats 1000000 in
set_option maxRecDepth 100000 in
theorem japp1_step (hu : Under O W) (hb : O b) (hc : O c) (hq : O q) (c0 : W.cell? ⟨b, 0, none⟩ = some (.pointer (some ⟨q, 0, none⟩))) (c1 : W.cell? ⟨c, 0, none⟩ = some (.string (ofL s))) (q0 : W.cell? ⟨q, 0, none⟩ = some (.pointer (some ⟨p, 0, none⟩))) (q1 : W.cell? ⟨q, 1, none⟩ = some (.int .i64 n)) (hn : (Lit.int .i64 n).wf = true) :
    StepAt W O p (.func (.func 36) #[] #[.pointer (some ⟨b, 0, none⟩), .pointer (some ⟨c, 0, none⟩)]) (fun S => append S n s) := by
  refine ⟨_, _, rfl, enters_of Try.func36 (by kernel_rfl) rfl, fun S w hD => ?_⟩
  have hF := hD.fr
  have d0 : ∀ w2, Fr (fun k => ¬ O k) W w2 → w2.cell? ⟨b, 0, none⟩ = some (.pointer (some ⟨q, 0, none⟩)) := fun w2 h => (h.cell (p := ⟨b, 0, none⟩) (hu b hb) (fun h => h hb)).trans c0
  have d1 : ∀ w2, Fr (fun k => ¬ O k) W w2 → w2.cell? ⟨c, 0, none⟩ = some (.string (ofL s)) := fun w2 h => (h.cell (p := ⟨c, 0, none⟩) (hu c hc) (fun h => h hc)).trans c1
  have d2 : ∀ w2, Fr (fun k => ¬ O k) W w2 → w2.cell? ⟨q, 0, none⟩ = some (.pointer (some ⟨p, 0, none⟩)) := fun w2 h => (h.cell (p := ⟨q, 0, none⟩) (hu q hq) (fun h => h hq)).trans q0
  have d3 : ∀ w2, Fr (fun k => ¬ O k) W w2 → w2.cell? ⟨q, 1, none⟩ = some (.int .i64 n) := fun w2 h => (h.cell (p := ⟨q, 1, none⟩) (hu q hq) (fun h => h hq)).trans q1
  obtain ⟨S2, e2, hx⟩ : ∃ S2 e2, append S n s = (S2, e2) := ⟨_, _, rfl⟩
  have C := Lib.hid (k_append (hD.ext (Ext.refl _).drew) hn hx)
  dsimp only
  rw [hx]
  clear hx hD c0 c1 q0 q1
  go_enter Try.func36, Try.ntmps36
  go_wp2_with fail
  go_region_held3 (fun w' => Fr (fun k => ¬ O k) W w') (first | exact Fr.drew hF | assumption) (first | (go_at_call 37; (with_reducible refine C.out.mono ?_); rintro x w1 ⟨rfl, hD1⟩; have hF1 := hD1.fr; have HD1 := Lib.hid hD1; clear hD1))
  all_goals
    go_wp2
    go_ret
    exact ⟨rfl, HD1.out⟩
set_option maxHeartbeats 1000000 in
set_option maxRecDepth 100000 in
theorem japp2_step (hu : Under O W) (hb : O b) (hq : O q) (c0 : W.cell? ⟨b, 0, none⟩ = some (.pointer (some ⟨q, 0, none⟩))) (q0 : W.cell? ⟨q, 0, none⟩ = some (.pointer (some ⟨p, 0, none⟩))) (q1 : W.cell? ⟨q, 1, none⟩ = some (.int .i64 n)) (hn : (Lit.int .i64 n).wf = true) :
    StepAt W O p (.func (.func 38) #[] #[.pointer (some ⟨b, 0, none⟩)]) (fun S => sync S n) := by
  refine ⟨_, _, rfl, enters_of Try.func38 (by kernel_rfl) rfl, fun S w hD => ?_⟩
  have hF := hD.fr
  have d0 : ∀ w2, Fr (fun k => ¬ O k) W w2 → w2.cell? ⟨b, 0, none⟩ = some (.pointer (some ⟨q, 0, none⟩)) := fun w2 h => (h.cell (p := ⟨b, 0, none⟩) (hu b hb) (fun h => h hb)).trans c0
  have d2 : ∀ w2, Fr (fun k => ¬ O k) W w2 → w2.cell? ⟨q, 0, none⟩ = some (.pointer (some ⟨p, 0, none⟩)) := fun w2 h => (h.cell (p := ⟨q, 0, none⟩) (hu q hq) (fun h => h hq)).trans q0
  have d3 : ∀ w2, Fr (fun k => ¬ O k) W w2 → w2.cell? ⟨q, 1, none⟩ = some (.int .i64 n) := fun w2 h => (h.cell (p := ⟨q, 1, none⟩) (hu q hq) (fun h => h hq)).trans q1
  obtain ⟨S2, e2, hx⟩ : ∃ S2 e2, sync S n = (S2, e2) := ⟨_, _, rfl⟩
  have C := Lib.hid (k_sync (hD.ext (Ext.refl _).drew) hn hx)
  dsimp only
  rw [hx]
  clear hx hD c0 q0 q1
  go_enter Try.func38, Try.ntmps38
  go_wp2_with fail
  go_region_held3 (fun w' => Fr (fun k => ¬ O k) W w') (first | exact Fr.drew hF | assumption) (first | (go_at_call 39; (with_reducible refine C.out.mono ?_); rintro x w1 ⟨rfl, hD1⟩; have hF1 := hD1.fr; have HD1 := Lib.hid hD1; clear hD1))
  all_goals
    go_wp2
    go_ret
    exact ⟨rfl, HD1.out⟩
/-! ### a file laid -/
set_option maxHeartbeats 1000000 in
set_option maxRecDepth 100000 in
theorem lay_is (h : Dp W O p S w) (hn : (Lit.int .i64 n).wf = true) (hx : runs (lays n s) S = (S', e)) :
    Calls Try.prog 30 #[.pointer (some ⟨p, 0, none⟩), .int .i64 n, .string (ofL s)] w fun x w' => x = .returned (.int .i64 e) ∧ Dp W O p S' w' := by
  have H := Lib.hid h
  obtain ⟨V3, hV3⟩ : ∃ V3, V3 = ((w.alloc (.cells #[.pointer (some ⟨p, 0, none⟩)] 25)).alloc (.cells #[.int .i64 n] 3)).alloc (.cells #[.string (ofL s)] 9) := ⟨_, rfl⟩
  obtain ⟨V, hV⟩ : ∃ V, V = (V3.alloc (.cells #[.func (.func 53) #[] #[.pointer (some ⟨w.heap.size, 0, none⟩), .pointer (some ⟨w.heap.size + 1, 0, none⟩)], .func (.func 55) #[] #[.pointer (some ⟨w.heap.size, 0, none⟩), .pointer (some ⟨w.heap.size + 1, 0, none⟩), .pointer (some ⟨w.heap.size + 2, 0, none⟩)], .func (.func 56) #[] #[.pointer (some ⟨w.heap.size, 0, none⟩), .pointer (some ⟨w.heap.size + 1, 0, none⟩)]] 43)) := ⟨_, rfl⟩
  have hE : Ext w V := by rw [hV, hV3]; exact ((((Ext.refl w).alloc _).alloc _).alloc _).alloc _
  have hs3 : V3.heap.size = w.heap.size + 3 := by rw [hV3]; simp
  have hsz : V.heap.size = w.heap.size + 4 := by rw [hV, World.size_alloc, hs3]
  have e0 : V.cell? ⟨w.heap.size, 0, none⟩ = some (.pointer (some ⟨p, 0, none⟩)) := by rw [hV, World.cell?_alloc_past _ _ _ (by omega), hV3, World.cell?_alloc_past _ _ _ (by simp only [World.size_alloc]; omega), World.cell?_alloc_past _ _ _ (by simp only [World.size_alloc]; omega)]; exact World.cell?_alloc_at _ _ _ _ rfl
  have e1 : V.cell? ⟨w.heap.size + 1, 0, none⟩ = some (.int .i64 n) := by rw [hV, World.cell?_alloc_past _ _ _ (by omega), hV3, World.cell?_alloc_past _ _ _ (by simp only [World.size_alloc]; omega)]; exact World.cell?_alloc_at _ _ _ _ (by simp only [World.size_alloc])
  have e2 : V.cell? ⟨w.heap.size + 2, 0, none⟩ = some (.string (ofL s)) := by rw [hV, World.cell?_alloc_past _ _ _ (by omega), hV3]; exact World.cell?_alloc_at _ _ _ _ (by simp only [World.size_alloc])
  have hD := h.news hE
  have hU : Under (New O w V) V := by obtain ⟨_, _, _, _, h⟩ := hD; exact h
  have h0 : New O w V w.heap.size := .inr ⟨by omega, by omega⟩
  have h1 : New O w V (w.heap.size + 1) := .inr ⟨by omega, by omega⟩
  have h2 : New O w V (w.heap.size + 2) := .inr ⟨by omega, by omega⟩
  have h3 : New O w V (w.heap.size + 3) := .inr ⟨by omega, by omega⟩
  have s1 := lay1_step (n := n) hU h0 h1 (p := p) e0 e1 hn
  have s2 := lay2_step (n := n) (s := s) hU h0 h1 h2 (p := p) e0 e1 e2 hn
  have s3 := lay3_step (n := n) hU h0 h1 (p := p) e0 e1 hn
  have A := Lib.hid (all_is (ao := some ⟨w.heap.size + 3, 0, none⟩) (n := 3) (cap := 3) (Steps.cons s1 (Steps.cons s2 (Steps.cons s3 (Steps.nil V (New O w V) p)))) rfl (lit_row (t := 43) _ 3 rfl (by omega) (by rw [hV, ← hs3]; exact heap_alloc_new _ _)) (fun g hg => by cases hg; exact h3) (by omega) hD hx)
  clear s1 s2 s3 hD h hx hs3 e0 e1 e2
  subst hV
  subst hV3
  go_enter Try.func30, Try.ntmps30
  go_wp2_with (go_at_call 35; (with_reducible refine A.out.mono ?_); rintro x w1 ⟨rfl, hD1⟩; have HD1 := Lib.hid hD1; clear hD1)
  go_ret
  exact ⟨rfl, H.out.back hE HD1.out (fun k hk => .inl hk)⟩
end
end Go.Proofs.Ytajclcbclbppiaa
