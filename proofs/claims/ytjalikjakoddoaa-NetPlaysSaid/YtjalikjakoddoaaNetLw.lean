/-
  A net under one name ('NetIn'); Same; the chapter's net (mailed).
-/
import Derived.Test.YtjalikjakoddoaaNetWk4
import Derived.BigQuiet
import Derived.Deep.QuietTactic
namespace Go.Proofs.Ytjalikjakoddoaa
open Go.RowKit Go.Nt
set_option maxHeartbeats 1000000 in
set_option maxRecDepth 100000 in
theorem same_yes {w : World} {ao bo : Option Addr} {n ca cb : Nat} {L : List Msg} (ha : Rw w 7 ao n ca (Ml L)) (hb : Rw w 7 bo n cb (Ml L)) (hn : n ≤ 16777216) :
    Calls Try.prog 19 #[.slice ao n ca, .slice bo n cb] w fun e w' => e = .returned (.bool true) ∧ Ext w w' := by
  have hl := ha.len
  rw [Ml_length] at hl
  have hL : L.length = n := by omega
  subst hL
  clear hl
  have Ha := Lib.hid ha
  have Hb := Lib.hid hb
  clear ha hb
  go_enter Try.func19, Try.ntmps19
  go_wp2
  go_loopw [5] (fun i wr => (∃ k : Nat, k ≤ L.length ∧ i = .int .i64 k) ∧ Ext w wr) (fun i _ => L.length - (intOf i).toNat)
  case atStart => exact ⟨⟨0, by omega, rfl⟩, Ext.refl _⟩
  case round =>
    obtain ⟨⟨k, hk, rfl⟩, hE⟩ := hrel
    by_cases hlt : k < L.length
    · obtain ⟨g, rfl, hg, hx1, hx2⟩ := (Ha.out.ext hE).row (by omega)
      obtain ⟨f, rfl, hf, hx3, hx4⟩ := (Hb.out.ext hE).row (by omega)
      clear hx1 hx2 hx3 hx4
      obtain ⟨c0, c1, c2, c3, c4, c5, c6⟩ := (Ha.out.ext hE).msg k hlt
      obtain ⟨d0, d1, d2, d3, d4, d5, d6⟩ := (Hb.out.ext hE).msg k hlt
      obtain ⟨m, hm⟩ : ∃ m, L[k] = m := ⟨_, rfl⟩
      rw [hm] at c0 c1 c2 c3 c4 c5 c6 d0 d1 d2 d3 d4 d5 d6
      clear hm
      obtain ⟨to, ord, deed, sku, qty, amt, code⟩ := m
      go_wp2
      go_quiet (fail)
      all_goals
        go_wp2
        exact ⟨⟨⟨k + 1, by omega, by go_num⟩, hE.drewN _⟩, by simp [intOf]; omega⟩
    · have : k = L.length := by omega
      subst this
      go_wp2
      go_ret
      exact ⟨rfl, hE⟩
/-- The blocks of a net. -/
def own (p : Nat) (ao : Option Addr) : Nat → Prop := fun k => k = p ∨ ob ao = some k
/-- A net at p with these messages, its blocks apart from R; of R nothing has turned since W. -/
def Kp (W : World) (R : Nat → Prop) (p : Nat) (L : List Msg) (w : World) : Prop :=
  ∃ ao cap, NetAt w p ao cap L ∧ Fr (fun k => ¬ R k) W w ∧ Apart R (own p ao) ∧ Under R W
theorem Kp.fr {W : World} {R : Nat → Prop} {p : Nat} {L : List Msg} {w : World} (h : Kp W R p L w) : Fr (fun k => ¬ R k) W w := by
  obtain ⟨_, _, _, h, _⟩ := h; exact h
theorem Fr.tail {F : Nat → Prop} {W a b : World} (h : Fr F W a) (hx : Ext a b) : Fr F W b := h.trans (Fr.of_ext (F := fun _ => False) hx) (fun _ _ hf => hf.elim)
theorem Kp.ext {W : World} {R : Nat → Prop} {p : Nat} {L : List Msg} {w w' : World} (h : Kp W R p L w) (hx : Ext w w') : Kp W R p L w' := by
  obtain ⟨ao, cap, h1, h2, h3, h4⟩ := h
  exact ⟨ao, cap, h1.ext hx, Fr.tail h2 hx, h3, h4⟩
theorem Kp.turned {W : World} {R : Nat → Prop} {p : Nat} {M : List Msg} {w w' : World} {ao ao' : Option Addr} {cap' : Nat} (h2 : Fr (fun k => ¬ R k) W w) (h3 : Apart R (own p ao)) (h4 : Under R W)
    (hN : NetAt w' p ao' cap' M) (hT : Turned w w' p ao ao') : Kp W R p M w' := by
  refine ⟨ao', cap', hN, h2.trans hT.1 (fun k _ hk hr => h3 k hr hk), fun k hr hk => ?_, h4⟩
  rcases hk with rfl | hk
  · exact h3 k hr (.inl rfl)
  · rcases hT.2 with rfl | ⟨g, rfl, hg⟩
    · exact h3 k hr (.inr hk)
    · have : g = k := by simpa [ob] using hk
      have := h4 k hr
      have := h2.size
      omega
/-- The cells of what has not turned. -/
theorem Kp.cells {W : World} {R : Nat → Prop} {w : World} (h : Fr (fun k => ¬ R k) W w) {g : Nat} {a : Array Value} {t : TypeId} (hb : W.heap[g]? = some (.cells a t)) (hn : R g) : ∀ o, w.cell? ⟨g, o, none⟩ = a[o]? :=
  (h.cells hb (fun h => h hn)).1
section
variable {W : World} {R : Nat → Prop} {p : Nat} {L : List Msg} {w : World}
theorem k_new (w : World) (R : Nat → Prop) (hR : Under R w) :
    Calls Try.prog 8 #[] w fun e w' => e = .returned (.pointer (some ⟨w.heap.size, 0, none⟩)) ∧ Kp w R w.heap.size [] w' ∧ Ext w w' :=
  (net_new w).mono fun e w' ⟨h1, h2, h3⟩ => ⟨h1, ⟨none, 0, h2, Fr.of_ext h3, fun k hr hk => by
    rcases hk with rfl | hk
    · exact absurd (hR _ hr) (by omega)
    · simp [ob] at hk, hR⟩, h3⟩
theorem k_send (h : Kp W R p L w) (m : Msg) (hl : L.length ≤ 999) {M : List Msg} (hM : M = L ++ [m]) :
    Calls Try.prog 14 #[.pointer (some ⟨p, 0, none⟩), Mv m] w fun e w' => e = .returned (.bool true) ∧ Kp W R p M w' := by
  subst hM
  obtain ⟨ao, cap, h1, h2, h3, h4⟩ := h
  exact (send_yes h1 m hl).mono fun e w' ⟨k1, ao', cap', k2, k3⟩ => ⟨k1, Kp.turned h2 h3 h4 k2 k3⟩
theorem k_send' (h : Kp W R p L w) {to ord deed qty amt code : Int} {sku : List UInt8} (hl : L.length ≤ 999) {M : List Msg} (hM : M = L ++ [(to, ord, deed, sku, qty, amt, code)]) :
    Calls Try.prog 14 #[.pointer (some ⟨p, 0, none⟩), .agg #[.int .i64 to, .int .i64 ord, .int .i64 deed, .string (ofL sku), .int .i64 qty, .int .i64 amt, .int .i64 code]] w fun e w' => e = .returned (.bool true) ∧ Kp W R p M w' := k_send h (to, ord, deed, sku, qty, amt, code) hl hM
theorem k_send_no (h : Kp W R p L w) (m : Msg) (hl : 1000 ≤ L.length) :
    Calls Try.prog 14 #[.pointer (some ⟨p, 0, none⟩), Mv m] w fun e w' => e = .returned (.bool false) ∧ Kp W R p L w' := by
  have h0 := h
  obtain ⟨ao, cap, h1, h2, h3, h4⟩ := h
  exact (send_no h1 m hl).mono fun e w' ⟨k1, k2⟩ => ⟨k1, h0.ext k2⟩
theorem k_deliver (h : Kp W R p L w) (i : Int) (k : Nat) (hik : i = k) (hk : k < L.length) (hl : L.length ≤ 1000) {M : List Msg} (hM : M = L.eraseIdx k) {m : Msg} (hm : m = L[k]) :
    Calls Try.prog 10 #[.pointer (some ⟨p, 0, none⟩), .int .i64 i] w fun e w' => e = .returned (.tuple #[Mv m, .bool true]) ∧ Kp W R p M w' := by
  subst hik
  subst hM
  subst hm
  obtain ⟨ao, cap, h1, h2, h3, h4⟩ := h
  exact (deliver_yes h1 k hk hl).mono fun e w' ⟨k1, ao', cap', k2, k3⟩ => ⟨k1, Kp.turned h2 h3 h4 k2 k3⟩
theorem k_deliver' (h : Kp W R p L w) (i : Int) (k : Nat) (hik : i = k) (hk : k < L.length) (hl : L.length ≤ 1000) {M : List Msg} (hM : M = L.eraseIdx k) {to ord deed qty amt code : Int} {sku : List UInt8} (hm : (to, ord, deed, sku, qty, amt, code) = L[k]) :
    Calls Try.prog 10 #[.pointer (some ⟨p, 0, none⟩), .int .i64 i] w fun e w' => e = .returned (.tuple #[.agg #[.int .i64 to, .int .i64 ord, .int .i64 deed, .string (ofL sku), .int .i64 qty, .int .i64 amt, .int .i64 code], .bool true]) ∧ Kp W R p M w' := k_deliver h i k hik hk hl hM (m := (to, ord, deed, sku, qty, amt, code)) hm
theorem k_deliver_no' (h : Kp W R p L w) (i : Int) (hi : ¬ (0 ≤ i ∧ i < L.length)) :
    Calls Try.prog 10 #[.pointer (some ⟨p, 0, none⟩), .int .i64 i] w fun e w' => e = .returned (.tuple #[.agg #[.int .i64 0, .int .i64 0, .int .i64 0, .string (ofL []), .int .i64 0, .int .i64 0, .int .i64 0], .bool false]) ∧ Kp W R p L w' := by
  obtain ⟨ao, cap, h1, h2, h3, h4⟩ := id h
  exact (deliver_no h1 i hi).mono fun e w' ⟨k1, k2⟩ => ⟨k1, h.ext k2⟩
theorem k_deliver_no (h : Kp W R p L w) (i : Int) (hi : ¬ (0 ≤ i ∧ i < L.length)) :
    Calls Try.prog 10 #[.pointer (some ⟨p, 0, none⟩), .int .i64 i] w fun e w' => e = .returned (.tuple #[Mv (0, 0, 0, [], 0, 0, 0), .bool false]) ∧ Kp W R p L w' := by
  have h0 := h
  obtain ⟨ao, cap, h1, h2, h3, h4⟩ := h
  exact (deliver_no h1 i hi).mono fun e w' ⟨k1, k2⟩ => ⟨k1, h0.ext k2⟩
theorem k_drop (h : Kp W R p L w) (i : Int) (k : Nat) (hik : i = k) (hk : k < L.length) (hl : L.length ≤ 1000) {M : List Msg} (hM : M = L.eraseIdx k) :
    Calls Try.prog 11 #[.pointer (some ⟨p, 0, none⟩), .int .i64 i] w fun e w' => e = .returned (.bool true) ∧ Kp W R p M w' := by
  subst hik
  subst hM
  obtain ⟨ao, cap, h1, h2, h3, h4⟩ := h
  exact (drop_yes h1 k hk hl).mono fun e w' ⟨k1, ao', cap', k2, k3⟩ => ⟨k1, Kp.turned h2 h3 h4 k2 k3⟩
theorem k_drop_no (h : Kp W R p L w) (i : Int) (hi : ¬ (0 ≤ i ∧ i < L.length)) :
    Calls Try.prog 11 #[.pointer (some ⟨p, 0, none⟩), .int .i64 i] w fun e w' => e = .returned (.bool false) ∧ Kp W R p L w' := by
  have h0 := h
  obtain ⟨ao, cap, h1, h2, h3, h4⟩ := h
  exact (drop_no h1 i hi).mono fun e w' ⟨k1, k2⟩ => ⟨k1, h0.ext k2⟩
theorem k_double (h : Kp W R p L w) (i : Int) (k : Nat) (hik : i = k) (hk : k < L.length) (hl : L.length ≤ 999) {M : List Msg} (hM : M = L ++ [L[k]]) :
    Calls Try.prog 12 #[.pointer (some ⟨p, 0, none⟩), .int .i64 i] w fun e w' => e = .returned (.bool true) ∧ Kp W R p M w' := by
  subst hik
  subst hM
  obtain ⟨ao, cap, h1, h2, h3, h4⟩ := h
  exact (double_yes h1 k hk hl).mono fun e w' ⟨k1, ao', cap', k2, k3⟩ => ⟨k1, Kp.turned h2 h3 h4 k2 k3⟩
theorem k_double_no (h : Kp W R p L w) (i : Int) (hi : ¬ (0 ≤ i ∧ i < L.length)) :
    Calls Try.prog 12 #[.pointer (some ⟨p, 0, none⟩), .int .i64 i] w fun e w' => e = .returned (.bool false) ∧ Kp W R p L w' := by
  have h0 := h
  obtain ⟨ao, cap, h1, h2, h3, h4⟩ := h
  exact (double_no h1 i hi).mono fun e w' ⟨k1, k2⟩ => ⟨k1, h0.ext k2⟩
theorem k_double_full (h : Kp W R p L w) (i : Int) (k : Nat) (hik : i = k) (hk : k < L.length) (hl : L.length = 1000) :
    Calls Try.prog 12 #[.pointer (some ⟨p, 0, none⟩), .int .i64 i] w fun e w' => e = .returned (.bool false) ∧ Kp W R p L w' := by
  subst hik
  have h0 := h
  obtain ⟨ao, cap, h1, h2, h3, h4⟩ := h
  exact (double_full h1 k hk (by omega) (by omega)).mono fun e w' ⟨k1, k2⟩ => ⟨k1, h0.ext k2⟩
theorem k_turn (h : Kp W R p L w) (x y : Int) (i k : Nat) (hx : x = i) (hy : y = k) (hi : i < L.length) (hk : k < L.length) (hl : L.length ≤ 1000) {M : List Msg} (hM : M = (L.set i (L[k])).set k (L[i])) :
    Calls Try.prog 13 #[.pointer (some ⟨p, 0, none⟩), .int .i64 x, .int .i64 y] w fun e w' => e = .returned (.bool true) ∧ Kp W R p M w' := by
  subst hx
  subst hy
  subst hM
  obtain ⟨ao, cap, h1, h2, h3, h4⟩ := h
  by_cases hik : i = k
  · subst hik
    exact (turn_same h1 i hi hl).mono fun e w' ⟨k1, ao', cap', k2, k3⟩ => ⟨k1, Kp.turned h2 h3 h4 k2 k3⟩
  · exact (turn_two h1 i k hi hk hik hl).mono fun e w' ⟨k1, ao', cap', k2, k3⟩ => ⟨k1, Kp.turned h2 h3 h4 k2 k3⟩
theorem k_turn_no (h : Kp W R p L w) (i k : Int) (hi : ¬ ((0 ≤ i ∧ i < L.length) ∧ (0 ≤ k ∧ k < L.length))) :
    Calls Try.prog 13 #[.pointer (some ⟨p, 0, none⟩), .int .i64 i, .int .i64 k] w fun e w' => e = .returned (.bool false) ∧ Kp W R p L w' := by
  have h0 := h
  obtain ⟨ao, cap, h1, h2, h3, h4⟩ := h
  by_cases h : 0 ≤ i ∧ i < L.length
  · obtain ⟨n, rfl⟩ : ∃ n : Nat, i = n := ⟨i.toNat, by omega⟩
    exact (turn_no2 h1 n k (by omega) (fun hk => hi ⟨h, hk⟩)).mono fun e w' ⟨k1, k2⟩ => ⟨k1, by rw [k2]; exact h0⟩
  · exact (turn_no1 h1 i k h).mono fun e w' ⟨k1, k2⟩ => ⟨k1, by rw [k2]; exact h0⟩
theorem k_mail (h : Kp W R p L w) {n : Nat} (hn : L.length = n) (hl : n ≤ 1000) :
    Calls Try.prog 9 #[.pointer (some ⟨p, 0, none⟩)] w fun e w' => ∃ g, e = .returned (.slice (some ⟨g, 0, none⟩) n n) ∧ W.heap.size ≤ g ∧
      Rw w' 7 (some ⟨g, 0, none⟩) n n (Ml L) ∧ Kp W R p L w' ∧ Ext w w' := by
  subst hn
  have h0 := h
  obtain ⟨ao, cap, h1, h2, h3, h4⟩ := h
  exact (mail_any h1 hl).mono fun e w' ⟨g, k1, k2, k3, k4⟩ => ⟨g, k1, Nat.le_trans h2.size k2, k3, h0.ext k4, k4⟩
end
end Go.Proofs.Ytjalikjakoddoaa
