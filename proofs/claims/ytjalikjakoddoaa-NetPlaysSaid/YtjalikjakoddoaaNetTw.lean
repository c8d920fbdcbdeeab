/-
  A net and the document's, side by side ('Tw'): each method, of the one and of the other.
-/
import Derived.Test.YtjalikjakoddoaaNetRf3
import Derived.Test.YtjalikjakoddoaaNetOs
namespace Go.Proofs.Ytjalikjakoddoaa
open Go.RowKit Go.Nt
/-- A net at p and the document's at q, apart from each other and from R; of R nothing has turned since W. -/
def Tw (W : World) (R : Nat → Prop) (p q : Nat) (L M : List Msg) (w : World) : Prop :=
  ∃ ao cap bo cap2, NetAt w p ao cap L ∧ RefAt w q bo cap2 M ∧ Apart (own p ao) (own q bo) ∧ Fr (fun k => ¬ R k) W w ∧ Apart R (own p ao) ∧ Apart R (own q bo) ∧ Under R W
theorem NetAt.under {w : World} {p : Nat} {ao : Option Addr} {cap : Nat} {L : List Msg} (h : NetAt w p ao cap L) : Under (own p ao) w := fun _ hk => hk.elim (fun e => e ▸ h.lt) (h.row.lt _)
theorem RefAt.under {w : World} {p : Nat} {ao : Option Addr} {cap : Nat} {L : List Msg} (h : RefAt w p ao cap L) : Under (own p ao) w := fun _ hk => hk.elim (fun e => e ▸ h.lt) (h.row.lt _)
theorem Turned.tn {w w' : World} {p : Nat} {ao ao' : Option Addr} (h : Turned w w' p ao ao') : Tn (own p ao) (own p ao') w w' :=
  ⟨h.1, fun k hk => hk.elim (fun e => .inl (.inl e)) (fun e => by
    rcases h.2 with rfl | ⟨g, rfl, hg⟩
    · exact .inl (.inr e)
    · cases e; exact .inr hg)⟩
theorem NetAt.fr {w w' : World} {p : Nat} {ao : Option Addr} {cap : Nat} {L : List Msg} (h : NetAt w p ao cap L) {F : Nat → Prop} (hf : Fr F w w') (ha : Apart F (own p ao)) : NetAt w' p ao cap L :=
  h.kept hf.size (hf.block p h.lt (fun e => ha _ e (.inl rfl))) (fun g hg => hf.block g (h.row.lt g hg) (fun e => ha _ e (.inr hg)))
theorem RefAt.fr {w w' : World} {p : Nat} {ao : Option Addr} {cap : Nat} {L : List Msg} (h : RefAt w p ao cap L) {F : Nat → Prop} (hf : Fr F w w') (ha : Apart F (own p ao)) : RefAt w' p ao cap L :=
  h.kept hf.size (hf.block p h.lt (fun e => ha _ e (.inl rfl))) (fun g hg => hf.block g (h.row.lt g hg) (fun e => ha _ e (.inr hg)))
section
variable {W : World} {R : Nat → Prop} {p q : Nat} {L M L' M' : List Msg} {w w' : World}
theorem Tw.net {ao ao' bo : Option Addr} {cap' cap2 : Nat} (h2 : RefAt w q bo cap2 M) (h3 : Apart (own p ao) (own q bo)) (h4 : Fr (fun k => ¬ R k) W w) (h5 : Apart R (own p ao)) (h6 : Apart R (own q bo)) (h7 : Under R W)
    (hN : NetAt w' p ao' cap' L') (hT : Tn (own p ao) (own p ao') w w') : Tw W R p q L' M w' :=
  ⟨ao', cap', bo, cap2, hN, h2.fr hT.fr h3, h3.turn h2.under hT, h4.trans hT.fr (fun k _ hk hr => h5 k hr hk), (h5.symm.turn (h7.mono h4.size) hT).symm, h6, h7⟩
theorem Tw.ref {ao bo bo' : Option Addr} {cap cap' : Nat} (h1 : NetAt w p ao cap L) (h3 : Apart (own p ao) (own q bo)) (h4 : Fr (fun k => ¬ R k) W w) (h5 : Apart R (own p ao)) (h6 : Apart R (own q bo)) (h7 : Under R W)
    (hN : RefAt w' q bo' cap' M') (hT : Tn (own q bo) (own q bo') w w') : Tw W R p q L M' w' :=
  ⟨ao, cap, bo', cap', h1.fr hT.fr h3.symm, hN, (h3.symm.turn h1.under hT).symm, h4.trans hT.fr (fun k _ hk hr => h6 k hr hk), h5, (h6.symm.turn (h7.mono h4.size) hT).symm, h7⟩
theorem Tw.ext (h : Tw W R p q L M w) (hx : Ext w w') : Tw W R p q L M w' := by
  obtain ⟨ao, cap, bo, cap2, h1, h2, h3, h4, h5⟩ := h
  exact ⟨ao, cap, bo, cap2, h1.ext hx, h2.ext hx, h3, Fr.tail h4 hx, h5⟩
theorem Tw.fr (h : Tw W R p q L M w) : Fr (fun k => ¬ R k) W w := by
  obtain ⟨_, _, _, _, _, _, _, h, _⟩ := h; exact h
/-- One block more, that is new, is kept. -/
theorem Tw.plus (h : Tw W R p q L M w) (o : Obj) : Tw (w.alloc o) (With R w.heap.size) p q L M (w.alloc o) := by
  obtain ⟨ao, cap, bo, cap2, h1, h2, h3, h4, h5, h6, h7⟩ := h
  refine ⟨ao, cap, bo, cap2, h1.ext ((Ext.refl w).alloc o), h2.ext ((Ext.refl w).alloc o), h3, Fr.refl _ _, fun k hk ho => ?_, fun k hk ho => ?_, fun k hk => ?_⟩
  · rcases hk with hk | rfl
    · exact h5 k hk ho
    · exact absurd (h1.under _ ho) (by omega)
  · rcases hk with hk | rfl
    · exact h6 k hk ho
    · exact absurd (h2.under _ ho) (by omega)
  · rcases hk with hk | rfl
    · have := h7 k hk; have := h4.size; simp; omega
    · simp
/-- Back to what was kept before. -/
theorem Tw.back (h : Tw W R p q L M w) {V : World} {b : Nat} (hx : Ext w V) (h' : Tw V (With R b) p q L' M' w') : Tw W R p q L' M' w' := by
  obtain ⟨_, _, _, _, _, _, _, h4, _, _, h7⟩ := h
  obtain ⟨ao, cap, bo, cap2, k1, k2, k3, k4, k5, k6, k7⟩ := h'
  exact ⟨ao, cap, bo, cap2, k1, k2, k3, (Fr.tail h4 hx).trans k4 (fun k _ hk hr => hk (.inl hr)), fun k hk => k5 k (.inl hk), fun k hk => k6 k (.inl hk), h7⟩

theorem tn_send (h : Tw W R p q L M w) {to ord deed qty amt code : Int} {sku : List UInt8} (hl : L.length ≤ 999) :
    Calls Try.prog 14 #[.pointer (some ⟨p, 0, none⟩), .agg #[.int .i64 to, .int .i64 ord, .int .i64 deed, .string (ofL sku), .int .i64 qty, .int .i64 amt, .int .i64 code]] w fun e w' => e = .returned (.bool true) ∧ Tw W R p q (L ++ [(to, ord, deed, sku, qty, amt, code)]) M w' := by
  have h0 := h
  obtain ⟨ao, cap, bo, cap2, h1, h2, h3, h4, h5, h6, h7⟩ := h
  exact (send_yes h1 (to, ord, deed, sku, qty, amt, code) hl).mono fun e w' ⟨k1, ao', cap', k2, k3⟩ => ⟨k1, Tw.net h2 h3 h4 h5 h6 h7 k2 k3.tn⟩
theorem tn_send_no (h : Tw W R p q L M w) {to ord deed qty amt code : Int} {sku : List UInt8} (hl : 1000 ≤ L.length) :
    Calls Try.prog 14 #[.pointer (some ⟨p, 0, none⟩), .agg #[.int .i64 to, .int .i64 ord, .int .i64 deed, .string (ofL sku), .int .i64 qty, .int .i64 amt, .int .i64 code]] w fun e w' => e = .returned (.bool false) ∧ Tw W R p q L M w' := by
  have h0 := h
  obtain ⟨ao, cap, bo, cap2, h1, h2, h3, h4, h5, h6, h7⟩ := h
  exact (send_no h1 (to, ord, deed, sku, qty, amt, code) hl).mono fun e w' ⟨k1, k2⟩ => ⟨k1, h0.ext k2⟩
theorem tn_deliver (h : Tw W R p q L M w) (k : Nat) (hk : k < L.length) (hl : L.length ≤ 1000) {to ord deed qty amt code : Int} {sku : List UInt8} (hm : (to, ord, deed, sku, qty, amt, code) = L[k]) :
    Calls Try.prog 10 #[.pointer (some ⟨p, 0, none⟩), .int .i64 k] w fun e w' => e = .returned (.tuple #[.agg #[.int .i64 to, .int .i64 ord, .int .i64 deed, .string (ofL sku), .int .i64 qty, .int .i64 amt, .int .i64 code], .bool true]) ∧ Tw W R p q (L.eraseIdx k) M w' := by
  have h0 := h
  obtain ⟨ao, cap, bo, cap2, h1, h2, h3, h4, h5, h6, h7⟩ := h
  have hd := deliver_yes h1 k hk hl
  rw [← hm] at hd
  exact (hd).mono fun e w' ⟨k1, ao', cap', k2, k3⟩ => ⟨k1, Tw.net h2 h3 h4 h5 h6 h7 k2 k3.tn⟩
theorem tn_deliver_no (h : Tw W R p q L M w) (i : Int) (hi : ¬ (0 ≤ i ∧ i < L.length)) :
    Calls Try.prog 10 #[.pointer (some ⟨p, 0, none⟩), .int .i64 i] w fun e w' => e = .returned (.tuple #[.agg #[.int .i64 0, .int .i64 0, .int .i64 0, .string (ofL []), .int .i64 0, .int .i64 0, .int .i64 0], .bool false]) ∧ Tw W R p q L M w' := by
  have h0 := h
  obtain ⟨ao, cap, bo, cap2, h1, h2, h3, h4, h5, h6, h7⟩ := h
  exact (deliver_no h1 i hi).mono fun e w' ⟨k1, k2⟩ => ⟨k1, h0.ext k2⟩
theorem tn_drop (h : Tw W R p q L M w) (k : Nat) (hk : k < L.length) (hl : L.length ≤ 1000) :
    Calls Try.prog 11 #[.pointer (some ⟨p, 0, none⟩), .int .i64 k] w fun e w' => e = .returned (.bool true) ∧ Tw W R p q (L.eraseIdx k) M w' := by
  have h0 := h
  obtain ⟨ao, cap, bo, cap2, h1, h2, h3, h4, h5, h6, h7⟩ := h
  exact (drop_yes h1 k hk hl).mono fun e w' ⟨k1, ao', cap', k2, k3⟩ => ⟨k1, Tw.net h2 h3 h4 h5 h6 h7 k2 k3.tn⟩
theorem tn_drop_no (h : Tw W R p q L M w) (i : Int) (hi : ¬ (0 ≤ i ∧ i < L.length)) :
    Calls Try.prog 11 #[.pointer (some ⟨p, 0, none⟩), .int .i64 i] w fun e w' => e = .returned (.bool false) ∧ Tw W R p q L M w' := by
  have h0 := h
  obtain ⟨ao, cap, bo, cap2, h1, h2, h3, h4, h5, h6, h7⟩ := h
  exact (drop_no h1 i hi).mono fun e w' ⟨k1, k2⟩ => ⟨k1, h0.ext k2⟩
theorem tn_double (h : Tw W R p q L M w) (k : Nat) (hk : k < L.length) (hl : L.length ≤ 999) :
    Calls Try.prog 12 #[.pointer (some ⟨p, 0, none⟩), .int .i64 k] w fun e w' => e = .returned (.bool true) ∧ Tw W R p q (L ++ [L[k]]) M w' := by
  have h0 := h
  obtain ⟨ao, cap, bo, cap2, h1, h2, h3, h4, h5, h6, h7⟩ := h
  exact (double_yes h1 k hk hl).mono fun e w' ⟨k1, ao', cap', k2, k3⟩ => ⟨k1, Tw.net h2 h3 h4 h5 h6 h7 k2 k3.tn⟩
theorem tn_double_full (h : Tw W R p q L M w) (k : Nat) (hk : k < L.length) (hl : L.length = 1000) :
    Calls Try.prog 12 #[.pointer (some ⟨p, 0, none⟩), .int .i64 k] w fun e w' => e = .returned (.bool false) ∧ Tw W R p q L M w' := by
  have h0 := h
  obtain ⟨ao, cap, bo, cap2, h1, h2, h3, h4, h5, h6, h7⟩ := h
  exact (double_full h1 k hk (by omega) (by omega)).mono fun e w' ⟨k1, k2⟩ => ⟨k1, h0.ext k2⟩
theorem tn_double_no (h : Tw W R p q L M w) (i : Int) (hi : ¬ (0 ≤ i ∧ i < L.length)) :
    Calls Try.prog 12 #[.pointer (some ⟨p, 0, none⟩), .int .i64 i] w fun e w' => e = .returned (.bool false) ∧ Tw W R p q L M w' := by
  have h0 := h
  obtain ⟨ao, cap, bo, cap2, h1, h2, h3, h4, h5, h6, h7⟩ := h
  exact (double_no h1 i hi).mono fun e w' ⟨k1, k2⟩ => ⟨k1, h0.ext k2⟩
theorem tn_turn (h : Tw W R p q L M w) (i k : Nat) (hi : i < L.length) (hk : k < L.length) (hl : L.length ≤ 1000) :
    Calls Try.prog 13 #[.pointer (some ⟨p, 0, none⟩), .int .i64 i, .int .i64 k] w fun e w' => e = .returned (.bool true) ∧ Tw W R p q ((L.set i (L[k])).set k (L[i])) M w' := by
  obtain ⟨ao, cap, bo, cap2, h1, h2, h3, h4, h5, h6, h7⟩ := h
  by_cases hik : i = k
  · subst hik
    exact (turn_same h1 i hi hl).mono fun e w' ⟨k1, ao', cap', k2, k3⟩ => ⟨k1, Tw.net h2 h3 h4 h5 h6 h7 k2 k3.tn⟩
  · exact (turn_two h1 i k hi hk hik hl).mono fun e w' ⟨k1, ao', cap', k2, k3⟩ => ⟨k1, Tw.net h2 h3 h4 h5 h6 h7 k2 k3.tn⟩
theorem tn_turn_no (h : Tw W R p q L M w) (i k : Int) (hi : ¬ ((0 ≤ i ∧ i < L.length) ∧ (0 ≤ k ∧ k < L.length))) :
    Calls Try.prog 13 #[.pointer (some ⟨p, 0, none⟩), .int .i64 i, .int .i64 k] w fun e w' => e = .returned (.bool false) ∧ Tw W R p q L M w' := by
  have h0 := h
  obtain ⟨ao, cap, bo, cap2, h1, h2, h3, h4, h5, h6, h7⟩ := h
  by_cases h : 0 ≤ i ∧ i < L.length
  · obtain ⟨n, rfl⟩ : ∃ n : Nat, i = n := ⟨i.toNat, by omega⟩
    exact (turn_no2 h1 n k (by omega) (fun hk => hi ⟨h, hk⟩)).mono fun e w' ⟨k1, k2⟩ => ⟨k1, by rw [k2]; exact h0⟩
  · exact (turn_no1 h1 i k h).mono fun e w' ⟨k1, k2⟩ => ⟨k1, by rw [k2]; exact h0⟩
theorem tr_send (h : Tw W R p q L M w) {to ord deed qty amt code : Int} {sku : List UInt8} (hl : M.length ≤ 999) :
    Calls Try.prog 26 #[.pointer (some ⟨q, 0, none⟩), .agg #[.int .i64 to, .int .i64 ord, .int .i64 deed, .string (ofL sku), .int .i64 qty, .int .i64 amt, .int .i64 code]] w fun e w' => e = .returned (.bool true) ∧ Tw W R p q L (M ++ [(to, ord, deed, sku, qty, amt, code)]) w' := by
  have h0 := h
  obtain ⟨ao, cap, bo, cap2, h1, h2, h3, h4, h5, h6, h7⟩ := h
  exact (rsend_yes h2 (to, ord, deed, sku, qty, amt, code) hl).mono fun e w' ⟨k1, ao', cap', k2, k3⟩ => ⟨k1, Tw.ref h1 h3 h4 h5 h6 h7 k2 k3⟩
theorem tr_send_no (h : Tw W R p q L M w) {to ord deed qty amt code : Int} {sku : List UInt8} (hl : 1000 ≤ M.length) :
    Calls Try.prog 26 #[.pointer (some ⟨q, 0, none⟩), .agg #[.int .i64 to, .int .i64 ord, .int .i64 deed, .string (ofL sku), .int .i64 qty, .int .i64 amt, .int .i64 code]] w fun e w' => e = .returned (.bool false) ∧ Tw W R p q L M w' := by
  have h0 := h
  obtain ⟨ao, cap, bo, cap2, h1, h2, h3, h4, h5, h6, h7⟩ := h
  exact (rsend_no h2 (to, ord, deed, sku, qty, amt, code) hl).mono fun e w' ⟨k1, k2⟩ => ⟨k1, h0.ext k2⟩
theorem tr_deliver (h : Tw W R p q L M w) (k : Nat) (hk : k < M.length) (hl : M.length ≤ 1000) {to ord deed qty amt code : Int} {sku : List UInt8} (hm : (to, ord, deed, sku, qty, amt, code) = M[k]) :
    Calls Try.prog 22 #[.pointer (some ⟨q, 0, none⟩), .int .i64 k] w fun e w' => e = .returned (.tuple #[.agg #[.int .i64 to, .int .i64 ord, .int .i64 deed, .string (ofL sku), .int .i64 qty, .int .i64 amt, .int .i64 code], .bool true]) ∧ Tw W R p q L (M.eraseIdx k) w' := by
  have h0 := h
  obtain ⟨ao, cap, bo, cap2, h1, h2, h3, h4, h5, h6, h7⟩ := h
  have hd := rdeliver_yes h2 k hk hl
  rw [← hm] at hd
  exact (hd).mono fun e w' ⟨k1, ao', cap', k2, k3⟩ => ⟨k1, Tw.ref h1 h3 h4 h5 h6 h7 k2 k3⟩
theorem tr_deliver_no (h : Tw W R p q L M w) (i : Int) (hi : ¬ (0 ≤ i ∧ i < M.length)) :
    Calls Try.prog 22 #[.pointer (some ⟨q, 0, none⟩), .int .i64 i] w fun e w' => e = .returned (.tuple #[.agg #[.int .i64 0, .int .i64 0, .int .i64 0, .string (ofL []), .int .i64 0, .int .i64 0, .int .i64 0], .bool false]) ∧ Tw W R p q L M w' := by
  have h0 := h
  obtain ⟨ao, cap, bo, cap2, h1, h2, h3, h4, h5, h6, h7⟩ := h
  exact (rdeliver_no h2 i hi).mono fun e w' ⟨k1, k2⟩ => ⟨k1, h0.ext k2⟩
theorem tr_drop (h : Tw W R p q L M w) (k : Nat) (hk : k < M.length) (hl : M.length ≤ 1000) :
    Calls Try.prog 23 #[.pointer (some ⟨q, 0, none⟩), .int .i64 k] w fun e w' => e = .returned (.bool true) ∧ Tw W R p q L (M.eraseIdx k) w' := by
  have h0 := h
  obtain ⟨ao, cap, bo, cap2, h1, h2, h3, h4, h5, h6, h7⟩ := h
  exact (rdrop_yes h2 k hk hl).mono fun e w' ⟨k1, ao', cap', k2, k3⟩ => ⟨k1, Tw.ref h1 h3 h4 h5 h6 h7 k2 k3⟩
theorem tr_drop_no (h : Tw W R p q L M w) (i : Int) (hi : ¬ (0 ≤ i ∧ i < M.length)) :
    Calls Try.prog 23 #[.pointer (some ⟨q, 0, none⟩), .int .i64 i] w fun e w' => e = .returned (.bool false) ∧ Tw W R p q L M w' := by
  have h0 := h
  obtain ⟨ao, cap, bo, cap2, h1, h2, h3, h4, h5, h6, h7⟩ := h
  exact (rdrop_no h2 i hi).mono fun e w' ⟨k1, k2⟩ => ⟨k1, h0.ext k2⟩
theorem tr_double (h : Tw W R p q L M w) (k : Nat) (hk : k < M.length) (hl : M.length ≤ 999) :
    Calls Try.prog 24 #[.pointer (some ⟨q, 0, none⟩), .int .i64 k] w fun e w' => e = .returned (.bool true) ∧ Tw W R p q L (M ++ [M[k]]) w' := by
  have h0 := h
  obtain ⟨ao, cap, bo, cap2, h1, h2, h3, h4, h5, h6, h7⟩ := h
  exact (rdouble_yes h2 k hk hl).mono fun e w' ⟨k1, ao', cap', k2, k3⟩ => ⟨k1, Tw.ref h1 h3 h4 h5 h6 h7 k2 k3⟩
theorem tr_double_full (h : Tw W R p q L M w) (k : Nat) (hk : k < M.length) (hl : M.length = 1000) :
    Calls Try.prog 24 #[.pointer (some ⟨q, 0, none⟩), .int .i64 k] w fun e w' => e = .returned (.bool false) ∧ Tw W R p q L M w' := by
  have h0 := h
  obtain ⟨ao, cap, bo, cap2, h1, h2, h3, h4, h5, h6, h7⟩ := h
  exact (rdouble_full h2 k hk (by omega) (by omega)).mono fun e w' ⟨k1, k2⟩ => ⟨k1, h0.ext k2⟩
theorem tr_double_no (h : Tw W R p q L M w) (i : Int) (hi : ¬ (0 ≤ i ∧ i < M.length)) :
    Calls Try.prog 24 #[.pointer (some ⟨q, 0, none⟩), .int .i64 i] w fun e w' => e = .returned (.bool false) ∧ Tw W R p q L M w' := by
  have h0 := h
  obtain ⟨ao, cap, bo, cap2, h1, h2, h3, h4, h5, h6, h7⟩ := h
  exact (rdouble_no h2 i hi).mono fun e w' ⟨k1, k2⟩ => ⟨k1, k2 ▸ h0⟩
theorem tr_turn (h : Tw W R p q L M w) (i k : Nat) (hi : i < M.length) (hk : k < M.length) (hl : M.length ≤ 1000) :
    Calls Try.prog 25 #[.pointer (some ⟨q, 0, none⟩), .int .i64 i, .int .i64 k] w fun e w' => e = .returned (.bool true) ∧ Tw W R p q L ((M.set i (M[k])).set k (M[i])) w' := by
  obtain ⟨ao, cap, bo, cap2, h1, h2, h3, h4, h5, h6, h7⟩ := h
  by_cases hik : i = k
  · subst hik
    exact (rturn_same h2 i hi hl).mono fun e w' ⟨k1, ao', cap', k2, k3⟩ => ⟨k1, Tw.ref h1 h3 h4 h5 h6 h7 k2 k3⟩
  · exact (rturn_two h2 i k hi hk hik hl).mono fun e w' ⟨k1, ao', cap', k2, k3⟩ => ⟨k1, Tw.ref h1 h3 h4 h5 h6 h7 k2 k3⟩
theorem tr_turn_no (h : Tw W R p q L M w) (i k : Int) (hi : ¬ ((0 ≤ i ∧ i < M.length) ∧ (0 ≤ k ∧ k < M.length))) :
    Calls Try.prog 25 #[.pointer (some ⟨q, 0, none⟩), .int .i64 i, .int .i64 k] w fun e w' => e = .returned (.bool false) ∧ Tw W R p q L M w' := by
  have h0 := h
  obtain ⟨ao, cap, bo, cap2, h1, h2, h3, h4, h5, h6, h7⟩ := h
  by_cases h : 0 ≤ i ∧ i < M.length
  · obtain ⟨n, rfl⟩ : ∃ n : Nat, i = n := ⟨i.toNat, by omega⟩
    exact (rturn_no2 h2 n k (by omega) (fun hk => hi ⟨h, hk⟩)).mono fun e w' ⟨k1, k2⟩ => ⟨k1, by rw [k2]; exact h0⟩
  · exact (rturn_no1 h2 i k h).mono fun e w' ⟨k1, k2⟩ => ⟨k1, by rw [k2]; exact h0⟩
end
end Go.Proofs.Ytjalikjakoddoaa
