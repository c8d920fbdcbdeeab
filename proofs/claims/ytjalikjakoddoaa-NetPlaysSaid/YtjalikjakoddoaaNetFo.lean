/-
  Two nets and the document's two, side by side.
-/
import Derived.Test.YtjalikjakoddoaaNetDo
import Derived.Test.YtjalikjakoddoaaNetOp
namespace Go.Proofs.Ytjalikjakoddoaa
open Go.RowKit Go.Nt
theorem do_any {W : World} {R : Nat → Prop} {p q : Nat} {L : List Msg} {w : World} (h : Tw W R p q L L w) (a : Ac) (ha : AcOk a) (hl : L.length ≤ 1000) :
    Calls Try.prog 18 #[.agg (Acl a).toArray, .pointer (some ⟨p, 0, none⟩), .pointer (some ⟨q, 0, none⟩)] w fun e w' => e = .returned (.bool true) ∧ ∃ L', L'.length ≤ 1000 ∧ Tw W R p q L' L' w' := by
  obtain ⟨kind, ⟨to, ord, deed, sku, qty, amt, code⟩, I, K⟩ := a
  have h8 := ha.1.1
  show Calls _ _ #[.agg #[.int .u8 kind, .int .i64 to, .int .i64 ord, .int .i64 deed, .string (ofL sku), .int .i64 qty, .int .i64 amt, .int .i64 code, .int .i64 I, .int .i64 K], _, _] _ _
  have go : ∀ {L' : List Msg}, L'.length ≤ 1000 → Calls Try.prog 18 #[.agg #[.int .u8 kind, .int .i64 to, .int .i64 ord, .int .i64 deed, .string (ofL sku), .int .i64 qty, .int .i64 amt, .int .i64 code, .int .i64 I, .int .i64 K], .pointer (some ⟨p, 0, none⟩), .pointer (some ⟨q, 0, none⟩)] w (fun e w' => e = .returned (.bool true) ∧ Tw W R p q L' L' w') →
      Calls Try.prog 18 #[.agg #[.int .u8 kind, .int .i64 to, .int .i64 ord, .int .i64 deed, .string (ofL sku), .int .i64 qty, .int .i64 amt, .int .i64 code, .int .i64 I, .int .i64 K], .pointer (some ⟨p, 0, none⟩), .pointer (some ⟨q, 0, none⟩)] w (fun e w' => e = .returned (.bool true) ∧ ∃ L', L'.length ≤ 1000 ∧ Tw W R p q L' L' w') :=
    fun hL c => c.mono fun e w' ⟨k1, k2⟩ => ⟨k1, _, hL, k2⟩
  have he : ∀ k, (L.eraseIdx k).length ≤ 1000 := fun k => Nat.le_trans (List.length_eraseIdx_le ..) hl
  by_cases k4 : kind % 8 = 4
  · by_cases hi : 0 ≤ I ∧ I < L.length
    · obtain ⟨k, rfl⟩ : ∃ k : Nat, I = k := ⟨I.toNat, by omega⟩
      exact go (he k) (do_deliver_yes h h8 k4 k (by omega) hl)
    · exact go hl (do_deliver_no h h8 k4 hi)
  by_cases k5 : kind % 8 = 5
  · by_cases hi : 0 ≤ I ∧ I < L.length
    · obtain ⟨k, rfl⟩ : ∃ k : Nat, I = k := ⟨I.toNat, by omega⟩
      exact go (he k) (do_drop_yes h h8 k5 k (by omega) hl)
    · exact go hl (do_drop_no h h8 k5 hi)
  by_cases k6 : kind % 8 = 6
  · by_cases hi : 0 ≤ I ∧ I < L.length
    · obtain ⟨k, rfl⟩ : ∃ k : Nat, I = k := ⟨I.toNat, by omega⟩
      by_cases hf : L.length = 1000
      · exact go hl (do_double_full h h8 k6 k (by omega) hf)
      · exact go (by simp; omega) (do_double_yes h h8 k6 k (by omega) (by omega))
    · exact go hl (do_double_no h h8 k6 hi)
  by_cases k7 : kind % 8 = 7
  · by_cases hi : (0 ≤ I ∧ I < L.length) ∧ (0 ≤ K ∧ K < L.length)
    · obtain ⟨i, rfl⟩ : ∃ i : Nat, I = i := ⟨I.toNat, by omega⟩
      obtain ⟨k, rfl⟩ : ∃ k : Nat, K = k := ⟨K.toNat, by omega⟩
      exact go (by simp; exact hl) (do_turn_yes h h8 k7 i k (by omega) (by omega) hl)
    · exact go hl (do_turn_no h h8 k7 hi)
  by_cases hf : L.length ≤ 999
  · exact go (by simp; omega) (do_send_yes h h8 k4 k5 k6 k7 hf)
  · exact go hl (do_send_no h h8 k4 k5 k6 k7 (by omega))
/-- Two pairs, each of a net and the document's; all apart, and apart from what there was. -/
def Fo (w0 : World) (p q c d : Nat) (L K : List Msg) (w : World) : Prop :=
  ∃ ao a1 bo b1 co c1 eo e1, NetAt w p ao a1 L ∧ RefAt w q bo b1 L ∧ NetAt w c co c1 K ∧ RefAt w d eo e1 K ∧ Apart (own p ao) (own q bo) ∧ Apart (own c co) (own d eo) ∧
    Apart (Both (own p ao) (own q bo)) (Both (own c co) (own d eo)) ∧ Apart (Old w0) (Both (own p ao) (own q bo)) ∧ Apart (Old w0) (Both (own c co) (own d eo)) ∧ Ext w0 w
section
variable {w0 w w' : World} {p q c d : Nat} {L K : List Msg}
theorem Fo.ext (h : Fo w0 p q c d L K w) (hx : Ext w w') : Fo w0 p q c d L K w' := by
  obtain ⟨ao, a1, bo, b1, co, c1, eo, e1, h1, h2, h3, h4, h5, h6, h7, h8, h9, h10⟩ := h
  exact ⟨ao, a1, bo, b1, co, c1, eo, e1, h1.ext hx, h2.ext hx, h3.ext hx, h4.ext hx, h5, h6, h7, h8, h9, h10.trans hx⟩
theorem Fo.old (h : Fo w0 p q c d L K w) : Ext w0 w := by
  obtain ⟨_, _, _, _, _, _, _, _, _, _, _, _, _, _, _, _, _, h⟩ := h; exact h
theorem Fo.swap (h : Fo w0 p q c d L K w) : Fo w0 c d p q K L w := by
  obtain ⟨ao, a1, bo, b1, co, c1, eo, e1, h1, h2, h3, h4, h5, h6, h7, h8, h9, h10⟩ := h
  exact ⟨co, c1, eo, e1, ao, a1, bo, b1, h3, h4, h1, h2, h6, h5, h7.symm, h9, h8, h10⟩
/-- What is done with the first pair lets the second be. -/
theorem fo_do (h : Fo w0 p q c d L K w) (a : Ac) (ha : AcOk a) (hl : L.length ≤ 1000) :
    Calls Try.prog 18 #[.agg (Acl a).toArray, .pointer (some ⟨p, 0, none⟩), .pointer (some ⟨q, 0, none⟩)] w fun e w' => e = .returned (.bool true) ∧ ∃ L', L'.length ≤ 1000 ∧ Fo w0 p q c d L' K w' := by
  obtain ⟨ao, a1, bo, b1, co, c1, eo, e1, h1, h2, h3, h4, h5, h6, h7, h8, h9, h10⟩ := h
  have hT : Tw w (fun k => Old w0 k ∨ Both (own c co) (own d eo) k) p q L L w :=
    ⟨ao, a1, bo, b1, h1, h2, h5, Fr.refl _ _, fun k hk ho => hk.elim (fun e => h8 k e (.inl ho)) (fun e => h7 k (.inl ho) e), fun k hk ho => hk.elim (fun e => h8 k e (.inr ho)) (fun e => h7 k (.inr ho) e),
      fun k hk => hk.elim (fun e => Nat.lt_of_lt_of_le e h10.size) (fun e => e.elim (h3.under k) (h4.under k))⟩
  refine (do_any hT a ha hl).mono fun e w' ⟨k1, L', k2, k3⟩ => ⟨k1, L', k2, ?_⟩
  obtain ⟨ao', a1', bo', b1', g1, g2, g3, g4, g5, g6, _⟩ := k3
  exact ⟨ao', a1', bo', b1', co, c1, eo, e1, g1, g2, h3.fr g4 (fun k hk ho => hk (.inr (.inl ho))), h4.fr g4 (fun k hk ho => hk (.inr (.inr ho))), g3, h6,
    fun k hk ho => hk.elim (fun e => g5 k (.inr ho) e) (fun e => g6 k (.inr ho) e), fun k hk ho => ho.elim (fun e => g5 k (.inl hk) e) (fun e => g6 k (.inl hk) e), h9,
    Fr.grownFrom g4 h10 (fun k hk => by
      rcases Nat.lt_or_ge k w0.heap.size with h | h
      · exact absurd (.inl h) hk
      · exact h)⟩
theorem fo_do2 (h : Fo w0 p q c d L K w) (a : Ac) (ha : AcOk a) (hl : K.length ≤ 1000) :
    Calls Try.prog 18 #[.agg (Acl a).toArray, .pointer (some ⟨c, 0, none⟩), .pointer (some ⟨d, 0, none⟩)] w fun e w' => e = .returned (.bool true) ∧ ∃ K', K'.length ≤ 1000 ∧ Fo w0 p q c d L K' w' :=
  (fo_do h.swap a ha hl).mono fun _ _ ⟨k1, K', k2, k3⟩ => ⟨k1, K', k2, k3.swap⟩
/-- The second one's mail. -/
theorem fo_mail2 (h : Fo w0 p q c d L K w) (hl : K.length ≤ 1000) :
    Calls Try.prog 9 #[.pointer (some ⟨c, 0, none⟩)] w fun e w' => ∃ g, e = .returned (.slice (some ⟨g, 0, none⟩) K.length K.length) ∧ Rw w' 7 (some ⟨g, 0, none⟩) K.length K.length (Ml K) ∧ Ext w w' := by
  obtain ⟨ao, a1, bo, b1, co, c1, eo, e1, h1, h2, h3, h4, h5, h6, h7, h8, h9, h10⟩ := h
  exact (mail_any h3 hl).mono fun e w' ⟨g, k1, k2, k3, k4⟩ => ⟨g, k1, k3, k4⟩
theorem fo_list2 (h : Fo w0 p q c d L K w) : ∃ eo e1, Rw w 7 eo K.length e1 (Ml K) ∧ w.cell? ⟨d, 0, none⟩ = some (.slice eo K.length e1) ∧ d < w.heap.size := by
  obtain ⟨ao, a1, bo, b1, co, c1, eo, e1, h1, h2, h3, h4, h5, h6, h7, h8, h9, h10⟩ := h
  exact ⟨eo, e1, h4.row, h4.list, h4.lt⟩
/-- A pair and its copies. -/
theorem Fo.start {w1 w2 : World} {g : Nat} {eo : Option Addr} {e1 : Nat} (h : Tw w0 (Old w0) p q L L w) (hc : w.heap.size ≤ c) (hg : w.heap.size ≤ g) (hN : NetAt w1 c (some ⟨g, 0, none⟩) L.length L) (hx1 : Ext w w1)
    (hR : RefAt w2 d eo e1 L) (hx2 : Ext w1 w2) (hd : ∀ k, own d eo k → w1.heap.size ≤ k) : Fo w0 p q c d L L w2 := by
  obtain ⟨ao, a1, bo, b1, h1, h2, h3, h4, h5, h6, h7⟩ := h
  have hw : Ext w0 w := Fr.grownFrom h4 (Ext.refl w0) (fun k hk => by
    rcases Nat.lt_or_ge k w0.heap.size with h | h
    · exact absurd h hk
    · exact h)
  have hcn : ∀ k, own c (some ⟨g, 0, none⟩) k → w.heap.size ≤ k := fun k hk => by
    rcases hk with rfl | e
    · exact hc
    · obtain rfl : g = k := by simpa [ob] using e
      exact hg
  have hs1 := hx1.size
  have hs0 := hw.size
  have hnew : ∀ k, Both (own c (some ⟨g, 0, none⟩)) (own d eo) k → w.heap.size ≤ k := fun k hk => hk.elim (hcn k) (fun e => Nat.le_trans hs1 (hd k e))
  have hold : ∀ k, Both (own p ao) (own q bo) k → k < w.heap.size := fun k hk => hk.elim (h1.under k) (h2.under k)
  exact ⟨ao, a1, bo, b1, _, _, eo, e1, (h1.ext hx1).ext hx2, (h2.ext hx1).ext hx2, hN.ext hx2, hR, h3, fun k hk ho => by have := hN.under k hk; have := hd k ho; omega,
    fun k hk ho => by have := hold k hk; have := hnew k ho; omega, fun k hk ho => ho.elim (h5 k hk) (h6 k hk), fun k hk ho => by have := hnew k ho; unfold Old at hk; omega, (hw.trans hx1).trans hx2⟩
theorem Fo.first (h : Fo w0 p q c d L K w) : Tw w0 (Old w0) p q L L w := by
  obtain ⟨ao, a1, bo, b1, co, c1, eo, e1, h1, h2, h3, h4, h5, h6, h7, h8, h9, h10⟩ := h
  exact ⟨ao, a1, bo, b1, h1, h2, h5, ⟨Below.os h10, Below.tape h10, Below.output h10, h10.size, fun k hk _ => Below.block h10 k hk⟩, fun k hk ho => h8 k hk (.inl ho), fun k hk ho => h8 k hk (.inr ho), fun _ h => h⟩
end
end Go.Proofs.Ytjalikjakoddoaa
