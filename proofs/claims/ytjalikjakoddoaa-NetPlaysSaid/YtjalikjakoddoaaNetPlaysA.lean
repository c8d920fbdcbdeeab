/-
  The walk of NetPlays.
-/
import Derived.Test.YtjalikjakoddoaaNetFo
import Derived.Deep.RegionWith
import Derived.Deep.RegionHeld3
import Derived.Deep.DeepCutAuto
import Derived.Deep.Cut
namespace Go.Proofs.Ytjalikjakoddoaa
open Go.RowKit Go.Nt
/-- A row of acts at a place: its ten cells. -/
theorem Acts.at {w : World} {ao : Option Addr} {n cap : Nat} {l : List Ac} (h : Acts w (.slice ao n cap) l) (hn : l.length = n) (i : Nat) (hi : i < l.length) : ∃ g o, ao = some ⟨g, o, none⟩ ∧ ∀ w', Ext w w' → ∀ j, j < 10 → w'.cell? ⟨g, o + i * 10 + j, none⟩ = (Acl l[i])[j]? := by
  rcases h.2.2 with ⟨_, _, _, hnil⟩ | ⟨g, o, c2, hve, hpos, hg, hc⟩
  · subst hnil; simp at hi
  · simp only [Value.slice.injEq] at hve
    exact ⟨g, o, hve.1, fun w' hx j hj => by rw [hx.cell (p := ⟨g, o + i * 10 + j, none⟩) hg]; exact hc i hi j hj⟩
/-- Are the acts more than is gone through? -/
def Gr (l : List Ac) (most : Nat) : Prop := (∃ a ∈ l, 50 < a.2.1.2.2.2.1.length) ∨ most < l.length
theorem gr_of {l : List Ac} {n most k : Nat} (hn : l.length = n) (hk : k = n) (h : ∀ j (hj : j < l.length), j < k → (l[j]).2.1.2.2.2.1.length ≤ 50) : ((most : Int) < (n : Int)) ↔ Gr l most := by
  unfold Gr
  constructor
  · intro h; right; omega
  · rintro (⟨a, ha, h2⟩ | h2)
    · obtain ⟨j, hj, rfl⟩ := List.mem_iff_getElem.1 ha
      have := h j hj (by omega); omega
    · omega
open Classical in
set_option maxHeartbeats 1000000 in
set_option maxRecDepth 100000 in
theorem great_any {w : World} {ao : Option Addr} {n cap : Nat} {l : List Ac} (h : Acts w (.slice ao n cap) l) (hn : l.length = n) (most : Nat) :
    Calls Try.prog 15 #[.slice ao n cap, .int .i64 most] w fun e w' => e = .returned (.bool (decide (Gr l most))) ∧ Ext w w' := by
  have hmax := h.2.1
  rw [hn] at hmax
  unfold maxLen at hmax
  have HA := Lib.hid h
  clear h
  go_enter Try.func15, Try.ntmps15
  go_wp2
  go_loopw [5] (fun i wr => (∃ k : Nat, k ≤ n ∧ i = .int .i64 k ∧ ∀ j (hj : j < l.length), j < k → (l[j]).2.1.2.2.2.1.length ≤ 50) ∧ Ext w wr) (fun i _ => n - (intOf i).toNat)
  case atStart => exact ⟨⟨0, by omega, rfl, fun j _ h => absurd h (by omega)⟩, Ext.refl _⟩
  case round =>
    obtain ⟨⟨k, hk, rfl, hp⟩, hE⟩ := hrel
    have HP := Lib.hid hp
    clear hp
    by_cases hlt : k < n
    · obtain ⟨g, o, rfl, hc⟩ := HA.out.at hn k (by omega)
      have c4 := hc wr hE 4 (by omega)
      obtain ⟨a, ha⟩ : ∃ a, a = l[k]'(by omega) := ⟨_, rfl⟩
      have hsz := (HA.out.1 a (by rw [ha]; exact List.getElem_mem _)).2.1
      rw [← ha] at c4
      have Ha := Lib.hid ha
      obtain ⟨kind, ⟨tt, ord, deed, sku, qty, amt, code⟩, I, K⟩ := a
      replace c4 : wr.cell? ⟨g, o + k * 10 + 4, none⟩ = some (.string (ofL sku)) := c4
      replace hsz : sku.length ≤ 9223372036854775807 := hsz
      clear hc ha
      by_cases hgr : sku.length ≤ 50
      · go_wp2
        exact ⟨⟨⟨k + 1, by omega, by go_num, fun j hj hjk => by
          rcases Nat.lt_or_ge j k with h | h
          · exact HP.out j hj h
          · obtain rfl : j = k := by omega
            rw [← Ha.out]; exact hgr⟩, hE⟩, by simp [intOf]; omega⟩
      · go_wp2
        go_ret
        have hG : Gr l most := .inl ⟨(kind, (tt, ord, deed, sku, qty, amt, code), I, K), by rw [Ha.out]; exact List.getElem_mem _, by show 50 < sku.length; omega⟩
        exact ⟨by simp [hG], hE⟩
    · obtain rfl : k = n := by omega
      go_wp2
      go_ret
      have hg := gr_of (most := most) hn rfl HP.out
      exact ⟨by rw [show decide (Gr l most) = decide (most < k) from decide_eq_decide.2 (by rw [← hg]; exact Int.ofNat_lt)]; rfl, hE⟩
open Classical in
theorem great_any' {w : World} {ao : Option Addr} {n cap : Nat} {l : List Ac} (h : Acts w (.slice ao n cap) l) (hn : l.length = n) :
    Calls Try.prog 15 #[.slice ao n cap, .int .i64 150] w fun e w' => e = .returned (.bool (decide (Gr l 150))) ∧ Ext w w' := great_any h hn 150
section
variable {w0 w w' : World} {p q c d : Nat} {L K : List Msg}
theorem Tw.old (h : Tw w0 (Old w0) p q L K w) : Ext w0 w := Fr.grownFrom h.fr (Ext.refl w0) (fun k hk => by
  rcases Nat.lt_or_ge k w0.heap.size with h | h
  · exact absurd h hk
  · exact h)
theorem tw_copy (h : Tw w0 (Old w0) p q L L w) (hl : L.length ≤ 1000) :
    Calls Try.prog 16 #[.pointer (some ⟨p, 0, none⟩)] w fun e w' => ∃ c g, e = .returned (.pointer (some ⟨c, 0, none⟩)) ∧ w.heap.size ≤ c ∧ w.heap.size ≤ g ∧ NetAt w' c (some ⟨g, 0, none⟩) L.length L ∧ Ext w w' := by
  obtain ⟨ao, cap, bo, cap2, h1, h2, h3, h4, h5⟩ := h
  exact net_copy h1 hl
theorem tw_rcopy (h : Tw w0 (Old w0) p q L L w) (hl : L.length ≤ 1000) :
    Calls Try.prog 17 #[.pointer (some ⟨q, 0, none⟩)] w fun e w' => ∃ d a1 c1, e = .returned (.pointer (some ⟨d, 0, none⟩)) ∧ RefAt w' d a1 c1 L ∧ Ext w w' ∧ ∀ k, own d a1 k → w.heap.size ≤ k := by
  obtain ⟨ao, cap, bo, cap2, h1, h2, h3, h4, h5⟩ := h
  exact rcopy h2 hl
theorem Tw.start {w1 : World} (h : Kp w0 (Old w0) p [] w1) (t : TypeId) : Tw w0 (Old w0) p w1.heap.size [] [] (w1.alloc (.cells #[.slice none 0 0] t)) := by
  obtain ⟨ao, cap, h1, h2, h3, h4⟩ := h
  have hR : RefAt (w1.alloc (.cells #[.slice none 0 0] t)) w1.heap.size none 0 [] := RefAt.build (L := []) (Rw.nil w1 7) t
  refine ⟨ao, cap, none, 0, h1.ext ((Ext.refl w1).alloc _), hR, fun k hk ho => ?_, Fr.tail h2 ((Ext.refl w1).alloc _), h3, fun k hk ho => ?_, h4⟩
  · rcases ho with rfl | ho
    · exact absurd (h1.under _ hk) (by omega)
    · cases ho
  · rcases ho with rfl | ho
    · have := h4 _ hk; have := h2.size; omega
    · cases ho
/-- What is kept is written tt: both nets stay. -/
theorem Tw.store {W : World} {R : Nat → Prop} {M : List Msg} (h : Tw W R p q L M w) {g : Nat} (hg : R g) (hf : Fr (fun k => k = g) w w') : Tw w' R p q L M w' := by
  obtain ⟨ao, cap, bo, cap2, h1, h2, h3, h4, h5, h6, h7⟩ := h
  exact ⟨ao, cap, bo, cap2, h1.fr hf (fun k e ho => h5 k (e ▸ hg) ho), h2.fr hf (fun k e ho => h6 k (e ▸ hg) ho), h3, Fr.refl _ _, h5, h6, fun k hk => Nat.lt_of_lt_of_le (h7 k hk) (Nat.le_trans h4.size hf.size)⟩
/-- Only what there was is kept again. -/
theorem Tw.toOld {V : World} {R : Nat → Prop} {M : List Msg} (h : Tw V R p q L M w) (hR : ∀ k, Old w0 k → R k) (hx : Ext w0 w) : Tw w0 (Old w0) p q L M w := by
  obtain ⟨ao, cap, bo, cap2, h1, h2, h3, h4, h5, h6, h7⟩ := h
  exact ⟨ao, cap, bo, cap2, h1, h2, h3, ⟨Below.os hx, Below.tape hx, Below.output hx, hx.size, fun k hk _ => Below.block hx k hk⟩, fun k hk => h5 k (hR k hk), fun k hk => h6 k (hR k hk), fun _ h => h⟩
theorem tw_mail (h : Tw w0 (Old w0) p q L L w) {n : Nat} (hn : L.length = n) (hl : n ≤ 1000) :
    Calls Try.prog 9 #[.pointer (some ⟨p, 0, none⟩)] w fun e w' => ∃ g, e = .returned (.slice (some ⟨g, 0, none⟩) n n) ∧ Rw w' 7 (some ⟨g, 0, none⟩) n n (Ml L) ∧ Ext w w' ∧ Tw w' (With (Old w0) g) p q L L w' ∧ w0.heap.size ≤ g := by
  subst hn
  obtain ⟨ao, cap, bo, cap2, h1, h2, h3, h4, h5, h6, h7⟩ := h
  refine (mail_any h1 hl).mono fun e w' ⟨g, k1, k2, k3, k4⟩ => ⟨g, k1, k3, k4, ⟨ao, cap, bo, cap2, h1.ext k4, h2.ext k4, h3, Fr.refl _ _, fun k hk ho => ?_, fun k hk ho => ?_, fun k hk => ?_⟩, Nat.le_trans h4.size k2⟩
  · rcases hk with hk | rfl
    · exact h5 k hk ho
    · exact absurd (h1.under _ ho) (by omega)
  · rcases hk with hk | rfl
    · exact h6 k hk ho
    · exact absurd (h2.under _ ho) (by omega)
  · rcases hk with hk | rfl
    · exact Nat.lt_of_lt_of_le (h7 k hk) (Nat.le_trans h4.size k4.size)
    · exact k3.lt _ rfl
theorem tw_list {W : World} {R : Nat → Prop} (h : Tw W R p q L K w) : ∃ bo b1, Rw w 7 bo K.length b1 (Ml K) ∧ w.cell? ⟨q, 0, none⟩ = some (.slice bo K.length b1) ∧ q < w.heap.size := by
  obtain ⟨ao, a1, bo, b1, h1, h2, h3⟩ := h
  exact ⟨bo, b1, h2.row, h2.list, h2.lt⟩
end
section
variable {w0 w : World} {p q c d : Nat} {L K : List Msg} {kind tt ord deed qty amt code I J : Int} {sku : List UInt8}
theorem fo_do' (h : Fo w0 p q c d L K w) (ha : AcOk (kind, (tt, ord, deed, sku, qty, amt, code), I, J)) (hl : L.length ≤ 1000) :
    Calls Try.prog 18 #[.agg #[.int .u8 kind, .int .i64 tt, .int .i64 ord, .int .i64 deed, .string (ofL sku), .int .i64 qty, .int .i64 amt, .int .i64 code, .int .i64 I, .int .i64 J], .pointer (some ⟨p, 0, none⟩), .pointer (some ⟨q, 0, none⟩)] w fun e w' => e = .returned (.bool true) ∧ ∃ L', L'.length ≤ 1000 ∧ Fo w0 p q c d L' K w' := fo_do h (kind, (tt, ord, deed, sku, qty, amt, code), I, J) ha hl
theorem fo_do2' (h : Fo w0 p q c d L K w) (ha : AcOk (kind, (tt, ord, deed, sku, qty, amt, code), I, J)) (hl : K.length ≤ 1000) :
    Calls Try.prog 18 #[.agg #[.int .u8 kind, .int .i64 tt, .int .i64 ord, .int .i64 deed, .string (ofL sku), .int .i64 qty, .int .i64 amt, .int .i64 code, .int .i64 I, .int .i64 J], .pointer (some ⟨c, 0, none⟩), .pointer (some ⟨d, 0, none⟩)] w fun e w' => e = .returned (.bool true) ∧ ∃ K', K'.length ≤ 1000 ∧ Fo w0 p q c d L K' w' := fo_do2 h (kind, (tt, ord, deed, sku, qty, amt, code), I, J) ha hl
end
theorem acl_cells {w' : World} {g o : Nat} {kind tt ord deed qty amt code I J : Int} {sku : List UInt8} (h : ∀ j, j < 10 → w'.cell? ⟨g, o + j, none⟩ = (Acl (kind, (tt, ord, deed, sku, qty, amt, code), I, J))[j]?) :
    w'.cell? ⟨g, o, none⟩ = some (.int .u8 kind) ∧ w'.cell? ⟨g, o + 1, none⟩ = some (.int .i64 tt) ∧ w'.cell? ⟨g, o + 2, none⟩ = some (.int .i64 ord) ∧ w'.cell? ⟨g, o + 3, none⟩ = some (.int .i64 deed) ∧ w'.cell? ⟨g, o + 4, none⟩ = some (.string (ofL sku)) ∧
      w'.cell? ⟨g, o + 5, none⟩ = some (.int .i64 qty) ∧ w'.cell? ⟨g, o + 6, none⟩ = some (.int .i64 amt) ∧ w'.cell? ⟨g, o + 7, none⟩ = some (.int .i64 code) ∧ w'.cell? ⟨g, o + 8, none⟩ = some (.int .i64 I) ∧ w'.cell? ⟨g, o + 9, none⟩ = some (.int .i64 J) :=
  ⟨h 0 (by omega), h 1 (by omega), h 2 (by omega), h 3 (by omega), h 4 (by omega), h 5 (by omega), h 6 (by omega), h 7 (by omega), h 8 (by omega), h 9 (by omega)⟩
end Go.Proofs.Ytjalikjakoddoaa
