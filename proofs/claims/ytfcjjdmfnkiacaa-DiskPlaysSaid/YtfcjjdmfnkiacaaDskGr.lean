/-
  The walk of Great.
-/
import Derived.Test.YtfcjjdmfnkiacaaDskAc
namespace Go.Proofs.Ytfcjjdmfnkiacaa
open Go.RowKit Go.Dk
/-- A row of acts at a place: its six cells. -/
theorem Acts.at {w : World} {ao : Option Addr} {n cap : Nat} {l : List Da} (h : Acts w (.slice ao n cap) l) (hn : l.length = n) (i : Nat) (hi : i < l.length) : ∃ g o, ao = some ⟨g, o, none⟩ ∧ g < w.heap.size ∧ ∀ w', Ext w w' → ∀ j, j < 6 → w'.cell? ⟨g, o + i * 6 + j, none⟩ = (Dc l[i])[j]? := by
  rcases h.2.2 with ⟨_, _, _, hnil⟩ | ⟨g, o, c2, hve, hpos, hg, hc⟩
  · subst hnil; simp at hi
  · simp only [Value.slice.injEq] at hve
    exact ⟨g, o, hve.1, hg, fun w' hx j hj => by rw [hx.cell (p := ⟨g, o + i * 6 + j, none⟩) hg]; exact hc i hi j hj⟩
/-- Are the acts more than is gone through? -/
def Gr (l : List Da) (most : Nat) : Prop := (∃ a ∈ l, 2000 < a.s.length ∨ 100 < a.ks.length) ∨ most < l.length
theorem gr_of {l : List Da} {n most k : Nat} (hn : l.length = n) (hk : k = n) (h : ∀ j (hj : j < l.length), j < k → l[j].s.length ≤ 2000 ∧ l[j].ks.length ≤ 100) : ((most : Int) < (n : Int)) ↔ Gr l most := by
  unfold Gr
  constructor
  · intro h; right; omega
  · rintro (⟨a, ha, h2⟩ | h2)
    · obtain ⟨j, hj, rfl⟩ := List.mem_iff_getElem.1 ha
      have := h j hj (by omega); omega
    · omega
open Classical in
set_option maxHeartbeats 1000000 in
set_option maxRecDepth 100000 in
theorem great_any {w : World} {ao : Option Addr} {n cap : Nat} {l : List Da} (h : Acts w (.slice ao n cap) l) (hn : l.length = n) (most : Nat) (mo : Int) (hmo : mo = most) :
    Calls Try.prog 23 #[.slice ao n cap, .int .i64 mo] w fun e w' => e = .returned (.bool (decide (Gr l most))) ∧ Ext w w' := by
  subst hmo
  have hmax := h.2.1
  rw [hn] at hmax
  unfold maxLen at hmax
  have HA := Lib.hid h
  clear h
  go_enter Try.func23, Try.ntmps23
  go_wp2
  go_loopw [5] (fun i wr => (∃ k : Nat, k ≤ n ∧ i = .int .i64 k ∧ ∀ j (hj : j < l.length), j < k → l[j].s.length ≤ 2000 ∧ l[j].ks.length ≤ 100) ∧ Ext w wr) (fun i _ => n - (intOf i).toNat)
  case atStart => exact ⟨⟨0, by omega, rfl, fun j _ h => absurd h (by omega)⟩, Ext.refl _⟩
  case round =>
    obtain ⟨⟨k, hk, rfl, hp⟩, hE⟩ := hrel
    have HP := Lib.hid hp
    clear hp
    by_cases hlt : k < n
    · obtain ⟨g, o, rfl, _, hc⟩ := HA.out.at hn k (by omega)
      have c4 := hc wr hE 4 (by omega)
      have c5 := hc wr hE 5 (by omega)
      obtain ⟨a, ha⟩ : ∃ a, a = l[k]'(by omega) := ⟨_, rfl⟩
      have hsz := (HA.out.1 a (by rw [ha]; exact List.getElem_mem _)).s
      have hsk := (HA.out.1 a (by rw [ha]; exact List.getElem_mem _)).ks
      unfold maxLen at hsk
      rw [← ha] at c4 c5
      have Ha := Lib.hid ha
      replace c4 : wr.cell? ⟨g, o + k * 6 + 4, none⟩ = some (.string (ofL a.s)) := c4
      replace c5 : wr.cell? ⟨g, o + k * 6 + 5, none⟩ = some (.slice a.ko a.ks.length a.kc) := c5
      clear hc ha
      by_cases hgr : a.s.length ≤ 2000
      · by_cases hgk : a.ks.length ≤ 100
        · go_wp2
          exact ⟨⟨⟨k + 1, by omega, by go_num, fun j hj hjk => by
            rcases Nat.lt_or_ge j k with h | h
            · exact HP.out j hj h
            · obtain rfl : j = k := by omega
              rw [← Ha.out]; exact ⟨hgr, hgk⟩⟩, hE⟩, by simp [intOf]; omega⟩
        · go_wp2
          go_ret
          have hG : Gr l most := .inl ⟨a, by rw [Ha.out]; exact List.getElem_mem _, .inr (by omega)⟩
          exact ⟨by simp [hG], hE⟩
      · go_wp2
        go_ret
        have hG : Gr l most := .inl ⟨a, by rw [Ha.out]; exact List.getElem_mem _, .inl (by omega)⟩
        exact ⟨by simp [hG], hE⟩
    · obtain rfl : k = n := by omega
      go_wp2
      go_ret
      have hg := gr_of (most := most) hn rfl HP.out
      exact ⟨by rw [show decide (Gr l most) = decide (most < k) from decide_eq_decide.2 (by rw [← hg]; exact Int.ofNat_lt)]; rfl, hE⟩
/-- One act, in a row that is new. -/
theorem acts_one {w : World} {a : Da} (h : DaOk w a) (t : TypeId) : Acts (w.alloc (.cells (Dc a).toArray t)) (.slice (some ⟨w.heap.size, 0, none⟩) 1 1) [a] := by
  refine ⟨fun b hb => ?_, (show 1 ≤ maxLen by decide), .inr ⟨w.heap.size, 0, 1, rfl, Nat.one_pos, by simp, fun i hi j _ => ?_⟩⟩
  · obtain rfl : b = a := by simpa using hb
    exact h.ext ((Ext.refl w).alloc _)
  · obtain rfl : i = 0 := by simpa using hi
    have hb := heap_alloc_new w (.cells (Dc a).toArray t)
    simp only [World.cell?, hb]
    simp
end Go.Proofs.Ytfcjjdmfnkiacaa
