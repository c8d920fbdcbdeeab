/-
  The walk of NetNone.
-/
import Derived.Test.YtjalikjakoddoaaNetMl
import Derived.Test.YtjalikjakoddoaaNetOp
namespace Go.Proofs.Ytjalikjakoddoaa
open Go.RowKit Go.Nt
theorem send_non' {w : World} {v : Value} (h : Non w v) {to ord deed qty amt code : Int} {sku : List UInt8} :
    Calls Try.prog 14 #[v, .agg #[.int .i64 to, .int .i64 ord, .int .i64 deed, .string (ofL sku), .int .i64 qty, .int .i64 amt, .int .i64 code]] w fun e w' => e = .returned (.bool false) ∧ Ext w w' := send_non h (to, ord, deed, sku, qty, amt, code)
theorem deliver_non' {w : World} {v : Value} (h : Non w v) (i : Int) :
    Calls Try.prog 10 #[v, .int .i64 i] w fun e w' => e = .returned (.tuple #[.agg #[.int .i64 0, .int .i64 0, .int .i64 0, .string (ofL []), .int .i64 0, .int .i64 0, .int .i64 0], .bool false]) ∧ Ext w w' := deliver_non h i
set_option maxHeartbeats 2000000 in
set_option maxRecDepth 100000 in
theorem netNone_any (w : World) (a : Ac) (ha : AcOk a) : Calls Try.prog 6 #[.agg (Acl a).toArray] w fun e w' => e = .returned (.bool true) ∧ Ext w w' := by
  obtain ⟨kind, ⟨to, ord, deed, sku, qty, amt, code⟩, I, K⟩ := a
  have hs := ha.2.1
  simp only [Acl, Mc, List.cons_append, List.nil_append] at hs ⊢
  clear ha
  obtain ⟨B, hB⟩ : ∃ B, B = w.alloc (.cells #[.int .u8 kind, .int .i64 to, .int .i64 ord, .int .i64 deed, .string (ofL sku), .int .i64 qty, .int .i64 amt, .int .i64 code, .int .i64 I, .int .i64 K] 34) := ⟨_, rfl⟩
  have hE : Ext w B := by rw [hB]; exact (Ext.refl w).alloc _
  have hC : ∀ w', Ext B w' → ∀ o, w'.cell? ⟨w.heap.size, o, none⟩ = (#[.int .u8 kind, .int .i64 to, .int .i64 ord, .int .i64 deed, .string (ofL sku), .int .i64 qty, .int .i64 amt, .int .i64 code, .int .i64 I, .int .i64 K] : Array Value)[o]? := fun w' hx => by
    have hb : B.heap[w.heap.size]? = some (.cells #[.int .u8 kind, .int .i64 to, .int .i64 ord, .int .i64 deed, .string (ofL sku), .int .i64 qty, .int .i64 amt, .int .i64 code, .int .i64 I, .int .i64 K] 34) := by rw [hB]; exact heap_alloc_new _ _
    exact ((Fr.of_ext (F := fun _ => False) hx).cells hb (fun h => h)).1
  have hBs : B.heap.size = w.heap.size + 1 := by rw [hB]; simp
  have HC := Lib.hid hC
  clear hC
  by_cases hgr : sku.length ≤ 50
  · go_enter Try.func6, Try.ntmps6
    go_wp2_with fail
    rw [← hB]
    go_loopw [3, 4] (fun v i wr => (∃ k : Nat, k ≤ 2 ∧ i = .int .i64 k) ∧ Non wr v ∧ Ext B wr) (fun _ i _ => 2 - (intOf i).toNat)
    case atStart => exact ⟨⟨0, by omega, rfl⟩, .inl rfl, Ext.refl _⟩
    case round =>
      obtain ⟨⟨k, hk, rfl⟩, hN, hE2⟩ := hrel
      rename_i v
      have hxM := Ext.refl wr
      have HN := Lib.hid hN
      have hc := HC.out wr hE2
      have hl := hE2.size
      rw [hBs] at hl
      clear hN
      by_cases hlt : k < 2
      · go_wp2_with (first | (go_at_call 10; with_reducible refine (deliver_non' HN.out I).mono ?_; rintro e w2 ⟨rfl, hx⟩; have hxM := hx; have hc2 := HC.out _ (hE2.trans hxM); have hc3 := HC.out _ (hE2.trans (hxM.alloc (.cells #[.int .i64 0, .int .i64 0, .int .i64 0, .string (ofL []), .int .i64 0, .int .i64 0, .int .i64 0] 32))); have hl2 := hxM.size; clear hx) | (go_at_call 14; with_reducible refine (send_non' (HN.out.ext (hxM.alloc _))).mono ?_; rintro e w3 ⟨rfl, hx⟩; have hxM := (hxM.alloc _).trans hx; have hc2 := HC.out _ (hE2.trans hxM); have hl2 := hxM.size; clear hx) | (go_at_call 9; with_reducible refine (mail_non (HN.out.ext hxM)).mono ?_; rintro e w4 ⟨rfl, rfl⟩) | (go_at_call 11; with_reducible refine (drop_non (HN.out.ext hxM) I).mono ?_; rintro e w5 ⟨rfl, hx⟩; have hxM := hxM.trans hx; have hc2 := HC.out _ (hE2.trans hxM); have hl2 := hxM.size; clear hx) | (go_at_call 12; with_reducible refine (double_non (HN.out.ext hxM) I).mono ?_; rintro e w6 ⟨rfl, rfl⟩) | (go_at_call 13; with_reducible refine (turn_non (HN.out.ext hxM) I K).mono ?_; rintro e w7 ⟨rfl, rfl⟩) | (go_at_call 16; with_reducible refine (copy_non (HN.out.ext hxM)).mono ?_; rintro e w8 ⟨rfl, rfl⟩))
        exact ⟨⟨⟨k + 1, by omega, by go_num⟩, .inr ⟨_, rfl, by simp, by simp only [World.cell?, heap_alloc_new]; rfl⟩, hE2.trans (hxM.alloc _)⟩, by simp [intOf]; omega⟩
      · go_wp2_with (go_at_call 7; with_reducible refine (mailed_any _).ext (hE.trans hE2) (fun w9 hx9 => ?_))
        go_ret
        exact ⟨rfl, hx9⟩
  · go_enter Try.func6, Try.ntmps6
    go_wp2_with (go_at_call 7; rw [← hB]; with_reducible refine (mailed_any _).ext hE (fun w9 hx9 => ?_))
    go_ret
    exact ⟨rfl, hx9⟩
end Go.Proofs.Ytjalikjakoddoaa
