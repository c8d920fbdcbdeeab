/-
  Act.do: both nets answer alike, and have the same.
-/
import Derived.Test.YtjalikjakoddoaaNetTw
import Derived.Deep.RegionHeld3
namespace Go.Proofs.Ytjalikjakoddoaa
open Go.RowKit Go.Nt
theorem With.new (R : Nat → Prop) (b : Nat) : With R b b := Or.inr rfl
section
variable {W : World} {R : Nat → Prop} {p q : Nat} {L : List Msg} {w : World} {kind to ord deed qty amt code I K : Int} {sku : List UInt8}

set_option maxHeartbeats 2000000 in
set_option maxRecDepth 100000 in
theorem do_deliver_yes (h : Tw W R p q L L w) (h8 : 0 ≤ kind) (hk : kind % 8 = 4) (k : Nat) (hk2 : k < L.length) (hl : L.length ≤ 1000) :
    Calls Try.prog 18 #[.agg #[.int .u8 kind, .int .i64 to, .int .i64 ord, .int .i64 deed, .string (ofL sku), .int .i64 qty, .int .i64 amt, .int .i64 code, .int .i64 (k : Int), .int .i64 K], .pointer (some ⟨p, 0, none⟩), .pointer (some ⟨q, 0, none⟩)] w fun e w' => e = .returned (.bool true) ∧ Tw W R p q (L.eraseIdx k) (L.eraseIdx k) w' := by
  have H := Lib.hid h
  have HP := Lib.hid (h.plus (.cells #[.int .u8 kind, .int .i64 to, .int .i64 ord, .int .i64 deed, .string (ofL sku), .int .i64 qty, .int .i64 amt, .int .i64 code, .int .i64 (k : Int), .int .i64 K] 34))
  have hx0 : Fr (fun k => ¬ (With R w.heap.size) k) (w.alloc (.cells #[.int .u8 kind, .int .i64 to, .int .i64 ord, .int .i64 deed, .string (ofL sku), .int .i64 qty, .int .i64 amt, .int .i64 code, .int .i64 (k : Int), .int .i64 K] 34)) (w.alloc (.cells #[.int .u8 kind, .int .i64 to, .int .i64 ord, .int .i64 deed, .string (ofL sku), .int .i64 qty, .int .i64 amt, .int .i64 code, .int .i64 (k : Int), .int .i64 K] 34)) := Fr.refl _ _
  have hC : ∀ w', Fr (fun k => ¬ (With R w.heap.size) k) (w.alloc (.cells #[.int .u8 kind, .int .i64 to, .int .i64 ord, .int .i64 deed, .string (ofL sku), .int .i64 qty, .int .i64 amt, .int .i64 code, .int .i64 (k : Int), .int .i64 K] 34)) w' → ∀ o, w'.cell? ⟨w.heap.size, o, none⟩ = (#[.int .u8 kind, .int .i64 to, .int .i64 ord, .int .i64 deed, .string (ofL sku), .int .i64 qty, .int .i64 amt, .int .i64 code, .int .i64 (k : Int), .int .i64 K] : Array Value)[o]? := fun w' h => Kp.cells h (heap_alloc_new _ _) (Or.inr rfl)
  clear h
  have hkt : kind.tmod 8 = kind % 8 := Int.tmod_eq_emod_of_nonneg h8
  obtain ⟨m, hm⟩ : ∃ m, m = L[k] := ⟨_, rfl⟩
  have Hm := Lib.hid hm
  clear hm
  obtain ⟨mto, mord, mdeed, msku, mqty, mamt, mcode⟩ := m
  go_enter Try.func18, Try.ntmps18
  have HC := Lib.hid hC
  clear hC
  have hc0 := HC.out _ hx0
  go_wp2_with (first | (go_at_call 10; with_reducible refine (tn_deliver HP.out k hk2 hl Hm.out).mono ?_; rintro e w1 ⟨rfl, hT⟩; have hc1 := HC.out _ (Fr.tail hT.fr ((Ext.refl _).alloc (.cells #[.int .i64 mto, .int .i64 mord, .int .i64 mdeed, .string (ofL msku), .int .i64 mqty, .int .i64 mamt, .int .i64 mcode] 32))); have HN := Lib.hid (hT.plus (.cells #[.int .i64 mto, .int .i64 mord, .int .i64 mdeed, .string (ofL msku), .int .i64 mqty, .int .i64 mamt, .int .i64 mcode] 32)); have H1 := Lib.hid hT; clear hT) | (go_at_call 22; with_reducible refine (tr_deliver HN.out k hk2 hl Hm.out).mono ?_; rintro e w2 ⟨rfl, hT⟩; have hc2 := Kp.cells (Fr.tail hT.fr ((Ext.refl _).alloc (.cells #[.int .i64 mto, .int .i64 mord, .int .i64 mdeed, .string (ofL msku), .int .i64 mqty, .int .i64 mamt, .int .i64 mcode] 32))) (heap_alloc_new _ _) (With.new _ _); have HF := Lib.hid (H1.out.back ((Ext.refl _).alloc _) hT); clear hT))
  go_ret
  exact ⟨rfl, H.out.back ((Ext.refl _).alloc _) (HF.out.ext ((Ext.refl _).alloc _))⟩
set_option maxHeartbeats 2000000 in
set_option maxRecDepth 100000 in
theorem do_deliver_no (h : Tw W R p q L L w) (h8 : 0 ≤ kind) (hk : kind % 8 = 4) (hi : ¬ (0 ≤ I ∧ I < L.length)) :
    Calls Try.prog 18 #[.agg #[.int .u8 kind, .int .i64 to, .int .i64 ord, .int .i64 deed, .string (ofL sku), .int .i64 qty, .int .i64 amt, .int .i64 code, .int .i64 I, .int .i64 K], .pointer (some ⟨p, 0, none⟩), .pointer (some ⟨q, 0, none⟩)] w fun e w' => e = .returned (.bool true) ∧ Tw W R p q (L) (L) w' := by
  have H := Lib.hid h
  have HP := Lib.hid (h.plus (.cells #[.int .u8 kind, .int .i64 to, .int .i64 ord, .int .i64 deed, .string (ofL sku), .int .i64 qty, .int .i64 amt, .int .i64 code, .int .i64 I, .int .i64 K] 34))
  have hx0 : Fr (fun k => ¬ (With R w.heap.size) k) (w.alloc (.cells #[.int .u8 kind, .int .i64 to, .int .i64 ord, .int .i64 deed, .string (ofL sku), .int .i64 qty, .int .i64 amt, .int .i64 code, .int .i64 I, .int .i64 K] 34)) (w.alloc (.cells #[.int .u8 kind, .int .i64 to, .int .i64 ord, .int .i64 deed, .string (ofL sku), .int .i64 qty, .int .i64 amt, .int .i64 code, .int .i64 I, .int .i64 K] 34)) := Fr.refl _ _
  have hC : ∀ w', Fr (fun k => ¬ (With R w.heap.size) k) (w.alloc (.cells #[.int .u8 kind, .int .i64 to, .int .i64 ord, .int .i64 deed, .string (ofL sku), .int .i64 qty, .int .i64 amt, .int .i64 code, .int .i64 I, .int .i64 K] 34)) w' → ∀ o, w'.cell? ⟨w.heap.size, o, none⟩ = (#[.int .u8 kind, .int .i64 to, .int .i64 ord, .int .i64 deed, .string (ofL sku), .int .i64 qty, .int .i64 amt, .int .i64 code, .int .i64 I, .int .i64 K] : Array Value)[o]? := fun w' h => Kp.cells h (heap_alloc_new _ _) (Or.inr rfl)
  clear h
  have hkt : kind.tmod 8 = kind % 8 := Int.tmod_eq_emod_of_nonneg h8
  have Hi := Lib.hid hi
  clear hi
  go_enter Try.func18, Try.ntmps18
  have HC := Lib.hid hC
  clear hC
  have hc0 := HC.out _ hx0
  go_wp2_with (first | (go_at_call 10; with_reducible refine (tn_deliver_no HP.out I Hi.out).mono ?_; rintro e w1 ⟨rfl, hT⟩; have hc1 := HC.out _ (Fr.tail hT.fr ((Ext.refl _).alloc (.cells #[.int .i64 0, .int .i64 0, .int .i64 0, .string (ofL []), .int .i64 0, .int .i64 0, .int .i64 0] 32))); have HN := Lib.hid (hT.plus (.cells #[.int .i64 0, .int .i64 0, .int .i64 0, .string (ofL []), .int .i64 0, .int .i64 0, .int .i64 0] 32)); have H1 := Lib.hid hT; clear hT) | (go_at_call 22; with_reducible refine (tr_deliver_no HN.out I Hi.out).mono ?_; rintro e w2 ⟨rfl, hT⟩; have hc2 := Kp.cells (Fr.tail hT.fr ((Ext.refl _).alloc (.cells #[.int .i64 0, .int .i64 0, .int .i64 0, .string (ofL []), .int .i64 0, .int .i64 0, .int .i64 0] 32))) (heap_alloc_new _ _) (With.new _ _); have HF := Lib.hid (H1.out.back ((Ext.refl _).alloc _) hT); clear hT))
  go_ret
  exact ⟨rfl, H.out.back ((Ext.refl _).alloc _) (HF.out.ext ((Ext.refl _).alloc _))⟩
set_option maxHeartbeats 2000000 in
set_option maxRecDepth 100000 in
theorem do_drop_yes (h : Tw W R p q L L w) (h8 : 0 ≤ kind) (hk : kind % 8 = 5) (k : Nat) (hk2 : k < L.length) (hl : L.length ≤ 1000) :
    Calls Try.prog 18 #[.agg #[.int .u8 kind, .int .i64 to, .int .i64 ord, .int .i64 deed, .string (ofL sku), .int .i64 qty, .int .i64 amt, .int .i64 code, .int .i64 (k : Int), .int .i64 K], .pointer (some ⟨p, 0, none⟩), .pointer (some ⟨q, 0, none⟩)] w fun e w' => e = .returned (.bool true) ∧ Tw W R p q (L.eraseIdx k) (L.eraseIdx k) w' := by
  have H := Lib.hid h
  have HP := Lib.hid (h.plus (.cells #[.int .u8 kind, .int .i64 to, .int .i64 ord, .int .i64 deed, .string (ofL sku), .int .i64 qty, .int .i64 amt, .int .i64 code, .int .i64 (k : Int), .int .i64 K] 34))
  have hx0 : Fr (fun k => ¬ (With R w.heap.size) k) (w.alloc (.cells #[.int .u8 kind, .int .i64 to, .int .i64 ord, .int .i64 deed, .string (ofL sku), .int .i64 qty, .int .i64 amt, .int .i64 code, .int .i64 (k : Int), .int .i64 K] 34)) (w.alloc (.cells #[.int .u8 kind, .int .i64 to, .int .i64 ord, .int .i64 deed, .string (ofL sku), .int .i64 qty, .int .i64 amt, .int .i64 code, .int .i64 (k : Int), .int .i64 K] 34)) := Fr.refl _ _
  have hC : ∀ w', Fr (fun k => ¬ (With R w.heap.size) k) (w.alloc (.cells #[.int .u8 kind, .int .i64 to, .int .i64 ord, .int .i64 deed, .string (ofL sku), .int .i64 qty, .int .i64 amt, .int .i64 code, .int .i64 (k : Int), .int .i64 K] 34)) w' → ∀ o, w'.cell? ⟨w.heap.size, o, none⟩ = (#[.int .u8 kind, .int .i64 to, .int .i64 ord, .int .i64 deed, .string (ofL sku), .int .i64 qty, .int .i64 amt, .int .i64 code, .int .i64 (k : Int), .int .i64 K] : Array Value)[o]? := fun w' h => Kp.cells h (heap_alloc_new _ _) (Or.inr rfl)
  clear h
  have hkt : kind.tmod 8 = kind % 8 := Int.tmod_eq_emod_of_nonneg h8
  go_enter Try.func18, Try.ntmps18
  have hc0 := hC _ hx0
  go_wp2_with fail
  go_region_held3 (fun w' => Fr (fun k => ¬ (With R w.heap.size) k) (w.alloc (.cells #[.int .u8 kind, .int .i64 to, .int .i64 ord, .int .i64 deed, .string (ofL sku), .int .i64 qty, .int .i64 amt, .int .i64 code, .int .i64 (k : Int), .int .i64 K] 34)) w') (first | exact hx0 | exact hx0.drew | assumption) (first | (go_at_call 11; first | (with_reducible refine (tn_drop (HP.out.ext (Ext.refl _).drew) k hk2 hl).mono ?_; rintro e w1 ⟨rfl, hT⟩; have hs1 := hT.fr; have HN := Lib.hid hT; clear hT) | (with_reducible refine (tn_drop HR.out k hk2 hl).mono ?_; rintro e w2 ⟨rfl, hT⟩; have hs2 := hT.fr; have HF := Lib.hid hT; clear hT)) | (go_at_call 23; first | (with_reducible refine (tr_drop HN.out k hk2 hl).mono ?_; rintro e w2 ⟨rfl, hT⟩; have hs2 := hT.fr; have HF := Lib.hid hT; clear hT) | (with_reducible refine (tr_drop (HP.out.ext (Ext.refl _).drew) k hk2 hl).mono ?_; rintro e w1 ⟨rfl, hT⟩; have hs1 := hT.fr; have HR := Lib.hid hT; clear hT)))
  all_goals go_wp2_with fail
  all_goals
    go_ret
    exact ⟨rfl, H.out.back ((Ext.refl _).alloc _) HF.out⟩
set_option maxHeartbeats 2000000 in
set_option maxRecDepth 100000 in
theorem do_drop_no (h : Tw W R p q L L w) (h8 : 0 ≤ kind) (hk : kind % 8 = 5) (hi : ¬ (0 ≤ I ∧ I < L.length)) :
    Calls Try.prog 18 #[.agg #[.int .u8 kind, .int .i64 to, .int .i64 ord, .int .i64 deed, .string (ofL sku), .int .i64 qty, .int .i64 amt, .int .i64 code, .int .i64 I, .int .i64 K], .pointer (some ⟨p, 0, none⟩), .pointer (some ⟨q, 0, none⟩)] w fun e w' => e = .returned (.bool true) ∧ Tw W R p q (L) (L) w' := by
  have H := Lib.hid h
  have HP := Lib.hid (h.plus (.cells #[.int .u8 kind, .int .i64 to, .int .i64 ord, .int .i64 deed, .string (ofL sku), .int .i64 qty, .int .i64 amt, .int .i64 code, .int .i64 I, .int .i64 K] 34))
  have hx0 : Fr (fun k => ¬ (With R w.heap.size) k) (w.alloc (.cells #[.int .u8 kind, .int .i64 to, .int .i64 ord, .int .i64 deed, .string (ofL sku), .int .i64 qty, .int .i64 amt, .int .i64 code, .int .i64 I, .int .i64 K] 34)) (w.alloc (.cells #[.int .u8 kind, .int .i64 to, .int .i64 ord, .int .i64 deed, .string (ofL sku), .int .i64 qty, .int .i64 amt, .int .i64 code, .int .i64 I, .int .i64 K] 34)) := Fr.refl _ _
  have hC : ∀ w', Fr (fun k => ¬ (With R w.heap.size) k) (w.alloc (.cells #[.int .u8 kind, .int .i64 to, .int .i64 ord, .int .i64 deed, .string (ofL sku), .int .i64 qty, .int .i64 amt, .int .i64 code, .int .i64 I, .int .i64 K] 34)) w' → ∀ o, w'.cell? ⟨w.heap.size, o, none⟩ = (#[.int .u8 kind, .int .i64 to, .int .i64 ord, .int .i64 deed, .string (ofL sku), .int .i64 qty, .int .i64 amt, .int .i64 code, .int .i64 I, .int .i64 K] : Array Value)[o]? := fun w' h => Kp.cells h (heap_alloc_new _ _) (Or.inr rfl)
  clear h
  have hkt : kind.tmod 8 = kind % 8 := Int.tmod_eq_emod_of_nonneg h8
  have Hi := Lib.hid hi
  clear hi
  go_enter Try.func18, Try.ntmps18
  have hc0 := hC _ hx0
  go_wp2_with fail
  go_region_held3 (fun w' => Fr (fun k => ¬ (With R w.heap.size) k) (w.alloc (.cells #[.int .u8 kind, .int .i64 to, .int .i64 ord, .int .i64 deed, .string (ofL sku), .int .i64 qty, .int .i64 amt, .int .i64 code, .int .i64 I, .int .i64 K] 34)) w') (first | exact hx0 | exact hx0.drew | assumption) (first | (go_at_call 11; first | (with_reducible refine (tn_drop_no (HP.out.ext (Ext.refl _).drew) I Hi.out).mono ?_; rintro e w1 ⟨rfl, hT⟩; have hs1 := hT.fr; have HN := Lib.hid hT; clear hT) | (with_reducible refine (tn_drop_no HR.out I Hi.out).mono ?_; rintro e w2 ⟨rfl, hT⟩; have hs2 := hT.fr; have HF := Lib.hid hT; clear hT)) | (go_at_call 23; first | (with_reducible refine (tr_drop_no HN.out I Hi.out).mono ?_; rintro e w2 ⟨rfl, hT⟩; have hs2 := hT.fr; have HF := Lib.hid hT; clear hT) | (with_reducible refine (tr_drop_no (HP.out.ext (Ext.refl _).drew) I Hi.out).mono ?_; rintro e w1 ⟨rfl, hT⟩; have hs1 := hT.fr; have HR := Lib.hid hT; clear hT)))
  all_goals go_wp2_with fail
  all_goals
    go_ret
    exact ⟨rfl, H.out.back ((Ext.refl _).alloc _) HF.out⟩
set_option maxHeartbeats 2000000 in
set_option maxRecDepth 100000 in
theorem do_double_yes (h : Tw W R p q L L w) (h8 : 0 ≤ kind) (hk : kind % 8 = 6) (k : Nat) (hk2 : k < L.length) (hl : L.length ≤ 999) :
    Calls Try.prog 18 #[.agg #[.int .u8 kind, .int .i64 to, .int .i64 ord, .int .i64 deed, .string (ofL sku), .int .i64 qty, .int .i64 amt, .int .i64 code, .int .i64 (k : Int), .int .i64 K], .pointer (some ⟨p, 0, none⟩), .pointer (some ⟨q, 0, none⟩)] w fun e w' => e = .returned (.bool true) ∧ Tw W R p q (L ++ [L[k]]) (L ++ [L[k]]) w' := by
  have H := Lib.hid h
  have HP := Lib.hid (h.plus (.cells #[.int .u8 kind, .int .i64 to, .int .i64 ord, .int .i64 deed, .string (ofL sku), .int .i64 qty, .int .i64 amt, .int .i64 code, .int .i64 (k : Int), .int .i64 K] 34))
  have hx0 : Fr (fun k => ¬ (With R w.heap.size) k) (w.alloc (.cells #[.int .u8 kind, .int .i64 to, .int .i64 ord, .int .i64 deed, .string (ofL sku), .int .i64 qty, .int .i64 amt, .int .i64 code, .int .i64 (k : Int), .int .i64 K] 34)) (w.alloc (.cells #[.int .u8 kind, .int .i64 to, .int .i64 ord, .int .i64 deed, .string (ofL sku), .int .i64 qty, .int .i64 amt, .int .i64 code, .int .i64 (k : Int), .int .i64 K] 34)) := Fr.refl _ _
  have hC : ∀ w', Fr (fun k => ¬ (With R w.heap.size) k) (w.alloc (.cells #[.int .u8 kind, .int .i64 to, .int .i64 ord, .int .i64 deed, .string (ofL sku), .int .i64 qty, .int .i64 amt, .int .i64 code, .int .i64 (k : Int), .int .i64 K] 34)) w' → ∀ o, w'.cell? ⟨w.heap.size, o, none⟩ = (#[.int .u8 kind, .int .i64 to, .int .i64 ord, .int .i64 deed, .string (ofL sku), .int .i64 qty, .int .i64 amt, .int .i64 code, .int .i64 (k : Int), .int .i64 K] : Array Value)[o]? := fun w' h => Kp.cells h (heap_alloc_new _ _) (Or.inr rfl)
  clear h
  have hkt : kind.tmod 8 = kind % 8 := Int.tmod_eq_emod_of_nonneg h8
  go_enter Try.func18, Try.ntmps18
  have hc0 := hC _ hx0
  go_wp2_with fail
  go_region_held3 (fun w' => Fr (fun k => ¬ (With R w.heap.size) k) (w.alloc (.cells #[.int .u8 kind, .int .i64 to, .int .i64 ord, .int .i64 deed, .string (ofL sku), .int .i64 qty, .int .i64 amt, .int .i64 code, .int .i64 (k : Int), .int .i64 K] 34)) w') (first | exact hx0 | exact hx0.drew | assumption) (first | (go_at_call 12; first | (with_reducible refine (tn_double (HP.out.ext (Ext.refl _).drew) k hk2 hl).mono ?_; rintro e w1 ⟨rfl, hT⟩; have hs1 := hT.fr; have HN := Lib.hid hT; clear hT) | (with_reducible refine (tn_double HR.out k hk2 hl).mono ?_; rintro e w2 ⟨rfl, hT⟩; have hs2 := hT.fr; have HF := Lib.hid hT; clear hT)) | (go_at_call 24; first | (with_reducible refine (tr_double HN.out k hk2 hl).mono ?_; rintro e w2 ⟨rfl, hT⟩; have hs2 := hT.fr; have HF := Lib.hid hT; clear hT) | (with_reducible refine (tr_double (HP.out.ext (Ext.refl _).drew) k hk2 hl).mono ?_; rintro e w1 ⟨rfl, hT⟩; have hs1 := hT.fr; have HR := Lib.hid hT; clear hT)))
  all_goals go_wp2_with fail
  all_goals
    go_ret
    exact ⟨rfl, H.out.back ((Ext.refl _).alloc _) HF.out⟩
set_option maxHeartbeats 2000000 in
set_option maxRecDepth 100000 in
theorem do_double_full (h : Tw W R p q L L w) (h8 : 0 ≤ kind) (hk : kind % 8 = 6) (k : Nat) (hk2 : k < L.length) (hl : L.length = 1000) :
    Calls Try.prog 18 #[.agg #[.int .u8 kind, .int .i64 to, .int .i64 ord, .int .i64 deed, .string (ofL sku), .int .i64 qty, .int .i64 amt, .int .i64 code, .int .i64 (k : Int), .int .i64 K], .pointer (some ⟨p, 0, none⟩), .pointer (some ⟨q, 0, none⟩)] w fun e w' => e = .returned (.bool true) ∧ Tw W R p q (L) (L) w' := by
  have H := Lib.hid h
  have HP := Lib.hid (h.plus (.cells #[.int .u8 kind, .int .i64 to, .int .i64 ord, .int .i64 deed, .string (ofL sku), .int .i64 qty, .int .i64 amt, .int .i64 code, .int .i64 (k : Int), .int .i64 K] 34))
  have hx0 : Fr (fun k => ¬ (With R w.heap.size) k) (w.alloc (.cells #[.int .u8 kind, .int .i64 to, .int .i64 ord, .int .i64 deed, .string (ofL sku), .int .i64 qty, .int .i64 amt, .int .i64 code, .int .i64 (k : Int), .int .i64 K] 34)) (w.alloc (.cells #[.int .u8 kind, .int .i64 to, .int .i64 ord, .int .i64 deed, .string (ofL sku), .int .i64 qty, .int .i64 amt, .int .i64 code, .int .i64 (k : Int), .int .i64 K] 34)) := Fr.refl _ _
  have hC : ∀ w', Fr (fun k => ¬ (With R w.heap.size) k) (w.alloc (.cells #[.int .u8 kind, .int .i64 to, .int .i64 ord, .int .i64 deed, .string (ofL sku), .int .i64 qty, .int .i64 amt, .int .i64 code, .int .i64 (k : Int), .int .i64 K] 34)) w' → ∀ o, w'.cell? ⟨w.heap.size, o, none⟩ = (#[.int .u8 kind, .int .i64 to, .int .i64 ord, .int .i64 deed, .string (ofL sku), .int .i64 qty, .int .i64 amt, .int .i64 code, .int .i64 (k : Int), .int .i64 K] : Array Value)[o]? := fun w' h => Kp.cells h (heap_alloc_new _ _) (Or.inr rfl)
  clear h
  have hkt : kind.tmod 8 = kind % 8 := Int.tmod_eq_emod_of_nonneg h8
  go_enter Try.func18, Try.ntmps18
  have hc0 := hC _ hx0
  go_wp2_with fail
  go_region_held3 (fun w' => Fr (fun k => ¬ (With R w.heap.size) k) (w.alloc (.cells #[.int .u8 kind, .int .i64 to, .int .i64 ord, .int .i64 deed, .string (ofL sku), .int .i64 qty, .int .i64 amt, .int .i64 code, .int .i64 (k : Int), .int .i64 K] 34)) w') (first | exact hx0 | exact hx0.drew | assumption) (first | (go_at_call 12; first | (with_reducible refine (tn_double_full (HP.out.ext (Ext.refl _).drew) k hk2 hl).mono ?_; rintro e w1 ⟨rfl, hT⟩; have hs1 := hT.fr; have HN := Lib.hid hT; clear hT) | (with_reducible refine (tn_double_full HR.out k hk2 hl).mono ?_; rintro e w2 ⟨rfl, hT⟩; have hs2 := hT.fr; have HF := Lib.hid hT; clear hT)) | (go_at_call 24; first | (with_reducible refine (tr_double_full HN.out k hk2 hl).mono ?_; rintro e w2 ⟨rfl, hT⟩; have hs2 := hT.fr; have HF := Lib.hid hT; clear hT) | (with_reducible refine (tr_double_full (HP.out.ext (Ext.refl _).drew) k hk2 hl).mono ?_; rintro e w1 ⟨rfl, hT⟩; have hs1 := hT.fr; have HR := Lib.hid hT; clear hT)))
  all_goals go_wp2_with fail
  all_goals
    go_ret
    exact ⟨rfl, H.out.back ((Ext.refl _).alloc _) HF.out⟩
set_option maxHeartbeats 2000000 in
set_option maxRecDepth 100000 in
theorem do_double_no (h : Tw W R p q L L w) (h8 : 0 ≤ kind) (hk : kind % 8 = 6) (hi : ¬ (0 ≤ I ∧ I < L.length)) :
    Calls Try.prog 18 #[.agg #[.int .u8 kind, .int .i64 to, .int .i64 ord, .int .i64 deed, .string (ofL sku), .int .i64 qty, .int .i64 amt, .int .i64 code, .int .i64 I, .int .i64 K], .pointer (some ⟨p, 0, none⟩), .pointer (some ⟨q, 0, none⟩)] w fun e w' => e = .returned (.bool true) ∧ Tw W R p q (L) (L) w' := by
  have H := Lib.hid h
  have HP := Lib.hid (h.plus (.cells #[.int .u8 kind, .int .i64 to, .int .i64 ord, .int .i64 deed, .string (ofL sku), .int .i64 qty, .int .i64 amt, .int .i64 code, .int .i64 I, .int .i64 K] 34))
  have hx0 : Fr (fun k => ¬ (With R w.heap.size) k) (w.alloc (.cells #[.int .u8 kind, .int .i64 to, .int .i64 ord, .int .i64 deed, .string (ofL sku), .int .i64 qty, .int .i64 amt, .int .i64 code, .int .i64 I, .int .i64 K] 34)) (w.alloc (.cells #[.int .u8 kind, .int .i64 to, .int .i64 ord, .int .i64 deed, .string (ofL sku), .int .i64 qty, .int .i64 amt, .int .i64 code, .int .i64 I, .int .i64 K] 34)) := Fr.refl _ _
  have hC : ∀ w', Fr (fun k => ¬ (With R w.heap.size) k) (w.alloc (.cells #[.int .u8 kind, .int .i64 to, .int .i64 ord, .int .i64 deed, .string (ofL sku), .int .i64 qty, .int .i64 amt, .int .i64 code, .int .i64 I, .int .i64 K] 34)) w' → ∀ o, w'.cell? ⟨w.heap.size, o, none⟩ = (#[.int .u8 kind, .int .i64 to, .int .i64 ord, .int .i64 deed, .string (ofL sku), .int .i64 qty, .int .i64 amt, .int .i64 code, .int .i64 I, .int .i64 K] : Array Value)[o]? := fun w' h => Kp.cells h (heap_alloc_new _ _) (Or.inr rfl)
  clear h
  have hkt : kind.tmod 8 = kind % 8 := Int.tmod_eq_emod_of_nonneg h8
  have Hi := Lib.hid hi
  clear hi
  go_enter Try.func18, Try.ntmps18
  have hc0 := hC _ hx0
  go_wp2_with fail
  go_region_held3 (fun w' => Fr (fun k => ¬ (With R w.heap.size) k) (w.alloc (.cells #[.int .u8 kind, .int .i64 to, .int .i64 ord, .int .i64 deed, .string (ofL sku), .int .i64 qty, .int .i64 amt, .int .i64 code, .int .i64 I, .int .i64 K] 34)) w') (first | exact hx0 | exact hx0.drew | assumption) (first | (go_at_call 12; first | (with_reducible refine (tn_double_no (HP.out.ext (Ext.refl _).drew) I Hi.out).mono ?_; rintro e w1 ⟨rfl, hT⟩; have hs1 := hT.fr; have HN := Lib.hid hT; clear hT) | (with_reducible refine (tn_double_no HR.out I Hi.out).mono ?_; rintro e w2 ⟨rfl, hT⟩; have hs2 := hT.fr; have HF := Lib.hid hT; clear hT)) | (go_at_call 24; first | (with_reducible refine (tr_double_no HN.out I Hi.out).mono ?_; rintro e w2 ⟨rfl, hT⟩; have hs2 := hT.fr; have HF := Lib.hid hT; clear hT) | (with_reducible refine (tr_double_no (HP.out.ext (Ext.refl _).drew) I Hi.out).mono ?_; rintro e w1 ⟨rfl, hT⟩; have hs1 := hT.fr; have HR := Lib.hid hT; clear hT)))
  all_goals go_wp2_with fail
  all_goals
    go_ret
    exact ⟨rfl, H.out.back ((Ext.refl _).alloc _) HF.out⟩
set_option maxHeartbeats 2000000 in
set_option maxRecDepth 100000 in
theorem do_turn_yes (h : Tw W R p q L L w) (h8 : 0 ≤ kind) (hk : kind % 8 = 7) (i k : Nat) (hi2 : i < L.length) (hk2 : k < L.length) (hl : L.length ≤ 1000) :
    Calls Try.prog 18 #[.agg #[.int .u8 kind, .int .i64 to, .int .i64 ord, .int .i64 deed, .string (ofL sku), .int .i64 qty, .int .i64 amt, .int .i64 code, .int .i64 (i : Int), .int .i64 (k : Int)], .pointer (some ⟨p, 0, none⟩), .pointer (some ⟨q, 0, none⟩)] w fun e w' => e = .returned (.bool true) ∧ Tw W R p q ((L.set i (L[k])).set k (L[i])) ((L.set i (L[k])).set k (L[i])) w' := by
  have H := Lib.hid h
  have HP := Lib.hid (h.plus (.cells #[.int .u8 kind, .int .i64 to, .int .i64 ord, .int .i64 deed, .string (ofL sku), .int .i64 qty, .int .i64 amt, .int .i64 code, .int .i64 (i : Int), .int .i64 (k : Int)] 34))
  have hx0 : Fr (fun k => ¬ (With R w.heap.size) k) (w.alloc (.cells #[.int .u8 kind, .int .i64 to, .int .i64 ord, .int .i64 deed, .string (ofL sku), .int .i64 qty, .int .i64 amt, .int .i64 code, .int .i64 (i : Int), .int .i64 (k : Int)] 34)) (w.alloc (.cells #[.int .u8 kind, .int .i64 to, .int .i64 ord, .int .i64 deed, .string (ofL sku), .int .i64 qty, .int .i64 amt, .int .i64 code, .int .i64 (i : Int), .int .i64 (k : Int)] 34)) := Fr.refl _ _
  have hC : ∀ w', Fr (fun k => ¬ (With R w.heap.size) k) (w.alloc (.cells #[.int .u8 kind, .int .i64 to, .int .i64 ord, .int .i64 deed, .string (ofL sku), .int .i64 qty, .int .i64 amt, .int .i64 code, .int .i64 (i : Int), .int .i64 (k : Int)] 34)) w' → ∀ o, w'.cell? ⟨w.heap.size, o, none⟩ = (#[.int .u8 kind, .int .i64 to, .int .i64 ord, .int .i64 deed, .string (ofL sku), .int .i64 qty, .int .i64 amt, .int .i64 code, .int .i64 (i : Int), .int .i64 (k : Int)] : Array Value)[o]? := fun w' h => Kp.cells h (heap_alloc_new _ _) (Or.inr rfl)
  clear h
  have hkt : kind.tmod 8 = kind % 8 := Int.tmod_eq_emod_of_nonneg h8
  go_enter Try.func18, Try.ntmps18
  have hc0 := hC _ hx0
  go_wp2_with fail
  go_region_held3 (fun w' => Fr (fun k => ¬ (With R w.heap.size) k) (w.alloc (.cells #[.int .u8 kind, .int .i64 to, .int .i64 ord, .int .i64 deed, .string (ofL sku), .int .i64 qty, .int .i64 amt, .int .i64 code, .int .i64 (i : Int), .int .i64 (k : Int)] 34)) w') (first | exact hx0 | exact hx0.drew | assumption) (first | (go_at_call 13; first | (with_reducible refine (tn_turn (HP.out.ext (Ext.refl _).drew) i k hi2 hk2 hl).mono ?_; rintro e w1 ⟨rfl, hT⟩; have hs1 := hT.fr; have HN := Lib.hid hT; clear hT) | (with_reducible refine (tn_turn HR.out i k hi2 hk2 hl).mono ?_; rintro e w2 ⟨rfl, hT⟩; have hs2 := hT.fr; have HF := Lib.hid hT; clear hT)) | (go_at_call 25; first | (with_reducible refine (tr_turn HN.out i k hi2 hk2 hl).mono ?_; rintro e w2 ⟨rfl, hT⟩; have hs2 := hT.fr; have HF := Lib.hid hT; clear hT) | (with_reducible refine (tr_turn (HP.out.ext (Ext.refl _).drew) i k hi2 hk2 hl).mono ?_; rintro e w1 ⟨rfl, hT⟩; have hs1 := hT.fr; have HR := Lib.hid hT; clear hT)))
  all_goals go_wp2_with fail
  all_goals
    go_ret
    exact ⟨rfl, H.out.back ((Ext.refl _).alloc _) HF.out⟩
set_option maxHeartbeats 2000000 in
set_option maxRecDepth 100000 in
theorem do_turn_no (h : Tw W R p q L L w) (h8 : 0 ≤ kind) (hk : kind % 8 = 7) (hi : ¬ ((0 ≤ I ∧ I < L.length) ∧ (0 ≤ K ∧ K < L.length))) :
    Calls Try.prog 18 #[.agg #[.int .u8 kind, .int .i64 to, .int .i64 ord, .int .i64 deed, .string (ofL sku), .int .i64 qty, .int .i64 amt, .int .i64 code, .int .i64 I, .int .i64 K], .pointer (some ⟨p, 0, none⟩), .pointer (some ⟨q, 0, none⟩)] w fun e w' => e = .returned (.bool true) ∧ Tw W R p q (L) (L) w' := by
  have H := Lib.hid h
  have HP := Lib.hid (h.plus (.cells #[.int .u8 kind, .int .i64 to, .int .i64 ord, .int .i64 deed, .string (ofL sku), .int .i64 qty, .int .i64 amt, .int .i64 code, .int .i64 I, .int .i64 K] 34))
  have hx0 : Fr (fun k => ¬ (With R w.heap.size) k) (w.alloc (.cells #[.int .u8 kind, .int .i64 to, .int .i64 ord, .int .i64 deed, .string (ofL sku), .int .i64 qty, .int .i64 amt, .int .i64 code, .int .i64 I, .int .i64 K] 34)) (w.alloc (.cells #[.int .u8 kind, .int .i64 to, .int .i64 ord, .int .i64 deed, .string (ofL sku), .int .i64 qty, .int .i64 amt, .int .i64 code, .int .i64 I, .int .i64 K] 34)) := Fr.refl _ _
  have hC : ∀ w', Fr (fun k => ¬ (With R w.heap.size) k) (w.alloc (.cells #[.int .u8 kind, .int .i64 to, .int .i64 ord, .int .i64 deed, .string (ofL sku), .int .i64 qty, .int .i64 amt, .int .i64 code, .int .i64 I, .int .i64 K] 34)) w' → ∀ o, w'.cell? ⟨w.heap.size, o, none⟩ = (#[.int .u8 kind, .int .i64 to, .int .i64 ord, .int .i64 deed, .string (ofL sku), .int .i64 qty, .int .i64 amt, .int .i64 code, .int .i64 I, .int .i64 K] : Array Value)[o]? := fun w' h => Kp.cells h (heap_alloc_new _ _) (Or.inr rfl)
  clear h
  have hkt : kind.tmod 8 = kind % 8 := Int.tmod_eq_emod_of_nonneg h8
  have Hi := Lib.hid hi
  clear hi
  go_enter Try.func18, Try.ntmps18
  have hc0 := hC _ hx0
  go_wp2_with fail
  go_region_held3 (fun w' => Fr (fun k => ¬ (With R w.heap.size) k) (w.alloc (.cells #[.int .u8 kind, .int .i64 to, .int .i64 ord, .int .i64 deed, .string (ofL sku), .int .i64 qty, .int .i64 amt, .int .i64 code, .int .i64 I, .int .i64 K] 34)) w') (first | exact hx0 | exact hx0.drew | assumption) (first | (go_at_call 13; first | (with_reducible refine (tn_turn_no (HP.out.ext (Ext.refl _).drew) I K Hi.out).mono ?_; rintro e w1 ⟨rfl, hT⟩; have hs1 := hT.fr; have HN := Lib.hid hT; clear hT) | (with_reducible refine (tn_turn_no HR.out I K Hi.out).mono ?_; rintro e w2 ⟨rfl, hT⟩; have hs2 := hT.fr; have HF := Lib.hid hT; clear hT)) | (go_at_call 25; first | (with_reducible refine (tr_turn_no HN.out I K Hi.out).mono ?_; rintro e w2 ⟨rfl, hT⟩; have hs2 := hT.fr; have HF := Lib.hid hT; clear hT) | (with_reducible refine (tr_turn_no (HP.out.ext (Ext.refl _).drew) I K Hi.out).mono ?_; rintro e w1 ⟨rfl, hT⟩; have hs1 := hT.fr; have HR := Lib.hid hT; clear hT)))
  all_goals go_wp2_with fail
  all_goals
    go_ret
    exact ⟨rfl, H.out.back ((Ext.refl _).alloc _) HF.out⟩
set_option maxHeartbeats 2000000 in
set_option maxRecDepth 100000 in
theorem do_send_yes (h : Tw W R p q L L w) (h8 : 0 ≤ kind) (hk4 : ¬ kind % 8 = 4) (hk5 : ¬ kind % 8 = 5) (hk6 : ¬ kind % 8 = 6) (hk7 : ¬ kind % 8 = 7) (hl : L.length ≤ 999) :
    Calls Try.prog 18 #[.agg #[.int .u8 kind, .int .i64 to, .int .i64 ord, .int .i64 deed, .string (ofL sku), .int .i64 qty, .int .i64 amt, .int .i64 code, .int .i64 I, .int .i64 K], .pointer (some ⟨p, 0, none⟩), .pointer (some ⟨q, 0, none⟩)] w fun e w' => e = .returned (.bool true) ∧ Tw W R p q (L ++ [(to, ord, deed, sku, qty, amt, code)]) (L ++ [(to, ord, deed, sku, qty, amt, code)]) w' := by
  have H := Lib.hid h
  have HP := Lib.hid (h.plus (.cells #[.int .u8 kind, .int .i64 to, .int .i64 ord, .int .i64 deed, .string (ofL sku), .int .i64 qty, .int .i64 amt, .int .i64 code, .int .i64 I, .int .i64 K] 34))
  have hx0 : Fr (fun k => ¬ (With R w.heap.size) k) (w.alloc (.cells #[.int .u8 kind, .int .i64 to, .int .i64 ord, .int .i64 deed, .string (ofL sku), .int .i64 qty, .int .i64 amt, .int .i64 code, .int .i64 I, .int .i64 K] 34)) (w.alloc (.cells #[.int .u8 kind, .int .i64 to, .int .i64 ord, .int .i64 deed, .string (ofL sku), .int .i64 qty, .int .i64 amt, .int .i64 code, .int .i64 I, .int .i64 K] 34)) := Fr.refl _ _
  have hC : ∀ w', Fr (fun k => ¬ (With R w.heap.size) k) (w.alloc (.cells #[.int .u8 kind, .int .i64 to, .int .i64 ord, .int .i64 deed, .string (ofL sku), .int .i64 qty, .int .i64 amt, .int .i64 code, .int .i64 I, .int .i64 K] 34)) w' → ∀ o, w'.cell? ⟨w.heap.size, o, none⟩ = (#[.int .u8 kind, .int .i64 to, .int .i64 ord, .int .i64 deed, .string (ofL sku), .int .i64 qty, .int .i64 amt, .int .i64 code, .int .i64 I, .int .i64 K] : Array Value)[o]? := fun w' h => Kp.cells h (heap_alloc_new _ _) (Or.inr rfl)
  clear h
  have hkt : kind.tmod 8 = kind % 8 := Int.tmod_eq_emod_of_nonneg h8
  go_enter Try.func18, Try.ntmps18
  have hc0 := hC _ hx0
  go_wp2_with fail
  go_region_held3 (fun w' => Fr (fun k => ¬ (With R w.heap.size) k) (w.alloc (.cells #[.int .u8 kind, .int .i64 to, .int .i64 ord, .int .i64 deed, .string (ofL sku), .int .i64 qty, .int .i64 amt, .int .i64 code, .int .i64 I, .int .i64 K] 34)) w') (first | exact hx0 | exact hx0.drew | assumption) (first | (go_at_call 14; first | (with_reducible refine (tn_send (HP.out.ext (Ext.refl _).drew) hl).mono ?_; rintro e w1 ⟨rfl, hT⟩; have hs1 := hT.fr; have HN := Lib.hid hT; clear hT) | (with_reducible refine (tn_send HR.out hl).mono ?_; rintro e w2 ⟨rfl, hT⟩; have hs2 := hT.fr; have HF := Lib.hid hT; clear hT)) | (go_at_call 26; first | (with_reducible refine (tr_send HN.out hl).mono ?_; rintro e w2 ⟨rfl, hT⟩; have hs2 := hT.fr; have HF := Lib.hid hT; clear hT) | (with_reducible refine (tr_send (HP.out.ext (Ext.refl _).drew) hl).mono ?_; rintro e w1 ⟨rfl, hT⟩; have hs1 := hT.fr; have HR := Lib.hid hT; clear hT)))
  all_goals go_wp2_with fail
  all_goals
    go_ret
    exact ⟨rfl, H.out.back ((Ext.refl _).alloc _) HF.out⟩
set_option maxHeartbeats 2000000 in
set_option maxRecDepth 100000 in
theorem do_send_no (h : Tw W R p q L L w) (h8 : 0 ≤ kind) (hk4 : ¬ kind % 8 = 4) (hk5 : ¬ kind % 8 = 5) (hk6 : ¬ kind % 8 = 6) (hk7 : ¬ kind % 8 = 7) (hl : 1000 ≤ L.length) :
    Calls Try.prog 18 #[.agg #[.int .u8 kind, .int .i64 to, .int .i64 ord, .int .i64 deed, .string (ofL sku), .int .i64 qty, .int .i64 amt, .int .i64 code, .int .i64 I, .int .i64 K], .pointer (some ⟨p, 0, none⟩), .pointer (some ⟨q, 0, none⟩)] w fun e w' => e = .returned (.bool true) ∧ Tw W R p q (L) (L) w' := by
  have H := Lib.hid h
  have HP := Lib.hid (h.plus (.cells #[.int .u8 kind, .int .i64 to, .int .i64 ord, .int .i64 deed, .string (ofL sku), .int .i64 qty, .int .i64 amt, .int .i64 code, .int .i64 I, .int .i64 K] 34))
  have hx0 : Fr (fun k => ¬ (With R w.heap.size) k) (w.alloc (.cells #[.int .u8 kind, .int .i64 to, .int .i64 ord, .int .i64 deed, .string (ofL sku), .int .i64 qty, .int .i64 amt, .int .i64 code, .int .i64 I, .int .i64 K] 34)) (w.alloc (.cells #[.int .u8 kind, .int .i64 to, .int .i64 ord, .int .i64 deed, .string (ofL sku), .int .i64 qty, .int .i64 amt, .int .i64 code, .int .i64 I, .int .i64 K] 34)) := Fr.refl _ _
  have hC : ∀ w', Fr (fun k => ¬ (With R w.heap.size) k) (w.alloc (.cells #[.int .u8 kind, .int .i64 to, .int .i64 ord, .int .i64 deed, .string (ofL sku), .int .i64 qty, .int .i64 amt, .int .i64 code, .int .i64 I, .int .i64 K] 34)) w' → ∀ o, w'.cell? ⟨w.heap.size, o, none⟩ = (#[.int .u8 kind, .int .i64 to, .int .i64 ord, .int .i64 deed, .string (ofL sku), .int .i64 qty, .int .i64 amt, .int .i64 code, .int .i64 I, .int .i64 K] : Array Value)[o]? := fun w' h => Kp.cells h (heap_alloc_new _ _) (Or.inr rfl)
  clear h
  have hkt : kind.tmod 8 = kind % 8 := Int.tmod_eq_emod_of_nonneg h8
  go_enter Try.func18, Try.ntmps18
  have hc0 := hC _ hx0
  go_wp2_with fail
  go_region_held3 (fun w' => Fr (fun k => ¬ (With R w.heap.size) k) (w.alloc (.cells #[.int .u8 kind, .int .i64 to, .int .i64 ord, .int .i64 deed, .string (ofL sku), .int .i64 qty, .int .i64 amt, .int .i64 code, .int .i64 I, .int .i64 K] 34)) w') (first | exact hx0 | exact hx0.drew | assumption) (first | (go_at_call 14; first | (with_reducible refine (tn_send_no (HP.out.ext (Ext.refl _).drew) hl).mono ?_; rintro e w1 ⟨rfl, hT⟩; have hs1 := hT.fr; have HN := Lib.hid hT; clear hT) | (with_reducible refine (tn_send_no HR.out hl).mono ?_; rintro e w2 ⟨rfl, hT⟩; have hs2 := hT.fr; have HF := Lib.hid hT; clear hT)) | (go_at_call 26; first | (with_reducible refine (tr_send_no HN.out hl).mono ?_; rintro e w2 ⟨rfl, hT⟩; have hs2 := hT.fr; have HF := Lib.hid hT; clear hT) | (with_reducible refine (tr_send_no (HP.out.ext (Ext.refl _).drew) hl).mono ?_; rintro e w1 ⟨rfl, hT⟩; have hs1 := hT.fr; have HR := Lib.hid hT; clear hT)))
  all_goals go_wp2_with fail
  all_goals
    go_ret
    exact ⟨rfl, H.out.back ((Ext.refl _).alloc _) HF.out⟩
end
end Go.Proofs.Ytjalikjakoddoaa
