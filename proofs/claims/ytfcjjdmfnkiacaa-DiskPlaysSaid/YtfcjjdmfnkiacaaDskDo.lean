/-
  Both disks: each operation's contract; Act.do: both answer alike, and have the same.
-/
import Derived.Test.YtfcjjdmfnkiacaaDskTw
import Derived.Test.YtfcjjdmfnkiacaaDskRk
import Derived.Deep.RegionHeld3
namespace Go.Proofs.Ytfcjjdmfnkiacaa
open Go.RowKit Go.Maps Go.Dk Go.Shelf
section
variable {W w w' V : World} {O G G' : Nat → Prop} {p q m m' : Nat} {S S' T T' : St} {n : Int}
theorem Mt.start {x : Option (Int × List Int)} {F : Int} {K : List Int} (h : Mt x F K (m + 1)) : Mt x F K m := h.less (Nat.le_succ m)

theorem td_create (h : Td W O p q S T m w) (hn : (Lit.int .i64 n).wf = true) :
    Calls Try.prog 8 #[.pointer (some ⟨p, 0, none⟩), .int .i64 n] w fun x w' => x = .returned (.int .i64 (Dk.create S n).2) ∧ Td W O p q (Dk.create S n).1 T m w' := h.left (fun _ h1 => create_is h1 hn)
theorem tr_create (h : Td W O p q S T (m + 1) w) (hn : (Lit.int .i64 n).wf = true) :
    Calls Try.prog 42 #[.pointer (some ⟨q, 0, none⟩), .int .i64 n] w fun x w' => x = .returned (.int .i64 (Dk.create T n).2) ∧ Td W O p q S (Dk.create T n).1 m w' :=
  h.right (fun _ h1 => by obtain ⟨_, _, _, _, _, _, k1, k2⟩ := h1; exact rcreate_is k1 k2 n hn)
theorem td_append (h : Td W O p q S T m w) (hn : (Lit.int .i64 n).wf = true) (s : List UInt8) :
    Calls Try.prog 9 #[.pointer (some ⟨p, 0, none⟩), .int .i64 n, .string (ofL s)] w fun x w' => x = .returned (.int .i64 (Dk.append S n s).2) ∧ Td W O p q (Dk.append S n s).1 T m w' := h.left (fun _ h1 => append_is h1 hn s)
theorem tr_append (h : Td W O p q S T (m + 1) w) (n : Int) (s : List UInt8) :
    Calls Try.prog 50 #[.pointer (some ⟨q, 0, none⟩), .int .i64 n, .string (ofL s)] w fun x w' => x = .returned (.int .i64 (Dk.append T n s).2) ∧ Td W O p q S (Dk.append T n s).1 m w' :=
  h.right (fun _ h1 => by obtain ⟨_, _, _, _, _, _, k1, k2⟩ := h1; exact rappend_is k1 k2 n s)
theorem td_sync (h : Td W O p q S T m w) (hn : (Lit.int .i64 n).wf = true) :
    Calls Try.prog 10 #[.pointer (some ⟨p, 0, none⟩), .int .i64 n] w fun x w' => x = .returned (.int .i64 (Dk.sync S n).2) ∧ Td W O p q (Dk.sync S n).1 T m w' := h.left (fun _ h1 => sync_is h1 hn)
theorem tr_sync (h : Td W O p q S T (m + 1) w) (n : Int) :
    Calls Try.prog 44 #[.pointer (some ⟨q, 0, none⟩), .int .i64 n] w fun x w' => x = .returned (.int .i64 (Dk.sync T n).2) ∧ Td W O p q S (Dk.sync T n).1 m w' :=
  h.right (fun _ h1 => by obtain ⟨_, _, _, _, _, _, k1, k2⟩ := h1; exact rsync_is k1 k2 n)
theorem td_truncate (h : Td W O p q S T m w) (hn : (Lit.int .i64 n).wf = true) (z : Int) :
    Calls Try.prog 13 #[.pointer (some ⟨p, 0, none⟩), .int .i64 n, .int .i64 z] w fun x w' => x = .returned (.int .i64 (Dk.truncate S n z).2) ∧ Td W O p q (Dk.truncate S n z).1 T m w' := h.left (fun _ h1 => truncate_is h1 hn z)
theorem tr_truncate (h : Td W O p q S T (m + 1) w) (n z : Int) :
    Calls Try.prog 45 #[.pointer (some ⟨q, 0, none⟩), .int .i64 n, .int .i64 z] w fun x w' => x = .returned (.int .i64 (Dk.truncate T n z).2) ∧ Td W O p q S (Dk.truncate T n z).1 m w' :=
  h.right (fun _ h1 => by obtain ⟨_, _, _, _, _, _, k1, k2⟩ := h1; exact rtruncate_is k1 k2 n z)
theorem td_delete (h : Td W O p q S T m w) (hn : (Lit.int .i64 n).wf = true) :
    Calls Try.prog 12 #[.pointer (some ⟨p, 0, none⟩), .int .i64 n] w fun x w' => x = .returned (.int .i64 (Dk.delete S n).2) ∧ Td W O p q (Dk.delete S n).1 T m w' := h.left (fun _ h1 => delete_is h1 hn)
theorem tr_delete (h : Td W O p q S T (m + 1) w) (n : Int) :
    Calls Try.prog 46 #[.pointer (some ⟨q, 0, none⟩), .int .i64 n] w fun x w' => x = .returned (.int .i64 (Dk.delete T n).2) ∧ Td W O p q S (Dk.delete T n).1 m w' :=
  h.right (fun _ h1 => by obtain ⟨_, _, _, _, _, _, k1, k2⟩ := h1; exact rdelete_is k1 k2 n)
theorem td_start (h : Td W O p q S T m w) :
    Calls Try.prog 15 #[.pointer (some ⟨p, 0, none⟩)] w fun x w' => x = .returned (.int .i64 (Dk.start S).2) ∧ Td W O p q (Dk.start S).1 T m w' :=
  h.left (fun _ h1 => (start_is h1).mono fun _ _ ⟨hx, hD, hF⟩ => ⟨hx, _, hD, Tn.same hF (fun _ hk => ⟨(0, 0), by rw [hk]; exact h1.p0⟩)⟩)
theorem start_fail (S : St) : (Dk.start S).1.fail = S.fail := by unfold Dk.start; split <;> rfl
theorem tr_start (h : Td W O p q S T (m + 1) w) :
    Calls Try.prog 27 #[.pointer (some ⟨q, 0, none⟩)] w fun x w' => x = .returned (.int .i64 (Dk.start T).2) ∧ Td W O p q S (Dk.start T).1 m w' :=
  h.right (fun G h1 => by
    obtain ⟨_, _, _, _, _, _, k1, k2⟩ := h1
    exact (rstart_is k1).mono fun _ _ ⟨hx, hR, hF⟩ => ⟨hx, G, ⟨_, _, _, _, _, _, hR, by rw [start_fail]; exact k2.less (Nat.le_succ m)⟩, Tn.same hF (fun _ hk => hk ▸ k1.own)⟩)
theorem td_read (h : Td W O p q S T m w) (hn : (Lit.int .i64 n).wf = true) (a z : Int) :
    Calls Try.prog 18 #[.pointer (some ⟨p, 0, none⟩), .int .i64 n, .int .i64 a, .int .i64 z] w fun x w' => x = .returned (.tuple #[.string (ofL (Dk.read S n a z).1), .int .i64 (Dk.read S n a z).2]) ∧ Td W O p q S T m w' := h.seeL (fun _ h1 => read_is h1 hn a z)
theorem tr_read (h : Td W O p q S T m w) (n a z : Int) :
    Calls Try.prog 43 #[.pointer (some ⟨q, 0, none⟩), .int .i64 n, .int .i64 a, .int .i64 z] w fun x w' => x = .returned (.tuple #[.string (ofL (Dk.read T n a z).1), .int .i64 (Dk.read T n a z).2]) ∧ Td W O p q S T m w' :=
  h.seeR (fun _ h1 => by obtain ⟨_, _, _, _, _, _, k1, _⟩ := h1; exact rread_is k1 n a z)
theorem td_size (h : Td W O p q S T m w) (hn : (Lit.int .i64 n).wf = true) :
    Calls Try.prog 19 #[.pointer (some ⟨p, 0, none⟩), .int .i64 n] w fun x w' => x = .returned (.tuple #[.int .i64 (Dk.size S n).1, .int .i64 (Dk.size S n).2]) ∧ Td W O p q S T m w' := h.seeL (fun _ h1 => (size_is h1 hn).mono fun _ _ ⟨hx, hw⟩ => ⟨hx, hw ▸ Ext.refl _⟩)
theorem tr_size (h : Td W O p q S T m w) (n : Int) :
    Calls Try.prog 47 #[.pointer (some ⟨q, 0, none⟩), .int .i64 n] w fun x w' => x = .returned (.tuple #[.int .i64 (Dk.size T n).1, .int .i64 (Dk.size T n).2]) ∧ Td W O p q S T m w' :=
  h.seeR (fun _ h1 => by obtain ⟨_, _, _, _, _, _, k1, _⟩ := h1; exact rsize_is k1 n)
/-- A list that lies in O. -/
theorem Td.keepLt (h : Td W O p q S T m w) {ko : Option Addr} {ks : List Int} (hk : KeepAt w O ko ks) : KeepAt w (fun g => g < w.heap.size) ko ks := by
  obtain ⟨_, _, _, _, h3, _, _, _, h7⟩ := h
  rcases hk with hk | ⟨g, o, e, hg, hc⟩
  · exact .inl hk
  · exact .inr ⟨g, o, e, Nat.lt_of_lt_of_le (h7 g hg) h3.size, hc⟩
theorem td_fail (h : Td W O p q S T m w) (hn : n ≤ 9223372036854775807) {ko : Option Addr} {kc : Nat} {ks : List Int} (hl : ks.length ≤ 16777216) (hk : KeepAt w O ko ks) :
    Calls Try.prog 11 #[.pointer (some ⟨p, 0, none⟩), .int .i64 n, .slice ko ks.length kc] w fun x w' => x = .returned (.int .i64 (Dk.fail S n ks).2) ∧ Td W O p q (Dk.fail S n ks).1 T m w' :=
  h.left (fun _ h1 => fail_is h1 hn hl (h.keepLt hk) (fun _ hg => hg))
theorem tr_fail (h : Td W O p q S T (m + 1) w) (hn : n ≤ 9223372036854775807) (hm : m ≤ 1000) {ko : Option Addr} {kc : Nat} {ks : List Int} (hl : ks.length ≤ 16777216) (hk : KeepAt w O ko ks) :
    Calls Try.prog 49 #[.pointer (some ⟨q, 0, none⟩), .int .i64 n, .slice ko ks.length kc] w fun x w' => x = .returned (.int .i64 (Dk.fail T n ks).2) ∧ Td W O p q S (Dk.fail T n ks).1 m w' :=
  h.right (fun G h1 => by
    obtain ⟨ao, cap, ko', kc', F, K, k1, k2⟩ := h1
    by_cases hbad : T.down = true ∨ n < 0
    · refine (rfail_no k1 hbad _).mono fun x w' ⟨hx, hw⟩ => ?_
      subst hw
      have e : Dk.fail T n ks = (T, if T.down then 61 else 2) := by
        unfold Dk.fail
        rcases hd : T.down with _ | _
        · have : n < 0 := by rw [hd] at hbad; exact hbad.resolve_left (by decide)
          simp [this]
        · simp
      rw [e]
      exact ⟨hx, G, ⟨ao, cap, ko', kc', F, K, k1, k2.less (Nat.le_succ m)⟩, Tn.refl _ _⟩
    · have hd : T.down = false := by cases h0 : T.down; rfl; exact absurd (.inl h0) hbad
      have h0 : 0 ≤ n := by have := fun h => hbad (.inr h); omega
      rw [show Dk.fail T n ks = ({ T with fail := some (n, ks) }, 0) by simp [Dk.fail, hd]; omega]
      exact (rfail_yes k1 hd h0 hn hl (h.keepLt hk)).mono fun x w' ⟨hx, G', ko2, kc2, hR, hT⟩ => ⟨hx, G', ⟨_, _, _, _, _, _, hR, rfl, by omega⟩, hT⟩)
theorem td_crash (h : Td W O p q S T m w) {ko : Option Addr} {kc : Nat} {ks : List Int} (hl : ks.length ≤ 16777216) (hk : KeepAt w O ko ks) :
    Calls Try.prog 22 #[.pointer (some ⟨p, 0, none⟩), .slice ko ks.length kc] w fun x w' => x = .returned (.int .i64 (Dk.crash S ks).2) ∧ Td W O p q (Dk.crash S ks).1 T m w' := by
  obtain ⟨β, G, h1, h2, h3, h4, h5, h6, h7⟩ := h
  exact (crash_any (kc := kc) h1 hl hk (fun g hg => ⟨Nat.lt_of_lt_of_le (h7 g hg) h3.size, h4 g hg⟩)).mono fun _ _ ⟨hx, β', hD, hT⟩ => ⟨hx, β', G, hD, h2.fr hT.fr (fun k hk hb => h6 k hb hk), h3.trans hT.fr (fun k _ hk ho => h4 k ho hk), (h4.symm.turn (h7.mono h3.size) hT).symm, h5, h6.turn h2.under hT, h7⟩
theorem tr_crash (h : Td W O p q S T (m + 1) w) {ko : Option Addr} {kc : Nat} {ks : List Int} (hl : ks.length ≤ 16777216) (hk : KeepAt w O ko ks) :
    Calls Try.prog 48 #[.pointer (some ⟨q, 0, none⟩), .slice ko ks.length kc] w fun x w' => x = .returned (.int .i64 (Dk.crash T ks).2) ∧ Td W O p q S (Dk.crash T ks).1 m w' :=
  h.right (fun G h1 => by
    obtain ⟨ao, cap, ko', kc', F, K, k1, k2⟩ := h1
    cases hd : T.down
    · rw [show Dk.crash T ks = (T.crash ks, 0) by simp [Dk.crash, hd]]
      exact (rcrash_is k1 hd hl (h.keepLt hk) (fun _ hg => hg)).mono fun x w' ⟨hx, G', a2, c2, hR, hT⟩ => ⟨hx, G', ⟨_, _, _, _, _, _, hR, rfl, rfl⟩, hT⟩
    · rw [show Dk.crash T ks = (T, 61) by simp [Dk.crash, hd]]
      exact (rcrash_down k1 hd _).mono fun x w' ⟨hx, hw⟩ => ⟨hx, G, ⟨ao, cap, ko', kc', F, K, hw ▸ k1, k2.less (Nat.le_succ m)⟩, hw ▸ Tn.refl _ _⟩)
theorem KeepAt.later {A B : Nat → Prop} {ko : Option Addr} {ks : List Int} (h : KeepAt w A ko ks) (hA : ∀ k, A k → B k) (hb : ∀ k, A k → w'.heap[k]? = w.heap[k]?) : KeepAt w' B ko ks := by
  rcases h.kept hb with h | ⟨g, o, e, hg, hc⟩
  · exact .inl h
  · exact .inr ⟨g, o, e, hA g hg, hc⟩
end
section
variable {W w w' V : World} {O : Nat → Prop} {p q m kc : Nat} {S : St} {kind n at_ size : Int} {s : List UInt8} {ko : Option Addr} {ks : List Int}

set_option maxHeartbeats 2000000 in
set_option maxRecDepth 100000 in
theorem do_create (h : Td W O p q S S (m + 1) w) (h8 : 0 ≤ kind) (hk : kind % 14 = 0) (hn : In64 n) (hat : In64 at_) (_ : m ≤ 1000) (_ : ks.length ≤ 16777216) (hkp : KeepAt w O ko ks) :
    Calls Try.prog 25 #[.agg #[.int .u8 kind, .int .i64 n, .int .i64 at_, .int .i64 size, .string (ofL s), .slice ko ks.length kc], .pointer (some ⟨p, 0, none⟩), .pointer (some ⟨q, 0, none⟩)] w fun e w' => e = .returned (.bool true) ∧ ∃ S', Td W O p q S' S' m w' := by
  have hwf := in64_wf hn
  have hn2 := hn.2
  have hat2 := hat.2
  have H := Lib.hid h
  have HP := Lib.hid (h.plus (.cells #[.int .u8 kind, .int .i64 n, .int .i64 at_, .int .i64 size, .string (ofL s), .slice ko ks.length kc] 48))
  have hx0 : Fr (fun k => ¬ (With O w.heap.size) k) (w.alloc (.cells #[.int .u8 kind, .int .i64 n, .int .i64 at_, .int .i64 size, .string (ofL s), .slice ko ks.length kc] 48)) (w.alloc (.cells #[.int .u8 kind, .int .i64 n, .int .i64 at_, .int .i64 size, .string (ofL s), .slice ko ks.length kc] 48)) := Fr.refl _ _
  have hC : ∀ w', Fr (fun k => ¬ (With O w.heap.size) k) (w.alloc (.cells #[.int .u8 kind, .int .i64 n, .int .i64 at_, .int .i64 size, .string (ofL s), .slice ko ks.length kc] 48)) w' → ∀ o, w'.cell? ⟨w.heap.size, o, none⟩ = (#[.int .u8 kind, .int .i64 n, .int .i64 at_, .int .i64 size, .string (ofL s), .slice ko ks.length kc] : Array Value)[o]? := fun w' h => Td.cells h (heap_alloc_new _ _) (Or.inr rfl)
  have HK := Lib.hid (fun w' (hf : Fr (fun k => ¬ (With O w.heap.size) k) (w.alloc (.cells #[.int .u8 kind, .int .i64 n, .int .i64 at_, .int .i64 size, .string (ofL s), .slice ko ks.length kc] 48)) w') => (show KeepAt w' (With O w.heap.size) ko ks from hkp.later (w' := w') (fun k hk => (Or.inl hk : (With O w.heap.size) k)) (fun k hk => (hf.block k (by have h7 := h; obtain ⟨_, _, _, _, h3, _, _, _, h7⟩ := h7; rw [World.size_alloc]; have := h7 k hk; have := h3.size; omega) (fun hn => hn (.inl hk))).trans (Below.heap_alloc _ _ k (by have h7 := h; obtain ⟨_, _, _, _, h3, _, _, _, h7⟩ := h7; have := h7 k hk; have := h3.size; omega)))))
  clear h hn hat hkp
  have hkt : kind.tmod 14 = kind % 14 := Int.tmod_eq_emod_of_nonneg h8
  go_enter Try.func25, Try.ntmps25
  have hc0 := hC _ hx0
  go_wp2_with fail
  go_region_held3 (fun w' => Fr (fun k => ¬ (With O w.heap.size) k) (w.alloc (.cells #[.int .u8 kind, .int .i64 n, .int .i64 at_, .int .i64 size, .string (ofL s), .slice ko ks.length kc] 48)) w') (first | exact hx0 | exact hx0.drew | assumption) (first | (go_at_call 8; first | ((with_reducible refine (td_create (HP.out.ext (Ext.refl _).drew) hwf).mono ?_); rintro e w1 ⟨rfl, hT⟩; have hs1 := hT.fr; have HN := Lib.hid hT; clear hT) | ((with_reducible refine (td_create HR.out hwf).mono ?_); rintro e w2 ⟨rfl, hT⟩; have hs2 := hT.fr; have HF := Lib.hid hT; clear hT)) | (go_at_call 42; first | ((with_reducible refine (tr_create HN.out hwf).mono ?_); rintro e w2 ⟨rfl, hT⟩; have hs2 := hT.fr; have HF := Lib.hid hT; clear hT) | ((with_reducible refine (tr_create (HP.out.ext (Ext.refl _).drew) hwf).mono ?_); rintro e w1 ⟨rfl, hT⟩; have hs1 := hT.fr; have HR := Lib.hid hT; clear hT)))
  all_goals go_wp2_with fail
  all_goals
    go_ret
    exact ⟨by simp, _, H.out.back ((Ext.refl _).alloc _) HF.out⟩
set_option maxHeartbeats 2000000 in
set_option maxRecDepth 100000 in
theorem do_read (h : Td W O p q S S (m + 1) w) (h8 : 0 ≤ kind) (hk : kind % 14 = 4) (hn : In64 n) (hat : In64 at_) (_ : m ≤ 1000) (_ : ks.length ≤ 16777216) (hkp : KeepAt w O ko ks) :
    Calls Try.prog 25 #[.agg #[.int .u8 kind, .int .i64 n, .int .i64 at_, .int .i64 size, .string (ofL s), .slice ko ks.length kc], .pointer (some ⟨p, 0, none⟩), .pointer (some ⟨q, 0, none⟩)] w fun e w' => e = .returned (.bool true) ∧ ∃ S', Td W O p q S' S' m w' := by
  have hwf := in64_wf hn
  have hn2 := hn.2
  have hat2 := hat.2
  have H := Lib.hid h
  have HP := Lib.hid (h.plus (.cells #[.int .u8 kind, .int .i64 n, .int .i64 at_, .int .i64 size, .string (ofL s), .slice ko ks.length kc] 48))
  have hx0 : Fr (fun k => ¬ (With O w.heap.size) k) (w.alloc (.cells #[.int .u8 kind, .int .i64 n, .int .i64 at_, .int .i64 size, .string (ofL s), .slice ko ks.length kc] 48)) (w.alloc (.cells #[.int .u8 kind, .int .i64 n, .int .i64 at_, .int .i64 size, .string (ofL s), .slice ko ks.length kc] 48)) := Fr.refl _ _
  have hC : ∀ w', Fr (fun k => ¬ (With O w.heap.size) k) (w.alloc (.cells #[.int .u8 kind, .int .i64 n, .int .i64 at_, .int .i64 size, .string (ofL s), .slice ko ks.length kc] 48)) w' → ∀ o, w'.cell? ⟨w.heap.size, o, none⟩ = (#[.int .u8 kind, .int .i64 n, .int .i64 at_, .int .i64 size, .string (ofL s), .slice ko ks.length kc] : Array Value)[o]? := fun w' h => Td.cells h (heap_alloc_new _ _) (Or.inr rfl)
  have HK := Lib.hid (fun w' (hf : Fr (fun k => ¬ (With O w.heap.size) k) (w.alloc (.cells #[.int .u8 kind, .int .i64 n, .int .i64 at_, .int .i64 size, .string (ofL s), .slice ko ks.length kc] 48)) w') => (show KeepAt w' (With O w.heap.size) ko ks from hkp.later (w' := w') (fun k hk => (Or.inl hk : (With O w.heap.size) k)) (fun k hk => (hf.block k (by have h7 := h; obtain ⟨_, _, _, _, h3, _, _, _, h7⟩ := h7; rw [World.size_alloc]; have := h7 k hk; have := h3.size; omega) (fun hn => hn (.inl hk))).trans (Below.heap_alloc _ _ k (by have h7 := h; obtain ⟨_, _, _, _, h3, _, _, _, h7⟩ := h7; have := h7 k hk; have := h3.size; omega)))))
  clear h hn hat hkp
  have hkt : kind.tmod 14 = kind % 14 := Int.tmod_eq_emod_of_nonneg h8
  go_enter Try.func25, Try.ntmps25
  have HC := Lib.hid hC
  clear hC
  have hc0 := HC.out _ hx0
  go_wp2_with (first | (go_at_call 18; (with_reducible refine (td_read HP.out hwf at_ size).mono ?_); rintro e w1 ⟨rfl, hT⟩; have hc1 := HC.out _ hT.fr; have HN := Lib.hid hT; clear hT) | (go_at_call 43; (with_reducible refine (tr_read HN.out n at_ size).mono ?_); rintro e w2 ⟨rfl, hT⟩; have HF := Lib.hid hT; clear hT))
  go_ret
  exact ⟨by simp, _, (H.out.back ((Ext.refl _).alloc _) HF.out).less (Nat.le_succ m)⟩
set_option maxHeartbeats 2000000 in
set_option maxRecDepth 100000 in
theorem do_sync5 (h : Td W O p q S S (m + 1) w) (h8 : 0 ≤ kind) (hk : kind % 14 = 5) (hn : In64 n) (hat : In64 at_) (_ : m ≤ 1000) (_ : ks.length ≤ 16777216) (hkp : KeepAt w O ko ks) :
    Calls Try.prog 25 #[.agg #[.int .u8 kind, .int .i64 n, .int .i64 at_, .int .i64 size, .string (ofL s), .slice ko ks.length kc], .pointer (some ⟨p, 0, none⟩), .pointer (some ⟨q, 0, none⟩)] w fun e w' => e = .returned (.bool true) ∧ ∃ S', Td W O p q S' S' m w' := by
  have hwf := in64_wf hn
  have hn2 := hn.2
  have hat2 := hat.2
  have H := Lib.hid h
  have HP := Lib.hid (h.plus (.cells #[.int .u8 kind, .int .i64 n, .int .i64 at_, .int .i64 size, .string (ofL s), .slice ko ks.length kc] 48))
  have hx0 : Fr (fun k => ¬ (With O w.heap.size) k) (w.alloc (.cells #[.int .u8 kind, .int .i64 n, .int .i64 at_, .int .i64 size, .string (ofL s), .slice ko ks.length kc] 48)) (w.alloc (.cells #[.int .u8 kind, .int .i64 n, .int .i64 at_, .int .i64 size, .string (ofL s), .slice ko ks.length kc] 48)) := Fr.refl _ _
  have hC : ∀ w', Fr (fun k => ¬ (With O w.heap.size) k) (w.alloc (.cells #[.int .u8 kind, .int .i64 n, .int .i64 at_, .int .i64 size, .string (ofL s), .slice ko ks.length kc] 48)) w' → ∀ o, w'.cell? ⟨w.heap.size, o, none⟩ = (#[.int .u8 kind, .int .i64 n, .int .i64 at_, .int .i64 size, .string (ofL s), .slice ko ks.length kc] : Array Value)[o]? := fun w' h => Td.cells h (heap_alloc_new _ _) (Or.inr rfl)
  have HK := Lib.hid (fun w' (hf : Fr (fun k => ¬ (With O w.heap.size) k) (w.alloc (.cells #[.int .u8 kind, .int .i64 n, .int .i64 at_, .int .i64 size, .string (ofL s), .slice ko ks.length kc] 48)) w') => (show KeepAt w' (With O w.heap.size) ko ks from hkp.later (w' := w') (fun k hk => (Or.inl hk : (With O w.heap.size) k)) (fun k hk => (hf.block k (by have h7 := h; obtain ⟨_, _, _, _, h3, _, _, _, h7⟩ := h7; rw [World.size_alloc]; have := h7 k hk; have := h3.size; omega) (fun hn => hn (.inl hk))).trans (Below.heap_alloc _ _ k (by have h7 := h; obtain ⟨_, _, _, _, h3, _, _, _, h7⟩ := h7; have := h7 k hk; have := h3.size; omega)))))
  clear h hn hat hkp
  have hkt : kind.tmod 14 = kind % 14 := Int.tmod_eq_emod_of_nonneg h8
  go_enter Try.func25, Try.ntmps25
  have hc0 := hC _ hx0
  go_wp2_with fail
  go_region_held3 (fun w' => Fr (fun k => ¬ (With O w.heap.size) k) (w.alloc (.cells #[.int .u8 kind, .int .i64 n, .int .i64 at_, .int .i64 size, .string (ofL s), .slice ko ks.length kc] 48)) w') (first | exact hx0 | exact hx0.drew | assumption) (first | (go_at_call 10; first | ((with_reducible refine (td_sync (HP.out.ext (Ext.refl _).drew) hwf).mono ?_); rintro e w1 ⟨rfl, hT⟩; have hs1 := hT.fr; have HN := Lib.hid hT; clear hT) | ((with_reducible refine (td_sync HR.out hwf).mono ?_); rintro e w2 ⟨rfl, hT⟩; have hs2 := hT.fr; have HF := Lib.hid hT; clear hT)) | (go_at_call 44; first | ((with_reducible refine (tr_sync HN.out n).mono ?_); rintro e w2 ⟨rfl, hT⟩; have hs2 := hT.fr; have HF := Lib.hid hT; clear hT) | ((with_reducible refine (tr_sync (HP.out.ext (Ext.refl _).drew) n).mono ?_); rintro e w1 ⟨rfl, hT⟩; have hs1 := hT.fr; have HR := Lib.hid hT; clear hT)))
  all_goals go_wp2_with fail
  all_goals
    go_ret
    exact ⟨by simp, _, H.out.back ((Ext.refl _).alloc _) HF.out⟩
set_option maxHeartbeats 2000000 in
set_option maxRecDepth 100000 in
theorem do_sync6 (h : Td W O p q S S (m + 1) w) (h8 : 0 ≤ kind) (hk : kind % 14 = 6) (hn : In64 n) (hat : In64 at_) (_ : m ≤ 1000) (_ : ks.length ≤ 16777216) (hkp : KeepAt w O ko ks) :
    Calls Try.prog 25 #[.agg #[.int .u8 kind, .int .i64 n, .int .i64 at_, .int .i64 size, .string (ofL s), .slice ko ks.length kc], .pointer (some ⟨p, 0, none⟩), .pointer (some ⟨q, 0, none⟩)] w fun e w' => e = .returned (.bool true) ∧ ∃ S', Td W O p q S' S' m w' := by
  have hwf := in64_wf hn
  have hn2 := hn.2
  have hat2 := hat.2
  have H := Lib.hid h
  have HP := Lib.hid (h.plus (.cells #[.int .u8 kind, .int .i64 n, .int .i64 at_, .int .i64 size, .string (ofL s), .slice ko ks.length kc] 48))
  have hx0 : Fr (fun k => ¬ (With O w.heap.size) k) (w.alloc (.cells #[.int .u8 kind, .int .i64 n, .int .i64 at_, .int .i64 size, .string (ofL s), .slice ko ks.length kc] 48)) (w.alloc (.cells #[.int .u8 kind, .int .i64 n, .int .i64 at_, .int .i64 size, .string (ofL s), .slice ko ks.length kc] 48)) := Fr.refl _ _
  have hC : ∀ w', Fr (fun k => ¬ (With O w.heap.size) k) (w.alloc (.cells #[.int .u8 kind, .int .i64 n, .int .i64 at_, .int .i64 size, .string (ofL s), .slice ko ks.length kc] 48)) w' → ∀ o, w'.cell? ⟨w.heap.size, o, none⟩ = (#[.int .u8 kind, .int .i64 n, .int .i64 at_, .int .i64 size, .string (ofL s), .slice ko ks.length kc] : Array Value)[o]? := fun w' h => Td.cells h (heap_alloc_new _ _) (Or.inr rfl)
  have HK := Lib.hid (fun w' (hf : Fr (fun k => ¬ (With O w.heap.size) k) (w.alloc (.cells #[.int .u8 kind, .int .i64 n, .int .i64 at_, .int .i64 size, .string (ofL s), .slice ko ks.length kc] 48)) w') => (show KeepAt w' (With O w.heap.size) ko ks from hkp.later (w' := w') (fun k hk => (Or.inl hk : (With O w.heap.size) k)) (fun k hk => (hf.block k (by have h7 := h; obtain ⟨_, _, _, _, h3, _, _, _, h7⟩ := h7; rw [World.size_alloc]; have := h7 k hk; have := h3.size; omega) (fun hn => hn (.inl hk))).trans (Below.heap_alloc _ _ k (by have h7 := h; obtain ⟨_, _, _, _, h3, _, _, _, h7⟩ := h7; have := h7 k hk; have := h3.size; omega)))))
  clear h hn hat hkp
  have hkt : kind.tmod 14 = kind % 14 := Int.tmod_eq_emod_of_nonneg h8
  go_enter Try.func25, Try.ntmps25
  have hc0 := hC _ hx0
  go_wp2_with fail
  go_region_held3 (fun w' => Fr (fun k => ¬ (With O w.heap.size) k) (w.alloc (.cells #[.int .u8 kind, .int .i64 n, .int .i64 at_, .int .i64 size, .string (ofL s), .slice ko ks.length kc] 48)) w') (first | exact hx0 | exact hx0.drew | assumption) (first | (go_at_call 10; first | ((with_reducible refine (td_sync (HP.out.ext (Ext.refl _).drew) hwf).mono ?_); rintro e w1 ⟨rfl, hT⟩; have hs1 := hT.fr; have HN := Lib.hid hT; clear hT) | ((with_reducible refine (td_sync HR.out hwf).mono ?_); rintro e w2 ⟨rfl, hT⟩; have hs2 := hT.fr; have HF := Lib.hid hT; clear hT)) | (go_at_call 44; first | ((with_reducible refine (tr_sync HN.out n).mono ?_); rintro e w2 ⟨rfl, hT⟩; have hs2 := hT.fr; have HF := Lib.hid hT; clear hT) | ((with_reducible refine (tr_sync (HP.out.ext (Ext.refl _).drew) n).mono ?_); rintro e w1 ⟨rfl, hT⟩; have hs1 := hT.fr; have HR := Lib.hid hT; clear hT)))
  all_goals go_wp2_with fail
  all_goals
    go_ret
    exact ⟨by simp, _, H.out.back ((Ext.refl _).alloc _) HF.out⟩
set_option maxHeartbeats 2000000 in
set_option maxRecDepth 100000 in
theorem do_truncate (h : Td W O p q S S (m + 1) w) (h8 : 0 ≤ kind) (hk : kind % 14 = 7) (hn : In64 n) (hat : In64 at_) (_ : m ≤ 1000) (_ : ks.length ≤ 16777216) (hkp : KeepAt w O ko ks) :
    Calls Try.prog 25 #[.agg #[.int .u8 kind, .int .i64 n, .int .i64 at_, .int .i64 size, .string (ofL s), .slice ko ks.length kc], .pointer (some ⟨p, 0, none⟩), .pointer (some ⟨q, 0, none⟩)] w fun e w' => e = .returned (.bool true) ∧ ∃ S', Td W O p q S' S' m w' := by
  have hwf := in64_wf hn
  have hn2 := hn.2
  have hat2 := hat.2
  have H := Lib.hid h
  have HP := Lib.hid (h.plus (.cells #[.int .u8 kind, .int .i64 n, .int .i64 at_, .int .i64 size, .string (ofL s), .slice ko ks.length kc] 48))
  have hx0 : Fr (fun k => ¬ (With O w.heap.size) k) (w.alloc (.cells #[.int .u8 kind, .int .i64 n, .int .i64 at_, .int .i64 size, .string (ofL s), .slice ko ks.length kc] 48)) (w.alloc (.cells #[.int .u8 kind, .int .i64 n, .int .i64 at_, .int .i64 size, .string (ofL s), .slice ko ks.length kc] 48)) := Fr.refl _ _
  have hC : ∀ w', Fr (fun k => ¬ (With O w.heap.size) k) (w.alloc (.cells #[.int .u8 kind, .int .i64 n, .int .i64 at_, .int .i64 size, .string (ofL s), .slice ko ks.length kc] 48)) w' → ∀ o, w'.cell? ⟨w.heap.size, o, none⟩ = (#[.int .u8 kind, .int .i64 n, .int .i64 at_, .int .i64 size, .string (ofL s), .slice ko ks.length kc] : Array Value)[o]? := fun w' h => Td.cells h (heap_alloc_new _ _) (Or.inr rfl)
  have HK := Lib.hid (fun w' (hf : Fr (fun k => ¬ (With O w.heap.size) k) (w.alloc (.cells #[.int .u8 kind, .int .i64 n, .int .i64 at_, .int .i64 size, .string (ofL s), .slice ko ks.length kc] 48)) w') => (show KeepAt w' (With O w.heap.size) ko ks from hkp.later (w' := w') (fun k hk => (Or.inl hk : (With O w.heap.size) k)) (fun k hk => (hf.block k (by have h7 := h; obtain ⟨_, _, _, _, h3, _, _, _, h7⟩ := h7; rw [World.size_alloc]; have := h7 k hk; have := h3.size; omega) (fun hn => hn (.inl hk))).trans (Below.heap_alloc _ _ k (by have h7 := h; obtain ⟨_, _, _, _, h3, _, _, _, h7⟩ := h7; have := h7 k hk; have := h3.size; omega)))))
  clear h hn hat hkp
  have hkt : kind.tmod 14 = kind % 14 := Int.tmod_eq_emod_of_nonneg h8
  go_enter Try.func25, Try.ntmps25
  have hc0 := hC _ hx0
  go_wp2_with fail
  go_region_held3 (fun w' => Fr (fun k => ¬ (With O w.heap.size) k) (w.alloc (.cells #[.int .u8 kind, .int .i64 n, .int .i64 at_, .int .i64 size, .string (ofL s), .slice ko ks.length kc] 48)) w') (first | exact hx0 | exact hx0.drew | assumption) (first | (go_at_call 13; first | ((with_reducible refine (td_truncate (HP.out.ext (Ext.refl _).drew) hwf size).mono ?_); rintro e w1 ⟨rfl, hT⟩; have hs1 := hT.fr; have HN := Lib.hid hT; clear hT) | ((with_reducible refine (td_truncate HR.out hwf size).mono ?_); rintro e w2 ⟨rfl, hT⟩; have hs2 := hT.fr; have HF := Lib.hid hT; clear hT)) | (go_at_call 45; first | ((with_reducible refine (tr_truncate HN.out n size).mono ?_); rintro e w2 ⟨rfl, hT⟩; have hs2 := hT.fr; have HF := Lib.hid hT; clear hT) | ((with_reducible refine (tr_truncate (HP.out.ext (Ext.refl _).drew) n size).mono ?_); rintro e w1 ⟨rfl, hT⟩; have hs1 := hT.fr; have HR := Lib.hid hT; clear hT)))
  all_goals go_wp2_with fail
  all_goals
    go_ret
    exact ⟨by simp, _, H.out.back ((Ext.refl _).alloc _) HF.out⟩
set_option maxHeartbeats 2000000 in
set_option maxRecDepth 100000 in
theorem do_delete (h : Td W O p q S S (m + 1) w) (h8 : 0 ≤ kind) (hk : kind % 14 = 8) (hn : In64 n) (hat : In64 at_) (_ : m ≤ 1000) (_ : ks.length ≤ 16777216) (hkp : KeepAt w O ko ks) :
    Calls Try.prog 25 #[.agg #[.int .u8 kind, .int .i64 n, .int .i64 at_, .int .i64 size, .string (ofL s), .slice ko ks.length kc], .pointer (some ⟨p, 0, none⟩), .pointer (some ⟨q, 0, none⟩)] w fun e w' => e = .returned (.bool true) ∧ ∃ S', Td W O p q S' S' m w' := by
  have hwf := in64_wf hn
  have hn2 := hn.2
  have hat2 := hat.2
  have H := Lib.hid h
  have HP := Lib.hid (h.plus (.cells #[.int .u8 kind, .int .i64 n, .int .i64 at_, .int .i64 size, .string (ofL s), .slice ko ks.length kc] 48))
  have hx0 : Fr (fun k => ¬ (With O w.heap.size) k) (w.alloc (.cells #[.int .u8 kind, .int .i64 n, .int .i64 at_, .int .i64 size, .string (ofL s), .slice ko ks.length kc] 48)) (w.alloc (.cells #[.int .u8 kind, .int .i64 n, .int .i64 at_, .int .i64 size, .string (ofL s), .slice ko ks.length kc] 48)) := Fr.refl _ _
  have hC : ∀ w', Fr (fun k => ¬ (With O w.heap.size) k) (w.alloc (.cells #[.int .u8 kind, .int .i64 n, .int .i64 at_, .int .i64 size, .string (ofL s), .slice ko ks.length kc] 48)) w' → ∀ o, w'.cell? ⟨w.heap.size, o, none⟩ = (#[.int .u8 kind, .int .i64 n, .int .i64 at_, .int .i64 size, .string (ofL s), .slice ko ks.length kc] : Array Value)[o]? := fun w' h => Td.cells h (heap_alloc_new _ _) (Or.inr rfl)
  have HK := Lib.hid (fun w' (hf : Fr (fun k => ¬ (With O w.heap.size) k) (w.alloc (.cells #[.int .u8 kind, .int .i64 n, .int .i64 at_, .int .i64 size, .string (ofL s), .slice ko ks.length kc] 48)) w') => (show KeepAt w' (With O w.heap.size) ko ks from hkp.later (w' := w') (fun k hk => (Or.inl hk : (With O w.heap.size) k)) (fun k hk => (hf.block k (by have h7 := h; obtain ⟨_, _, _, _, h3, _, _, _, h7⟩ := h7; rw [World.size_alloc]; have := h7 k hk; have := h3.size; omega) (fun hn => hn (.inl hk))).trans (Below.heap_alloc _ _ k (by have h7 := h; obtain ⟨_, _, _, _, h3, _, _, _, h7⟩ := h7; have := h7 k hk; have := h3.size; omega)))))
  clear h hn hat hkp
  have hkt : kind.tmod 14 = kind % 14 := Int.tmod_eq_emod_of_nonneg h8
  go_enter Try.func25, Try.ntmps25
  have hc0 := hC _ hx0
  go_wp2_with fail
  go_region_held3 (fun w' => Fr (fun k => ¬ (With O w.heap.size) k) (w.alloc (.cells #[.int .u8 kind, .int .i64 n, .int .i64 at_, .int .i64 size, .string (ofL s), .slice ko ks.length kc] 48)) w') (first | exact hx0 | exact hx0.drew | assumption) (first | (go_at_call 12; first | ((with_reducible refine (td_delete (HP.out.ext (Ext.refl _).drew) hwf).mono ?_); rintro e w1 ⟨rfl, hT⟩; have hs1 := hT.fr; have HN := Lib.hid hT; clear hT) | ((with_reducible refine (td_delete HR.out hwf).mono ?_); rintro e w2 ⟨rfl, hT⟩; have hs2 := hT.fr; have HF := Lib.hid hT; clear hT)) | (go_at_call 46; first | ((with_reducible refine (tr_delete HN.out n).mono ?_); rintro e w2 ⟨rfl, hT⟩; have hs2 := hT.fr; have HF := Lib.hid hT; clear hT) | ((with_reducible refine (tr_delete (HP.out.ext (Ext.refl _).drew) n).mono ?_); rintro e w1 ⟨rfl, hT⟩; have hs1 := hT.fr; have HR := Lib.hid hT; clear hT)))
  all_goals go_wp2_with fail
  all_goals
    go_ret
    exact ⟨by simp, _, H.out.back ((Ext.refl _).alloc _) HF.out⟩
set_option maxHeartbeats 2000000 in
set_option maxRecDepth 100000 in
theorem do_size (h : Td W O p q S S (m + 1) w) (h8 : 0 ≤ kind) (hk : kind % 14 = 9) (hn : In64 n) (hat : In64 at_) (_ : m ≤ 1000) (_ : ks.length ≤ 16777216) (hkp : KeepAt w O ko ks) :
    Calls Try.prog 25 #[.agg #[.int .u8 kind, .int .i64 n, .int .i64 at_, .int .i64 size, .string (ofL s), .slice ko ks.length kc], .pointer (some ⟨p, 0, none⟩), .pointer (some ⟨q, 0, none⟩)] w fun e w' => e = .returned (.bool true) ∧ ∃ S', Td W O p q S' S' m w' := by
  have hwf := in64_wf hn
  have hn2 := hn.2
  have hat2 := hat.2
  have H := Lib.hid h
  have HP := Lib.hid (h.plus (.cells #[.int .u8 kind, .int .i64 n, .int .i64 at_, .int .i64 size, .string (ofL s), .slice ko ks.length kc] 48))
  have hx0 : Fr (fun k => ¬ (With O w.heap.size) k) (w.alloc (.cells #[.int .u8 kind, .int .i64 n, .int .i64 at_, .int .i64 size, .string (ofL s), .slice ko ks.length kc] 48)) (w.alloc (.cells #[.int .u8 kind, .int .i64 n, .int .i64 at_, .int .i64 size, .string (ofL s), .slice ko ks.length kc] 48)) := Fr.refl _ _
  have hC : ∀ w', Fr (fun k => ¬ (With O w.heap.size) k) (w.alloc (.cells #[.int .u8 kind, .int .i64 n, .int .i64 at_, .int .i64 size, .string (ofL s), .slice ko ks.length kc] 48)) w' → ∀ o, w'.cell? ⟨w.heap.size, o, none⟩ = (#[.int .u8 kind, .int .i64 n, .int .i64 at_, .int .i64 size, .string (ofL s), .slice ko ks.length kc] : Array Value)[o]? := fun w' h => Td.cells h (heap_alloc_new _ _) (Or.inr rfl)
  have HK := Lib.hid (fun w' (hf : Fr (fun k => ¬ (With O w.heap.size) k) (w.alloc (.cells #[.int .u8 kind, .int .i64 n, .int .i64 at_, .int .i64 size, .string (ofL s), .slice ko ks.length kc] 48)) w') => (show KeepAt w' (With O w.heap.size) ko ks from hkp.later (w' := w') (fun k hk => (Or.inl hk : (With O w.heap.size) k)) (fun k hk => (hf.block k (by have h7 := h; obtain ⟨_, _, _, _, h3, _, _, _, h7⟩ := h7; rw [World.size_alloc]; have := h7 k hk; have := h3.size; omega) (fun hn => hn (.inl hk))).trans (Below.heap_alloc _ _ k (by have h7 := h; obtain ⟨_, _, _, _, h3, _, _, _, h7⟩ := h7; have := h7 k hk; have := h3.size; omega)))))
  clear h hn hat hkp
  have hkt : kind.tmod 14 = kind % 14 := Int.tmod_eq_emod_of_nonneg h8
  go_enter Try.func25, Try.ntmps25
  have HC := Lib.hid hC
  clear hC
  have hc0 := HC.out _ hx0
  go_wp2_with (first | (go_at_call 19; (with_reducible refine (td_size HP.out hwf).mono ?_); rintro e w1 ⟨rfl, hT⟩; have hc1 := HC.out _ hT.fr; have HN := Lib.hid hT; clear hT) | (go_at_call 47; (with_reducible refine (tr_size HN.out n).mono ?_); rintro e w2 ⟨rfl, hT⟩; have HF := Lib.hid hT; clear hT))
  go_ret
  exact ⟨by simp, _, (H.out.back ((Ext.refl _).alloc _) HF.out).less (Nat.le_succ m)⟩
set_option maxHeartbeats 2000000 in
set_option maxRecDepth 100000 in
theorem do_crash (h : Td W O p q S S (m + 1) w) (h8 : 0 ≤ kind) (hk : kind % 14 = 10) (hn : In64 n) (hat : In64 at_) (_ : m ≤ 1000) (hl : ks.length ≤ 16777216) (hkp : KeepAt w O ko ks) :
    Calls Try.prog 25 #[.agg #[.int .u8 kind, .int .i64 n, .int .i64 at_, .int .i64 size, .string (ofL s), .slice ko ks.length kc], .pointer (some ⟨p, 0, none⟩), .pointer (some ⟨q, 0, none⟩)] w fun e w' => e = .returned (.bool true) ∧ ∃ S', Td W O p q S' S' m w' := by
  have hwf := in64_wf hn
  have hn2 := hn.2
  have hat2 := hat.2
  have H := Lib.hid h
  have HP := Lib.hid (h.plus (.cells #[.int .u8 kind, .int .i64 n, .int .i64 at_, .int .i64 size, .string (ofL s), .slice ko ks.length kc] 48))
  have hx0 : Fr (fun k => ¬ (With O w.heap.size) k) (w.alloc (.cells #[.int .u8 kind, .int .i64 n, .int .i64 at_, .int .i64 size, .string (ofL s), .slice ko ks.length kc] 48)) (w.alloc (.cells #[.int .u8 kind, .int .i64 n, .int .i64 at_, .int .i64 size, .string (ofL s), .slice ko ks.length kc] 48)) := Fr.refl _ _
  have hC : ∀ w', Fr (fun k => ¬ (With O w.heap.size) k) (w.alloc (.cells #[.int .u8 kind, .int .i64 n, .int .i64 at_, .int .i64 size, .string (ofL s), .slice ko ks.length kc] 48)) w' → ∀ o, w'.cell? ⟨w.heap.size, o, none⟩ = (#[.int .u8 kind, .int .i64 n, .int .i64 at_, .int .i64 size, .string (ofL s), .slice ko ks.length kc] : Array Value)[o]? := fun w' h => Td.cells h (heap_alloc_new _ _) (Or.inr rfl)
  have HK := Lib.hid (fun w' (hf : Fr (fun k => ¬ (With O w.heap.size) k) (w.alloc (.cells #[.int .u8 kind, .int .i64 n, .int .i64 at_, .int .i64 size, .string (ofL s), .slice ko ks.length kc] 48)) w') => (show KeepAt w' (With O w.heap.size) ko ks from hkp.later (w' := w') (fun k hk => (Or.inl hk : (With O w.heap.size) k)) (fun k hk => (hf.block k (by have h7 := h; obtain ⟨_, _, _, _, h3, _, _, _, h7⟩ := h7; rw [World.size_alloc]; have := h7 k hk; have := h3.size; omega) (fun hn => hn (.inl hk))).trans (Below.heap_alloc _ _ k (by have h7 := h; obtain ⟨_, _, _, _, h3, _, _, _, h7⟩ := h7; have := h7 k hk; have := h3.size; omega)))))
  clear h hn hat hkp
  have hkt : kind.tmod 14 = kind % 14 := Int.tmod_eq_emod_of_nonneg h8
  go_enter Try.func25, Try.ntmps25
  have hc0 := hC _ hx0
  go_wp2_with fail
  go_region_held3 (fun w' => Fr (fun k => ¬ (With O w.heap.size) k) (w.alloc (.cells #[.int .u8 kind, .int .i64 n, .int .i64 at_, .int .i64 size, .string (ofL s), .slice ko ks.length kc] 48)) w') (first | exact hx0 | exact hx0.drew | assumption) (first | (go_at_call 22; first | ((with_reducible refine (td_crash (HP.out.ext (Ext.refl _).drew) hl (HK.out _ hx0.drew)).mono ?_); rintro e w1 ⟨rfl, hT⟩; have hs1 := hT.fr; have HN := Lib.hid hT; clear hT) | ((with_reducible refine (td_crash HR.out hl (HK.out _ hs1)).mono ?_); rintro e w2 ⟨rfl, hT⟩; have hs2 := hT.fr; have HF := Lib.hid hT; clear hT)) | (go_at_call 48; first | ((with_reducible refine (tr_crash HN.out hl (HK.out _ hs1)).mono ?_); rintro e w2 ⟨rfl, hT⟩; have hs2 := hT.fr; have HF := Lib.hid hT; clear hT) | ((with_reducible refine (tr_crash (HP.out.ext (Ext.refl _).drew) hl (HK.out _ hx0.drew)).mono ?_); rintro e w1 ⟨rfl, hT⟩; have hs1 := hT.fr; have HR := Lib.hid hT; clear hT)))
  all_goals go_wp2_with fail
  all_goals
    go_ret
    exact ⟨by simp, _, H.out.back ((Ext.refl _).alloc _) HF.out⟩
set_option maxHeartbeats 2000000 in
set_option maxRecDepth 100000 in
theorem do_start11 (h : Td W O p q S S (m + 1) w) (h8 : 0 ≤ kind) (hk : kind % 14 = 11) (hn : In64 n) (hat : In64 at_) (_ : m ≤ 1000) (_ : ks.length ≤ 16777216) (hkp : KeepAt w O ko ks) :
    Calls Try.prog 25 #[.agg #[.int .u8 kind, .int .i64 n, .int .i64 at_, .int .i64 size, .string (ofL s), .slice ko ks.length kc], .pointer (some ⟨p, 0, none⟩), .pointer (some ⟨q, 0, none⟩)] w fun e w' => e = .returned (.bool true) ∧ ∃ S', Td W O p q S' S' m w' := by
  have hwf := in64_wf hn
  have hn2 := hn.2
  have hat2 := hat.2
  have H := Lib.hid h
  have HP := Lib.hid (h.plus (.cells #[.int .u8 kind, .int .i64 n, .int .i64 at_, .int .i64 size, .string (ofL s), .slice ko ks.length kc] 48))
  have hx0 : Fr (fun k => ¬ (With O w.heap.size) k) (w.alloc (.cells #[.int .u8 kind, .int .i64 n, .int .i64 at_, .int .i64 size, .string (ofL s), .slice ko ks.length kc] 48)) (w.alloc (.cells #[.int .u8 kind, .int .i64 n, .int .i64 at_, .int .i64 size, .string (ofL s), .slice ko ks.length kc] 48)) := Fr.refl _ _
  have hC : ∀ w', Fr (fun k => ¬ (With O w.heap.size) k) (w.alloc (.cells #[.int .u8 kind, .int .i64 n, .int .i64 at_, .int .i64 size, .string (ofL s), .slice ko ks.length kc] 48)) w' → ∀ o, w'.cell? ⟨w.heap.size, o, none⟩ = (#[.int .u8 kind, .int .i64 n, .int .i64 at_, .int .i64 size, .string (ofL s), .slice ko ks.length kc] : Array Value)[o]? := fun w' h => Td.cells h (heap_alloc_new _ _) (Or.inr rfl)
  have HK := Lib.hid (fun w' (hf : Fr (fun k => ¬ (With O w.heap.size) k) (w.alloc (.cells #[.int .u8 kind, .int .i64 n, .int .i64 at_, .int .i64 size, .string (ofL s), .slice ko ks.length kc] 48)) w') => (show KeepAt w' (With O w.heap.size) ko ks from hkp.later (w' := w') (fun k hk => (Or.inl hk : (With O w.heap.size) k)) (fun k hk => (hf.block k (by have h7 := h; obtain ⟨_, _, _, _, h3, _, _, _, h7⟩ := h7; rw [World.size_alloc]; have := h7 k hk; have := h3.size; omega) (fun hn => hn (.inl hk))).trans (Below.heap_alloc _ _ k (by have h7 := h; obtain ⟨_, _, _, _, h3, _, _, _, h7⟩ := h7; have := h7 k hk; have := h3.size; omega)))))
  clear h hn hat hkp
  have hkt : kind.tmod 14 = kind % 14 := Int.tmod_eq_emod_of_nonneg h8
  go_enter Try.func25, Try.ntmps25
  have HC := Lib.hid hC
  clear hC
  have hc0 := HC.out _ hx0
  go_wp2_with (first | (go_at_call 15; (with_reducible refine (td_start HP.out).mono ?_); rintro e w1 ⟨rfl, hT⟩; have hc1 := HC.out _ hT.fr; have HN := Lib.hid hT; clear hT) | (go_at_call 27; (with_reducible refine (tr_start HN.out).mono ?_); rintro e w2 ⟨rfl, hT⟩; have HF := Lib.hid hT; clear hT))
  go_ret
  exact ⟨by simp, _, H.out.back ((Ext.refl _).alloc _) HF.out⟩
set_option maxHeartbeats 2000000 in
set_option maxRecDepth 100000 in
theorem do_start12 (h : Td W O p q S S (m + 1) w) (h8 : 0 ≤ kind) (hk : kind % 14 = 12) (hn : In64 n) (hat : In64 at_) (_ : m ≤ 1000) (_ : ks.length ≤ 16777216) (hkp : KeepAt w O ko ks) :
    Calls Try.prog 25 #[.agg #[.int .u8 kind, .int .i64 n, .int .i64 at_, .int .i64 size, .string (ofL s), .slice ko ks.length kc], .pointer (some ⟨p, 0, none⟩), .pointer (some ⟨q, 0, none⟩)] w fun e w' => e = .returned (.bool true) ∧ ∃ S', Td W O p q S' S' m w' := by
  have hwf := in64_wf hn
  have hn2 := hn.2
  have hat2 := hat.2
  have H := Lib.hid h
  have HP := Lib.hid (h.plus (.cells #[.int .u8 kind, .int .i64 n, .int .i64 at_, .int .i64 size, .string (ofL s), .slice ko ks.length kc] 48))
  have hx0 : Fr (fun k => ¬ (With O w.heap.size) k) (w.alloc (.cells #[.int .u8 kind, .int .i64 n, .int .i64 at_, .int .i64 size, .string (ofL s), .slice ko ks.length kc] 48)) (w.alloc (.cells #[.int .u8 kind, .int .i64 n, .int .i64 at_, .int .i64 size, .string (ofL s), .slice ko ks.length kc] 48)) := Fr.refl _ _
  have hC : ∀ w', Fr (fun k => ¬ (With O w.heap.size) k) (w.alloc (.cells #[.int .u8 kind, .int .i64 n, .int .i64 at_, .int .i64 size, .string (ofL s), .slice ko ks.length kc] 48)) w' → ∀ o, w'.cell? ⟨w.heap.size, o, none⟩ = (#[.int .u8 kind, .int .i64 n, .int .i64 at_, .int .i64 size, .string (ofL s), .slice ko ks.length kc] : Array Value)[o]? := fun w' h => Td.cells h (heap_alloc_new _ _) (Or.inr rfl)
  have HK := Lib.hid (fun w' (hf : Fr (fun k => ¬ (With O w.heap.size) k) (w.alloc (.cells #[.int .u8 kind, .int .i64 n, .int .i64 at_, .int .i64 size, .string (ofL s), .slice ko ks.length kc] 48)) w') => (show KeepAt w' (With O w.heap.size) ko ks from hkp.later (w' := w') (fun k hk => (Or.inl hk : (With O w.heap.size) k)) (fun k hk => (hf.block k (by have h7 := h; obtain ⟨_, _, _, _, h3, _, _, _, h7⟩ := h7; rw [World.size_alloc]; have := h7 k hk; have := h3.size; omega) (fun hn => hn (.inl hk))).trans (Below.heap_alloc _ _ k (by have h7 := h; obtain ⟨_, _, _, _, h3, _, _, _, h7⟩ := h7; have := h7 k hk; have := h3.size; omega)))))
  clear h hn hat hkp
  have hkt : kind.tmod 14 = kind % 14 := Int.tmod_eq_emod_of_nonneg h8
  go_enter Try.func25, Try.ntmps25
  have HC := Lib.hid hC
  clear hC
  have hc0 := HC.out _ hx0
  go_wp2_with (first | (go_at_call 15; (with_reducible refine (td_start HP.out).mono ?_); rintro e w1 ⟨rfl, hT⟩; have hc1 := HC.out _ hT.fr; have HN := Lib.hid hT; clear hT) | (go_at_call 27; (with_reducible refine (tr_start HN.out).mono ?_); rintro e w2 ⟨rfl, hT⟩; have HF := Lib.hid hT; clear hT))
  go_ret
  exact ⟨by simp, _, H.out.back ((Ext.refl _).alloc _) HF.out⟩
set_option maxHeartbeats 2000000 in
set_option maxRecDepth 100000 in
theorem do_fail (h : Td W O p q S S (m + 1) w) (h8 : 0 ≤ kind) (hk : kind % 14 = 13) (hn : In64 n) (hat : In64 at_) (hm : m ≤ 1000) (hl : ks.length ≤ 16777216) (hkp : KeepAt w O ko ks) :
    Calls Try.prog 25 #[.agg #[.int .u8 kind, .int .i64 n, .int .i64 at_, .int .i64 size, .string (ofL s), .slice ko ks.length kc], .pointer (some ⟨p, 0, none⟩), .pointer (some ⟨q, 0, none⟩)] w fun e w' => e = .returned (.bool true) ∧ ∃ S', Td W O p q S' S' m w' := by
  have hwf := in64_wf hn
  have hn2 := hn.2
  have hat2 := hat.2
  have H := Lib.hid h
  have HP := Lib.hid (h.plus (.cells #[.int .u8 kind, .int .i64 n, .int .i64 at_, .int .i64 size, .string (ofL s), .slice ko ks.length kc] 48))
  have hx0 : Fr (fun k => ¬ (With O w.heap.size) k) (w.alloc (.cells #[.int .u8 kind, .int .i64 n, .int .i64 at_, .int .i64 size, .string (ofL s), .slice ko ks.length kc] 48)) (w.alloc (.cells #[.int .u8 kind, .int .i64 n, .int .i64 at_, .int .i64 size, .string (ofL s), .slice ko ks.length kc] 48)) := Fr.refl _ _
  have hC : ∀ w', Fr (fun k => ¬ (With O w.heap.size) k) (w.alloc (.cells #[.int .u8 kind, .int .i64 n, .int .i64 at_, .int .i64 size, .string (ofL s), .slice ko ks.length kc] 48)) w' → ∀ o, w'.cell? ⟨w.heap.size, o, none⟩ = (#[.int .u8 kind, .int .i64 n, .int .i64 at_, .int .i64 size, .string (ofL s), .slice ko ks.length kc] : Array Value)[o]? := fun w' h => Td.cells h (heap_alloc_new _ _) (Or.inr rfl)
  have HK := Lib.hid (fun w' (hf : Fr (fun k => ¬ (With O w.heap.size) k) (w.alloc (.cells #[.int .u8 kind, .int .i64 n, .int .i64 at_, .int .i64 size, .string (ofL s), .slice ko ks.length kc] 48)) w') => (show KeepAt w' (With O w.heap.size) ko ks from hkp.later (w' := w') (fun k hk => (Or.inl hk : (With O w.heap.size) k)) (fun k hk => (hf.block k (by have h7 := h; obtain ⟨_, _, _, _, h3, _, _, _, h7⟩ := h7; rw [World.size_alloc]; have := h7 k hk; have := h3.size; omega) (fun hn => hn (.inl hk))).trans (Below.heap_alloc _ _ k (by have h7 := h; obtain ⟨_, _, _, _, h3, _, _, _, h7⟩ := h7; have := h7 k hk; have := h3.size; omega)))))
  clear h hn hat hkp
  have hkt : kind.tmod 14 = kind % 14 := Int.tmod_eq_emod_of_nonneg h8
  go_enter Try.func25, Try.ntmps25
  have hc0 := hC _ hx0
  go_wp2_with fail
  go_region_held3 (fun w' => Fr (fun k => ¬ (With O w.heap.size) k) (w.alloc (.cells #[.int .u8 kind, .int .i64 n, .int .i64 at_, .int .i64 size, .string (ofL s), .slice ko ks.length kc] 48)) w') (first | exact hx0 | exact hx0.drew | assumption) (first | (go_at_call 11; first | ((with_reducible refine (td_fail (HP.out.ext (Ext.refl _).drew) hat2 hl (HK.out _ hx0.drew)).mono ?_); rintro e w1 ⟨rfl, hT⟩; have hs1 := hT.fr; have HN := Lib.hid hT; clear hT) | ((with_reducible refine (td_fail HR.out hat2 hl (HK.out _ hs1)).mono ?_); rintro e w2 ⟨rfl, hT⟩; have hs2 := hT.fr; have HF := Lib.hid hT; clear hT)) | (go_at_call 49; first | ((with_reducible refine (tr_fail HN.out hat2 hm hl (HK.out _ hs1)).mono ?_); rintro e w2 ⟨rfl, hT⟩; have hs2 := hT.fr; have HF := Lib.hid hT; clear hT) | ((with_reducible refine (tr_fail (HP.out.ext (Ext.refl _).drew) hat2 hm hl (HK.out _ hx0.drew)).mono ?_); rintro e w1 ⟨rfl, hT⟩; have hs1 := hT.fr; have HR := Lib.hid hT; clear hT)))
  all_goals go_wp2_with fail
  all_goals
    go_ret
    exact ⟨by simp, _, H.out.back ((Ext.refl _).alloc _) HF.out⟩
set_option maxHeartbeats 2000000 in
set_option maxRecDepth 100000 in
theorem do_append (h : Td W O p q S S (m + 1) w) (h8 : 0 ≤ kind) (hk0 : ¬ kind % 14 = 0) (hk4 : ¬ kind % 14 = 4) (hk5 : ¬ kind % 14 = 5) (hk6 : ¬ kind % 14 = 6) (hk7 : ¬ kind % 14 = 7) (hk8 : ¬ kind % 14 = 8) (hk9 : ¬ kind % 14 = 9) (hk10 : ¬ kind % 14 = 10) (hk11 : ¬ kind % 14 = 11) (hk12 : ¬ kind % 14 = 12) (hk13 : ¬ kind % 14 = 13) (hn : In64 n) (hat : In64 at_) (_ : m ≤ 1000) (_ : ks.length ≤ 16777216) (hkp : KeepAt w O ko ks) :
    Calls Try.prog 25 #[.agg #[.int .u8 kind, .int .i64 n, .int .i64 at_, .int .i64 size, .string (ofL s), .slice ko ks.length kc], .pointer (some ⟨p, 0, none⟩), .pointer (some ⟨q, 0, none⟩)] w fun e w' => e = .returned (.bool true) ∧ ∃ S', Td W O p q S' S' m w' := by
  have hwf := in64_wf hn
  have hn2 := hn.2
  have hat2 := hat.2
  have H := Lib.hid h
  have HP := Lib.hid (h.plus (.cells #[.int .u8 kind, .int .i64 n, .int .i64 at_, .int .i64 size, .string (ofL s), .slice ko ks.length kc] 48))
  have hx0 : Fr (fun k => ¬ (With O w.heap.size) k) (w.alloc (.cells #[.int .u8 kind, .int .i64 n, .int .i64 at_, .int .i64 size, .string (ofL s), .slice ko ks.length kc] 48)) (w.alloc (.cells #[.int .u8 kind, .int .i64 n, .int .i64 at_, .int .i64 size, .string (ofL s), .slice ko ks.length kc] 48)) := Fr.refl _ _
  have hC : ∀ w', Fr (fun k => ¬ (With O w.heap.size) k) (w.alloc (.cells #[.int .u8 kind, .int .i64 n, .int .i64 at_, .int .i64 size, .string (ofL s), .slice ko ks.length kc] 48)) w' → ∀ o, w'.cell? ⟨w.heap.size, o, none⟩ = (#[.int .u8 kind, .int .i64 n, .int .i64 at_, .int .i64 size, .string (ofL s), .slice ko ks.length kc] : Array Value)[o]? := fun w' h => Td.cells h (heap_alloc_new _ _) (Or.inr rfl)
  have HK := Lib.hid (fun w' (hf : Fr (fun k => ¬ (With O w.heap.size) k) (w.alloc (.cells #[.int .u8 kind, .int .i64 n, .int .i64 at_, .int .i64 size, .string (ofL s), .slice ko ks.length kc] 48)) w') => (show KeepAt w' (With O w.heap.size) ko ks from hkp.later (w' := w') (fun k hk => (Or.inl hk : (With O w.heap.size) k)) (fun k hk => (hf.block k (by have h7 := h; obtain ⟨_, _, _, _, h3, _, _, _, h7⟩ := h7; rw [World.size_alloc]; have := h7 k hk; have := h3.size; omega) (fun hn => hn (.inl hk))).trans (Below.heap_alloc _ _ k (by have h7 := h; obtain ⟨_, _, _, _, h3, _, _, _, h7⟩ := h7; have := h7 k hk; have := h3.size; omega)))))
  clear h hn hat hkp
  have hkt : kind.tmod 14 = kind % 14 := Int.tmod_eq_emod_of_nonneg h8
  go_enter Try.func25, Try.ntmps25
  have hc0 := hC _ hx0
  go_wp2_with fail
  go_region_held3 (fun w' => Fr (fun k => ¬ (With O w.heap.size) k) (w.alloc (.cells #[.int .u8 kind, .int .i64 n, .int .i64 at_, .int .i64 size, .string (ofL s), .slice ko ks.length kc] 48)) w') (first | exact hx0 | exact hx0.drew | assumption) (first | (go_at_call 9; first | ((with_reducible refine (td_append (HP.out.ext (Ext.refl _).drew) hwf s).mono ?_); rintro e w1 ⟨rfl, hT⟩; have hs1 := hT.fr; have HN := Lib.hid hT; clear hT) | ((with_reducible refine (td_append HR.out hwf s).mono ?_); rintro e w2 ⟨rfl, hT⟩; have hs2 := hT.fr; have HF := Lib.hid hT; clear hT)) | (go_at_call 50; first | ((with_reducible refine (tr_append HN.out n s).mono ?_); rintro e w2 ⟨rfl, hT⟩; have hs2 := hT.fr; have HF := Lib.hid hT; clear hT) | ((with_reducible refine (tr_append (HP.out.ext (Ext.refl _).drew) n s).mono ?_); rintro e w1 ⟨rfl, hT⟩; have hs1 := hT.fr; have HR := Lib.hid hT; clear hT)))
  all_goals go_wp2_with fail
  all_goals
    go_ret
    exact ⟨by simp, _, H.out.back ((Ext.refl _).alloc _) HF.out⟩
end
end Go.Proofs.Ytfcjjdmfnkiacaa
