/-
  Both disks: begun, with other things beside; Act.do of every kind.
-/
import Derived.Test.YtfcjjdmfnkiacaaDskDo
import Derived.Test.YtfcjjdmfnkiacaaDskSm
import Derived.Test.YtfcjjdmfnkiacaaDskIn
import Derived.Test.YtfcjjdmfnkiacaaDskGr
namespace Go.Proofs.Ytfcjjdmfnkiacaa
open Go.RowKit Go.Maps Go.Dk Go.Shelf
section
variable {W w w' V : World} {O O' F G G' : Nat → Prop} {p q m m' : Nat} {S S' T T' : St}
theorem Td.start (h : Dp W O p S w) (hR : RfAt w' G q none 0 none 0 T 0 []) (hfT : T.fail = none) (hx : Ext w w') (hG : ∀ k, G k → w.heap.size ≤ k) (m : Nat) : Td W O p q S T m w' := by
  obtain ⟨β, h1, h3, h4, h7⟩ := h
  refine ⟨β, G, h1.ext hx, ⟨none, 0, none, 0, 0, [], hR, by rw [hfT]; exact ⟨rfl, rfl⟩⟩, h3.trans (Fr.of_ext (F := fun _ => False) hx) (fun _ _ hf => hf.elim), h4, fun k hk hg => ?_, fun k hk hg => ?_, h7⟩
  · have := hG k hg; have := h7 k hk; have := h3.size; omega
  · have := hG k hg; have := h1.under k hk; omega
theorem Td.base (h : Td W O p q S T m w) (hx : Ext w w') (hO : Under O' w') (h' : ∀ k, O' k → O k ∨ w.heap.size ≤ k) : Td w' O' p q S T m w' := by
  obtain ⟨β, G, h1, h2, h3, h4, h5, h6, h7⟩ := h
  refine ⟨β, G, h1.ext hx, h2.ext hx, Fr.refl _ _, fun k hk hb => ?_, fun k hk hb => ?_, h6, hO⟩
  · rcases h' k hk with hk | hk
    · exact h4 k hk hb
    · exact absurd (h1.under _ hb) (by omega)
  · rcases h' k hk with hk | hk
    · exact h5 k hk hb
    · exact absurd (h2.under _ hb) (by omega)
theorem Td.store (h : Td W O p q S T m w) (hf : Fr F w w') (hF : ∀ k, F k → O k) : Td w' O p q S T m w' := by
  obtain ⟨β, G, h1, h2, h3, h4, h5, h6, h7⟩ := h
  exact ⟨β, G, h1.fr hf (fun k hb hk => h4 k (hF k hk) hb), h2.fr hf (fun k hk hb => h5 k (hF k hb) hk), Fr.refl _ _, h4, h5, h6, h7.mono (Nat.le_trans h3.size hf.size)⟩
theorem Td.now (h : Td W O p q S T m w) : Td w O p q S T m w := h.store (Fr.refl (fun _ => False) w) (fun _ h => h.elim)
theorem Td.toOld {w0 : World} (h : Td W O p q S T m w) (hO : ∀ k, Old w0 k → O k) (hx : Ext w0 w) : Td w0 (Old w0) p q S T m w := by
  obtain ⟨β, G, h1, h2, h3, h4, h5, h6, h7⟩ := h
  exact ⟨β, G, h1, h2, Fr.of_ext hx, fun k hk => h4 k (hO k hk), fun k hk => h5 k (hO k hk), h6, fun k hk => hk⟩
/-- r.Down, read. -/
theorem Td.down (h : Td W O p q S T m w) : w.cell? ⟨q, 2, none⟩ = some (.bool T.down) := by
  obtain ⟨_, _, _, ⟨_, _, _, _, _, _, k1, _⟩, _⟩ := h
  exact k1.c2
/-- What is old stays, if it lies in O. -/
theorem Td.old {w0 : World} (h : Td W O p q S T m w) (hO : ∀ k, Old w0 k → O k) (hx : Ext w0 W) : Ext w0 w := by
  refine Fr.ext (Ext.refl w0) (F := fun k => ¬ Old w0 k) ((Fr.of_ext hx : Fr (fun k => ¬ Old w0 k) w0 W).trans h.fr (fun k hk hn ho => hn (hO k ho))) (fun k hk => Nat.le_of_not_lt hk)
end
section
variable {W w w' V : World} {O : Nat → Prop} {p q m kc : Nat} {S : St} {kind n at_ size : Int} {s : List UInt8} {ko : Option Addr} {ks : List Int}
theorem do_any (h : Td W O p q S S (m + 1) w) (h8 : 0 ≤ kind) (hn : In64 n) (hat : In64 at_) (hm : m ≤ 1000) (hl : ks.length ≤ 16777216) (hkp : KeepAt w O ko ks) :
    Calls Try.prog 25 #[.agg #[.int .u8 kind, .int .i64 n, .int .i64 at_, .int .i64 size, .string (ofL s), .slice ko ks.length kc], .pointer (some ⟨p, 0, none⟩), .pointer (some ⟨q, 0, none⟩)] w fun e w' => e = .returned (.bool true) ∧ ∃ S', Td W O p q S' S' m w' := by
  by_cases k0 : kind % 14 = 0
  · exact do_create h h8 k0 hn hat hm hl hkp
  by_cases k4 : kind % 14 = 4
  · exact do_read h h8 k4 hn hat hm hl hkp
  by_cases k5 : kind % 14 = 5
  · exact do_sync5 h h8 k5 hn hat hm hl hkp
  by_cases k6 : kind % 14 = 6
  · exact do_sync6 h h8 k6 hn hat hm hl hkp
  by_cases k7 : kind % 14 = 7
  · exact do_truncate h h8 k7 hn hat hm hl hkp
  by_cases k8 : kind % 14 = 8
  · exact do_delete h h8 k8 hn hat hm hl hkp
  by_cases k9 : kind % 14 = 9
  · exact do_size h h8 k9 hn hat hm hl hkp
  by_cases k10 : kind % 14 = 10
  · exact do_crash h h8 k10 hn hat hm hl hkp
  by_cases k11 : kind % 14 = 11
  · exact do_start11 h h8 k11 hn hat hm hl hkp
  by_cases k12 : kind % 14 = 12
  · exact do_start12 h h8 k12 hn hat hm hl hkp
  by_cases k13 : kind % 14 = 13
  · exact do_fail h h8 k13 hn hat hm hl hkp
  exact do_append h h8 k0 k4 k5 k6 k7 k8 k9 k10 k11 k12 k13 hn hat hm hl hkp
end
end Go.Proofs.Ytfcjjdmfnkiacaa
