/-
  The walk of JournalRoom; a list of lengths as an argument.
-/
import Derived.Test.YtajclcbclbppiaaJnKp
import Derived.Deep.Strs
import Derived.ProofKit
namespace Go.Proofs.Ytajclcbclbppiaa
open Go.RowKit Go.Rc Go.Deep Go.ChangeShapes Go.WideShapes
/-- A list of numbers of two bytes as an argument. -/
def U16s (w : World) (v : Value) (l : List Int) : Prop :=
  (∀ x ∈ l, 0 ≤ x ∧ x ≤ 65535) ∧ l.length ≤ maxLen ∧ ((∃ ao cap, v = .slice ao 0 cap ∧ l = []) ∨
    ∃ g o cap, v = .slice (some ⟨g, o, none⟩) l.length cap ∧ 0 < l.length ∧ g < w.heap.size ∧ ∀ i (h : i < l.length), w.cell? ⟨g, o + i, none⟩ = some (.int .u16 l[i]))
section
variable {H : Type} {enc : TypeId × Value → H} {w : World} {base : Nat} {sp : Nat → Bool} {held : Bool}
set_option maxRecDepth 100000 in
theorem open_u16_arg {r : Reach} {b0 : Nat} {v : Value} {d : DataW H} {ps : List MemPlace} (hval : Value.okWide Try.prog w r b0 54 v) (h : DataW.Trod enc Try.prog w base sp held 54 v d ps) : ∃ L, U16s w v L := by
  obtain ⟨n, hn⟩ := h
  have key : ∃ u L, v.cells.toList = [u] ∧ U16s w u L := by
    rcases open_slice1 Try.underlying54 (by kernel_rfl) hn with ⟨h1, _⟩ | ⟨a, len, cap, m, k, V, D, Pl, h1, hb, hl, hm, hmm, _, hx⟩
    · exact ⟨_, [], h1, fun _ h => (by cases h), by simp, .inl ⟨_, _, rfl, rfl⟩⟩
    have hlm : len ≤ m := by rw [hmm]; split <;> omega
    have each : ∀ i, i < len → ∃ q : Int, w.cell? (a.add i) = some (.int .u16 q) ∧ (0 ≤ q ∧ q ≤ 65535) := fun i hi => by
      obtain ⟨c1, c2⟩ := hx i (by omega)
      obtain ⟨q, hs, _, hsl⟩ := DataW.trod_int Try.underlying55 c2
      simp only [List.cons.injEq, and_true] at hs
      exact ⟨q, by rw [c1, hs], bounds_u16 hsl⟩
    obtain ⟨q, hq⟩ := choose_lt each
    refine ⟨_, (List.range len).map q, h1, fun x hx => ?_, by simp; omega, ?_⟩
    · obtain ⟨i, hi, rfl⟩ := List.mem_map.1 hx
      exact (hq i (List.mem_range.1 hi)).2
    · rcases Nat.eq_zero_or_pos len with rfl | hpos
      · exact .inl ⟨_, _, rfl, rfl⟩
      · right
        have h0 := (hq 0 hpos).1
        obtain ⟨g, o, sp'⟩ := a
        have hsp : sp' = none := by simpa [Addr.add] using World.cell?_spot h0
        subst hsp
        have hadd : ∀ k, (⟨g, o, none⟩ : Addr).add k = ⟨g, o + k, none⟩ := fun k => by unfold Addr.add; split <;> simp_all
        have hg : g < w.heap.size := by
          rw [hadd] at h0
          rcases Nat.lt_or_ge g w.heap.size with h | h
          · exact h
          · simp only [World.cell?, Array.getElem?_eq_none h] at h0
            cases h0
        refine ⟨g, o, cap, by simp, by simpa using hpos, hg, fun i hi => ?_⟩
        have hi' : i < len := by simpa using hi
        have := (hq i hi').1
        rw [hadd] at this
        rw [this]
        simp
  obtain ⟨u, L, h1, h2⟩ := key
  have : v = u := by
    cases v <;> simp only [Value.cells, List.cons.injEq, and_true] at h1 <;> first | exact h1 | skip
    simp [Value.okWide, Cell.okWide, Try.underlying54, Cell.ok] at hval
  rw [this]; exact ⟨L, h2⟩
end
end Go.Proofs.Ytajclcbclbppiaa
namespace Go.Proofs.Ytajclcbclbppiaa
open Go.RowKit Go.Maps Go.Dk Go.Rc Go.Jn Go.Shelf
variable {W w w' : World} {O O' F : Nat → Prop} {p q : Nat} {S S' S2 : St} {J J' : Jo} {ps : List (List UInt8)}
/-- What there is between two entries. -/
structure Room (W : World) (p q : Nat) (cap : Int) (many : Int) (w : World) (S : St) (J : Jo) (ps : List (List UInt8)) : Prop where
  at_ : Jp W (Old W) p q S J w
  live : Live S J ps
  fail : S.fail = none
  hcap : S.cap = cap
  room : 70000 ≤ cap - (rowL ps).length
  many : J.many = many
  n : J.n = 0
theorem Room.jp {cap many : Int} (h : Room W p q cap many w S J ps) : Jp W (Old W) p q S J w := h.at_
theorem Room.small {cap many : Int} (h : Room W p q cap many w S J ps) : Small J := live_smalls h.live h.at_.ok (by have := h.n; omega)
set_option maxHeartbeats 4000000 in
set_option maxRecDepth 100000 in
theorem journalRoom_any (c : Int) (hc : 0 ≤ c ∧ c ≤ 4294967295) (v : Value) (l : List Int) (z : Int) (hz : 0 ≤ z ∧ z ≤ 65535) (w : World) (hA : U16s w v l) :
    Calls Try.prog 5 #[.int .u32 c, v, .int .u16 z] w fun e w' => e = .returned (.bool true) ∧ Ext w w' := by
  obtain ⟨ao, n, ac, rfl, hn⟩ : ∃ ao n ac, v = .slice ao n ac ∧ l.length = n := by
    rcases hA.2.2 with ⟨ao, cap, rfl, rfl⟩ | ⟨g, o, cap, rfl, _⟩
    · exact ⟨_, _, _, rfl, rfl⟩
    · exact ⟨_, _, _, rfl, rfl⟩
  have HA := Lib.hid hA
  clear hA
  by_cases hgr : 200 < n
  · have hgr' : (200 : Int) < (n : Int) := by omega
    go_enter Try.func5, Try.ntmps5
    go_wp2_with (go_at_call 7; (with_reducible refine (kept_any _).mono ?_); rintro x w1 ⟨rfl, hx1⟩)
    go_ret
    exact ⟨rfl, hx1⟩
  · have hgr' : ¬ (200 : Int) < (n : Int) := by omega
    obtain ⟨r, hr⟩ : ∃ r, c % 200000 = r := ⟨_, rfl⟩
    have hr1 : 0 ≤ r ∧ r < 200000 := by omega
    have hw1 : IntKind.i64.wrap (70008 + r) = 70008 + r := IntWalk.i64_in _ (by omega)
    have N := Lib.hid (k_new w (Old w) (Old.under w) (c := 70008 + r) ⟨by omega, by omega⟩)
    obtain ⟨S1, J1, o1, l1, n1, c1, f1, _⟩ := open_fresh (cap := 70008 + r) (by omega)
    have O1 := Lib.hid o1
    have L1 := Lib.hid l1
    have t1 : (rowL [([] : List UInt8)]).length = 8 := by rw [rowL_one, recL_length]; rfl
    have k1 : J1.many = 0 := by rw [l1.many]; rfl
    clear o1 l1
    go_enter Try.func5, Try.ntmps5
    go_wp2_with (first
      | (go_at_call 8; (with_reducible refine N.out.mono ?_); rintro x w0 ⟨p, rfl, hD, _⟩; have HD := Lib.hid hD; clear hD)
      | (go_at_call 9; (with_reducible refine (open_good HD.out rfl O1.out).mono ?_); rintro x w1 ⟨q, ao1, n1', cap1, rfl, hnc, hro, hJp, hFr, hq⟩; have HR := Lib.hid (show Room w p q (70008 + r) 0 w1 S1 J1 [[]] from ⟨hJp.out_row hFr (Old.under w), L1.out, f1, c1, by rw [t1]; omega, k1, n1⟩); clear hnc hro hJp hFr hq))
    go_loopw [13, 14] (fun mv i wr => ∃ (k : Nat) (mn : Int) (S : St) (J : Jo) (ps : List (List UInt8)), k ≤ n ∧ i = .int .i64 k ∧ mv = .int .i64 mn ∧ 0 ≤ mn ∧ mn ≤ k ∧ Room w p q (70008 + r) mn wr S J ps) (fun _ i _ => n - (intOf i).toNat)
    case atStart => exact ⟨0, 0, S1, J1, [[]], by omega, rfl, rfl, by omega, by omega, HR.out⟩
    case round =>
      clear O1 L1 N n1 c1 f1 k1 t1 HD HR
      obtain ⟨k, mn, S, J, ps, hk, rfl, rfl, hm0, hmk, hR⟩ := hrel
      have hE := old_all hR.jp.fr
      have htot := hR.live.tot
      have hcap := hR.hcap
      have hroom0 := hR.room
      have hJm := hR.many
      by_cases hlt : k < n
      · obtain ⟨g, o, rfl, h0, hg, hx1⟩ : ∃ g o, ao = some ⟨g, o, none⟩ ∧ 0 < n ∧ g < w.heap.size ∧ ∀ i (h : i < l.length), w.cell? ⟨g, o + i, none⟩ = some (.int .u16 l[i]) := by
          rcases HA.out.2.2 with ⟨ao', cap, h1, rfl⟩ | ⟨g, o, cap, h1, h2, h3, h4⟩
          · simp at hn; omega
          · simp only [Value.slice.injEq] at h1
            exact ⟨g, o, h1.1, by omega, h3, h4⟩
        have hkl : k < l.length := by omega
        obtain ⟨x, hx⟩ : ∃ x, l[k] = x := ⟨_, rfl⟩
        have hxb := HA.out.1 x (hx ▸ List.getElem_mem hkl)
        have c0 := (hE.cell (p := ⟨g, o + k, none⟩) hg).trans (hx1 k hkl)
        rw [hx] at c0
        obtain ⟨n5, hn5⟩ : ∃ n5 : Nat, x % 5000 = (n5 : Int) := ⟨(x % 5000).toNat, by omega⟩
        have hn5b : n5 < 5000 := by omega
        have hz1 : (List.replicate n5 (0 : UInt8)).length = n5 := List.length_replicate
        obtain ⟨fz, hfz⟩ : ∃ fz : Int, S.cap - tot S.fs = fz := ⟨_, rfl⟩
        have hfz0 : ¬ fz < 70000 := by omega
        have hwm : IntKind.i64.wrap (mn + 1) = mn + 1 := IntWalk.i64_in _ (by omega)
        have hsm := hR.small
        clear hx1 hx
        by_cases hroom : 70000 ≤ S.cap - (rowL ps).length - ((List.replicate n5 (0 : UInt8)).length + 8)
        · obtain ⟨S', J', ha, hL', hn', hc', hf'⟩ := append_ok hR.live hR.fail (by rw [hz1]; omega) hroom
          have ht' := hL'.tot
          obtain ⟨fz2, hfz2⟩ : ∃ fz2 : Int, S'.cap - tot S'.fs = fz2 := ⟨_, rfl⟩
          have hrl : (rowL (ps ++ [List.replicate n5 (0 : UInt8)])).length = (rowL ps).length + (n5 + 8) := by rw [rowL_snoc, List.length_append, recL_length, hz1]
          rw [hz1] at hroom
          have hfz3 : ¬ fz2 < 70000 := by rw [← hfz2, hc', ht', hrl]; omega
          have hm' : J'.many = mn + 1 := by
            have h1 := hL'.many
            have h2 := hR.live.many
            rw [List.length_append, List.length_singleton] at h1
            omega
          have hR' : ∀ w', Jp w (Old w) p q S' J' w' → Room w p q (70008 + r) (mn + 1) w' S' J' (ps ++ [List.replicate n5 0]) := fun w' h => ⟨h, hL', hf', hc'.trans hcap, by rw [hrl]; omega, hm', hn'.trans hR.n⟩
          have HA1 := Lib.hid ha
          have HR1 := Lib.hid hR'
          have HJ0 := Lib.hid hR.jp
          have HFZ := Lib.hid hfz
          have HFZ2 := Lib.hid hfz2
          have HM := Lib.hid hm'
          clear ha hR' hR hfz hfz2 hm' hL' hc' hf' hn' ht' hrl hroom hroom0 hJm htot hcap hE
          go_wp2_with (first
            | (go_at_call 20; first
              | ((with_reducible refine (k_free HJ3.out.disk0 HFZ2.out).mono ?_); rintro x w4 ⟨rfl, hx4⟩; have HJ4 := Lib.hid (HJ3.out.ext hx4); clear hx4)
              | ((with_reducible refine (k_free HJ0.out.disk0 HFZ.out).mono ?_); rintro x w2 ⟨rfl, hx2⟩; have c2 := (hx2.cell (p := ⟨g, o + k, none⟩) (Nat.lt_of_lt_of_le hg (old_all HJ0.out.fr).size)).trans c0; have HJ2 := Lib.hid (HJ0.out.ext hx2); clear hx2))
            | (go_at_call 13; (with_reducible refine (append_j (HJ2.out.ext Hx3.out) hsm (by rw [hz1]; omega) HA1.out).mono ?_); rintro x w3 ⟨rfl, hJ⟩; have HJ3 := Lib.hid hJ; clear hJ)
            | (go_at_call 16; (with_reducible refine (jentries_is HJ4.out HM.out).mono ?_); rintro x w5 ⟨rfl, rfl⟩)
            | (refine make_bytes_w (by rfl) (.tmp 56) (.tmp 56) rfl (n := n5) rfl rfl (by omega) (by omega) (by omega) (fun w1 hz hx hlt => ?_); have hcv := hz.string; rw [hz1] at hcv; have Hx3 := Lib.hid hx; clear hz hx)
            | (rw [hcv]))
          exact ⟨⟨k + 1, mn + 1, S', J', _, by omega, by go_num, rfl, by omega, by omega, HR1.out _ HJ4.out⟩, by simp [intOf]; omega⟩
        · have ha := append_no (x := List.replicate n5 (0 : UInt8)) hR.live (by rw [hz1]; omega) (by omega)
          have hR' : ∀ w', Jp w (Old w) p q S J w' → Room w p q (70008 + r) mn w' S J ps := fun w' h => ⟨h, hR.live, hR.fail, hcap, hroom0, hJm, hR.n⟩
          have HA1 := Lib.hid ha
          have HR1 := Lib.hid hR'
          have HJ0 := Lib.hid hR.jp
          have HFZ := Lib.hid hfz
          have HM := Lib.hid hJm
          clear ha hR' hR hfz hroom hroom0 hJm htot hcap hE
          go_wp2_with (first
            | (go_at_call 20; first
              | ((with_reducible refine (k_free HJ4.out.disk0 HFZ.out).mono ?_); rintro x w5 ⟨rfl, hx5⟩; have HJ5 := Lib.hid (HJ4.out.ext hx5); clear hx5)
              | ((with_reducible refine (k_free HJ3.out.disk0 HFZ.out).mono ?_); rintro x w4 ⟨rfl, hx4⟩; have HJ4 := Lib.hid (HJ3.out.ext hx4); clear hx4)
              | ((with_reducible refine (k_free HJ0.out.disk0 HFZ.out).mono ?_); rintro x w2 ⟨rfl, hx2⟩; have c2 := (hx2.cell (p := ⟨g, o + k, none⟩) (Nat.lt_of_lt_of_le hg (old_all HJ0.out.fr).size)).trans c0; have HJ2 := Lib.hid (HJ0.out.ext hx2); clear hx2))
            | (go_at_call 13; (with_reducible refine (append_j (HJ2.out.ext Hx3.out) hsm (by rw [hz1]; omega) HA1.out).mono ?_); rintro x w3 ⟨rfl, hJ⟩; have HJ3 := Lib.hid hJ; clear hJ)
            | (go_at_call 16; (with_reducible refine (jentries_is HJ5.out HM.out).mono ?_); rintro x w6 ⟨rfl, rfl⟩)
            | (refine make_bytes_w (by rfl) (.tmp 56) (.tmp 56) rfl (n := n5) rfl rfl (by omega) (by omega) (by omega) (fun w1 hz hx hlt => ?_); have hcv := hz.string; rw [hz1] at hcv; have Hx3 := Lib.hid hx; clear hz hx)
            | (rw [hcv]))
          exact ⟨⟨k + 1, mn, S, J, ps, by omega, by go_num, rfl, by omega, by omega, HR1.out _ HJ5.out⟩, by simp [intOf]; omega⟩
      · obtain rfl : k = n := by omega
        obtain ⟨nz, rfl⟩ : ∃ nz : Nat, z = nz := ⟨z.toNat, by omega⟩
        have hz1 : (List.replicate nz (0 : UInt8)).length = nz := List.length_replicate
        obtain ⟨S', J', ha, hL', hn', hc', hf'⟩ := compact_ok (x := List.replicate nz (0 : UInt8)) hR.live hR.fail (by rw [hz1]; omega) (by rw [hz1]; omega)
        have hm' : J'.many = 0 := by rw [hL'.many]; rfl
        have hs' : J'.size = (nz : Int) + 8 := by rw [hL'.size, rowL_one, recL_length, hz1]; omega
        have hw8 : IntKind.i64.wrap ((nz : Int) + 8) = (nz : Int) + 8 := IntWalk.i64_in _ (by omega)
        have hsm := hR.small
        have HA1 := Lib.hid ha
        have HJ0 := Lib.hid hR.jp
        have HM := Lib.hid hm'
        have HS := Lib.hid hs'
        clear ha hR hm' hs' hL' hc' hf' hn' hroom0 hJm htot hcap hE
        go_wp2_with (first
          | (go_at_call 10; (with_reducible refine (compact_j (HJ0.out.ext Hx3.out) hsm (by rw [hz1]; omega) HA1.out).mono ?_); rintro x w3 ⟨rfl, hJ⟩; have HJ3 := Lib.hid hJ; clear hJ)
          | (go_at_call 16; (with_reducible refine (jentries_is HJ3.out HM.out).mono ?_); rintro x w5 ⟨rfl, rfl⟩)
          | (go_at_call 19; (with_reducible refine (jsize_is HJ3.out HS.out).mono ?_); rintro x w5 ⟨rfl, rfl⟩)
          | (go_at_call 7; (with_reducible refine (kept_any _).mono ?_); rintro x w6 ⟨rfl, hx6⟩)
          | (refine make_bytes_w (by rfl) (.tmp 89) (.tmp 89) rfl (n := nz) rfl rfl (by omega) (by omega) (by omega) (fun w1 hz hx hlt => ?_); have hcv := hz.string; rw [hz1] at hcv; have Hx3 := Lib.hid hx; clear hz hx)
          | (rw [hcv]))
        go_ret
        exact ⟨rfl, (old_all HJ3.out.fr).trans hx6⟩
theorem journalRoom_walk (w : World) (a0 : Int) (w0 : (Lit.int .u32 a0).wf = true) (v : Value) (l : List Int) (hA : U16s w v l) (a2 : Int) (w2 : (Lit.int .u16 a2).wf = true) :
    Calls Try.prog 5 #[.int .u32 a0, v, .int .u16 a2] w fun e w' => e = .returned (.bool true) ∧ Ext w w' :=
  journalRoom_any a0 (bounds_u32 w0) v l a2 (bounds_u16 w2) w hA
end Go.Proofs.Ytajclcbclbppiaa
