/-
  The walk of Open: the journal of a disk.
-/
import Derived.Test.YtajclcbclbppiaaJnFs
import Derived.BigQuiet
namespace Go.Jn
open Go.Dk Go.Rc
theorem pick_none : ∀ {l : List Fl}, (∀ g ∈ l, itsAt g.b 0 = []) → pick l = none
  | [], _ => rfl
  | f :: r, h => by
    unfold pick
    rw [pick_none (l := r) (fun g hg => h g (.tail _ hg))]
    show (if itsAt f.b 0 = [] then none else some f) = none
    rw [if_pos (h f (.head _))]
theorem pick_at : ∀ {l : List Fl} {k : Nat} {f : Fl}, l[k]? = some f → itsAt f.b 0 ≠ [] → (∀ g ∈ l.drop (k + 1), itsAt g.b 0 = []) → pick l = some f
  | [], k, f, h, _, _ => by simp at h
  | g :: r, 0, f, h, hne, hl => by
    obtain rfl : g = f := by simpa using h
    unfold pick
    rw [pick_none (l := r) (by simpa using hl)]
    show (if itsAt g.b 0 = [] then none else some g) = some g
    rw [if_neg hne]
  | g :: r, k + 1, f, h, hne, hl => by
    unfold pick
    rw [pick_at (l := r) (k := k) (by simpa using h) hne (by simpa using hl)]
theorem drop_cons {l : List Fl} {k : Nat} {f : Fl} (h : l[k]? = some f) : l.drop k = f :: l.drop (k + 1) := by
  obtain ⟨hk, rfl⟩ := List.getElem?_eq_some_iff.1 h
  exact List.drop_eq_getElem_cons hk
end Go.Jn
namespace Go.Proofs.Ytajclcbclbppiaa
open Go.RowKit Go.Maps Go.Dk Go.Rc Go.Jn Go.Shelf
variable {W w w' : World} {O O' F : Nat → Prop} {p q : Nat} {S S' : St} {J J' : Jo}
/-- A row of texts that is only read, at any place. -/
def Ro (w : World) (ao : Option Addr) (n : Nat) (L : List (List UInt8)) : Prop :=
  L.length = n ∧ (n = 0 ∨ ∃ g o, ao = some ⟨g, o, none⟩ ∧ g < w.heap.size ∧ ∀ j, j < n → w.cell? ⟨g, o + j, none⟩ = (Se L)[j]?)
theorem Ro.kept {ao : Option Addr} {n : Nat} {L : List (List UInt8)} (h : Ro w ao n L) (hs : w.heap.size ≤ w'.heap.size) (hb : ∀ g, ob ao = some g → g < w.heap.size → w'.heap[g]? = w.heap[g]?) : Ro w' ao n L := by
  refine ⟨h.1, ?_⟩
  rcases h.2 with h0 | ⟨g, o, rfl, hg, h1⟩
  · exact .inl h0
  · exact .inr ⟨g, o, rfl, Nat.lt_of_lt_of_le hg hs, fun j hj => (World.cell?_of_block (a := ⟨g, o + j, none⟩) (hb g rfl hg)).trans (h1 j hj)⟩
theorem Ro.ext {ao : Option Addr} {n : Nat} {L : List (List UInt8)} (h : Ro w ao n L) (hx : Ext w w') : Ro w' ao n L := h.kept hx.size (fun g _ hg => Below.block hx g hg)
theorem Ro.fr {ao : Option Addr} {n : Nat} {L : List (List UInt8)} (h : Ro w ao n L) (hf : Fr F w w') (hn : ∀ g, ob ao = some g → ¬ F g) : Ro w' ao n L := h.kept hf.size (fun g h1 hg => hf.block g hg (hn g h1))
/-- O, and a row's block. -/
def WithRow (O : Nat → Prop) (ao : Option Addr) : Nat → Prop := fun k => O k ∨ ob ao = some k
/-- What Open answers. -/
def OpenTo (W : World) (O : Nat → Prop) (p : Nat) (R : Jn.Op) (w : World) (x : Ending) (w' : World) : Prop :=
  (R.j = none ∧ x = .returned (.tuple #[.pointer none, .string (ofL []), .slice none 0 0, .int .i64 R.e]) ∧ Dp W O p R.S w') ∨
    (∃ J q ao n cap, R.j = some J ∧ x = .returned (.tuple #[.pointer (some ⟨q, 0, none⟩), .string (ofL R.snap), .slice ao n cap, .int .i64 0]) ∧ R.e = 0 ∧ n ≤ cap ∧ Ro w' ao n R.l ∧ Jp w' (WithRow O ao) p q R.S J w' ∧ Fr (fun k => ¬ O k) W w' ∧ w.heap.size ≤ q ∧ ∀ g, ob ao = some g → w.heap.size ≤ g)
set_option maxHeartbeats 1000000 in
set_option maxRecDepth 100000 in
theorem open_down (h : Dp W O p S w) (hd : S.down = true) :
    Calls Try.prog 9 #[.pointer (some ⟨p, 0, none⟩)] w (OpenTo W O p (open_ S) w) := by
  have U := Lib.hid (k_up h (b := false) (by rw [hd]; rfl))
  have Z := Lib.hid (k_size h (n := 0) (by decide) (z := 0) (e := 61) (by simp [Dk.size, hd]))
  have H := Lib.hid h
  have hO : open_ S = ⟨S, none, [], [], 61⟩ := by unfold open_; rw [if_pos hd]
  rw [hO]
  clear h hd hO
  go_enter Try.func9, Try.ntmps9
  go_wp2_with (first | (go_at_call 15; (with_reducible refine U.out.mono ?_); rintro x w1 ⟨rfl, rfl⟩) | (go_at_call 22; (with_reducible refine Z.out.mono ?_); rintro x w2 ⟨rfl, rfl⟩))
  go_returns
  exact .inl ⟨rfl, rfl, H.out⟩
set_option maxHeartbeats 2000000 in
set_option maxRecDepth 100000 in
theorem open_up (h : Dp W O p S w) (hd : S.down = false) :
    Calls Try.prog 9 #[.pointer (some ⟨p, 0, none⟩)] w (OpenTo W O p (open_ S) w) := by
  have U := Lib.hid (k_up h (b := true) (by rw [hd]; rfl))
  obtain ⟨m, hm⟩ : ∃ m, S.fs.length = m := ⟨_, rfl⟩
  obtain ⟨names, hnm⟩ : ∃ names, S.fs.map (·.n) = names := ⟨_, rfl⟩
  have hm2 : m ≤ 100 := by have := h.ok.many; omega
  have hnl : names.length = m := by rw [← hnm, List.length_map]; exact hm
  have FI := Lib.hid (show Calls Try.prog 23 #[.pointer (some ⟨p, 0, none⟩)] w fun x w' => ∃ ao cap, x = .returned (.slice ao m cap) ∧ Rw w' 1 ao m cap (Nums names) ∧ Ext w w' ∧ ∀ g, ob ao = some g → w.heap.size ≤ g from by
    subst hm; subst hnm
    obtain ⟨β, h1, _⟩ := h
    exact files_is h1)
  have H := Lib.hid h
  have hw1 : IntKind.i64.wrap ((m : Int) - 1) = (m : Int) - 1 := IntWalk.i64_in _ (by omega)
  clear h
  go_enter Try.func9, Try.ntmps9
  go_wp2_with (first | (go_at_call 15; (with_reducible refine U.out.mono ?_); rintro x w1 ⟨rfl, rfl⟩) | (go_at_call 23; (with_reducible refine FI.out.mono ?_); rintro x w1 ⟨fo, fc, rfl, hr, hx, hn⟩; have HR := Lib.hid hr; have HX := Lib.hid hx; have HN := Lib.hid hn; clear hr hx hn))
  go_loopw [9] (fun i wr => ∃ (k : Nat) (j : Int), k ≤ m ∧ j = (k : Int) - 1 ∧ i = .int .i64 j ∧ (∀ f ∈ S.fs.drop k, itsAt f.b 0 = []) ∧ Ext w1 wr) (fun i _ => (intOf i + 1).toNat)
  case atStart => exact ⟨m, _, Nat.le_refl _, rfl, rfl, fun f hf => (by rw [List.drop_of_length_le (by omega)] at hf; cases hf), Ext.refl _⟩
  case round =>
    obtain ⟨k, j, hk, hj, rfl, hl, hx⟩ := hrel
    have hxw : Ext w wr := HX.out.trans hx
    have HD := Lib.hid (H.out.ext hxw)
    have HL := Lib.hid hl
    have HF := Lib.hid hnm
    clear hl
    by_cases hk0 : k = 0
    · subst hk0
      obtain rfl : j = -1 := by omega
      have hpk : pick S.fs = none := pick_none (fun g hg => HL.out g (by simpa using hg))
      clear hj
      obtain ⟨S', r, hfx⟩ : ∃ S' r, fresh S = (S', r) := ⟨_, _, rfl⟩
      by_cases hbroke : 1 < m ∨ m = 1 ∧ names.headD 0 ≠ 0
      · have hop : open_ S = ⟨S, none, [], [], 63⟩ := by
          unfold open_
          rw [if_neg (by rw [hd]; decide), hpk]
          dsimp only
          rw [hnm, hm, if_pos hbroke]
        have HOP := Lib.hid hop
        clear hop hpk hfx
        by_cases h1 : 1 < m
        · have h1' : (1 : Int) < (m : Int) := by omega
          clear hbroke
          go_wp2_with fail
          go_returns
          rw [HOP.out]
          exact .inl ⟨rfl, rfl, HD.out⟩
        · obtain ⟨rfl, hn0⟩ : m = 1 ∧ names.headD 0 ≠ 0 := hbroke.resolve_left h1
          obtain ⟨n0, rfl⟩ : ∃ n0, names = [n0] := List.length_eq_one_iff.1 hnl
          obtain ⟨g, rfl, hg, hx1, hx2⟩ := (HR.out.ext hx).row (by omega)
          have c0 := hx1 0 (by omega)
          rw [show (Nums [n0])[0]? = some (.int .i64 n0) from rfl] at c0
          have hn0 : ¬ n0 = 0 := hn0
          clear hx1 hx2
          go_wp2_with fail
          go_returns
          rw [HOP.out]
          exact .inl ⟨rfl, rfl, HD.out⟩
      · have hop : open_ S = if r = 0 then ⟨S', some ⟨0, 8, 0, S'.starts, false⟩, [], [], 0⟩ else ⟨S', none, [], [], r⟩ := by
          unfold open_
          rw [if_neg (by rw [hd]; decide), hpk]
          dsimp only
          rw [hnm, hm, if_neg hbroke, hfx]
        have HOP := Lib.hid hop
        have HB := Lib.hid hbroke
        have hm1 : m ≤ 1 := by
          rcases Nat.lt_or_ge 1 m with h | h
          · exact absurd (.inl h) hbroke
          · exact h
        clear hop hpk hbroke
        have fin : ∀ x w', FreshTo W O p S' r wr x w' → ∀ v1 v2, x = .returned (.tuple #[v1, v2]) → OpenTo W O p (open_ S) w (.returned (.tuple #[v1, .string (ofL []), .slice none 0 0, v2])) w' := by
          intro x w' h v1 v2 hxe
          rw [HOP.out]
          rcases h with ⟨h1, rfl, h3⟩ | ⟨rfl, q, rfl, h3, h4⟩
          · simp only [Ending.returned.injEq, Value.tuple.injEq, Array.mk.injEq, List.cons.injEq, and_true] at hxe
            obtain ⟨rfl, rfl⟩ := hxe
            rw [if_neg h1]
            exact .inl ⟨rfl, rfl, h3⟩
          · simp only [Ending.returned.injEq, Value.tuple.injEq, Array.mk.injEq, List.cons.injEq, and_true] at hxe
            obtain ⟨rfl, rfl⟩ := hxe
            rw [if_pos rfl]
            have hwr := (H.out.ext hxw)
            have h5 : Jp w' (WithRow O none) p q S' ⟨0, 8, 0, S'.starts, false⟩ w' := by
              have := h3.base (O' := WithRow O none) (Ext.refl _) (fun k hk => hk.elim (fun e => Nat.lt_of_lt_of_le (h3.under k e) h3.fr.size) (fun e => by cases e)) (fun k hk => hk.elim .inl (fun e => by cases e))
              exact this
            exact .inr ⟨_, q, none, 0, 0, rfl, rfl, rfl, Nat.le_refl _, ⟨rfl, .inl rfl⟩, h5, h3.fr, by have := hxw.size; omega, fun g hg => by cases hg⟩
        have FIN := Lib.hid fin
        have FRC := Lib.hid (fresh_is (fo := fo) (fc := fc) HD.out hm hfx)
        clear fin
        by_cases h0 : m = 0
        · subst h0
          go_wp2_with (go_at_call 27; (with_reducible refine FRC.out.mono ?_); intro x w3 hF; obtain ⟨v1, v2, hxe⟩ : ∃ v1 v2, x = .returned (.tuple #[v1, v2]) := (hF.elim (fun h => ⟨_, _, h.2.1⟩) (fun ⟨_, q, h, _⟩ => ⟨_, _, h⟩)); have HF3 := Lib.hid hF; clear hF; subst hxe)
          go_returns
          exact FIN.out _ _ HF3.out _ _ rfl
        · obtain rfl : m = 1 := by omega
          obtain ⟨n0, rfl⟩ : ∃ n0, names = [n0] := List.length_eq_one_iff.1 hnl
          obtain ⟨g, rfl, hg, hx1, hx2⟩ := (HR.out.ext hx).row (by omega)
          have c0 := hx1 0 (by omega)
          rw [show (Nums [n0])[0]? = some (.int .i64 n0) from rfl] at c0
          have hn0 : n0 = 0 := by
            rcases Classical.em (n0 = 0) with h | h
            · exact h
            · exact absurd (.inr ⟨rfl, h⟩) HB.out
          clear hx1 hx2
          go_wp2_with (go_at_call 27; (with_reducible refine FRC.out.mono ?_); intro x w3 hF; obtain ⟨v1, v2, hxe⟩ : ∃ v1 v2, x = .returned (.tuple #[v1, v2]) := (hF.elim (fun h => ⟨_, _, h.2.1⟩) (fun ⟨_, q, h, _⟩ => ⟨_, _, h⟩)); have HF3 := Lib.hid hF; clear hF; subst hxe)
          go_returns
          exact FIN.out _ _ HF3.out _ _ rfl
    · obtain ⟨k, rfl⟩ : ∃ k', k = k' + 1 := ⟨k - 1, by omega⟩
      obtain rfl : j = (k : Int) := by omega
      clear hj
      have hkl : k < S.fs.length := by omega
      obtain ⟨f, hf⟩ : ∃ f, S.fs[k]? = some f := ⟨_, List.getElem?_eq_getElem hkl⟩
      have hfm := List.mem_of_getElem? hf
      obtain ⟨g, rfl, hg, hx1, hx2⟩ := (HR.out.ext hx).row (by omega)
      have c0 := hx1 k (by omega)
      rw [show (Nums names)[k]? = some (.int .i64 f.n) by rw [← hnm]; simp [Nums, hf]] at c0
      have hwk : IntKind.i64.wrap ((k : Int) - 1) = (k : Int) - 1 := IntWalk.i64_in _ (by omega)
      clear hx1 hx2
      by_cases hp : itsAt f.b 0 = []
      · have C := load_is HD.out hd hfm
        rw [hp] at C
        have C := Lib.hid C
        have HP := Lib.hid hp
        clear hp
        go_wp2_with (go_at_call 24; (with_reducible refine C.out.mono ?_); rintro x w2 ⟨po, pc, rfl, hr, hx2, hn⟩; have HX2 := Lib.hid hx2; clear hr hx2 hn)
        exact ⟨⟨k, _, by omega, rfl, rfl, fun g hg => by rw [drop_cons hf] at hg; rcases List.mem_cons.1 hg with rfl | hg; exact HP.out; exact HL.out g hg, hx.trans HX2.out⟩, show ((k : Int) - 1 + 1).toNat < ((k : Int) + 1).toNat by omega⟩
      · obtain ⟨pn, hpn⟩ : ∃ pn, (itsAt f.b 0).length = pn := ⟨_, rfl⟩
        have hpn0 : 0 < pn := by
          rcases Nat.eq_zero_or_pos pn with h0 | h0
          · exact absurd (List.length_eq_zero_iff.1 (hpn.trans h0)) hp
          · exact h0
        have hpk : pick S.fs = some f := pick_at hf hp HL.out
        obtain ⟨e, he⟩ : ∃ e : Nat, endOf (itsAt f.b 0) = e := ⟨_, rfl⟩
        obtain ⟨z, hz⟩ : ∃ z : Nat, f.b.length = z := ⟨_, rfl⟩
        obtain ⟨S', r, hmx⟩ : ∃ S' r, runs (mends names f.n e z) S = (S', r) := ⟨_, _, rfl⟩
        have hpl : (pays f.b).length = pn := by unfold pays; rw [List.length_map]; exact hpn
        have hpm : pn ≤ 1048576 := by have := itsAt_length f.b 0; have := tot_mem hfm; have := H.out.ok.tot; have := H.out.ok.cap1; omega
        have hop : open_ S = if r = 0 then ⟨S', some ⟨f.n, e, (pn : Int) - 1, S'.starts, false⟩, (pays f.b).headD [], (pays f.b).tail, 0⟩ else ⟨S', none, [], [], r⟩ := by
          unfold open_
          rw [if_neg (by rw [hd]; decide), hpk]
          dsimp only
          rw [hnm, he, hz, hpn, hmx]
        have C := load_is HD.out hd hfm
        rw [hpn, he, hz] at C
        have C := Lib.hid C
        have hfw := wf_of (H.out.ok.names f hfm)
        have HNW := Lib.hid (fun k hk => wf_of (by
          rw [← hnm] at hk
          obtain ⟨f', hf', rfl⟩ := List.mem_map.1 hk
          exact H.out.ok.names f' hf' : 0 ≤ k ∧ k ≤ 9223372036854775807) : ∀ k ∈ names, (Lit.int .i64 k).wf = true)
        have hw2 : IntKind.i64.wrap ((pn : Int) - 1) = (pn : Int) - 1 := IntWalk.i64_in _ (by omega)
        have HPL := Lib.hid hpl
        clear hpk hpl
        by_cases hr0 : r = 0
        · subst hr0
          rw [if_pos rfl] at hop
          rw [hop]
          clear hop
          go_wp2_with (first
            | (go_at_call 24; (with_reducible refine C.out.mono ?_); rintro x w2 ⟨po, pc, rfl, hr, hx2, hn⟩; have HX2 := Lib.hid hx2; have c2 := (hx2.cell (p := ⟨g, k, none⟩) hg).trans c0; have HPR := Lib.hid hr; have HPN := Lib.hid hn; clear hr hx2 hn)
            | (go_at_call 25; (with_reducible refine (mend_is (H.out.news (hxw.trans HX2.out)) hnl (by omega) (HR.out.ext (hx.trans HX2.out)) HNW.out hfw hmx).mono ?_); rintro x w3 ⟨rfl, hD⟩; have HD3 := Lib.hid hD; clear hD))
          have hsz2 : wr.heap.size ≤ w2.heap.size := HX2.out.size
          have HF3 := HD3.out.fr
          have hcg : ∀ w', Fr (fun k => ¬ New O w w2 k) w2 w' → w'.cell? ⟨g, k, none⟩ = some (.int .i64 f.n) := fun w' h => (h.cell (p := ⟨g, k, none⟩) (show g < w2.heap.size by omega) (fun h => h (.inr ⟨HN.out g rfl, show g < w2.heap.size by omega⟩))).trans c2
          have hki : (0 : Int) ≤ (k : Int) := by omega
          have hkm : (k : Int) < (m : Int) := by omega
          obtain ⟨gp, rfl, hgp, hp1, hp2⟩ := HPR.out.row (by omega)
          have hgn : New O w w2 gp := .inr ⟨Nat.le_trans hxw.size (HPN.out gp rfl), hgp⟩
          obtain ⟨hd0, tl, hpd⟩ : ∃ hd0 tl, pays f.b = hd0 :: tl := List.exists_cons_of_length_pos (by rw [HPL.out]; exact hpn0)
          have hcp : w3.cell? ⟨gp, 0, none⟩ = some (.string (ofL hd0)) := (HF3.cell (p := ⟨gp, 0, none⟩) hgp (fun h => h hgn)).trans ((hp1 0 (by omega)).trans (by rw [hpd]; rfl))
          have hgp3 : gp < w3.heap.size := Nat.lt_of_lt_of_le hgp HF3.size
          have hpc := HPR.out.le
          have HP1 := Lib.hid hp1
          clear hp1 hp2
          go_region_held3 (fun w' => Fr (fun k => ¬ New O w w2 k) w2 w') (first | exact Fr.drew HF3 | assumption | exact Fr.alloc (by assumption) _) (first | (go_at_call 26; (with_reducible refine (k_starts (HD3.out.ext (Ext.refl _).drew) rfl).mono ?_); rintro x w4 ⟨rfl, rfl⟩))
          all_goals
            go_wp2_with fail
            go_quiet (fail)
            all_goals go_wp2_with fail
            all_goals
              go_returns
              have hE5 := (((Ext.refl w3).alloc (.cells #[.pointer (some ⟨p, 0, none⟩), .int .i64 f.n, .int .i64 e, .int .i64 ((pn : Int) - 1), .int .i64 S'.starts, .bool false] 47)).drewN (1 + nq))
              have hjo : JoAt (w3.alloc (.cells #[.pointer (some ⟨p, 0, none⟩), .int .i64 f.n, .int .i64 e, .int .i64 ((pn : Int) - 1), .int .i64 S'.starts, .bool false] 47)) w3.heap.size p ⟨f.n, e, (pn : Int) - 1, S'.starts, false⟩ := JoAt.made (heap_alloc_new w3 _)
              have hJ := Jp.made HD3.out hE5 (Nat.le_refl _) (hjo.ext ((Ext.refl _).drewN (1 + nq)))
              have hsub : ∀ ao, (ao = some ⟨gp, 0, none⟩ ∨ ao = some ⟨gp, 1, none⟩) → ∀ k, WithRow O ao k → New O w w2 k := by
                rintro ao (rfl | rfl) k hk
                · exact hk.elim .inl (fun e => by obtain rfl : gp = k := by simpa [ob] using e
                                                  exact hgn)
                · exact hk.elim .inl (fun e => by obtain rfl : gp = k := by simpa [ob] using e
                                                  exact hgn)
              have hs5 := hE5.size
              have hs3 := HF3.size
              refine .inr ⟨_, _, _, _, _, rfl, rfl, rfl, by omega, ⟨?_, ?_⟩, hJ.base (Ext.refl _) (fun k hk => Nat.lt_of_lt_of_le (hJ.under k (hsub _ (by simp) k hk)) (Nat.le_trans hs3 hs5)) (fun k hk => .inl (hsub _ (by simp) k hk)), ((H.out.fr.trans (Fr.of_ext (F := fun _ => False) (hxw.trans HX2.out)) (fun _ _ hf => hf.elim)).trans HF3 (fun k _ hk ho => hk (.inl ho))).trans (Fr.of_ext (F := fun _ => False) hE5) (fun _ _ hf => hf.elim), by have := hxw.size; omega, by
                intro k hk
                obtain rfl : gp = k := by simpa [ob] using hk
                exact Nat.le_trans hxw.size (HPN.out gp rfl)⟩
              · have := HPL.out
                rw [hpd] at this
                simp at this
                show tl.length = pn - 1
                omega
              · rcases Nat.eq_zero_or_pos (pn - 1) with h0 | h0
                · exact .inl h0
                · refine .inr ⟨gp, 1, (by first | rfl | (exfalso; omega)), by omega, fun j hj => ?_⟩
                  rw [hE5.cell (p := ⟨gp, 1 + j, none⟩) hgp3, HF3.cell (p := ⟨gp, 1 + j, none⟩) hgp (fun h => h hgn), HP1.out (1 + j) (by omega), hpd]
                  show _ = (Se tl)[j]?
                  rw [show Se (hd0 :: tl) = .string (ofL hd0) :: Se tl from rfl, Nat.add_comm 1 j, List.getElem?_cons_succ]
        · rw [if_neg hr0] at hop
          rw [hop]
          clear hop
          go_wp2_with (first | (go_at_call 24; (with_reducible refine C.out.mono ?_); rintro x w2 ⟨po, pc, rfl, hr, hx2, hn⟩; have HX2 := Lib.hid hx2; have c2 := (hx2.cell (p := ⟨g, k, none⟩) hg).trans c0; clear hr hx2 hn) | (go_at_call 25; (with_reducible refine (mend_is (HD.out.ext HX2.out) hnl (by omega) (HR.out.ext (hx.trans HX2.out)) HNW.out hfw hmx).mono ?_); rintro x w3 ⟨rfl, hD⟩; have HD3 := Lib.hid hD; clear hD))
          go_returns
          exact .inl ⟨rfl, rfl, HD3.out⟩
end Go.Proofs.Ytajclcbclbppiaa
