/-
  The document's Open, plainly: the last file that has a record; what is deleted. A text's records, their row new.
  The walk of the document's Open.
-/
import Derived.Test.YtajclcbclbppiaaGreatZ23
import Derived.BigRegion
import Derived.Deep.Cut
section
namespace Go.Jn
open Go.Dk Go.Rc
theorem pick_snoc : ∀ (l : List Fl) (f : Fl), pick (l ++ [f]) = if itsAt f.b 0 = [] then pick l else some f
  | [], f => rfl
  | g :: r, f => by
    show (match pick (r ++ [f]) with | some x => some x | none => if itsAt g.b 0 = [] then none else some g) = _
    rw [pick_snoc r f]
    by_cases h : itsAt f.b 0 = []
    · rw [if_pos h, if_pos h]; rfl
    · rw [if_neg h, if_neg h]
theorem pick_take {l : List Fl} {k : Nat} {f : Fl} (h : l[k]? = some f) : pick (l.take (k + 1)) = if itsAt f.b 0 = [] then pick (l.take k) else some f := by
  rw [List.take_add_one, h]
  exact pick_snoc _ f
/-- What is deleted. -/
def dlts (l : List Int) (n : Int) : List (St → St × Int) := (l.filter (fun k => decide (k ≠ n))).map (fun k S => delete S k)
theorem dlts_same (l : List Int) (n : Int) : dlts (n :: l) n = dlts l n := by simp [dlts]
theorem dlts_other {l : List Int} {k n : Int} (h : k ≠ n) : dlts (k :: l) n = (fun S => delete S k) :: dlts l n := by simp [dlts, h]
theorem mends_is (l : List Int) (n e z : Int) : mends l n e z = (if e < z then [fun S => truncate S n e] else []) ++ ((fun S => sync S n) :: dlts l n) := by
  unfold mends dlts
  rw [List.append_assoc]
  rfl
/-- Steps, behind one that was done. -/
def Goes (l : List (St → St × Int)) (S : St) (e : Int) (x : St × Int) : Prop := (e = 0 ∧ runs l S = x) ∨ (e ≠ 0 ∧ (S, e) = x)
theorem Goes.step {f : St → St × Int} {l : List (St → St × Int)} {S S1 : St} {e : Int} {x : St × Int} (h : runs (f :: l) S = x) (hf : f S = (S1, e)) : Goes l S1 e x := by
  rw [runs_cons, hf] at h
  by_cases he : e = 0
  · rw [if_pos he] at h
    exact .inl ⟨he, h⟩
  · rw [if_neg he] at h
    exact .inr ⟨he, h⟩
theorem other_name {l : List Fl} (hr : Rise l) {i j : Nat} (hi : i < l.length) (hj : j < l.length) (h : i ≠ j) : l[i].n ≠ l[j].n := by
  unfold Rise at hr
  rw [List.pairwise_iff_getElem] at hr
  rcases Nat.lt_or_gt_of_ne h with h1 | h1
  · have := hr i j hi hj h1; omega
  · have := hr j i hj hi h1; omega
end Go.Jn
namespace Go.Proofs.YtajclcbclbppiaaGreat
open Go.RowKit Go.Maps Go.Dk Go.Rc Go.Jn Go.Shelf
variable {W w w' V : World} {O O' F G : Nat → Prop} {p q jr : Nat} {T T' T1 S S' : St} {J J' : Jo} {n e t : Int}
theorem RSee.file {ao : Option Addr} {cap : Nat} (h : RSee w q T ao cap) {k : Nat} (hk : k < T.fs.length) : ∃ g, ao = some ⟨g, 0, none⟩ ∧ g < w.heap.size ∧ ∀ w', Fr (fun k => k = q) w w' → w'.cell? ⟨g, k * 3, none⟩ = some (.int .i64 T.fs[k].n) ∧ w'.cell? ⟨g, k * 3 + 1, none⟩ = some (.string (ofL T.fs[k].b)) := by
  obtain ⟨g, e, hg, hc, _⟩ := h.row.row (by omega)
  have hne := h.rowq g (by rw [e]; rfl)
  refine ⟨g, e, hg, fun w' hf => ⟨?_, ?_⟩⟩
  · refine (hf.cell (p := ⟨g, k * 3, none⟩) hg (fun e => hne e)).trans ?_
    have := hc (k * 3 + 0) (by omega); rw [Fc_get _ _ _ hk (by omega)] at this; exact this
  · refine (hf.cell (p := ⟨g, k * 3 + 1, none⟩) hg (fun e => hne e)).trans ?_
    have := hc (k * 3 + 1) (by omega); rw [Fc_get _ _ _ hk (by omega)] at this; exact this
set_option maxHeartbeats 1000000 in
set_option maxRecDepth 100000 in
theorem refWhole_new (s : List UInt8) (hs : s.length ≤ 16770000) (w : World) :
    Calls Tryz.prog 39 #[.string (ofL s)] w fun e W' => ∃ ao cap, e = .returned (.tuple #[.slice ao (itsAt s 0).length cap, .int .i64 (endOf (itsAt s 0))]) ∧
      Rw W' 1 ao (itsAt s 0).length cap (Se ((itsAt s 0).map (·.1))) ∧ (∀ g, ob ao = some g → w.heap.size ≤ g) ∧ Ext w W' := by
  have hN := itsAt_length s 0
  go_enter Tryz.func39, Tryz.ntmps39
  go_wp2
  go_loopw [4, 5] (fun l a wr => ∃ (pre : List It) (aN : Nat) (ao : Option Addr) (cap : Nat), l = .slice ao pre.length cap ∧ a = .int .i64 aN ∧ aN ≤ s.length ∧ itsAt s 0 = pre ++ itsAt s aN ∧ aN = endOf pre ∧
      Rw wr 1 ao pre.length cap (Se (pre.map (·.1))) ∧ (∀ g, ob ao = some g → w.heap.size ≤ g) ∧ Ext w wr) (fun _ a _ => s.length - (intOf a).toNat)
  case atStart => exact ⟨[], 0, none, 0, rfl, rfl, by omega, rfl, rfl, Rw.nil w 1, (fun g hg => by cases hg), Ext.refl w⟩
  case round =>
    obtain ⟨pre, aN, ao, cap, rfl, rfl, ha, hx, hend, hr, hf, hE⟩ := hrel
    have Hr := Lib.hid hr
    have Hf := Lib.hid hf
    have Hend := Lib.hid hend
    clear hr hf hend
    cases hg : getR s aN with
    | none =>
      have hgi : getI s (aN : Int) = none := by rw [getI_nat]; exact hg
      rw [itsAt_none hg, List.append_nil] at hx
      have G := Lib.hid (fun w' => refRget_none s aN hgi w' hs (by omega))
      unfold NoneV at G
      clear hg hgi
      go_wp2_with (go_at_call 70; with_reducible refine (G.out _).mono ?_; rintro e w1 ⟨rfl, hx1⟩; have Hx1 := Lib.hid hx1; clear hx1)
      go_ret2
      rw [hx, ← Hend.out]
      exact ⟨ao, cap, rfl, Hr.out.ext Hx1.out, Hf.out, hE.trans Hx1.out⟩
    | some y =>
      obtain ⟨p, b⟩ := y
      have Hnx := Lib.hid (getR_next hg)
      rw [itsAt_some hg] at hx
      have hpl : pre.length + 1 ≤ 16777216 := by rw [hx] at hN; simp at hN; omega
      have G := Lib.hid (fun w' => refRget_some s aN p b hg w' hs)
      unfold SomeV at G
      clear hg
      go_wp2_with (first | (go_at_call 70; with_reducible refine (G.out _).mono ?_; rintro e w1 ⟨rfl, hx1⟩; have Hx1 := Lib.hid hx1; clear hx1) | (at_builtin; refine wpList_append_rw rfl (.tmp 20) (.tmp 22) _ _ rfl rfl rfl (append_txt ((Hr.out.ext Hx1.out).ext ((Ext.refl _).alloc _)) p (new_str _ p _ rfl) hpl _) (fun ao' cap' w4 hR => ?_); have HR := Lib.hid hR; clear hR))
      obtain ⟨hr1, hr2, hr3⟩ := HR.out
      have hE1 := hE.trans Hx1.out
      have hnx := Hnx.out
      refine ⟨⟨pre ++ [(p, b)], b, ao', cap', by simp, by first | rfl | go_num, hnx.2.1, by rw [hx]; simp, by rw [endOf_snoc], by simpa using hr1, fun g hg => ?_, Fr.grownFrom hr2 (hE1.alloc _) (fun k hk => Hf.out k hk)⟩, by simp [intOf]; omega⟩
      rcases hr3 with rfl | ⟨k, rfl, hk⟩
      · exact Hf.out g hg
      · obtain rfl : k = g := by simpa [ob] using hg
        have := hE1.size; simp at hk; omega
end Go.Proofs.YtajclcbclbppiaaGreat
end
section
namespace Go.Proofs.YtajclcbclbppiaaGreat
open Go.RowKit Go.Maps Go.Dk Go.Rc Go.Jn Go.Shelf
variable {W w w' V : World} {O O' F G : Nat → Prop} {p q jr : Nat} {T T' T1 S S' : St} {J J' : Jo} {n e t : Int}
theorem Rj.base (h : Rj W O q jr T J w) (hx : Ext w w') (hO : Under O' w') (h' : ∀ k, O' k → O k ∨ w.heap.size ≤ k) : Rj w' O' q jr T J w' := by
  have hj := h.j.lt
  refine ⟨h.d.base (fun k hk => ?_) hx (fun k hk => ?_), h.j.ext hx, fun ho => ?_, Fr.refl _ _, hO⟩
  · rcases hk with hk | rfl
    · exact hO k hk
    · exact Nat.lt_of_lt_of_le hj hx.size
  · rcases hk with hk | rfl
    · exact (h' k hk).imp .inl (fun h => h)
    · exact .inl (.inr rfl)
  · rcases h' jr ho with hq | hq
    · exact h.out hq
    · omega
theorem Rp.news (h : Rp W O q T w) (hx : Ext w V) : Rp V (New O w V) q T V := by
  obtain ⟨G, h1, h2, h3, h4, h5⟩ := h
  refine ⟨G, h1.ext hx, h2, Fr.refl _ _, fun k hk hb => ?_, fun k hk => ?_⟩
  · rcases hk with hk | hk
    · exact h4 k hk hb
    · have := h1.under k hb; omega
  · rcases hk with hk | hk
    · exact Nat.lt_of_lt_of_le (h5 k hk) (Nat.le_trans h3.size hx.size)
    · exact hk.2
theorem Rp.olds (h : Rp W O q T w) (hx : Ext w V) (h' : Rp V (New O w V) q T' w') : Rp W O q T' w' := (h.ext hx).since (h'.less (fun _ hk => .inl hk))
/-- What Open answers. -/
def ROpenTo (W : World) (O : Nat → Prop) (q : Nat) (R : Jn.Op) (w : World) (x : Ending) (w' : World) : Prop :=
  (R.j = none ∧ x = .returned (.tuple #[.pointer none, .string (ofL []), .slice none 0 0, .int .i64 R.e]) ∧ Rp W O q R.S w') ∨
    (∃ J jr ao n cap, R.j = some J ∧ x = .returned (.tuple #[.pointer (some ⟨jr, 0, none⟩), .string (ofL R.snap), .slice ao n cap, .int .i64 0]) ∧ R.e = 0 ∧ n ≤ cap ∧ Ro w' ao n R.l ∧ Rj w' (WithRow O ao) q jr R.S J w' ∧ Fr (fun k => ¬ O k) W w' ∧ w.heap.size ≤ jr ∧ ∀ g, ob ao = some g → w.heap.size ≤ g)
set_option maxHeartbeats 1000000 in
set_option maxRecDepth 100000 in
theorem ropen_down (h : Rp W O q T w) (hd : T.down = true) :
    Calls Tryz.prog 12 #[.pointer (some ⟨q, 0, none⟩)] w (ROpenTo W O q (open_ T) w) := by
  obtain ⟨ao, cap, hs⟩ := h.see
  have c2 := hs.c2
  rw [hd] at c2
  have H := Lib.hid h
  have hO : open_ T = ⟨T, none, [], [], 61⟩ := by unfold open_; rw [if_pos hd]
  rw [hO]
  clear h hd hO hs
  go_enter Tryz.func12, Tryz.ntmps12
  go_wp2_with fail
  go_returns
  exact .inl ⟨rfl, rfl, H.out⟩
set_option maxHeartbeats 4000000 in
set_option maxRecDepth 100000 in
theorem ropen_up (h : Rp W O q T w) (hd : T.down = false) :
    Calls Tryz.prog 12 #[.pointer (some ⟨q, 0, none⟩)] w (ROpenTo W O q (open_ T) w) := by
  obtain ⟨ao, cap, hs⟩ := h.see
  obtain ⟨m, hm⟩ : ∃ m, T.fs.length = m := ⟨_, rfl⟩
  have hm2 : m ≤ 100 := by have := h.ok.many; omega
  have c1 := hs.c1
  have c2 := hs.c2
  rw [hm] at c1
  rw [hd] at c2
  have HS := Lib.hid hs
  have H := Lib.hid h
  have HM := Lib.hid hm
  have HDN := Lib.hid hd
  clear h hs hd hm
  go_enter Tryz.func12, Tryz.ntmps12
  go_wp2_with fail
  go_loopw [7, 8, 9, 10] (fun av ev lv iv wr => ∃ k : Nat, k ≤ m ∧ iv = .int .i64 k ∧ Ext w wr ∧ ((av = .int .i64 (-1) ∧ pick (T.fs.take k) = none) ∨ ∃ (j : Nat) (f : Fl) (lo : Option Addr) (lc : Nat), av = .int .i64 j ∧ T.fs[j]? = some f ∧ itsAt f.b 0 ≠ [] ∧ pick (T.fs.take k) = some f ∧ ev = .int .i64 (endOf (itsAt f.b 0)) ∧ lv = .slice lo (itsAt f.b 0).length lc ∧ Rw wr 1 lo (itsAt f.b 0).length lc (Se ((itsAt f.b 0).map (·.1))) ∧ (∀ g, ob lo = some g → w.heap.size ≤ g))) (fun _ _ _ i _ => m - (intOf i).toNat)
  case atStart => exact ⟨0, by omega, rfl, Ext.refl _, .inl ⟨rfl, rfl⟩⟩
  case round =>
    obtain ⟨k, hk, rfl, hx, hrel⟩ := hrel
    have HR := Lib.hid hrel
    have hmi : (m : Int) ≤ 100 := by omega
    clear hrel
    by_cases hlt : k < m
    · have hkl : k < T.fs.length := by rw [HM.out]; exact hlt
      obtain ⟨f, hf⟩ : ∃ f, T.fs[k]? = some f := ⟨_, List.getElem?_eq_getElem hkl⟩
      obtain ⟨_, hfe⟩ := List.getElem?_eq_some_iff.1 hf
      obtain ⟨g, rfl, hg, hc⟩ := HS.out.file hkl
      have hc1 := (hc wr (Fr.of_ext hx)).2
      rw [hfe] at hc1
      have hfm := List.mem_of_getElem? hf
      have hbl : f.b.length ≤ 16770000 := by have := H.out.ok.tot; have := H.out.ok.cap1; have := tot_mem hfm; omega
      obtain ⟨pn, hpn⟩ : ∃ pn, (itsAt f.b 0).length = pn := ⟨_, rfl⟩
      obtain ⟨e, he⟩ : ∃ e : Nat, endOf (itsAt f.b 0) = e := ⟨_, rfl⟩
      have C := Lib.hid (refWhole_new f.b hbl wr)
      rw [hpn, he] at C
      have HF := Lib.hid hf
      have HPN := Lib.hid hpn
      have HE := Lib.hid he
      have hkm : (k : Int) < (m : Int) := by omega
      clear hf hfe hc hpn he
      by_cases hp : pn = 0
      · subst hp
        have hnil : itsAt f.b 0 = [] := List.length_eq_zero_iff.1 HPN.out
        have HNIL := Lib.hid hnil
        clear hnil
        go_wp2_with (go_at_call 39; (with_reducible refine C.out.mono ?_); rintro x w1 ⟨lo, lc, rfl, hr, hn, hx1⟩; have HX1 := Lib.hid hx1; clear hr hn hx1)
        go_roundw
        case measure => simp [intOf]; omega
        case rel =>
          repeat apply Exists.intro
          refine ⟨?_, rfl⟩
          refine ⟨k + 1, by omega, by go_num, hx.trans HX1.out, ?_⟩
          rw [pick_take HF.out, if_pos HNIL.out]
          rcases HR.out with h | ⟨j, f', lo', lc', h1, h2, h3, h4, h5, h6, h7, h8⟩
          · exact .inl h
          · exact .inr ⟨j, f', lo', lc', h1, h2, h3, h4, h5, h6, h7.ext HX1.out, h8⟩
      · have hnil : itsAt f.b 0 ≠ [] := fun h => hp (by rw [← HPN.out, h]; rfl)
        have hp0 : (0 : Int) < (pn : Int) := by omega
        have HNIL := Lib.hid hnil
        clear hnil
        go_wp2_with (go_at_call 39; (with_reducible refine C.out.mono ?_); rintro x w1 ⟨lo, lc, rfl, hr, hn, hx1⟩; have HX1 := Lib.hid hx1; have HRW := Lib.hid hr; have HNW := Lib.hid hn; clear hr hn hx1)
        go_roundw
        case measure => simp [intOf]; omega
        case rel =>
          repeat apply Exists.intro
          refine ⟨?_, rfl⟩
          refine ⟨k + 1, by omega, by go_num, hx.trans HX1.out, .inr ⟨k, f, lo, lc, rfl, HF.out, HNIL.out, ?_, by rw [HE.out], by rw [HPN.out], ?_, fun g hg => Nat.le_trans hx.size (HNW.out g hg)⟩⟩
          · rw [pick_take HF.out, if_neg HNIL.out]
          · rw [HPN.out]; exact HRW.out
    · obtain rfl : k = m := by omega
      have htk : T.fs.take k = T.fs := List.take_of_length_le (by rw [HM.out]; exact Nat.le_refl _)
      have HD := Lib.hid (H.out.ext hx)
      rcases HR.out with ⟨rfl, hpk⟩ | ⟨j, f, lo, lc, rfl, hf, hne, hpk, hev, hlv, hrw, hnew⟩
      · rw [htk] at hpk
        clear htk HR
        obtain ⟨T', r, hfx⟩ : ∃ T' r, fresh T = (T', r) := ⟨_, _, rfl⟩
        by_cases hbroke : 1 < k ∨ k = 1 ∧ (T.fs.map (·.n)).headD 0 ≠ 0
        · have hop : open_ T = ⟨T, none, [], [], 63⟩ := by
            unfold open_
            rw [if_neg (by rw [HDN.out]; decide), hpk]
            dsimp only
            rw [HM.out, if_pos hbroke]
          have HOP := Lib.hid hop
          clear hop hpk hfx
          by_cases h1 : 1 < k
          · have h1' : (1 : Int) < (k : Int) := by omega
            clear hbroke
            go_wp2_with fail
            go_returns
            rw [HOP.out]
            exact .inl ⟨rfl, rfl, HD.out⟩
          · obtain ⟨rfl, hn0⟩ : k = 1 ∧ (T.fs.map (·.n)).headD 0 ≠ 0 := hbroke.resolve_left h1
            obtain ⟨f0, hf0⟩ : ∃ f0, T.fs = [f0] := List.length_eq_one_iff.1 HM.out
            have h0l : 0 < T.fs.length := by rw [HM.out]; decide
            obtain ⟨g, rfl, hg, hc⟩ := HS.out.file h0l
            have hc0 := (hc wr (Fr.of_ext hx)).1
            rw [show T.fs[0] = f0 by simp [hf0], Nat.zero_mul] at hc0
            rw [hf0] at hn0
            have hn1 : ¬ f0.n = 0 := hn0
            clear hc hf0 hn0 hbroke h1 h0l
            go_wp2_with fail
            go_returns
            rw [HOP.out]
            exact .inl ⟨rfl, rfl, HD.out⟩
        · have hop : open_ T = if r = 0 then ⟨T', some ⟨0, 8, 0, T'.starts, false⟩, [], [], 0⟩ else ⟨T', none, [], [], r⟩ := by
            unfold open_
            rw [if_neg (by rw [HDN.out]; decide), hpk]
            dsimp only
            rw [HM.out, if_neg hbroke, hfx]
          have HOP := Lib.hid hop
          have HB := Lib.hid hbroke
          have hm1 : k ≤ 1 := by
            rcases Nat.lt_or_ge 1 k with h | h
            · exact absurd (.inl h) hbroke
            · exact h
          clear hop hpk hbroke
          have fin : ∀ x w', RFreshTo W O q T' r wr x w' → ∀ v1 v2, x = .returned (.tuple #[v1, v2]) → ROpenTo W O q (open_ T) w (.returned (.tuple #[v1, .string (ofL []), .slice none 0 0, v2])) w' := by
            intro x w' h v1 v2 hxe
            rw [HOP.out]
            rcases h with ⟨h1, rfl, h3⟩ | ⟨rfl, jr, rfl, h3, h4⟩
            · simp only [Ending.returned.injEq, Value.tuple.injEq, Array.mk.injEq, List.cons.injEq, and_true] at hxe
              obtain ⟨rfl, rfl⟩ := hxe
              rw [if_neg h1]
              exact .inl ⟨rfl, rfl, h3⟩
            · simp only [Ending.returned.injEq, Value.tuple.injEq, Array.mk.injEq, List.cons.injEq, and_true] at hxe
              obtain ⟨rfl, rfl⟩ := hxe
              rw [if_pos rfl]
              have h5 : Rj w' (WithRow O none) q jr T' ⟨0, 8, 0, T'.starts, false⟩ w' := by
                have := h3.base (O' := WithRow O none) (Ext.refl _) (fun k hk => hk.elim (fun e => Nat.lt_of_lt_of_le (h3.under k e) h3.fr.size) (fun e => by cases e)) (fun k hk => hk.elim .inl (fun e => by cases e))
                exact this
              exact .inr ⟨_, jr, none, 0, 0, rfl, rfl, rfl, Nat.le_refl _, ⟨rfl, .inl rfl⟩, h5, h3.fr, by have := hx.size; omega, fun g hg => by cases hg⟩
          have FIN := Lib.hid fin
          have FRC := Lib.hid (rfresh_is HD.out HM.out hfx)
          clear fin hfx
          by_cases h0 : k = 0
          · subst h0
            go_wp2_with (go_at_call 40; (with_reducible refine FRC.out.mono ?_); intro x w3 hF; obtain ⟨v1, v2, hxe⟩ : ∃ v1 v2, x = .returned (.tuple #[v1, v2]) := (hF.elim (fun h => ⟨_, _, h.2.1⟩) (fun ⟨_, q, h, _⟩ => ⟨_, _, h⟩)); have HF3 := Lib.hid hF; clear hF; subst hxe)
            go_returns
            exact FIN.out _ _ HF3.out _ _ rfl
          · obtain rfl : k = 1 := by omega
            obtain ⟨f0, hf0⟩ : ∃ f0, T.fs = [f0] := List.length_eq_one_iff.1 HM.out
            have h0l : 0 < T.fs.length := by rw [HM.out]; decide
            obtain ⟨g, rfl, hg, hc⟩ := HS.out.file h0l
            have hc0 := (hc wr (Fr.of_ext hx)).1
            rw [show T.fs[0] = f0 by simp [hf0], Nat.zero_mul] at hc0
            have hn1 : f0.n = 0 := by
              rcases Classical.em (f0.n = 0) with h | h
              · exact h
              · exact absurd (.inr ⟨rfl, by rw [hf0]; exact h⟩) HB.out
            rw [hn1] at hc0
            clear hc hf0 hn1 h0l h0
            go_wp2_with (go_at_call 40; (with_reducible refine FRC.out.mono ?_); intro x w3 hF; obtain ⟨v1, v2, hxe⟩ : ∃ v1 v2, x = .returned (.tuple #[v1, v2]) := (hF.elim (fun h => ⟨_, _, h.2.1⟩) (fun ⟨_, q, h, _⟩ => ⟨_, _, h⟩)); have HF3 := Lib.hid hF; clear hF; subst hxe)
            go_returns
            exact FIN.out _ _ HF3.out _ _ rfl
      · rw [htk] at hpk
        clear htk HR
        obtain ⟨wA, hwA⟩ : ∃ wA, wA = wr := ⟨_, rfl⟩
        subst hwA
        obtain ⟨hjl, hfe⟩ := List.getElem?_eq_some_iff.1 hf
        have hfm := List.mem_of_getElem? hf
        obtain ⟨g, hao, hg, _⟩ := HS.out.file hjl
        have hfile : ∀ i (hi : i < T.fs.length) w', Fr (fun k => k = q) w w' → w'.cell? ⟨g, i * 3, none⟩ = some (.int .i64 T.fs[i].n) ∧ w'.cell? ⟨g, i * 3 + 1, none⟩ = some (.string (ofL T.fs[i].b)) := fun i hi => by
          obtain ⟨g', e', _, h'⟩ := HS.out.file hi
          rw [hao] at e'
          cases e'
          exact h'
        have HFI := Lib.hid hfile
        subst hao
        obtain ⟨e, he⟩ : ∃ e : Nat, endOf (itsAt f.b 0) = e := ⟨_, rfl⟩
        obtain ⟨pn, hpn⟩ : ∃ pn, (itsAt f.b 0).length = pn := ⟨_, rfl⟩
        obtain ⟨names, hnm⟩ : ∃ names, T.fs.map (·.n) = names := ⟨_, rfl⟩
        obtain ⟨T', r, hmx⟩ : ∃ T' r, runs (mends names f.n e f.b.length) T = (T', r) := ⟨_, _, rfl⟩
        have hpl : (pays f.b).length = pn := by unfold pays; rw [List.length_map]; exact hpn
        have hpn0 : 0 < pn := by
          rcases Nat.eq_zero_or_pos pn with h0 | h0
          · exact absurd (List.length_eq_zero_iff.1 (hpn.trans h0)) hne
          · exact h0
        have hpm : pn ≤ 1048576 := by have := itsAt_length f.b 0; have := tot_mem hfm; have := H.out.ok.tot; have := H.out.ok.cap1; omega
        have hop : open_ T = if r = 0 then ⟨T', some ⟨f.n, e, (pn : Int) - 1, T'.starts, false⟩, (pays f.b).headD [], (pays f.b).tail, 0⟩ else ⟨T', none, [], [], r⟩ := by
          unfold open_
          rw [if_neg (by rw [HDN.out]; decide), hpk]
          dsimp only
          rw [hnm, he, hpn, hmx]
        have HOP := Lib.hid hop
        have HPL := Lib.hid hpl
        have hw2 : IntKind.i64.wrap ((pn : Int) - 1) = (pn : Int) - 1 := IntWalk.i64_in _ (by omega)
        rw [he] at hev
        rw [hpn] at hlv hrw
        subst hev hlv
        have HRW := Lib.hid (show Rw wA 1 lo pn lc (Se (pays f.b)) from hrw)
        have HNEW := Lib.hid hnew
        have HNM := Lib.hid hnm
        have HFE := Lib.hid hfe
        rw [mends_is] at hmx
        have HMX := Lib.hid hmx
        have cN := (HFI.out j hjl wA (Fr.of_ext hx)).1
        have cB := (HFI.out j hjl wA (Fr.of_ext hx)).2
        rw [hfe] at cN cB
        have hjk : (j : Int) < (k : Int) := by rw [HM.out] at hjl; omega
        have hj0 : ¬ (j : Int) < 0 := by omega
        have HN := Lib.hid (H.out.news hx)
        clear hop hpl hpk hrw hnew hnm hmx hfile hne he hpn
        go_upto_if 83 with (fail)
        go_cut [16] from 18 (fun ev wx => ∃ (rv : Int) (T1 : St), ev = .int .i64 rv ∧ Rp wA (New O w wA) q T1 wx ∧ Fr (fun k => k = q) wA wx ∧ Goes ((fun S => sync S f.n) :: dlts names f.n) T1 rv (T', r))
        case first =>
          have hmx := HMX.out
          by_cases hez : (e : Int) < (f.b.length : Int)
          · rw [if_pos hez, List.singleton_append] at hmx
            obtain ⟨T1, r1, htr⟩ : ∃ T1 r1, truncate T f.n e = (T1, r1) := ⟨_, _, rfl⟩
            have HG := Lib.hid (Goes.step hmx htr)
            have HTR := Lib.hid htr
            clear hmx htr
            go_wp2_with (go_at_call 41; (with_reducible refine (r_truncate HN.out f.n e HTR.out).mono ?_); rintro x w1 ⟨rfl, hD, hF⟩; have HD1 := Lib.hid hD; have HF1 := Lib.hid hF; clear hD hF)
            go_meet
            exact ⟨r1, T1, rfl, HD1.out, HF1.out, HG.out⟩
          · rw [if_neg hez, List.nil_append] at hmx
            have HG := Lib.hid hmx
            clear hmx
            go_wp2_with fail
            go_meet
            exact ⟨0, T, rfl, HN.out, Fr.refl _ _, .inl ⟨rfl, HG.out⟩⟩
        case rest =>
          obtain ⟨rv, T1, rfl, hR1, hF1, hG1⟩ := hcut
          have HR1 := Lib.hid hR1
          have HF1 := Lib.hid hF1
          clear hR1 hF1 cN cB
          go_upto_if 89 with (fail)
          go_cut [16] from 18 (fun ev wx => ∃ (rv : Int) (T2 : St), ev = .int .i64 rv ∧ Rp wA (New O w wA) q T2 wx ∧ Fr (fun k => k = q) wA wx ∧ Goes (dlts names f.n) T2 rv (T', r))
          case first =>
            by_cases hrv : rv = 0
            · subst hrv
              have hr2 := (hG1.resolve_right (fun h => h.1 rfl)).2
              obtain ⟨T2, r2, hsy⟩ : ∃ T2 r2, sync T1 f.n = (T2, r2) := ⟨_, _, rfl⟩
              have HG := Lib.hid (Goes.step hr2 hsy)
              have HSY := Lib.hid hsy
              clear hr2 hsy hG1
              go_wp2_with (go_at_call 42; (with_reducible refine (r_sync HR1.out f.n HSY.out).mono ?_); rintro x w2 ⟨rfl, hD, hF⟩; have HD2 := Lib.hid hD; have HF2 := Lib.hid (HF1.out.trans hF (fun _ _ e => e)); clear hD hF)
              go_meet
              exact ⟨r2, T2, rfl, HD2.out, HF2.out, HG.out⟩
            · have HG := Lib.hid (hG1.resolve_left (fun h => hrv h.1))
              have hrb : (rv == 0) = false := beq_false_of_ne hrv
              clear hG1
              go_wp2_with fail
              go_meet
              exact ⟨rv, T1, rfl, HR1.out, HF1.out, .inr HG.out⟩
          case rest =>
            clear HR1 HF1 hG1
            obtain ⟨rv2, T2, rfl, hR2, hF2, hG2⟩ := hcut
            have HR2 := Lib.hid hR2
            have HF2 := Lib.hid hF2
            have HG2 := Lib.hid hG2
            clear hR2 hF2 hG2
            go_wp2_with fail
            go_loopw [16, 17] (fun ev iv wx => ∃ (i : Nat) (rv : Int) (Tc : St), i ≤ k ∧ iv = .int .i64 i ∧ ev = .int .i64 rv ∧ Rp wA (New O w wA) q Tc wx ∧ Fr (fun k => k = q) wA wx ∧ Goes (dlts (names.drop i) f.n) Tc rv (T', r)) (fun _ i _ => k - (intOf i).toNat)
            case atStart => exact ⟨0, rv2, T2, by omega, rfl, rfl, HR2.out, HF2.out, HG2.out⟩
            case round =>
              clear HR2 HF2 HG2
              obtain ⟨i, rv3, Tc, hik, rfl, rfl, hR3, hF3, hG3⟩ := hrel
              have HR3 := Lib.hid hR3
              have HF3 := Lib.hid hF3
              clear hR3 hF3
              by_cases hrv : rv3 = 0
              · subst hrv
                have hr3 := (hG3.resolve_right (fun h => h.1 rfl)).2
                clear hG3
                by_cases hlt : i < k
                · have hil : i < T.fs.length := by rw [HM.out]; exact hlt
                  have hdr : names.drop i = T.fs[i].n :: names.drop (i + 1) := by
                    have h2 : i < names.length := by rw [← HNM.out, List.length_map]; exact hil
                    rw [List.drop_eq_getElem_cons h2]
                    congr 1
                    simp [← HNM.out]
                  rw [hdr] at hr3
                  obtain ⟨ni, hni⟩ : ∃ ni, T.fs[i].n = ni := ⟨_, rfl⟩
                  have cI := (HFI.out i hil wr ((Fr.of_ext (F := fun k => k = q) hx).trans HF3.out (fun _ _ e => e))).1
                  have hik2 : (i : Int) < (k : Int) := by omega
                  by_cases hij : i = j
                  · subst hij
                    have hnn : ni = f.n := by rw [← hni, HFE.out]
                    rw [hni, hnn, dlts_same] at hr3
                    have HG := Lib.hid hr3
                    clear hr3 hdr hni hnn
                    go_wp2_with fail
                    exact ⟨⟨i + 1, 0, Tc, by omega, by go_num, rfl, HR3.out, HF3.out, .inl ⟨rfl, HG.out⟩⟩, by simp [intOf]; omega⟩
                  · have hnn : ni ≠ f.n := by rw [← hni, ← HFE.out]; exact other_name H.out.ok.rise hil hjl hij
                    rw [hni, dlts_other hnn] at hr3
                    rw [hni] at cI
                    obtain ⟨T4, r4, hdl⟩ : ∃ T4 r4, delete Tc ni = (T4, r4) := ⟨_, _, rfl⟩
                    have HG := Lib.hid (Goes.step hr3 hdl)
                    have HDL := Lib.hid hdl
                    have hij2 : ¬ (i : Int) = (j : Int) := by omega
                    clear hr3 hdr hni hnn hdl
                    go_wp2_with (go_at_call 43; (with_reducible refine (r_delete HR3.out ni HDL.out).mono ?_); rintro x w4 ⟨rfl, hD, hF⟩; have HD4 := Lib.hid hD; have HF4 := Lib.hid (HF3.out.trans hF (fun _ _ e => e)); clear hD hF)
                    exact ⟨⟨i + 1, r4, T4, by omega, by go_num, rfl, HD4.out, HF4.out, HG.out⟩, by simp [intOf]; omega⟩
                · obtain rfl : i = k := by omega
                  have hlen : names.length ≤ i := by rw [← HNM.out, List.length_map, HM.out]; exact Nat.le_refl _
                  rw [List.drop_of_length_le hlen] at hr3
                  have hr4 : (Tc, (0 : Int)) = (T', r) := hr3
                  obtain ⟨rfl, rfl⟩ := Prod.mk.inj hr4
                  obtain ⟨_, _, hs3⟩ := HR3.out.see
                  have c3 := hs3.c3
                  have hql := H.out.lt
                  have hrw := HRW.out.fr HF3.out (fun g hg e => by have := HNEW.out g hg; omega)
                  obtain ⟨gp, hlo, hgp, hp1, hp2⟩ := hrw.row hpn0
                  subst hlo
                  have hgn : w.heap.size ≤ gp := HNEW.out gp rfl
                  have hgw : gp < wA.heap.size := HRW.out.lt gp rfl
                  obtain ⟨hd0, tl, hpd⟩ : ∃ hd0 tl, pays f.b = hd0 :: tl := List.exists_cons_of_length_pos (by rw [HPL.out]; exact hpn0)
                  have hcp : wr.cell? ⟨gp, 0, none⟩ = some (.string (ofL hd0)) := (hp1 0 (by omega)).trans (by rw [hpd]; rfl)
                  have hpc := hrw.le
                  have hp0 : (0 : Int) < (pn : Int) := by omega
                  have HP1 := Lib.hid hp1
                  have HPD := Lib.hid hpd
                  clear hp1 hp2 hs3 hrw hpd hr3 hr4 hlen
                  go_wp2_with fail
                  go_region
                  all_goals go_wp2
                  all_goals
                    go_returns
                    rw [HOP.out, if_pos trivial]
                    have hE5 := ((Ext.refl wr).alloc (.cells #[.pointer (some ⟨q, 0, none⟩), .int .i64 f.n, .int .i64 e, .int .i64 ((pn : Int) - 1), .int .i64 Tc.starts, .bool false] 47)).drew
                    have hjo : JoAt (wr.alloc (.cells #[.pointer (some ⟨q, 0, none⟩), .int .i64 f.n, .int .i64 e, .int .i64 ((pn : Int) - 1), .int .i64 Tc.starts, .bool false] 47)) wr.heap.size q ⟨f.n, e, (pn : Int) - 1, Tc.starts, false⟩ := JoAt.made (heap_alloc_new wr _)
                    have hJ := Rj.made HR3.out hE5 (Nat.le_refl _) (hjo.ext (Ext.refl _).drew)
                    have hsub : ∀ ao, (ao = some ⟨gp, 0, none⟩ ∨ ao = some ⟨gp, 1, none⟩) → ∀ k, WithRow O ao k → New O w wA k := by
                      rintro ao (rfl | rfl) k hk
                      · exact hk.elim .inl (fun e => by obtain rfl : gp = k := by simpa [ob] using e
                                                        exact .inr ⟨hgn, hgw⟩)
                      · exact hk.elim .inl (fun e => by obtain rfl : gp = k := by simpa [ob] using e
                                                        exact .inr ⟨hgn, hgw⟩)
                    have hs5 := hE5.size
                    have hs3 := HF3.out.size
                    have hpl := HPL.out
                    rw [HPD.out, List.length_cons] at hpl
                    rw [HPD.out]
                    refine .inr ⟨_, _, _, _, _, rfl, rfl, rfl, by omega, ⟨by simpa using (show tl.length = pn - 1 by omega), ?_⟩, hJ.base (Ext.refl _) (fun k hk => Nat.lt_of_lt_of_le (hJ.under k (hsub _ (by simp) k hk)) (Nat.le_trans hs3 hs5)) (fun k hk => .inl (hsub _ (by simp) k hk)), (((H.out.fr.trans (Fr.of_ext (F := fun _ => False) hx) (fun _ _ hf => hf.elim)).trans HF3.out (fun k hk e ho => H.out.outO (e ▸ ho))).trans (Fr.of_ext (F := fun _ => False) hE5) (fun _ _ hf => hf.elim)), by have := hx.size; omega, by
                      intro k hk
                      obtain rfl : gp = k := by simpa [ob] using hk
                      exact hgn⟩
                    rcases Nat.eq_zero_or_pos (pn - 1) with h0 | h0
                    · exact .inl h0
                    · refine .inr ⟨gp, 1, (by first | rfl | (exfalso; omega)), by omega, fun j hj => ?_⟩
                      rw [hE5.cell (p := ⟨gp, 1 + j, none⟩) hgp, HP1.out (1 + j) (by omega), HPD.out]
                      show _ = (Se tl)[j]?
                      rw [show Se (hd0 :: tl) = .string (ofL hd0) :: Se tl from rfl, Nat.add_comm 1 j, List.getElem?_cons_succ]
              · have hg3 := (hG3.resolve_left (fun h => hrv h.1)).2
                obtain ⟨rfl, rfl⟩ := Prod.mk.inj hg3
                have hrb : (rv3 == 0) = false := beq_false_of_ne hrv
                clear hG3 hg3
                by_cases hlt : i < k
                all_goals
                  go_wp2_with fail
                  go_returns
                  rw [HOP.out, if_neg hrv]
                  exact .inl ⟨rfl, rfl, H.out.olds hx HR3.out⟩
end Go.Proofs.YtajclcbclbppiaaGreat
end
