/-
  The walk of NetOnce.
-/
import Derived.Test.YtjalikjakoddoaaNetOs
import Derived.Deep.LoopGhost
namespace Go.Proofs.Ytjalikjakoddoaa
open Go.RowKit Go.Nt
theorem infoInt : (Try.prog.info? 3).map (fun i => (i.zero, i.size, i.bytes)) = some (some (.int .i64 0), 1, 8) := by kernel_rfl
theorem Kp.grow {W : World} {R : Nat → Prop} {p : Nat} {L : List Msg} {w w' : World} (h : Kp W R p L w) (hx : Ext w w') (g : Nat) (hg : w.heap.size ≤ g) (hg' : g < w'.heap.size) : Kp w' (With R g) p L w' := by
  obtain ⟨ao, cap, h1, h2, h3, h4⟩ := h
  refine ⟨ao, cap, h1.ext hx, Fr.refl _ _, fun k hk ho => ?_, fun k hk => ?_⟩
  · rcases hk with hk | rfl
    · exact h3 k hk ho
    · rcases ho with ho | ho
      · exact absurd h1.lt (by omega)
      · exact absurd (h1.row.lt _ ho) (by omega)
  · rcases hk with hk | rfl
    · exact Nat.lt_of_lt_of_le (h4 k hk) (Nat.le_trans h2.size hx.size)
    · exact hg'
theorem zeros (n : Nat) : (madeCells (Value.int .i64 0).cells (n * 1)).toList = I64 (List.replicate n 0) := by
  refine List.ext_getElem (by simp [madeCells, I64]) fun i h1 h2 => ?_
  simp [madeCells, I64, Value.cells, Nat.mod_one]
theorem St.start {w w1 w2 w3 : World} {p n : Nat} (hK : Kp w (Old w) p [] w1) (hx1 : Ext w1 w2) (hr1 : Rw w2 1 (some ⟨w1.heap.size, 0, none⟩) n n (I64 (List.replicate n 0))) (hl1 : w1.heap.size < w2.heap.size)
    (hx2 : Ext w2 w3) (hr2 : Rw w3 1 (some ⟨w2.heap.size, 0, none⟩) n n (I64 (List.replicate n 0))) (hl2 : w2.heap.size < w3.heap.size) : St w p w1.heap.size w2.heap.size n [] (List.replicate n 0) (List.replicate n 0) w3 :=
  have h0 := hK.all
  have h1 := hK.grow hx1 _ (Nat.le_refl _) hl1
  have h2 := h1.grow hx2 _ (Nat.le_refl _) hl2
  have hs := h0.size
  ⟨h2.less (fun k hk => by
    rcases hk with hk | rfl | rfl
    · exact .inl (.inl hk)
    · exact .inl (.inr rfl)
    · exact .inr rfl), hr1.ext hx2, hr2, (h0.trans hx1).trans hx2, by omega, by omega, by omega⟩
theorem Cnt.start (n : Nat) : Cnt n 0 [] (List.replicate n 0) (List.replicate n 0) := ⟨by simp, by simp, by simp, by simp, fun j hj => by simp [List.getD_eq_getElem?_getD, hj]⟩
/-- The cells of a numbered message. -/
theorem row_qm {w : World} {g m : Nat} {qs : List Nat} (hr : Rw w 7 (some ⟨g, 0, none⟩) m m (Ml (qs.map qm))) (k : Nat) (hk : k < qs.length) {q : Nat} (hq : q = qs[k]) :
    w.cell? ⟨g, k * 7, none⟩ = some (.int .i64 0) ∧ w.cell? ⟨g, k * 7 + 1, none⟩ = some (.int .i64 0) ∧ w.cell? ⟨g, k * 7 + 2, none⟩ = some (.int .i64 0) ∧ w.cell? ⟨g, k * 7 + 3, none⟩ = some (.string (ofL [])) ∧
      w.cell? ⟨g, k * 7 + 4, none⟩ = some (.int .i64 q) ∧ w.cell? ⟨g, k * 7 + 5, none⟩ = some (.int .i64 0) ∧ w.cell? ⟨g, k * 7 + 6, none⟩ = some (.int .i64 0) := by
  subst hq
  have h := hr.msg k (by simpa using hk)
  have e : (qs.map qm)[k]'(by simpa using hk) = qm (qs[k]) := by simp
  rw [e] at h
  exact ⟨h.c0, h.c1, h.c2, h.c3, h.c4, h.c5, h.c6⟩
theorem map_erase (qs : List Nat) (k : Nat) : (qs.eraseIdx k).map qm = (qs.map qm).eraseIdx k := by
  rw [List.eraseIdx_eq_take_drop_succ, List.eraseIdx_eq_take_drop_succ]; simp
theorem map_double (qs : List Nat) (k : Nat) (hk : k < qs.length) {q : Nat} (hq : q = qs[k]) : (qs ++ [q]).map qm = qs.map qm ++ [(qs.map qm)[k]'(by simpa using hk)] := by
  subst hq; simp
theorem map_send (qs : List Nat) (i : Nat) : (qs ++ [i]).map qm = qs.map qm ++ [(0, 0, 0, [], (i : Int), 0, 0)] := by simp [qm]
theorem map_turn (qs : List Nat) (a b : Nat) (ha : a < qs.length) (hb : b < qs.length) : ((qs.set a (qs[b])).set b (qs[a])).map qm = ((qs.map qm).set a ((qs.map qm)[b]'(by simpa using hb))).set b ((qs.map qm)[a]'(by simpa using ha)) := by
  simp [List.map_set]
theorem index_in (I : Int) (m : Nat) (hm : 0 < m) (h100 : m ≤ 100) : ∃ k : Nat, k < m ∧ (wrap64 (I.tmod m + m)).tmod m = (k : Int) := by
  have h1 : I.tmod m < m := Int.tmod_lt_of_pos _ (by omega)
  have h2 : -(m : Int) < I.tmod m := by
    have := Int.lt_tmod_of_pos I (show (0 : Int) < m by omega)
    omega
  rw [show wrap64 (I.tmod m + m) = I.tmod m + m from IntWalk.wrap64_in _ (by omega)]
  have h3 : 0 ≤ (I.tmod m + m).tmod m := Int.tmod_nonneg _ (by omega)
  have h4 : (I.tmod m + m).tmod m < m := Int.tmod_lt_of_pos _ (by omega)
  exact ⟨((I.tmod m + m).tmod m).toNat, by omega, by omega⟩
theorem with_tri {w : World} {gw gg g : Nat} : ∀ k, Tri w gw gg k → With (Tri w gw gg) g k := fun _ h => .inl h
theorem row_kept {w w' : World} {R : Nat → Prop} {g m : Nat} {cs : List Value} (hr : Rw w 7 (some ⟨g, 0, none⟩) m m cs) (hf : Fr (fun k => ¬ With R g k) w w') : Rw w' 7 (some ⟨g, 0, none⟩) m m cs :=
  hr.fr hf (fun k hk => by cases hk; exact fun h => h (.inr rfl))
/-- What is counted when no more is sent. -/
def Cn2 (n : Nat) (qs : List Nat) (Wt Gt : List Int) : Prop :=
  (∀ q ∈ qs, q < n) ∧ Wt.length = n ∧ Gt.length = n ∧ ∀ j, j < n → Wt.getD j 0 = Gt.getD j 0 + qs.count j ∧ 0 ≤ Gt.getD j 0 ∧ Wt.getD j 0 ≤ 200
theorem Cn2.got {n q : Nat} {qs : List Nat} {Wt Gt : List Int} (h : Cn2 n (q :: qs) Wt Gt) : Cn2 n qs Wt (Gt.set q (Gt.getD q 0 + 1)) := by
  obtain ⟨h1, h2, h3, h4⟩ := h
  have hq := h1 q (by simp)
  refine ⟨fun x hx => h1 x (by simp [hx]), h2, by simp [h3], fun j hj => ?_⟩
  have a := h4 j hj
  rw [List.count_cons] at a
  rw [getD_set _ _ _ _ (by omega)]
  by_cases e : q = j
  · subst e; rw [if_pos (by simp)] at a; rw [if_pos rfl]; omega
  · rw [if_neg (by simpa using e)] at a; rw [if_neg e]; omega
set_option maxHeartbeats 4000000 in
set_option maxRecDepth 100000 in
theorem netOnce_any (w : World) (v : Value) (l : List Ac) (hA : Acts w v l) : Calls Try.prog 3 #[v] w fun e w' => e = .returned (.bool true) ∧ Ext w w' := by
  obtain ⟨ao, n, cap, hv, hn⟩ : ∃ ao n cap, v = .slice ao n cap ∧ l.length = n := by
    rcases hA.2.2 with ⟨ao, cap, rfl, rfl⟩ | ⟨g, o, cap, rfl, _⟩
    · exact ⟨_, _, _, rfl, rfl⟩
    · exact ⟨_, _, _, rfl, rfl⟩
  subst hv
  have HA := Lib.hid hA
  have hmax := hA.2.1
  rw [hn] at hmax
  clear hA
  by_cases hgr : n ≤ 100
  · obtain ⟨ti, hti, hz, hsz, hby⟩ := info_parts infoInt
    have HT := Lib.hid (show Try.prog.info? 3 = some ti ∧ ti.zero = some (.int .i64 0) ∧ ti.size = 1 ∧ ti.bytes = 8 from ⟨hti, hz, hsz, hby⟩)
    clear hti hz hsz hby
    go_enter Try.func3, Try.ntmps3
    go_wp2_with (first | (go_at_call 8; with_reducible refine (k_new' w).mono ?_; rintro e w1 ⟨p, rfl, hK⟩; have HK := Lib.hid hK; clear hK) | (refine wpList_make_rw _ rfl (.tmp 20) (.tmp 20) _ rfl 3 ti _ 1 Try.underlying26 HT.out.1 HT.out.2.1 HT.out.2.2.1 .i64 .i64 n n n rfl rfl rfl rfl (by rw [HT.out.2.2.2]; omega) (by unfold maxLen; omega) (fun w2 hr hx hlt2 => ?_); have Hr := Lib.hid hr; have Hx := Lib.hid hx; clear hr hx) | (refine wpList_make_rw _ rfl (.tmp 23) (.tmp 23) _ rfl 3 ti _ 1 Try.underlying26 HT.out.1 HT.out.2.1 HT.out.2.2.1 .i64 .i64 n n n rfl rfl rfl rfl (by rw [HT.out.2.2.2]; omega) (by unfold maxLen; omega) (fun w3 hr hx hlt3 => ?_); have Hr3 := Lib.hid hr; have Hx3 := Lib.hid hx; clear hr hx))
    have HS := Lib.hid (St.start HK.out Hx.out (by rw [← zeros]; exact Hr.out) hlt2 Hx3.out (by rw [← zeros]; exact Hr3.out) hlt3)
    obtain ⟨gw, hgw⟩ : ∃ gw, w1.heap.size = gw := ⟨_, rfl⟩
    obtain ⟨gg, hgg⟩ : ∃ gg, w2.heap.size = gg := ⟨_, rfl⟩
    rw [hgw, hgg] at HS
    rw [hgw, hgg]
    clear HK Hr Hx Hr3 Hx3 HT hlt2 hlt3 hgw hgg
    go_loopw [6] (fun i wr => ∃ (k : Nat) (qs : List Nat) (Wt Gt : List Int), k ≤ n ∧ i = .int .i64 k ∧ St w p gw gg n (qs.map qm) Wt Gt wr ∧ Cnt n k qs Wt Gt) (fun i _ => n - (intOf i).toNat)
    case atStart => exact ⟨0, [], _, _, by omega, rfl, HS.out, Cnt.start n⟩
    case round =>
      obtain ⟨i, qs, Wt, Gt, hi, rfl, hS, hC⟩ := hrel
      have HS := Lib.hid hS
      have HC := Lib.hid hC
      by_cases hlt : i < n
      · obtain ⟨a, ha⟩ : ∃ a, a = l[i]'(by omega) := ⟨_, rfl⟩
        have hok := HA.out.1 a (by rw [ha]; exact List.getElem_mem _)
        have hA2 := HA.out.ext hS.ext
        obtain ⟨g0, o0, rfl, hA3⟩ : ∃ g0 o0, ao = some ⟨g0, o0, none⟩ ∧ ∀ w', Ext wr w' → w'.cell? ⟨g0, o0 + i * 10, none⟩ = some (.int .u8 a.1) ∧ w'.cell? ⟨g0, o0 + i * 10 + 8, none⟩ = some (.int .i64 a.2.2.1) := by
          rcases (HA.out.ext hS.ext).2.2 with ⟨_, _, _, hnil⟩ | ⟨g, o, c2, hve, hpos, hg, hc⟩
          · subst hnil; simp at hn; omega
          · simp only [Value.slice.injEq] at hve
            refine ⟨g, o, hve.1, fun w' hx => ⟨?_, ?_⟩⟩
            · rw [hx.cell (p := ⟨g, o + i * 10, none⟩) hg, ha]; exact hc i (by omega) 0 (by omega)
            · rw [hx.cell (p := ⟨g, o + i * 10 + 8, none⟩) hg, ha]; exact hc i (by omega) 8 (by omega)
        have HA3 := Lib.hid hA3
        obtain ⟨kind, m, I, K⟩ := a
        have hI := hok.2.2.1
        have hk8 := hok.1
        clear hS hC hA2 hA3 hok ha
        rcases Nat.eq_zero_or_pos qs.length with he | hpos
        · obtain rfl : qs = [] := List.length_eq_zero_iff.1 he
          obtain ⟨c0, c8⟩ := HA3.out wr (Ext.refl _)
          obtain ⟨d, hd, hd2⟩ : ∃ d, kind % 8 = d ∧ kind.tmod 8 = d := ⟨_, rfl, Int.tmod_eq_emod_of_nonneg hk8.1⟩
          by_cases h4 : d = 4
          · subst h4
            go_wp2_with (first | (go_at_call 9; with_reducible refine (k_mail2 HS.out.net (n := 0) rfl (by omega)).mono ?_; rintro e w4 ⟨g, rfl, hr, hK, hx⟩; have c := HA3.out _ hx; have c0 := c.1; have c8 := c.2; clear c; have HK := Lib.hid hK; have Hx := Lib.hid hx; clear hK hr hx) | (go_at_call 10; with_reducible refine (k_deliver_no' HK.out 0 (by simp)).mono ?_; rintro e w5 ⟨rfl, hK⟩; have HS5 := Lib.hid ((HS.out.turn with_tri Hx.out hK).later ((Ext.refl _).alloc (.cells #[.int .i64 0, .int .i64 0, .int .i64 0, .string (ofL []), .int .i64 0, .int .i64 0, .int .i64 0] 32))); clear hK))
            go_quiet (fail)
            all_goals go_wp2_with fail
            all_goals
              exact ⟨⟨i + 1, [], Wt, Gt, by omega, by go_num, (HS5.out.later ((Ext.refl _).drewN _)), HC.out.step⟩, by simp [intOf]; omega⟩
          · by_cases h5 : d = 5
            · subst h5
              go_wp2_with (first | (go_at_call 9; with_reducible refine (k_mail2 HS.out.net (n := 0) rfl (by omega)).mono ?_; rintro e w4 ⟨g, rfl, hr, hK, hx⟩; have c := HA3.out _ hx; have c0 := c.1; have c8 := c.2; clear c; have HK := Lib.hid hK; have Hx := Lib.hid hx; clear hK hr hx) | (go_at_call 11; with_reducible refine (k_drop_no HK.out 0 (by simp)).mono ?_; rintro e w5 ⟨rfl, hK⟩; have HS5 := Lib.hid ((HS.out.turn with_tri Hx.out hK)); clear hK))
              exact ⟨⟨i + 1, [], Wt, Gt, by omega, by go_num, HS5.out, HC.out.step⟩, by simp [intOf]; omega⟩
            · by_cases h6 : d = 6
              · subst h6
                go_wp2_with (first | (go_at_call 9; with_reducible refine (k_mail2 HS.out.net (n := 0) rfl (by omega)).mono ?_; rintro e w4 ⟨g, rfl, hr, hK, hx⟩; have c := HA3.out _ hx; have c0 := c.1; have c8 := c.2; clear c; have HK := Lib.hid hK; have Hx := Lib.hid hx; clear hK hr hx) | (go_at_call 12; with_reducible refine (k_double_no HK.out 0 (by simp)).mono ?_; rintro e w5 ⟨rfl, hK⟩; have HS5 := Lib.hid ((HS.out.turn with_tri Hx.out hK)); clear hK))
                exact ⟨⟨i + 1, [], Wt, Gt, by omega, by go_num, HS5.out, HC.out.step⟩, by simp [intOf]; omega⟩
              · by_cases h7 : d = 7
                · subst h7
                  go_wp2_with (first | (go_at_call 9; with_reducible refine (k_mail2 HS.out.net (n := 0) rfl (by omega)).mono ?_; rintro e w4 ⟨g, rfl, hr, hK, hx⟩; have c := HA3.out _ hx; have c0 := c.1; have c8 := c.2; clear c; have HK := Lib.hid hK; have Hx := Lib.hid hx; clear hK hr hx))
                  have HS5 := Lib.hid (HS.out.later Hx.out)
                  exact ⟨⟨i + 1, [], Wt, Gt, by omega, by go_num, HS5.out, HC.out.step⟩, by simp [intOf]; omega⟩
                ·
                  obtain ⟨qs, hqs⟩ : ∃ qs : List Nat, qs = [] := ⟨_, rfl⟩
                  rw [← hqs] at HS HC
                  obtain ⟨x, hx0⟩ : ∃ x, Wt.getD i 0 = x := ⟨_, rfl⟩
                  have hxb := HC.out.2.2.2.2 i hlt
                  rw [hx0] at hxb
                  have hxc := List.count_le_length (a := i) (l := qs)
                  have hx1 : 0 ≤ x := by omega
                  have hx2 : x ≤ 200 := by have := HC.out.1; omega
                  have HX0 := Lib.hid hx0
                  clear hx0 hxb hxc
                  go_wp2_with (first | (go_at_call 9; with_reducible refine (k_mail2 HS.out.net (n := 0) (by simp [hqs]) (by omega)).mono ?_; rintro e w4 ⟨g, rfl, hr, hK, hx⟩; have c := HA3.out _ hx; have c0 := c.1; have c8 := c.2; clear c; have HK := Lib.hid hK; have Hx := Lib.hid hx; clear hK hr hx) | (go_at_call 14; with_reducible refine (k_send' HK.out (by simp [hqs]) (map_send qs i)).mono ?_; rintro e w5 ⟨rfl, hK⟩; have HS5 := Lib.hid ((HS.out.turn with_tri Hx.out hK)); have ⟨s0, s1⟩ := HS5.out.cw i hlt; rw [HX0.out] at s0; clear hK))
                  exact ⟨⟨i + 1, qs ++ [i], Wt.set i (x + 1), Gt, by omega, by go_num, HS5.out.setW i hlt _, by rw [← HX0.out]; exact HC.out.send i hlt⟩, by simp [intOf]; omega⟩
        · obtain ⟨m, hm⟩ : ∃ m, qs.length = m := ⟨_, rfl⟩
          rw [hm] at hpos
          have hm100 : m ≤ 100 := by have := HC.out.1; omega
          obtain ⟨c0, c8⟩ := HA3.out wr (Ext.refl _)
          obtain ⟨k, hk, hkk⟩ := index_in I m hpos hm100
          have hkq : k < qs.length := by omega
          obtain ⟨q, hq⟩ : ∃ q, q = qs[k] := ⟨_, rfl⟩
          have hqn : q < n := by rw [hq]; exact HC.out.2.1 _ (List.getElem_mem _)
          have HQ := Lib.hid hq
          have hMq : (0, 0, 0, [], (q : Int), 0, 0) = (qs.map qm)[k]'(by simpa using hkq) := by rw [hq]; simp [qm]
          have HMq := Lib.hid hMq
          clear hMq hq
          obtain ⟨d, hd, hd2⟩ : ∃ d, kind % 8 = d ∧ kind.tmod 8 = d := ⟨_, rfl, Int.tmod_eq_emod_of_nonneg hk8.1⟩
          by_cases h4 : d = 4
          · subst h4
            obtain ⟨x, hx0⟩ : ∃ x, Gt.getD q 0 = x := ⟨_, rfl⟩
            have hxb := HC.out.2.2.2.2 q hqn
            rw [hx0] at hxb
            have hx1 := hxb.2.1
            have hx2 : x ≤ 100 := by omega
            have HX0 := Lib.hid hx0
            clear hx0 hxb
            go_wp2_with (first | (go_at_call 9; with_reducible refine (k_mail2 HS.out.net (n := m) (by rw [List.length_map, hm]) (by omega)).mono ?_; rintro e w4 ⟨g, rfl, hr, hK, hx⟩; have c := HA3.out _ hx; have c0 := c.1; have c8 := c.2; clear c; have ⟨r0, r1, r2, r3, r4, r5, r6⟩ := row_qm hr k hkq HQ.out; have HK := Lib.hid hK; have Hr := Lib.hid hr; have Hx := Lib.hid hx; clear hK hr hx) | (go_at_call 10; with_reducible refine (k_deliver' HK.out k k rfl (by rw [List.length_map]; exact hkq) (by rw [List.length_map]; omega) (map_erase qs k) HMq.out).mono ?_; rintro e w5 ⟨rfl, hK⟩; have ⟨r0, r1, r2, r3, r4, r5, r6⟩ := row_qm ((row_kept Hr.out hK.fr).ext ((Ext.refl _).alloc (.cells #[.int .i64 0, .int .i64 0, .int .i64 0, .string (ofL []), .int .i64 q, .int .i64 0, .int .i64 0] 32))) k hkq HQ.out; have HS5 := Lib.hid (((HS.out.turn with_tri Hx.out hK)).later ((Ext.refl _).alloc (.cells #[.int .i64 0, .int .i64 0, .int .i64 0, .string (ofL []), .int .i64 q, .int .i64 0, .int .i64 0] 32))); have ⟨s0, s1⟩ := HS5.out.cg q hqn; rw [HX0.out] at s0; clear hK))
            go_quiet (fail)
            all_goals go_wp2_with fail
            all_goals
              exact ⟨⟨i + 1, qs.eraseIdx k, Wt, Gt.set q (x + 1), by omega, by go_num, (HS5.out.later ((Ext.refl _).drewN _)).setG q hqn _, by rw [← HX0.out, HQ.out]; exact HC.out.got k hkq⟩, by simp [intOf]; omega⟩
          · by_cases h5 : d = 5
            · subst h5
              obtain ⟨x, hx0⟩ : ∃ x, Wt.getD q 0 = x := ⟨_, rfl⟩
              have hxb := HC.out.2.2.2.2 q hqn
              rw [hx0] at hxb
              have hxc := List.count_le_length (a := q) (l := qs)
              have hx1 : 0 ≤ x := by omega
              have hx2 : x ≤ 200 := by have := HC.out.1; omega
              have HX0 := Lib.hid hx0
              clear hx0 hxb hxc
              go_wp2_with (first | (go_at_call 9; with_reducible refine (k_mail2 HS.out.net (n := m) (by rw [List.length_map, hm]) (by omega)).mono ?_; rintro e w4 ⟨g, rfl, hr, hK, hx⟩; have c := HA3.out _ hx; have c0 := c.1; have c8 := c.2; clear c; have ⟨r0, r1, r2, r3, r4, r5, r6⟩ := row_qm hr k hkq HQ.out; have HK := Lib.hid hK; have Hr := Lib.hid hr; have Hx := Lib.hid hx; clear hK hr hx) | (go_at_call 11; with_reducible refine (k_drop HK.out k k rfl (by rw [List.length_map]; exact hkq) (by rw [List.length_map]; omega) (map_erase qs k)).mono ?_; rintro e w5 ⟨rfl, hK⟩; have ⟨r0, r1, r2, r3, r4, r5, r6⟩ := row_qm (row_kept Hr.out hK.fr) k hkq HQ.out; have HS5 := Lib.hid ((HS.out.turn with_tri Hx.out hK)); have ⟨s0, s1⟩ := HS5.out.cw q hqn; rw [HX0.out] at s0; clear hK))
              exact ⟨⟨i + 1, qs.eraseIdx k, Wt.set q (x - 1), Gt, by omega, by go_num, HS5.out.setW q hqn _, by rw [← HX0.out, HQ.out]; exact HC.out.drop k hkq⟩, by simp [intOf]; omega⟩
            · by_cases h6 : d = 6
              · subst h6
                obtain ⟨x, hx0⟩ : ∃ x, Wt.getD q 0 = x := ⟨_, rfl⟩
                have hxb := HC.out.2.2.2.2 q hqn
                rw [hx0] at hxb
                have hxc := List.count_le_length (a := q) (l := qs)
                have hx1 : 0 ≤ x := by omega
                have hx2 : x ≤ 200 := by have := HC.out.1; omega
                have HX0 := Lib.hid hx0
                clear hx0 hxb hxc
                go_wp2_with (first | (go_at_call 9; with_reducible refine (k_mail2 HS.out.net (n := m) (by rw [List.length_map, hm]) (by omega)).mono ?_; rintro e w4 ⟨g, rfl, hr, hK, hx⟩; have c := HA3.out _ hx; have c0 := c.1; have c8 := c.2; clear c; have ⟨r0, r1, r2, r3, r4, r5, r6⟩ := row_qm hr k hkq HQ.out; have HK := Lib.hid hK; have Hr := Lib.hid hr; have Hx := Lib.hid hx; clear hK hr hx) | (go_at_call 12; with_reducible refine (k_double HK.out k k rfl (by rw [List.length_map]; exact hkq) (by rw [List.length_map]; omega) (map_double qs k hkq HQ.out)).mono ?_; rintro e w5 ⟨rfl, hK⟩; have ⟨r0, r1, r2, r3, r4, r5, r6⟩ := row_qm (row_kept Hr.out hK.fr) k hkq HQ.out; have HS5 := Lib.hid ((HS.out.turn with_tri Hx.out hK)); have ⟨s0, s1⟩ := HS5.out.cw q hqn; rw [HX0.out] at s0; clear hK))
                exact ⟨⟨i + 1, qs ++ [q], Wt.set q (x + 1), Gt, by omega, by go_num, HS5.out.setW q hqn _, by rw [← HX0.out]; exact HC.out.send q hqn⟩, by simp [intOf]; omega⟩
              · by_cases h7 : d = 7
                · subst h7
                  have hj : m - 1 - k < qs.length := by omega
                  go_wp2_with (first | (go_at_call 9; with_reducible refine (k_mail2 HS.out.net (n := m) (by rw [List.length_map, hm]) (by omega)).mono ?_; rintro e w4 ⟨g, rfl, hr, hK, hx⟩; have c := HA3.out _ hx; have c0 := c.1; have c8 := c.2; clear c; have ⟨r0, r1, r2, r3, r4, r5, r6⟩ := row_qm hr k hkq HQ.out; have HK := Lib.hid hK; have Hr := Lib.hid hr; have Hx := Lib.hid hx; clear hK hr hx) | (go_at_call 13; with_reducible refine (k_turn HK.out _ _ k (m - 1 - k) rfl (by omega) (by rw [List.length_map]; exact hkq) (by rw [List.length_map]; exact hj) (by rw [List.length_map]; omega) (map_turn qs k (m - 1 - k) hkq hj)).mono ?_; rintro e w5 ⟨rfl, hK⟩; have HS5 := Lib.hid ((HS.out.turn with_tri Hx.out hK)); clear hK))
                  exact ⟨⟨i + 1, _, Wt, Gt, by omega, by go_num, HS5.out, HC.out.turn k (m - 1 - k) hkq hj⟩, by simp [intOf]; omega⟩
                ·
                  obtain ⟨x, hx0⟩ : ∃ x, Wt.getD i 0 = x := ⟨_, rfl⟩
                  have hxb := HC.out.2.2.2.2 i hlt
                  rw [hx0] at hxb
                  have hxc := List.count_le_length (a := i) (l := qs)
                  have hx1 : 0 ≤ x := by omega
                  have hx2 : x ≤ 200 := by have := HC.out.1; omega
                  have HX0 := Lib.hid hx0
                  clear hx0 hxb hxc
                  go_wp2_with (first | (go_at_call 9; with_reducible refine (k_mail2 HS.out.net (n := m) (by rw [List.length_map, hm]) (by omega)).mono ?_; rintro e w4 ⟨g, rfl, hr, hK, hx⟩; have c := HA3.out _ hx; have c0 := c.1; have c8 := c.2; clear c; have ⟨r0, r1, r2, r3, r4, r5, r6⟩ := row_qm hr k hkq HQ.out; have HK := Lib.hid hK; have Hr := Lib.hid hr; have Hx := Lib.hid hx; clear hK hr hx) | (go_at_call 14; with_reducible refine (k_send' HK.out (by rw [List.length_map]; omega) (map_send qs i)).mono ?_; rintro e w5 ⟨rfl, hK⟩; have HS5 := Lib.hid ((HS.out.turn with_tri Hx.out hK)); have ⟨s0, s1⟩ := HS5.out.cw i hlt; rw [HX0.out] at s0; clear hK))
                  exact ⟨⟨i + 1, qs ++ [i], Wt.set i (x + 1), Gt, by omega, by go_num, HS5.out.setW i hlt _, by rw [← HX0.out]; exact HC.out.send i hlt⟩, by simp [intOf]; omega⟩
      · obtain rfl : i = n := by omega
        obtain ⟨hC1, hC2, hC3, hC4, hC5⟩ := HC.out
        have HC2 := Lib.hid (show Cn2 i qs Wt Gt from ⟨hC2, hC3, hC4, fun j hj => by have a := hC5 j hj; have b := List.count_le_length (a := j) (l := qs); omega⟩)
        have hql : qs.length ≤ 100 := by omega
        clear hC hC1 hC2 hC3 hC4 hC5 HC hS
        go_wp2_with fail
        go_loopg [12] qs.length (fun gk _ wx => ∃ (ps : List Nat) (G2 : List Int), ps.length ≤ gk ∧ ps.length ≤ 100 ∧ St w p gw gg i (ps.map qm) Wt G2 wx ∧ Cn2 i ps Wt G2)
        case atStart => exact ⟨qs, Gt, Nat.le_refl _, hql, HS.out, HC2.out⟩
        case round =>
          obtain ⟨ps, G2, hps, hp100, hS, hC⟩ := hrel
          have HS := Lib.hid hS
          have HC := Lib.hid hC
          clear hS hC
          match ps, hps, hp100 with
          | [], _, _ =>
            go_wp2_with (go_at_call 10; with_reducible refine (k_deliver_no' HS.out.net 0 (by simp)).mono ?_; rintro e w5 ⟨rfl, hK⟩; have HS5 := Lib.hid (((HS.out.turn (fun _ h => h) (Ext.refl _) hK)).later ((Ext.refl _).alloc (.cells #[.int .i64 0, .int .i64 0, .int .i64 0, .string (ofL []), .int .i64 0, .int .i64 0, .int .i64 0] 32))); clear hK)
            go_loopw [13] (fun v wx => (∃ k : Nat, k ≤ i ∧ v = .int .i64 k) ∧ St w p gw gg i [] Wt G2 wx) (fun v _ => i - (intOf v).toNat)
            case atStart => exact ⟨⟨0, by omega, rfl⟩, HS5.out⟩
            case round =>
              obtain ⟨⟨k, hk, rfl⟩, hS⟩ := hrel
              have HS6 := Lib.hid hS
              clear hS
              by_cases hlt2 : k < i
              · have ⟨s0, s1⟩ := HS6.out.cw k hlt2
                have ⟨t0, t1⟩ := HS6.out.cg k hlt2
                have hx := (HC.out.2.2.2 k hlt2).1
                obtain ⟨x, hx0⟩ : ∃ x, G2.getD k 0 = x := ⟨_, rfl⟩
                rw [hx0] at hx t0
                rw [hx, List.count_nil] at s0
                simp only [Int.natCast_zero, Int.add_zero] at s0
                clear hx hx0 s1 t1
                go_wp2_with fail
                go_quiet (fail)
                all_goals go_wp2_with fail
                all_goals
                  exact ⟨⟨⟨k + 1, by omega, by go_num⟩, HS6.out.later ((Ext.refl _).drewN _)⟩, by simp [intOf]; omega⟩
              · obtain rfl : k = i := by omega
                go_wp2_with (first | (go_at_call 9; with_reducible refine (k_mail2 HS6.out.net (n := 0) rfl (by omega)).mono ?_; rintro e w6 ⟨g, rfl, hr, hK, hx⟩; have hx6 := HS6.out.ext.trans hx; clear hr hK hx) | (go_at_call 7; with_reducible refine (mailed_any _).ext hx6 (fun w9 hx9 => ?_)))
                go_ret
                exact ⟨rfl, hx9⟩
          | q :: rest, hps, hp100 =>
            have hqn : q < i := HC.out.1 q (by simp)
            obtain ⟨x, hx0⟩ : ∃ x, G2.getD q 0 = x := ⟨_, rfl⟩
            have hxb := HC.out.2.2.2 q hqn
            rw [hx0] at hxb
            have hx1 := hxb.2.1
            have hx2 : x ≤ 200 := by omega
            have HX0 := Lib.hid hx0
            clear hx0 hxb
            simp only [List.length_cons] at hps hp100
            go_wp2_with (go_at_call 10; with_reducible refine (k_deliver' HS.out.net 0 0 rfl (by simp) (by simp; omega) (M := rest.map qm) rfl (to := 0) (ord := 0) (deed := 0) (sku := []) (qty := (q : Int)) (amt := 0) (code := 0) rfl).mono ?_; rintro e w5 ⟨rfl, hK⟩; have HS5 := Lib.hid (((HS.out.turn (fun _ h => h) (Ext.refl _) hK)).later ((Ext.refl _).alloc (.cells #[.int .i64 0, .int .i64 0, .int .i64 0, .string (ofL []), .int .i64 q, .int .i64 0, .int .i64 0] 32))); have ⟨s0, s1⟩ := HS5.out.cg q hqn; rw [HX0.out] at s0; clear hK)
            go_roundg rest.length
            case measure => omega
            case rel => exact ⟨rest, G2.set q (x + 1), Nat.le_refl _, by omega, HS5.out.setG q hqn _, by rw [← HX0.out]; exact HC.out.got⟩
  · go_enter Try.func3, Try.ntmps3
    go_wp2_with (go_at_call 7; with_reducible refine (mailed_any _).ext (Ext.refl _) (fun w9 hx9 => ?_))
    go_ret
    exact ⟨rfl, hx9⟩
end Go.Proofs.Ytjalikjakoddoaa
