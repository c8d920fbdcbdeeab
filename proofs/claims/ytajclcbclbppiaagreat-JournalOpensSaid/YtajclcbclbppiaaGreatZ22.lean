/-
  The chapter's journal ('kept'): texts compared, a disk opened to what is expected.
  The chapter's journal: the walk of 'kept'.
-/
import Derived.Test.YtajclcbclbppiaaGreatZ21
import Derived.Test.YtajclcbclbppiaaGreatZ20
import Derived.OpenShut
section
namespace Go.Proofs.YtajclcbclbppiaaGreat
open Go.RowKit Go.Maps Go.Dk Go.Rc Go.Jn Go.Shelf
variable {W w w' : World} {O O' F : Nat → Prop} {p q : Nat} {S S' S2 : St} {J J' : Jo}
theorem take_eq_all {A B : List (List UInt8)} {k : Nat} (ha : A.length = k) (hb : B.length = k) (h : A.take k = B.take k) : A = B := by
  rwa [List.take_of_length_le (by omega), List.take_of_length_le (by omega)] at h
set_option maxHeartbeats 1000000 in
set_option maxRecDepth 100000 in
theorem texts_any {ao bo : Option Addr} {n m ca cb : Nat} {A B : List (List UInt8)} (ha : Ro w ao n A) (hb : Ro w bo m B) (hn : n ≤ 16777216) (hm : m ≤ 16777216) :
    Calls Tryz.prog 13 #[.slice ao n ca, .slice bo m cb] w fun e w' => e = .returned (.bool (decide (A = B))) ∧ Ext w w' := by
  have hla := ha.1
  have hlb := hb.1
  by_cases hnm : n = m
  · subst hnm
    have Ha := Lib.hid ha
    have Hb := Lib.hid hb
    clear ha hb
    go_enter Tryz.func13, Tryz.ntmps13
    go_wp2
    go_loopw [5] (fun i wr => (∃ k : Nat, k ≤ n ∧ i = .int .i64 k ∧ A.take k = B.take k) ∧ Ext w wr) (fun i _ => n - (intOf i).toNat)
    case atStart => exact ⟨⟨0, by omega, rfl, by simp⟩, Ext.refl _⟩
    case round =>
      obtain ⟨⟨k, hk, rfl, ht⟩, hE⟩ := hrel
      by_cases hlt : k < n
      · obtain ⟨g, o, rfl, hg, hx1⟩ := (Ha.out.ext hE).2.resolve_left (by omega)
        obtain ⟨f, r, rfl, hf, hx3⟩ := (Hb.out.ext hE).2.resolve_left (by omega)
        have c0 := hx1 k hlt
        have d0 := hx3 k hlt
        obtain ⟨a, hA⟩ : ∃ a, A[k]? = some a := ⟨_, List.getElem?_eq_getElem (by omega)⟩
        obtain ⟨b, hB⟩ : ∃ b, B[k]? = some b := ⟨_, List.getElem?_eq_getElem (by omega)⟩
        rw [show (Se A)[k]? = some (.string (ofL a)) by simp [Se, hA]] at c0
        rw [show (Se B)[k]? = some (.string (ofL b)) by simp [Se, hB]] at d0
        have HT := Lib.hid ht
        have HA := Lib.hid hA
        have HB := Lib.hid hB
        clear hx1 hx3 ht hA hB
        by_cases hab : a = b
        · subst hab
          go_wp2
          go_quiet (fail)
          all_goals
            go_wp2
            exact ⟨⟨⟨k + 1, by omega, by go_num, by rw [List.take_add_one, List.take_add_one, HT.out, HA.out, HB.out]⟩, hE.drewN _⟩, by simp [intOf]; omega⟩
        · have hne : decide (A = B) = false := decide_eq_false (fun e => hab (by
            have h1 := HA.out
            rw [e, HB.out] at h1
            exact (Option.some.inj h1).symm))
          have HN := Lib.hid hne
          have hab2 : (a == b) = false := beq_false_of_ne hab
          clear hne
          go_wp2
          go_quiet (fail)
          all_goals
            go_wp2
            go_ret
            rw [HN.out]
            exact ⟨rfl, hE.drewN _⟩
      · obtain rfl : k = n := by omega
        have hyes : decide (A = B) = true := decide_eq_true (take_eq_all hla hlb ht)
        have HY := Lib.hid hyes
        clear hyes ht
        go_wp2
        go_ret
        rw [HY.out]
        exact ⟨rfl, hE⟩
  · have hne : decide (A = B) = false := decide_eq_false (fun e => hnm (by rw [← hla, ← hlb, e]))
    have hnm' : ¬ (n : Int) = (m : Int) := by omega
    rw [hne]
    clear ha hb hne
    go_enter Tryz.func13, Tryz.ntmps13
    go_wp2
    go_ret
    exact ⟨rfl, Ext.refl _⟩
theorem Jp.disk0 (h : Jp W O p q S J w) : Dp W O p S w := by
  obtain ⟨β, h1, _, h4, _⟩ := h.d
  exact ⟨β, h1, h.fr, fun k hk => h4 k (.inl hk), h.under⟩
theorem Dp.less (h : Dp W O p S w) (hO : ∀ k, O' k → O k) : Dp W O' p S w := by
  obtain ⟨β, h1, h3, h4, h7⟩ := h
  exact ⟨β, h1, h3.mono (fun k _ hk ho => hk (hO k ho)), fun k hk => h4 k (hO k hk), fun k hk => h7 k (hO k hk)⟩
theorem Jp.back {V : World} (h : Dp W O p S w) (hx : Ext w V) (h' : Jp V O' p q S' J w') (hO : ∀ k, O k → O' k) : Jp W O p q S' J w' :=
  ⟨h'.d.less (fun k hk => hk.imp (hO k) (fun h => h)), h'.j, fun ho => h'.out (hO q ho), (h.fr.trans (Fr.of_ext (F := fun _ => False) hx) (fun _ _ hf => hf.elim)).trans h'.fr (fun k _ hk ho => hk (hO k ho)), h.under⟩
/-- Open, where it leads to a journal: its row is new. -/
theorem open_new (h : Dp W O p S w) (hup : S.down = false) {snap : List UInt8} {l : List (List UInt8)} (hR : open_ S = ⟨S2, some J, snap, l, 0⟩) :
    Calls Tryz.prog 11 #[.pointer (some ⟨p, 0, none⟩)] w fun x w' => ∃ q ao n cap, x = .returned (.tuple #[.pointer (some ⟨q, 0, none⟩), .string (ofL snap), .slice ao n cap, .int .i64 0]) ∧ n ≤ cap ∧ Ro w' ao n l ∧ Jp w' (WithRow O ao) p q S2 J w' ∧ Fr (fun k => ¬ O k) W w' ∧ w.heap.size ≤ q ∧ ∀ g, ob ao = some g → w.heap.size ≤ g := by
  have C := open_up h hup
  rw [hR] at C
  refine C.mono fun x w' hx => ?_
  rcases hx with ⟨h0, _⟩ | ⟨J1, q, ao, n, cap, hJ1, h1, _, h3, h4, h5, h6, h7⟩
  · cases h0
  · obtain rfl : J = J1 := Option.some.inj hJ1
    exact ⟨q, ao, n, cap, h1, h3, h4, h5, h6, h7⟩
/-- Open, where it leads to a journal. -/
theorem open_good (h : Dp W O p S w) (hup : S.down = false) {snap : List UInt8} {l : List (List UInt8)} (hR : open_ S = ⟨S2, some J, snap, l, 0⟩) :
    Calls Tryz.prog 11 #[.pointer (some ⟨p, 0, none⟩)] w fun x w' => ∃ q ao n cap, x = .returned (.tuple #[.pointer (some ⟨q, 0, none⟩), .string (ofL snap), .slice ao n cap, .int .i64 0]) ∧ n ≤ cap ∧ Ro w' ao n l ∧ Jp w' (WithRow O ao) p q S2 J w' ∧ Fr (fun k => ¬ O k) W w' ∧ w.heap.size ≤ q :=
  (open_new h hup hR).mono fun _ _ ⟨q, ao, n, cap, h1, h2, h3, h4, h5, h6, _⟩ => ⟨q, ao, n, cap, h1, h2, h3, h4, h5, h6⟩
/-- Open, where it leads to none. -/
theorem open_bad (h : Dp W O p S w) {e : Int} (hR : open_ S = ⟨S2, none, [], [], e⟩) :
    Calls Tryz.prog 11 #[.pointer (some ⟨p, 0, none⟩)] w fun x w' => x = .returned (.tuple #[.pointer none, .string (ofL []), .slice none 0 0, .int .i64 e]) ∧ Dp W O p S2 w' := by
  have C : Calls Tryz.prog 11 #[.pointer (some ⟨p, 0, none⟩)] w (OpenTo W O p (open_ S) w) := by
    cases hup : S.down
    · exact open_up h hup
    · exact open_down h hup
  rw [hR] at C
  refine C.mono fun x w' hx => ?_
  rcases hx with ⟨_, h1, h2⟩ | ⟨J1, q, ao, n, cap, hJ1, _⟩
  · exact ⟨h1, h2⟩
  · cases hJ1
theorem Jp.out_row {ao : Option Addr} (h : Jp w' (WithRow O ao) p q S J w') (hf : Fr (fun k => ¬ O k) W w') (hu : Under O W) : Jp W O p q S J w' :=
  ⟨h.d.less (fun _ hk => hk.imp .inl (fun h => h)), h.j, fun ho => h.out (.inl ho), hf, hu⟩
set_option maxHeartbeats 1000000 in
set_option maxRecDepth 100000 in
/-- A disk opened to just this. -/
theorem opens_good (h : Dp W O p S w) (hup : S.down = false) {snap : List UInt8} {l : List (List UInt8)} (hR : open_ S = ⟨S2, some J, snap, l, 0⟩) {bo : Option Addr} {m bc : Nat} (hE : Ro w bo m l) (hb : ∀ g, ob bo = some g → O g) (hm : m ≤ 16777216) :
    Calls Tryz.prog 21 #[.pointer (some ⟨p, 0, none⟩), .string (ofL snap), .slice bo m bc] w fun x w' => ∃ q, x = .returned (.tuple #[.pointer (some ⟨q, 0, none⟩), .bool true]) ∧ Jp W O p q S2 J w' := by
  have C := Lib.hid (open_good h.now hup hR)
  have HE := Lib.hid hE
  have HB := Lib.hid hb
  have H := Lib.hid h
  clear h hR hE hb hup
  go_enter Tryz.func21, Tryz.ntmps21
  go_wp2_with (first
    | (go_at_call 11; (with_reducible refine C.out.mono ?_); rintro x w1 ⟨q, ao, n, cap, rfl, hnc, hro, hJp, hFr, hq⟩; have HO := Lib.hid hro; have HJ := Lib.hid hJp; have HF := Lib.hid hFr; have HE1 := Lib.hid (HE.out.fr hFr (fun g hg h => h (HB.out g hg))); have hnm : n ≤ 16777216 := (by have h1 := hro.1; have h2 := HE.out.1; omega); clear hro hJp hFr)
    | (go_at_call 13; (with_reducible refine (texts_any HO.out HE1.out hnm hm).mono ?_); rintro x w2 ⟨rfl, hx2⟩; have HX2 := Lib.hid hx2; clear hx2))
  go_ret2
  exact ⟨q, by simp, Jp.since H.out.fr H.out.under ((HJ.out.out_row HF.out H.out.now.under).ext HX2.out)⟩
end Go.Proofs.YtajclcbclbppiaaGreat
end
section
namespace Go.Jn
open Go.Dk Go.Rc
variable {ps : List (List UInt8)} {S : St} {J : Jo} {x : List UInt8}
theorem Live.mid (h : Live S J ps) : Mid (S.fail = none) J.n J.n ps S.cap S.starts S :=
  ⟨h.up, by rw [h.fs]; simp [Rise], by rw [h.fs]; exact led_one (pays_whole h.small).1 h.ne, fun g hg => by rw [h.fs] at hg; simp at hg; subst hg; exact ⟨h.n0, Int.le_refl _⟩, rfl, rfl, fun h => h⟩
theorem append_ok (h : Live S J ps) (hf : S.fail = none) (hx : x.length ≤ 65536) (hroom : 70000 ≤ S.cap - (rowL ps).length - (x.length + 8)) : ∃ S' J', appendJ S J x = (S', J', 0) ∧ Live S' J' (ps ++ [x]) ∧ J'.n = J.n ∧ S'.cap = S.cap ∧ S'.fail = none := by
  have ht := h.tot
  rcases append_live h (Int.le_refl _) hx with ⟨S', J', h1, h2, h3, h4, h5⟩ | ⟨_, h2⟩ | ⟨S', J', qs, _, _, h3⟩
  · exact ⟨S', J', h1, h2, h3, h4, h5 hf⟩
  · omega
  · exact absurd hf h3.nf
theorem compact_ok (h : Live S J ps) (hf : S.fail = none) (hx : x.length ≤ 65536) (hroom : (x.length : Int) + 8 ≤ S.cap - (rowL ps).length) : ∃ S' J', compactJ S J x = (S', J', 0) ∧ Live S' J' [x] ∧ J'.n = J.n + 1 ∧ S'.cap = S.cap ∧ S'.fail = none := by
  have ht := h.tot
  rcases compact_live h (Int.le_refl _) hx with ⟨S', J', h1, h2, h3, h4, h5⟩ | ⟨_, h2⟩ | ⟨S', J', qs, _, _, h3⟩
  · exact ⟨S', J', h1, h2, h3, h4, h5 hf⟩
  · omega
  · exact absurd hf h3.nf
theorem open_ok (h : Live S J ps) (hf : S.fail = none) : ∃ S' J', open_ S = ⟨S', some J', ps.headD [], ps.tail, 0⟩ ∧ Live S' J' ps ∧ J'.n = J.n ∧ S'.cap = S.cap ∧ S'.fail = none := by
  rcases open_led h.mid with ⟨J', S', h1, h2, h3, h4, h5⟩ | ⟨S', _, h2⟩
  · exact ⟨S', J', h1, h2, h3, h4, h5 hf⟩
  · exact absurd hf h2.nf
theorem append_no (h : Live S J ps) (hx : x.length ≤ 65536) (hroom : S.cap - (rowL ps).length - (x.length + 8) < 70000) : appendJ S J x = (S, J, 60) := by
  have ht := h.tot
  unfold appendJ
  rw [h.over, if_neg (by decide), if_neg (by omega), if_pos (by rw [ht]; exact hroom)]
theorem append_too (h : Live S J ps) (hx : 65536 < x.length) : appendJ S J x = (S, J, 3) := by
  unfold appendJ
  rw [h.over, if_neg (by decide), if_pos hx]
end Go.Jn
namespace Go.Proofs.YtajclcbclbppiaaGreat
open Go.RowKit Go.Maps Go.Dk Go.Rc Go.Jn Go.Shelf
variable {W w w' : World} {O O' F : Nat → Prop} {p q : Nat} {S S' S2 : St} {J J' : Jo} {ps : List (List UInt8)}
theorem row_many (ps : List (List UInt8)) : ps.length ≤ (rowL ps).length := by
  induction ps with
  | nil => simp [rowL]
  | cons x r ih => rw [rowL_cons, List.length_append, recL_length, List.length_cons]; omega
theorem live_smalls (h : Live S J ps) (hok : Ok S) (hn : J.n ≤ 4611686018427387904) : Small J := by
  have h1 := hok.tot
  have h2 := hok.cap1
  have h3 := h.tot
  have h4 := row_many ps
  have h5 := h.size
  have h6 := h.many
  have h7 : 0 < ps.length := List.length_pos_iff.2 h.ne
  exact ⟨h.n0, Int.le_trans hn (by decide), by omega, by omega, by omega, by omega⟩
theorem ro_block {w : World} {g n : Nat} {t : TypeId} (L : List (List UInt8)) (hn : L.length = n) (hb : w.heap[g]? = some (.cells (Se L).toArray t)) : Ro w (some ⟨g, 0, none⟩) n L := by
  have hg : g < w.heap.size := by
    rcases Nat.lt_or_ge g w.heap.size with h | h
    · exact h
    · rw [Array.getElem?_eq_none h] at hb; cases hb
  refine ⟨hn, .inr ⟨g, 0, rfl, hg, fun j hj => ?_⟩⟩
  simp only [World.cell?, hb]; simp
theorem ro_none (w : World) : Ro w none 0 [] := ⟨rfl, .inl rfl⟩
theorem ro_one {w : World} {g : Nat} {t : TypeId} {a : List UInt8} (hb : w.heap[g]? = some (.cells #[.string (ofL a)] t)) : Ro w (some ⟨g, 0, none⟩) 1 [a] := ro_block [a] rfl (t := t) hb
theorem ro_two {w : World} {g : Nat} {t : TypeId} {a b : List UInt8} (hb : w.heap[g]? = some (.cells #[.string (ofL a), .string (ofL b)] t)) : Ro w (some ⟨g, 0, none⟩) 2 [a, b] := ro_block [a, b] rfl (t := t) hb
theorem ob_none (O : Nat → Prop) : ∀ g, ob none = some g → O g := fun g h => by cases h
theorem new_row (O : Nat → Prop) (w : World) (o : Obj) : ∀ g, ob (some ⟨w.heap.size, 0, none⟩) = some g → New O w (w.alloc o) g := fun g h => by
  obtain rfl : w.heap.size = g := by simpa [ob] using h
  exact .inr ⟨Nat.le_refl _, by simp⟩
theorem make_bytes_w {w : World} {ops : Array Oper} {rest : List Oper} {o : Oper} {a : Act} {Q : Exit → Act → World → Prop} (hw : Region.wanted o (yielded ops a.tmps) = true) (x y : Operand)
    (ho : o.op = .makeSlice 51 x y) {n : Nat} {i j : Int} (hx : a.eval x = .int .i64 i) (hy : a.eval y = .int .i64 j) (hi : i = n) (hj : j = n) (hn : n ≤ 16777216)
    (h : ∀ w', Bz w' w.heap.size n (List.replicate n 0) → Ext w w' → w.heap.size < w'.heap.size → wpList Tryz.prog ops Q rest (a.put o.dst (.slice (some ⟨w.heap.size, 0, none⟩) n n)) w') : wpList Tryz.prog ops Q (o :: rest) a w := by
  obtain ⟨ti, hti, hz, hsz, hby⟩ := info_parts infoU8
  refine wpList_step fun K hK => ?_
  rw [if_pos hw]
  obtain ⟨w', hrun, hown, hg⟩ := run_make_full (P := Tryz.prog) w w.heap.size 51 5 ti (.int .u8 0) 1 Tryz.underlying51 hti hz hsz .i64 .i64 n (by rw [hby]; omega) (by unfold maxLen; omega) (Nat.le_refl _)
  have hm : (madeCells (Value.int .u8 0).cells (n * 1)).toList = U8 (List.replicate n 0) := by
    refine List.ext_getElem (by simp [madeCells, U8]) fun i h1 h2 => ?_
    simp [madeCells, U8, Value.cells, Nat.mod_one]
  rw [hm] at hown
  have hown' : Bs w' w.heap.size (.slice (some ⟨w.heap.size, 0, none⟩) (List.replicate n (0 : UInt8)).length n) (List.replicate n 0) := by
    unfold Bs; simpa using hown
  subst hi
  subst hj
  unfold Oper.wp
  simp [execOp, ho, hx, hy, hrun, Result.andThen]
  exact hK _ _ (h w' (Bz.owns hown') ((Ext.refl w).grown hg (by simp)) (hown'.lt _ rfl).2)
set_option maxHeartbeats 2000000 in
set_option maxRecDepth 100000 in
theorem kept_any (w : World) : Calls Tryz.prog 4 #[] w fun e w' => e = .returned (.bool true) ∧ Ext w w' := by
  have N := Lib.hid (k_new w (Old w) (Old.under w) (c := 80000) ⟨by decide, by decide⟩)
  obtain ⟨S1, J1, o1, l1, n1, c1, f1, _⟩ := open_fresh (cap := 80000) (by decide)
  obtain ⟨S2, J2, a2, l2, n2, c2, f2⟩ := append_ok (x := [97, 98]) l1 f1 (by decide) (by rw [c1, rowL_one, recL_length]; decide)
  obtain ⟨S3, J3, a3, l3, n3, c3, f3⟩ := append_ok (x := [99]) l2 f2 (by decide) (by rw [c2, c1, rowL_snoc, rowL_one, List.length_append, recL_length, recL_length]; decide)
  obtain ⟨S4, J4, o4, l4, n4, c4, f4⟩ := open_ok l3 f3
  have t3 : (rowL ([[]] ++ [[97, 98]] ++ [[99]])).length = 27 := by rw [rowL_snoc, rowL_snoc, rowL_one, List.length_append, List.length_append, recL_length, recL_length, recL_length]; decide
  obtain ⟨S5, J5, a5, l5, n5, c5, f5⟩ := compact_ok (x := [83]) l4 f4 (by decide) (by rw [c4, c3, c2, c1, t3]; decide)
  obtain ⟨S6, J6, a6, l6, n6, c6, f6⟩ := append_ok (x := [100]) l5 f5 (by decide) (by rw [c5, c4, c3, c2, c1, rowL_one, recL_length]; decide)
  obtain ⟨S7, J7, o7, l7, n7, c7, f7⟩ := open_ok l6 f6
  have t6 : (rowL ([[83]] ++ [[100]])).length = 18 := by rw [rowL_snoc, rowL_one, List.length_append, recL_length, recL_length]; decide
  obtain ⟨m1, hm1⟩ : ∃ m1 : Nat, m1 = 10000 := ⟨_, rfl⟩
  obtain ⟨m2, hm2⟩ : ∃ m2 : Nat, m2 = 65537 := ⟨_, rfl⟩
  have hz1 : (List.replicate m1 (0 : UInt8)).length = m1 := List.length_replicate
  have hz2 : (List.replicate m2 (0 : UInt8)).length = m2 := List.length_replicate
  have a8 := append_no (x := List.replicate m1 0) l7 (by rw [hz1]; omega) (by rw [c7, c6, c5, c4, c3, c2, c1, t6, hz1]; omega)
  have a9 := append_too (x := List.replicate m2 0) l7 (by rw [hz2]; omega)
  have HM1 := Lib.hid hm1
  have HM2 := Lib.hid hm2
  clear hm1 hm2
  have s3 : J3.size = 27 := by rw [l3.size, t3]; rfl
  have k3 : J3.many = 2 := by rw [l3.many]; rfl
  have u1 := live_smalls l1
  have u2 := live_smalls l2
  have u4 := live_smalls l4
  have u5 := live_smalls l5
  have u7 := live_smalls l7
  have up3 := l3.up
  have up6 := l6.up
  have o4 : open_ S3 = ⟨S4, some J4, [], [[97, 98], [99]], 0⟩ := o4
  have o7 : open_ S6 = ⟨S7, some J7, [83], [[100]], 0⟩ := o7
  clear l1 l2 l3 l4 l5 l6 l7 f1 f2 f3 f4 f5 f6 f7 t3 t6 c1 c2 c3 c4 c5 c6 c7
  have O1 := Lib.hid o1
  have O4 := Lib.hid o4
  have O7 := Lib.hid o7
  have A2 := Lib.hid a2
  have A3 := Lib.hid a3
  have A5 := Lib.hid a5
  have A6 := Lib.hid a6
  have A8 := Lib.hid a8
  have A9 := Lib.hid a9
  have U1 := Lib.hid (fun h => u1 h (by omega))
  have U2 := Lib.hid (fun h => u2 h (by omega))
  have U4 := Lib.hid (fun h => u4 h (by omega))
  have V4 := Lib.hid (show J4.n ≤ 4611686018427387904 by omega)
  have U5 := Lib.hid (fun h => u5 h (by omega))
  have U7 := Lib.hid (fun h => u7 h (by omega))
  clear o1 o4 o7 a2 a3 a5 a6 a8 a9 u1 u2 u4 u5 u7 n1 n2 n3 n4 n5 n6 n7
  go_enter Tryz.func4, Tryz.ntmps4
  go_wp2_with (first
    | (go_at_call 5; (with_reducible refine N.out.mono ?_); rintro x w0 ⟨p, rfl, hD, _⟩; have HD := Lib.hid hD; clear hD)
    | (go_at_call 21; first
        | ((with_reducible refine (opens_good HD.out rfl O1.out (ro_none _) (ob_none _) (by omega)).mono ?_); rintro x w1 ⟨q1, rfl, hJ⟩; have H1 := Lib.hid hJ; clear hJ)
        | ((with_reducible refine (opens_good (H3.out.disk0.news ((Ext.refl _).alloc _)) up3 O4.out (ro_two (heap_alloc_new _ _)) (new_row _ _ _) (by omega)).mono ?_); rintro x w4 ⟨q2, rfl, hJ⟩; have H4 := Lib.hid (Jp.back H3.out.disk0 ((Ext.refl _).alloc _) hJ (fun k hk => .inl hk)); clear hJ)
        | ((with_reducible refine (opens_good (H6.out.disk0.news ((Ext.refl _).alloc _)) up6 O7.out (ro_one (heap_alloc_new _ _)) (new_row _ _ _) (by omega)).mono ?_); rintro x w7 ⟨q3, rfl, hJ⟩; have H7 := Lib.hid (Jp.back H6.out.disk0 ((Ext.refl _).alloc _) hJ (fun k hk => .inl hk)); clear hJ))
    | (go_at_call 15; first
        | ((with_reducible refine (append_j H1.out (U1.out H1.out.ok) (by decide) A2.out).mono ?_); rintro x w2 ⟨rfl, hJ⟩; have H2 := Lib.hid hJ; clear hJ)
        | ((with_reducible refine (append_j H2.out (U2.out H2.out.ok) (by decide) A3.out).mono ?_); rintro x w3 ⟨rfl, hJ⟩; have H3 := Lib.hid hJ; clear hJ)
        | ((with_reducible refine (append_j H5.out (U5.out H5.out.ok) (by decide) A6.out).mono ?_); rintro x w6 ⟨rfl, hJ⟩; have H6 := Lib.hid hJ; clear hJ)
        | ((with_reducible refine (append_j (H7.out.ext Hx8.out) (U7.out H7.out.ok) (by rw [hz1]; have := HM1.out; omega) A8.out).mono ?_); rintro x w8 ⟨rfl, hJ⟩; have H8 := Lib.hid hJ; clear hJ)
        | ((with_reducible refine (append_j (H8.out.ext Hx9.out) (U7.out H7.out.ok) (by rw [hz2]; have := HM2.out; omega) A9.out).mono ?_); rintro x w9 ⟨rfl, hJ⟩; have H9 := Lib.hid hJ; clear hJ))
    | (go_at_call 17; (with_reducible refine (compact_j H4.out (U4.out H4.out.ok) V4.out (by decide) A5.out).mono ?_); rintro x w5 ⟨rfl, hJ⟩; have H5 := Lib.hid hJ; clear hJ)
    | (go_at_call 19; (with_reducible refine (jsize_is H3.out s3).mono ?_); rintro x wS ⟨rfl, rfl⟩)
    | (go_at_call 20; (with_reducible refine (jentries_is H3.out k3).mono ?_); rintro x wS ⟨rfl, rfl⟩)
    | (refine make_bytes_w (by rfl) (.const _) (.const _) rfl (n := m1) rfl rfl (by have := HM1.out; omega) (by have := HM1.out; omega) (by have := HM1.out; omega) (fun w1 hz hx hlt => ?_); have hcv8 := hz.string; rw [hz1] at hcv8; have Hx8 := Lib.hid hx; clear hz hx)
    | (refine make_bytes_w (by rfl) (.const _) (.const _) rfl (n := m2) rfl rfl (by have := HM2.out; omega) (by have := HM2.out; omega) (by have := HM2.out; omega) (fun w1 hz hx hlt => ?_); have hcv9 := hz.string; rw [hz2] at hcv9; have Hx9 := Lib.hid hx; clear hz hx)
    | (rw [hcv8]) | (rw [hcv9]))
  go_ret
  exact ⟨rfl, old_all H9.out.fr⟩
end Go.Proofs.YtajclcbclbppiaaGreat
end
