/-
  The chapter's journal ('kept'): texts compared, a disk opened to what is expected.
-/
import Derived.Test.YtajclcbclbppiaaJnLc
import Derived.Test.YtajclcbclbppiaaJnCo
namespace Go.Proofs.Ytajclcbclbppiaa
open Go.RowKit Go.Maps Go.Dk Go.Rc Go.Jn Go.Shelf
variable {W w w' : World} {O O' F : Nat → Prop} {p q : Nat} {S S' S2 : St} {J J' : Jo}
theorem take_eq_all {A B : List (List UInt8)} {k : Nat} (ha : A.length = k) (hb : B.length = k) (h : A.take k = B.take k) : A = B := by
  rwa [List.take_of_length_le (by omega), List.take_of_length_le (by omega)] at h
set_option maxHeartbeats 1000000 in
set_option maxRecDepth 100000 in
theorem texts_any {ao bo : Option Addr} {n m ca cb : Nat} {A B : List (List UInt8)} (ha : Ro w ao n A) (hb : Ro w bo m B) (hn : n ≤ 16777216) (hm : m ≤ 16777216) :
    Calls Try.prog 41 #[.slice ao n ca, .slice bo m cb] w fun e w' => e = .returned (.bool (decide (A = B))) ∧ Ext w w' := by
  have hla := ha.1
  have hlb := hb.1
  by_cases hnm : n = m
  · subst hnm
    have Ha := Lib.hid ha
    have Hb := Lib.hid hb
    clear ha hb
    go_enter Try.func41, Try.ntmps41
    go_wp2
    go_loopw [5] (fun i wr => (∃ k : Nat, k ≤ n ∧ i = .int .i64 k ∧ A.take k = B.take k) ∧ Ext w wr) (fun i _ => n - (intOf i).toNat)
    case atStart => exact ⟨⟨0, by omega, rfl, by simp⟩, Ext.refl _⟩
    case round =>
      obtain ⟨⟨k, hk, rfl, ht⟩, hE⟩ := hrel
      by_cases hlt : k < n
      · obtain ⟨g, o, rfl, hg, hx1⟩ := (Ha.out.ext hE).2.resolve_left (by omega)
        obtain ⟨f, r, rfl, hf, hx3⟩ := (Hb.out.ext hE).2.resolve_left (by omega)
        have c0 := hx1 k hlt
        have d0 := hx3 k hlt
        obtain ⟨a, hA⟩ : ∃ a, A[k]? = some a := ⟨_, List.getElem?_eq_getElem (by omega)⟩
        obtain ⟨b, hB⟩ : ∃ b, B[k]? = some b := ⟨_, List.getElem?_eq_getElem (by omega)⟩
        rw [show (Se A)[k]? = some (.string (ofL a)) by simp [Se, hA]] at c0
        rw [show (Se B)[k]? = some (.string (ofL b)) by simp [Se, hB]] at d0
        have HT := Lib.hid ht
        have HA := Lib.hid hA
        have HB := Lib.hid hB
        clear hx1 hx3 ht hA hB
        by_cases hab : a = b
        · subst hab
          go_wp2
          go_quiet (fail)
          all_goals
            go_wp2
            exact ⟨⟨⟨k + 1, by omega, by go_num, by rw [List.take_add_one, List.take_add_one, HT.out, HA.out, HB.out]⟩, hE.drewN _⟩, by simp [intOf]; omega⟩
        · have hne : decide (A = B) = false := decide_eq_false (fun e => hab (by
            have h1 := HA.out
            rw [e, HB.out] at h1
            exact (Option.some.inj h1).symm))
          have HN := Lib.hid hne
          have hab2 : (a == b) = false := beq_false_of_ne hab
          clear hne
          go_wp2
          go_quiet (fail)
          all_goals
            go_wp2
            go_ret
            rw [HN.out]
            exact ⟨rfl, hE.drewN _⟩
      · obtain rfl : k = n := by omega
        have hyes : decide (A = B) = true := decide_eq_true (take_eq_all hla hlb ht)
        have HY := Lib.hid hyes
        clear hyes ht
        go_wp2
        go_ret
        rw [HY.out]
        exact ⟨rfl, hE⟩
  · have hne : decide (A = B) = false := decide_eq_false (fun e => hnm (by rw [← hla, ← hlb, e]))
    have hnm' : ¬ (n : Int) = (m : Int) := by omega
    rw [hne]
    clear ha hb hne
    go_enter Try.func41, Try.ntmps41
    go_wp2
    go_ret
    exact ⟨rfl, Ext.refl _⟩
theorem Jp.disk0 (h : Jp W O p q S J w) : Dp W O p S w := by
  obtain ⟨β, h1, _, h4, _⟩ := h.d
  exact ⟨β, h1, h.fr, fun k hk => h4 k (.inl hk), h.under⟩
theorem Dp.less (h : Dp W O p S w) (hO : ∀ k, O' k → O k) : Dp W O' p S w := by
  obtain ⟨β, h1, h3, h4, h7⟩ := h
  exact ⟨β, h1, h3.mono (fun k _ hk ho => hk (hO k ho)), fun k hk => h4 k (hO k hk), fun k hk => h7 k (hO k hk)⟩
theorem Jp.back {V : World} (h : Dp W O p S w) (hx : Ext w V) (h' : Jp V O' p q S' J w') (hO : ∀ k, O k → O' k) : Jp W O p q S' J w' :=
  ⟨h'.d.less (fun k hk => hk.imp (hO k) (fun h => h)), h'.j, fun ho => h'.out (hO q ho), (h.fr.trans (Fr.of_ext (F := fun _ => False) hx) (fun _ _ hf => hf.elim)).trans h'.fr (fun k _ hk ho => hk (hO k ho)), h.under⟩
/-- Open, where it leads to a journal: its row is new. -/
theorem open_new (h : Dp W O p S w) (hup : S.down = false) {snap : List UInt8} {l : List (List UInt8)} (hR : open_ S = ⟨S2, some J, snap, l, 0⟩) :
    Calls Try.prog 9 #[.pointer (some ⟨p, 0, none⟩)] w fun x w' => ∃ q ao n cap, x = .returned (.tuple #[.pointer (some ⟨q, 0, none⟩), .string (ofL snap), .slice ao n cap, .int .i64 0]) ∧ n ≤ cap ∧ Ro w' ao n l ∧ Jp w' (WithRow O ao) p q S2 J w' ∧ Fr (fun k => ¬ O k) W w' ∧ w.heap.size ≤ q ∧ ∀ g, ob ao = some g → w.heap.size ≤ g := by
  have C := open_up h hup
  rw [hR] at C
  refine C.mono fun x w' hx => ?_
  rcases hx with ⟨h0, _⟩ | ⟨J1, q, ao, n, cap, hJ1, h1, _, h3, h4, h5, h6, h7⟩
  · cases h0
  · obtain rfl : J = J1 := Option.some.inj hJ1
    exact ⟨q, ao, n, cap, h1, h3, h4, h5, h6, h7⟩
/-- Open, where it leads to a journal. -/
theorem open_good (h : Dp W O p S w) (hup : S.down = false) {snap : List UInt8} {l : List (List UInt8)} (hR : open_ S = ⟨S2, some J, snap, l, 0⟩) :
    Calls Try.prog 9 #[.pointer (some ⟨p, 0, none⟩)] w fun x w' => ∃ q ao n cap, x = .returned (.tuple #[.pointer (some ⟨q, 0, none⟩), .string (ofL snap), .slice ao n cap, .int .i64 0]) ∧ n ≤ cap ∧ Ro w' ao n l ∧ Jp w' (WithRow O ao) p q S2 J w' ∧ Fr (fun k => ¬ O k) W w' ∧ w.heap.size ≤ q :=
  (open_new h hup hR).mono fun _ _ ⟨q, ao, n, cap, h1, h2, h3, h4, h5, h6, _⟩ => ⟨q, ao, n, cap, h1, h2, h3, h4, h5, h6⟩
/-- Open, where it leads to none. -/
theorem open_bad (h : Dp W O p S w) {e : Int} (hR : open_ S = ⟨S2, none, [], [], e⟩) :
    Calls Try.prog 9 #[.pointer (some ⟨p, 0, none⟩)] w fun x w' => x = .returned (.tuple #[.pointer none, .string (ofL []), .slice none 0 0, .int .i64 e]) ∧ Dp W O p S2 w' := by
  have C : Calls Try.prog 9 #[.pointer (some ⟨p, 0, none⟩)] w (OpenTo W O p (open_ S) w) := by
    cases hup : S.down
    · exact open_up h hup
    · exact open_down h hup
  rw [hR] at C
  refine C.mono fun x w' hx => ?_
  rcases hx with ⟨_, h1, h2⟩ | ⟨J1, q, ao, n, cap, hJ1, _⟩
  · exact ⟨h1, h2⟩
  · cases hJ1
theorem Jp.out_row {ao : Option Addr} (h : Jp w' (WithRow O ao) p q S J w') (hf : Fr (fun k => ¬ O k) W w') (hu : Under O W) : Jp W O p q S J w' :=
  ⟨h.d.less (fun _ hk => hk.imp .inl (fun h => h)), h.j, fun ho => h.out (.inl ho), hf, hu⟩
set_option maxHeartbeats 1000000 in
set_option maxRecDepth 100000 in
/-- A disk opened to just this. -/
theorem opens_good (h : Dp W O p S w) (hup : S.down = false) {snap : List UInt8} {l : List (List UInt8)} (hR : open_ S = ⟨S2, some J, snap, l, 0⟩) {bo : Option Addr} {m bc : Nat} (hE : Ro w bo m l) (hb : ∀ g, ob bo = some g → O g) (hm : m ≤ 16777216) :
    Calls Try.prog 21 #[.pointer (some ⟨p, 0, none⟩), .string (ofL snap), .slice bo m bc] w fun x w' => ∃ q, x = .returned (.tuple #[.pointer (some ⟨q, 0, none⟩), .bool true]) ∧ Jp W O p q S2 J w' := by
  have C := Lib.hid (open_good h.now hup hR)
  have HE := Lib.hid hE
  have HB := Lib.hid hb
  have H := Lib.hid h
  clear h hR hE hb hup
  go_enter Try.func21, Try.ntmps21
  go_wp2_with (first
    | (go_at_call 9; (with_reducible refine C.out.mono ?_); rintro x w1 ⟨q, ao, n, cap, rfl, hnc, hro, hJp, hFr, hq⟩; have HO := Lib.hid hro; have HJ := Lib.hid hJp; have HF := Lib.hid hFr; have HE1 := Lib.hid (HE.out.fr hFr (fun g hg h => h (HB.out g hg))); have hnm : n ≤ 16777216 := (by have h1 := hro.1; have h2 := HE.out.1; omega); clear hro hJp hFr)
    | (go_at_call 41; (with_reducible refine (texts_any HO.out HE1.out hnm hm).mono ?_); rintro x w2 ⟨rfl, hx2⟩; have HX2 := Lib.hid hx2; clear hx2))
  go_ret2
  exact ⟨q, by simp, Jp.since H.out.fr H.out.under ((HJ.out.out_row HF.out H.out.now.under).ext HX2.out)⟩
end Go.Proofs.Ytajclcbclbppiaa
