/-
  The walk of Crash.
-/
import Derived.Test.YtajclcbclbppiaaDskFi
import Derived.Test.YtajclcbclbppiaaDskRd
import Derived.BigRegion
import Derived.Deep.DeepCutAuto
namespace Go.Dk
open Go.RowKit Go.Maps
/-- The first of the files have crashed. -/
def cutTo : List Int → Nat → List Fl → List Fl
  | _, _, [] => []
  | _, 0, f :: r => f :: r
  | ks, k + 1, f :: r => cut (ks.headD 0) f :: cutTo ks.tail k r
theorem cutTo_zero (ks : List Int) (l : List Fl) : cutTo ks 0 l = l := by cases l <;> rfl
theorem cutTo_full (ks : List Int) (l : List Fl) : cutTo ks l.length l = cuts ks l := by
  induction l generalizing ks with
  | nil => rfl
  | cons f r ih => simp only [List.length_cons, cutTo, cuts, ih]
theorem cutTo_names (ks : List Int) (k : Nat) (l : List Fl) : (cutTo ks k l).map (·.n) = l.map (·.n) := by
  induction l generalizing ks k with
  | nil => simp [cutTo]
  | cons f r ih =>
    cases k with
    | zero => rfl
    | succ k => simp only [cutTo, List.map_cons, ih]; rfl
theorem cutTo_at (ks : List Int) (k : Nat) (l : List Fl) : (cutTo ks k l)[k]? = l[k]? := by
  induction l generalizing ks k with
  | nil => simp [cutTo]
  | cons f r ih =>
    cases k with
    | zero => rfl
    | succ k => simpa [cutTo] using ih ks.tail k
theorem cutTo_next (ks : List Int) (k : Nat) (l : List Fl) (hr : Rise l) (f : Fl) (h : l[k]? = some f) : upd (cut (ks.getD k 0) f) (cutTo ks k l) = cutTo ks (k + 1) l := by
  induction l generalizing ks k with
  | nil => simp at h
  | cons g r ih =>
    obtain ⟨h1, h2⟩ := List.pairwise_cons.1 hr
    cases k with
    | zero =>
      obtain rfl : g = f := by simpa using h
      have e : upd (cut (ks.getD 0 0) g) (g :: r) = cut (ks.getD 0 0) g :: upd (cut (ks.getD 0 0) g) r := by
        show (if g.n = (cut (ks.getD 0 0) g).n then _ else g) :: upd _ r = _
        rw [if_pos (show g.n = (cut (ks.getD 0 0) g).n from rfl)]
      show upd _ (g :: r) = cut (ks.headD 0) g :: cutTo ks.tail 0 r
      rw [e, upd_miss _ (fun k hk => by have := h1 k hk; show k.n ≠ g.n; omega), cutTo_zero]
      cases ks <;> rfl
    | succ k =>
      have hf : r[k]? = some f := by simpa using h
      have hm := List.mem_of_getElem? hf
      have e : ks.getD (k + 1) 0 = ks.tail.getD k 0 := by cases ks <;> simp
      show (if (cut (ks.headD 0) g).n = (cut (ks.getD (k + 1) 0) f).n then _ else cut (ks.headD 0) g) :: upd (cut (ks.getD (k + 1) 0) f) (cutTo ks.tail k r) = cut (ks.headD 0) g :: cutTo ks.tail (k + 1) r
      rw [if_neg (by have := h1 f hm; show ¬ g.n = f.n; omega), e, ih ks.tail k h2 hf]
end Go.Dk
namespace Go.Proofs.Ytajclcbclbppiaa
open Go.RowKit Go.Maps Go.Dk
variable {w w' : World} {β : Roles} {p : Nat} {S S' : St}
theorem setCell_size (w : World) (q : Addr) (u : Value) : (w.setCell q u).heap.size = w.heap.size := by
  show (w.heap.modify _ _).size = _
  rw [Array.size_modify]
theorem setCell_other (w : World) (q : Addr) (u : Value) {j : Nat} (hj : j ≠ q.block) : (w.setCell q u).heap[j]? = w.heap[j]? := by
  show (w.heap.modify _ _)[j]? = _
  rw [Array.getElem?_modify, if_neg (fun h => hj h.symm)]
/-- The file blocks. -/
def Fbs (β : Roles) : Nat → Prop := fun k => ∃ n, β (4, n) = some k
theorem cut_length (keep : Int) (f : Fl) (hs : f.s ≤ f.b.length) : ((cut keep f).b.length : Int) = f.s + min (max keep 0) ((f.b.length : Int) - f.s) := by
  unfold cut
  simp only [List.length_take]
  omega
theorem FileAt.cutAt {fb cap : Nat} {ao : Option Addr} {f : Fl} (h : FileAt w fb ao cap f) (keep : Int) (hs : f.s ≤ f.b.length) (hg : ∀ g, ob ao = some g → g ≠ fb) {F : World} {L : Nat} (hL : (cut keep f).b.length = L)
    (hF : F.heap = ((w.setCell ⟨fb, 0, none⟩ (.slice ao L cap)).setCell ⟨fb, 1, none⟩ (.int .i64 L)).heap) : FileAt F fb ao cap (cut keep f) := by
  subst hL
  have hl := (cut_s keep f hs).2
  have hle := h.row.le
  refine FileAt.kept (w := (w.setCell ⟨fb, 0, none⟩ (.slice ao (cut keep f).b.length cap)).setCell ⟨fb, 1, none⟩ (.int .i64 (cut keep f).b.length)) ?_ (by rw [hF]; exact Nat.le_refl _) (by rw [hF]) (fun _ _ => by rw [hF])
  have k : ((w.setCell ⟨fb, 0, none⟩ (.slice ao (cut keep f).b.length cap)).setCell ⟨fb, 1, none⟩ (.int .i64 ((cut keep f).b.length : Int))).heap.size = w.heap.size := by
    rw [setCell_size, setCell_size]
  have kb : ∀ j, j ≠ fb → ((w.setCell ⟨fb, 0, none⟩ (.slice ao (cut keep f).b.length cap)).setCell ⟨fb, 1, none⟩ (.int .i64 ((cut keep f).b.length : Int))).heap[j]? = w.heap[j]? := fun j hj => by
    rw [setCell_other _ _ _ hj, setCell_other _ _ _ hj]
  refine ⟨?_, ?_, ?_, ?_, ?_⟩
  · rw [World.cell?_setCell_other _ _ _ _ (by simp), World.cell?_setCell_same _ _ _ h.c0]
  · rw [(cut_s keep f hs).1]
    exact World.cell?_setCell_same _ _ _ ((World.cell?_setCell_other _ _ _ _ (by simp)).trans h.c1)
  · rw [World.frozen?_setCell, World.frozen?_setCell]; exact h.f0
  · rw [World.frozen?_setCell, World.frozen?_setCell]; exact h.f1
  · refine Rw.kept ?_ (by rw [k]; exact Nat.le_refl _) (fun j hj => kb j (hg j hj))
    have e : U8 (cut keep f).b = (U8 f.b).take ((cut keep f).b.length * 1) := by
      have : (cut keep f).b = f.b.take (cut keep f).b.length := by
        unfold cut; simp only [List.length_take]; rw [List.take_eq_take_iff]; omega
      conv => lhs; rw [this]
      rw [U8, List.map_take, Nat.mul_one]; rfl
    by_cases h0 : 0 < f.b.length
    · rw [e]
      exact h.row.front _ _ (by omega) (Nat.le_refl _) hl h0
    · have e1 : f.b = [] := List.length_eq_zero_iff.1 (by omega)
      have e2 : (cut keep f).b = [] := List.length_eq_zero_iff.1 (by omega)
      have := h.row
      rw [e1] at this
      rw [e2]
      exact this
/-- One round of Crash. -/
theorem DiskAt.cutRound {ks : List Int} {k : Nat} {f : Fl} (h : DiskAt w β p { S with fs := cutTo ks k S.fs }) (hrise : Rise S.fs) (hf : S.fs[k]? = some f) {fb cap : Nat} {ao : Option Addr} (k1 : β (4, f.n) = some fb) (k2 : ∀ g, ob ao = some g → β (5, f.n) = some g) (k3 : FileAt w fb ao cap f)
    {F : World} {L : Nat} (hL : (cut (ks.getD k 0) f).b.length = L) (hF : F.heap = ((w.setCell ⟨fb, 0, none⟩ (.slice ao L cap)).setCell ⟨fb, 1, none⟩ (.int .i64 L)).heap) (hfr : Fr (fun k => k = fb) w F) :
    DiskAt F β p { S with fs := cutTo ks (k + 1) S.fs } := by
  have hfm : f ∈ cutTo ks k S.fs := List.mem_of_getElem? ((cutTo_at ks k S.fs).trans hf)
  have hs : f.s ≤ f.b.length := h.ok.sure f hfm
  have hc := cut_s (ks.getD k 0) f hs
  have hA := k3.cutAt (ks.getD k 0) hs (fun g hg e => by have := h.inj _ _ _ (k2 g hg) (e ▸ k1); simp at this) hL hF
  have hok : Ok { S with fs := upd (cut (ks.getD k 0) f) (cutTo ks k S.fs) } := Ok.upd (S := { S with fs := cutTo ks k S.fs }) h.ok hfm rfl (by omega) (by have : (tot (cutTo ks k S.fs) : Int) ≤ S.cap := h.ok.tot; show (tot (cutTo ks k S.fs) : Int) + _ ≤ S.cap + _; omega)
  obtain ⟨β', hD, _, hβ⟩ := DiskAt.turnFile (S := { S with fs := cutTo ks k S.fs }) h (f' := cut (ks.getD k 0) f) rfl k1 (hfr.mono (fun _ _ e => .inl e)) (fun g hg => .inl (k2 g hg)) hA hok
  obtain rfl := hβ k2
  have e := cutTo_next ks k S.fs hrise f hf
  rw [← e]
  exact hD
set_option maxHeartbeats 1000000 in
set_option maxRecDepth 100000 in
theorem crash_is (h : DiskAt w β p S) (hd : S.down = false) {G : Nat → Prop} {ko : Option Addr} {kc : Nat} {ks : List Int} (hk : ks.length ≤ 16777216) (hkeep : KeepAt w G ko ks) (hG : ∀ g, G g → g < w.heap.size ∧ g ≠ p ∧ ¬ Fbs β g) :
    Calls Try.prog 11 #[.pointer (some ⟨p, 0, none⟩), .slice ko ks.length kc] w fun e w' => e = .returned (.int .i64 0) ∧ DiskAt w' β p (S.crash ks) ∧ Fr (fun k => k = p ∨ Fbs β k) w w' := by
  have N := Lib.hid (state_up h hd)
  have FI := Lib.hid (files_is h)
  have H := Lib.hid h
  have HK := Lib.hid hkeep
  have HG := Lib.hid hG
  have hrise := h.ok.rise
  have hmany := h.ok.many
  clear h hkeep hG
  go_enter Try.func11, Try.ntmps11
  go_wp2_with (first | (go_at_call 33; with_reducible refine N.out.mono ?_; rintro e w1 ⟨rfl, rfl⟩) | (go_at_call 23; with_reducible refine FI.out.mono ?_; rintro e w1 ⟨ao, cap, rfl, hrow, hE, hnew⟩) | go_in)
  have HR := Lib.hid hrow
  have HE := Lib.hid hE
  have HN := Lib.hid hnew
  clear hrow hE hnew
  go_loopw [18] (fun i wr => ∃ k : Nat, k ≤ S.fs.length ∧ i = .int .i64 k ∧ DiskAt wr β p { S with fs := cutTo ks k S.fs } ∧ Fr (Fbs β) w1 wr) (fun i _ => S.fs.length - (intOf i).toNat)
  case atStart =>
    refine ⟨0, by omega, rfl, ?_, Fr.refl _ _⟩
    rw [cutTo_zero]
    exact H.out.ext HE.out
  case round =>
    obtain ⟨k, hkl, rfl, hDk, hFr⟩ := hrel
    by_cases hlt : k < S.fs.length
    · obtain ⟨f, hf⟩ : ∃ f, S.fs[k]? = some f := ⟨_, List.getElem?_eq_getElem hlt⟩
      have hfm : f ∈ cutTo ks k S.fs := List.mem_of_getElem? ((cutTo_at ks k S.fs).trans hf)
      obtain ⟨fb, ao', cap', k1, k2, k3⟩ := hDk.file f hfm
      obtain ⟨m, fp, hm, h2, _, _⟩ := hDk.head
      have hget : get (cutTo ks k S.fs) f.n = some f := get_of_mem hDk.ok.rise hfm
      have hlk := look_one hDk (ok_wf hDk.ok hfm) hget hm k1
      have c0 := h2.c0
      obtain ⟨gr, rfl, hgr, hr1, _⟩ := (HR.out.fr hFr (fun g hg ⟨n, hF⟩ => by have := H.out.lt _ _ hF; have := HN.out g hg; omega)).row (by omega)
      have hcell := hr1 k (by omega)
      rw [show (Nums (S.fs.map (·.n)))[k]? = some (.int .i64 f.n) by simp [Nums, hf]] at hcell
      have b0 := k3.c0
      have b1 := k3.c1
      have bf0 := k3.f0
      have bf1 := k3.f1
      have hs := hDk.ok.sure f hfm
      have hbl : (f.b.length : Int) ≤ 1048576 := by
        have h4 : S.cap ≤ 1048576 := hDk.ok.cap1
        have h5 := tot_mem hfm
        have h6 : (tot (cutTo ks k S.fs) : Int) ≤ S.cap := hDk.ok.tot
        omega
      have hcl := cut_length (ks.getD k 0) f hs
      have hcl2 := (cut_s (ks.getD k 0) f hs).2
      have hcap := k3.row.le
      obtain ⟨L, hL⟩ : ∃ L, (cut (ks.getD k 0) f).b.length = L := ⟨_, rfl⟩
      rw [hL] at hcl hcl2
      have hLc : L ≤ cap' := by omega
      have HD := Lib.hid hDk
      have HF := Lib.hid hFr
      have K3 := Lib.hid k3
      clear hDk hFr k3 hr1 h2
      by_cases hkk : k < ks.length
      · rcases HK.out with h0 | ⟨g, o, rfl, hGg, hcs⟩
        · rw [h0] at hkk; exact absurd hkk (by simp)
        · have hck := hcs k hkk
          obtain ⟨hg1, hg2, hg3⟩ := HG.out g hGg
          rw [← Ext.cell HE.out (by exact hg1), ← HF.out.cell (by have := HE.out.size; exact Nat.lt_of_lt_of_le hg1 this) hg3] at hck
          obtain ⟨kv, hkv⟩ : ∃ kv, ks[k] = kv := ⟨_, rfl⟩
          rw [hkv] at hck
          clear hcs
          have e0 : ks.getD k 0 = kv := by rw [List.getD_eq_getElem?_getD, List.getElem?_eq_getElem hkk, hkv]; rfl
          rw [e0] at hcl
          have hw : IntKind.i64.wrap (↑f.s + min (max kv 0) (↑f.b.length - ↑f.s)) = (L : Int) := by rw [← hcl]; exact IntWalk.i64_in _ ⟨by omega, by omega⟩
          clear hcl
          go_wp2
          go_region
          all_goals
            go_wp2
            go_region
            all_goals
              go_wp2
              have hfr : Fr (fun k => k = fb) wr ((wr.setCell ⟨fb, 0, none⟩ (.slice ao' L cap')).setCell ⟨fb, 1, none⟩ (.int .i64 L)) := ((Fr.refl _ wr).setCell (p := ⟨fb, 0, none⟩) (by intro _; rfl) _).setCell (p := ⟨fb, 1, none⟩) (by intro _; rfl) _
              exact ⟨⟨k + 1, by omega, by go_num, HD.out.cutRound hrise hf k1 k2 K3.out hL rfl hfr.drew.drew, HF.out.trans hfr.drew.drew (fun i _ e => ⟨f.n, by rw [e]; exact k1⟩)⟩, by simp [intOf]; omega⟩
      · have e0 : ks.getD k 0 = 0 := by rw [List.getD_eq_getElem?_getD, List.getElem?_eq_none (by omega)]; rfl
        rw [e0] at hcl
        have hw : IntKind.i64.wrap (↑f.s) = (L : Int) := by
          rw [show (L : Int) = f.s by omega]; exact IntWalk.i64_in _ ⟨by omega, by omega⟩
        clear hcl
        go_wp2
        go_region
        all_goals
          go_wp2
          have hfr : Fr (fun k => k = fb) wr ((wr.setCell ⟨fb, 0, none⟩ (.slice ao' L cap')).setCell ⟨fb, 1, none⟩ (.int .i64 L)) := ((Fr.refl _ wr).setCell (p := ⟨fb, 0, none⟩) (by intro _; rfl) _).setCell (p := ⟨fb, 1, none⟩) (by intro _; rfl) _
          exact ⟨⟨k + 1, by omega, by go_num, HD.out.cutRound hrise hf k1 k2 K3.out hL rfl hfr.drew, HF.out.trans hfr.drew (fun i _ e => ⟨f.n, by rw [e]; exact k1⟩)⟩, by simp [intOf]; omega⟩
    · have : k = S.fs.length := by omega
      subst this
      rw [cutTo_full] at hDk
      obtain ⟨m, fp, hm, h2, _, h5⟩ := hDk.head
      have c2 := h2.c2
      have c4 := h2.c4
      have f2 := h2.f2
      have f4 := h2.f4
      have hplt := h2.lt
      have HD := Lib.hid hDk
      have H2 := Lib.hid h2
      have HF := Lib.hid hFr
      clear hDk h2 h5 hFr
      go_wp2
      go_ret
      have hh := (H2.out.set2 true).set4 none
      have hf : Fr (fun k => k = p) wr ((wr.setCell ⟨p, 2, none⟩ (.bool true)).setCell ⟨p, 4, none⟩ (.pointer none)) := ((Fr.refl _ wr).setCell (p := ⟨p, 2, none⟩) (by intro _; rfl) _).setCell (p := ⟨p, 4, none⟩) (by intro _; rfl) _
      refine ⟨rfl, HD.out.turnHead (S' := S.crash ks) hf rfl (H.out.ok.crash ks) hm hh rfl, ?_⟩
      exact ((Fr.of_ext HE.out : Fr (fun k => k = p ∨ Fbs β k) w w1).trans HF.out (fun _ _ h => .inr h)).trans hf (fun _ _ h => .inl h)
end Go.Proofs.Ytajclcbclbppiaa
