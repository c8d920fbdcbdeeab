/-
  The walk of Free: a loop over the map.
-/
import Derived.Test.YtajclcbclbppiaaDskWk
namespace Go.Dk
open Go.RowKit Go.Maps
/-- The bytes of the files whose numbers are still to come. -/
def rest (left : Lit → Bool) : List Fl → Nat
  | [] => 0
  | f :: r => (if left (.int .i64 f.n) then f.b.length else 0) + rest left r
theorem rest_all {left : Lit → Bool} : ∀ {l : List Fl}, (∀ f ∈ l, left (.int .i64 f.n) = true) → rest left l = tot l
  | [], _ => rfl
  | f :: r, h => by simp only [rest, tot, h f (.head _), if_true, rest_all (fun g hg => h g (.tail _ hg))]
theorem rest_none {left : Lit → Bool} (h : ∀ z, left z = false) : ∀ l : List Fl, rest left l = 0
  | [] => rfl
  | f :: r => by simp [rest, h, rest_none h r]
theorem rest_miss {left : Lit → Bool} {n : Int} : ∀ {l : List Fl}, (∀ f ∈ l, f.n ≠ n) → rest (fun z => left z && !z.sameKey (.int .i64 n)) l = rest left l
  | [], _ => rfl
  | f :: r, h => by
    have h1 := h f (.head _)
    have e : (Lit.int .i64 f.n).sameKey (.int .i64 n) = false := by rw [same_iff]; simpa using h1
    simp only [rest, e, rest_miss (fun g hg => h g (.tail _ hg)), Bool.not_false, Bool.and_true]
theorem rest_le {left : Lit → Bool} : ∀ l : List Fl, rest left l ≤ tot l
  | [] => Nat.le_refl _
  | f :: r => by
    have ih := rest_le (left := left) r
    simp only [rest, tot]
    split <;> omega
theorem rest_strike {left : Lit → Bool} {n : Int} {f : Fl} : ∀ {l : List Fl}, Rise l → get l n = some f → left (.int .i64 n) = true → rest (fun z => left z && !z.sameKey (.int .i64 n)) l + f.b.length = rest left l
  | g :: r, hr, hg, hl => by
    obtain ⟨h1, h2⟩ := List.pairwise_cons.1 hr
    rw [get_cons] at hg
    by_cases hn : g.n = n
    · rw [if_pos hn] at hg
      obtain rfl : g = f := Option.some.inj hg
      subst hn
      have e : (Lit.int .i64 g.n).sameKey (.int .i64 g.n) = true := by rw [same_iff]; simp
      simp only [rest, e, hl, rest_miss (left := left) (n := g.n) (fun k hk => by have := h1 k hk; omega)]
      simp
      omega
    · rw [if_neg hn] at hg
      have e : (Lit.int .i64 g.n).sameKey (.int .i64 n) = false := by rw [same_iff]; simpa using hn
      have ih := rest_strike h2 hg hl
      simp only [rest, e, Bool.not_false, Bool.and_true]
      omega
end Go.Dk
namespace Go.Proofs.Ytajclcbclbppiaa
open Go.RowKit Go.Maps Go.Dk
variable {w w' : World} {β : Roles} {p : Nat} {S S' : St}
theorem inv_rf {v : Value} {y : DataW Unit × List MemPlace} (h : rf v = some y) : ∃ c, v = .pointer c := by
  unfold rf at h
  split at h
  · exact ⟨_, rfl⟩
  · exact ⟨_, rfl⟩
  · cases h
theorem inv_key {key : Value} {kl : Lit} (h : keyOf Try.prog 3 key = some kl) : ∃ x, key = .int .i64 x := by
  obtain ⟨x, h, _⟩ := keyOf_int_inv Try.underlying3 h
  exact ⟨x, h⟩
/-- An entry that has come: which file it is. -/
theorem entry_file {x : Int} {c : Option Addr} {kl : Lit} {y : DataW Unit × List MemPlace} {fs : List Fl} (hk : keyOf Try.prog 3 (.int .i64 x) = some kl) (hv : rf (.pointer c) = some y) (ha : ∀ zd, (dat β fs).atKey kl zd = y.1) :
    ∃ f, kl = .int .i64 x ∧ get fs x = some f ∧ c = some ⟨bn β x, 0, none⟩ := by
  obtain ⟨x', e, rfl, _⟩ := keyOf_int_inv Try.underlying3 hk
  cases e
  have h1 := ha .nil
  have h2 := ha (.lit (.int .i64 (-1)))
  rw [dat_at] at h1 h2
  cases hg : get fs x with
  | none =>
    rw [hg] at h1 h2
    have := h1.trans h2.symm
    cases this
  | some f =>
    rw [hg] at h1
    obtain ⟨y1, y2⟩ := y
    obtain rfl := (show DataW.lit (.int .i64 (bn β x : Nat)) = y1 from h1)
    have := rf_inv hv
    cases this
    exact ⟨f, rfl, rfl, rfl⟩
set_option maxHeartbeats 1000000 in
set_option maxRecDepth 100000 in
theorem free_is (h : DiskAt w β p S) :
    Calls Try.prog 20 #[.pointer (some ⟨p, 0, none⟩)] w fun e w' => e = .returned (.int .i64 (S.cap - tot S.fs)) ∧ Ext w w' := by
  have N := Lib.hid (none_no h)
  obtain ⟨m, fp, hm, h2, hown, _⟩ := h.head
  have h0 := h2.c0
  have h1 := h2.c1
  have hmlt := h.lt _ _ hm
  have H := Lib.hid h
  clear h h2
  go_enter Try.func20, Try.ntmps20
  go_wp2_with (first | (go_at_call 40; with_reducible refine N.out.mono ?_; rintro e w1 ⟨rfl, rfl⟩) | (at_range; refine wpList_range_own _ rfl _ 48 rfl 3 73 keyedInt Try.underlying48 rf m _ _ rfl hown ?_; intro w0 hrg0 hg0 hs0) | go_in)
  go_frame
  go_loopw [3] (fun v wr => ∃ (left : Lit → Bool) (cnt : Nat), wr.ranges Try.prog 3 rf m w.heap.size S.fs.length (dat β S.fs) left cnt ∧ v = .int .i64 (S.cap - tot S.fs + rest left S.fs) ∧ Ext w wr) (fun _ wr => wr.rangeLeft m w.heap.size)
  case atStart =>
    refine ⟨_, _, hrg0, ?_, (Ext.refl w).grown hg0 (by simp)⟩
    rw [rest_all (fun f hf => by rw [dat_has, get_of_mem H.out.ok.rise hf]; rfl)]
    congr 1
    omega
  case round =>
    obtain ⟨left, cnt, hrg, rfl, hE⟩ := hrel
    go_wp2_with (first | (at_next; refine wpList_next_ranges (α := Int) (β := Option Addr) _ rfl _ rfl 3 keyedInt rf (Value.int .i64) Value.pointer (fun key kl hk => inv_key hk) (fun v y hv => inv_rf hv) m w.heap.size _ _ _ _ rfl hrg ?_ ?_) | go_in)
    · intro hc0 hl0
      go_wp2
      go_ret
      refine ⟨?_, hE⟩
      rw [rest_none hl0]
      simp
    · intro x c kl y ps w1 cnt1 hk hlx hv hat hrg1 hlt hg1 hs1 hen
      obtain ⟨f, rfl, hf, rfl⟩ := entry_file (y := (y, ps)) hk hv hat
      have hE1 : Ext w w1 := hE.grown hg1 (by simp)
      obtain ⟨k1, k2⟩ := get_mem hf
      obtain ⟨fb, ao, cap, k3, k4, k5⟩ := (H.out.ext hE1).file f k1
      rw [k2] at k3
      have e : bn β x = fb := by simp [bn, k3]
      have hb0 := k5.c0
      have hst := rest_strike H.out.ok.rise hf hlx
      have hm0 := hrg.left_eq
      have hm1 := hrg1.left_eq
      have hcap := H.out.ok.tot
      have hcap1 := H.out.ok.cap1
      have hcap0 := H.out.ok.cap0
      have hbl : (f.b.length : Int) ≤ 1048576 := by have := tot_mem k1; omega
      have hrl := rest_le (left := left) S.fs
      rw [e] at hen
      rw [e]
      clear hv hat hk k5 hrg hown h0 h1
      go_wp2
      refine ⟨⟨_, cnt1, hrg1, ?_, hE1⟩, by rw [hm0, hm1]; exact hlt⟩
      have e5 : S.cap - tot S.fs + rest left S.fs - f.b.length = S.cap - tot S.fs + rest (fun z => left z && !z.sameKey (.int .i64 x)) S.fs := by omega
      rw [e5]
end Go.Proofs.Ytajclcbclbppiaa
