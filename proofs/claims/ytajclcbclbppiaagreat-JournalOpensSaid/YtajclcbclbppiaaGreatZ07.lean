/-
  Layings of maps.Keys, slices.Sorted and slices.Sort at this program (written by the kit's lay-plain.mjs; numbers of this seat).
  The walk of Files: the numbers of all files, sorted, in a row that is new.
  The walk of Crash.
  The walks of Loose, Fail and New.
-/
import Derived.Shelf.SlIterI.Nil
import Derived.Shelf.SortM.Plain
import Derived.Shelf.SortM.SortNone
import Derived.Test.YtajclcbclbppiaaGreatProg
import Derived.Test.YtajclcbclbppiaaGreatZ06
import Derived.BigRegion
import Derived.Deep.DeepCutAuto
import Derived.Deep.RegionLaw
import Derived.Handy
section
namespace Go.Proofs
open Go.Shelf
def YtajclcbclbppiaaGreat.keysA_ren : Go.Shelf.Ren := ⟨fun | 7 => 64 | 10 => 82 | n => n, fun | 23 => 52 | 26 => 3 | 3 => 60 | 28 => 99 | 0 => 0 | 27 => 98 | 33 => 108 | 4 => 4 | n => n, fun | n => n⟩
theorem YtajclcbclbppiaaGreat.keysA : Go.Proofs.SlLaysZI.n7 Tryz.prog YtajclcbclbppiaaGreat.keysA_ren := {
  mixed := by kernel_rfl
  f7 := ⟨Tryz.f64.name, by decide, Tryz.func64.trans (congrArg some (by kernel_rfl))⟩
  f10 := ⟨Tryz.f82.name, by decide, Tryz.func82.trans (congrArg some (by kernel_rfl))⟩
  t0 := Tryz.underlying0
  a0 := Tryz.isAgg0
  z0 := Tryz.sizeOf0
  v0 := Tryz.zeroValue0
  t4 := Tryz.underlying4
  a4 := Tryz.isAgg4
  z4 := Tryz.sizeOf4
  v4 := Tryz.zeroValue4
  t23 := Tryz.underlying52
  a23 := Tryz.isAgg52
  z23 := Tryz.sizeOf52
  v23 := Tryz.zeroValue52
  t26 := Tryz.underlying3
  a26 := Tryz.isAgg3
  z26 := Tryz.sizeOf3
  v26 := Tryz.zeroValue3
  t27 := Tryz.underlying98
  a27 := Tryz.isAgg98
  z27 := Tryz.sizeOf98
  v27 := Tryz.zeroValue98
  t28 := Tryz.underlying99
  a28 := Tryz.isAgg99
  z28 := Tryz.sizeOf99
  v28 := Tryz.zeroValue99
  t33 := Tryz.underlying108
  a33 := Tryz.isAgg108
  z33 := Tryz.sizeOf108
  v33 := Tryz.zeroValue108 }
def YtajclcbclbppiaaGreat.sortedA_ren : Go.Shelf.Ren := ⟨fun | 6 => 63 | 8 => 80 | 9 => 81 | 11 => 88 | 13 => 90 | 12 => 89 | 23 => 103 | 24 => 104 | 14 => 94 | 15 => 95 | 16 => 96 | 17 => 97 | 18 => 98 | 19 => 99 | 20 => 100 | 21 => 101 | 22 => 102 | 25 => 107 | 26 => 108 | 27 => 109 | 28 => 110 | 29 => 111 | 30 => 112 | 31 => 113 | n => n, fun | 26 => 3 | 28 => 99 | 24 => 57 | 0 => 0 | 3 => 3 | 37 => 118 | 48 => 113 | 50 => 106 | 4 => 4 | 40 => 123 | 39 => 122 | 45 => 128 | 5 => 5 | 9 => 9 | 51 => 134 | 55 => 138 | 57 => 140 | 58 => 141 | 33 => 108 | n => n, fun | n => n⟩
theorem YtajclcbclbppiaaGreat.sortedA : Go.Proofs.SlLaysZI.n6 Tryz.prog YtajclcbclbppiaaGreat.sortedA_ren := {
  mixed := by kernel_rfl
  f6 := ⟨Tryz.f63.name, by decide, Tryz.func63.trans (congrArg some (by kernel_rfl))⟩
  f8 := ⟨Tryz.f80.name, by decide, Tryz.func80.trans (congrArg some (by kernel_rfl))⟩
  f11 := ⟨Tryz.f88.name, by decide, Tryz.func88.trans (congrArg some (by kernel_rfl))⟩
  t0 := Tryz.underlying0
  a0 := Tryz.isAgg0
  z0 := Tryz.sizeOf0
  v0 := Tryz.zeroValue0
  t24 := Tryz.underlying57
  a24 := Tryz.isAgg57
  z24 := Tryz.sizeOf57
  v24 := Tryz.zeroValue57
  t26 := Tryz.underlying3
  a26 := Tryz.isAgg3
  z26 := Tryz.sizeOf3
  v26 := Tryz.zeroValue3
  t28 := Tryz.underlying99
  a28 := Tryz.isAgg99
  z28 := Tryz.sizeOf99
  v28 := Tryz.zeroValue99
  i26 := by kernel_rfl }
def YtajclcbclbppiaaGreat.sortA_ren : Go.Shelf.Ren := ⟨fun | 5 => 81 | 8 => 90 | 7 => 89 | 19 => 103 | 20 => 104 | 10 => 94 | 11 => 95 | 12 => 96 | 13 => 97 | 14 => 98 | 15 => 99 | 16 => 100 | 17 => 101 | 18 => 102 | 30 => 107 | 31 => 108 | 32 => 109 | 33 => 110 | 34 => 111 | 35 => 112 | 40 => 113 | n => n, fun | 23 => 57 | 25 => 3 | 3 => 3 | 32 => 118 | 22 => 57 | 0 => 0 | 44 => 113 | 46 => 106 | 4 => 4 | 36 => 123 | 35 => 122 | 41 => 128 | 5 => 5 | 9 => 9 | 53 => 134 | 57 => 138 | 63 => 140 | 64 => 141 | n => n, fun | n => n⟩
theorem YtajclcbclbppiaaGreat.sortA : Go.Proofs.SlLaysM.n5 Tryz.prog YtajclcbclbppiaaGreat.sortA_ren := {
  mixed := by kernel_rfl
  f5 := ⟨Tryz.f81.name, by decide, Tryz.func81.trans (congrArg some (by kernel_rfl))⟩
  f7 := ⟨Tryz.f89.name, by decide, Tryz.func89.trans (congrArg some (by kernel_rfl))⟩
  f8 := Tryz.func90.trans (congrArg some (by kernel_rfl))
  f10 := ⟨Tryz.f94.name, by decide, Tryz.func94.trans (congrArg some (by kernel_rfl))⟩
  f11 := ⟨Tryz.f95.name, by decide, Tryz.func95.trans (congrArg some (by kernel_rfl))⟩
  f12 := ⟨Tryz.f96.name, by decide, Tryz.func96.trans (congrArg some (by kernel_rfl))⟩
  f13 := ⟨Tryz.f97.name, by decide, Tryz.func97.trans (congrArg some (by kernel_rfl))⟩
  f14 := ⟨Tryz.f98.name, by decide, Tryz.func98.trans (congrArg some (by kernel_rfl))⟩
  f15 := ⟨Tryz.f99.name, by decide, Tryz.func99.trans (congrArg some (by kernel_rfl))⟩
  f16 := ⟨Tryz.f100.name, by decide, Tryz.func100.trans (congrArg some (by kernel_rfl))⟩
  f17 := ⟨Tryz.f101.name, by decide, Tryz.func101.trans (congrArg some (by kernel_rfl))⟩
  f18 := ⟨Tryz.f102.name, by decide, Tryz.func102.trans (congrArg some (by kernel_rfl))⟩
  f19 := Tryz.func103.trans (congrArg some (by kernel_rfl))
  f20 := Tryz.func104.trans (congrArg some (by kernel_rfl))
  f30 := ⟨Tryz.f107.name, by decide, Tryz.func107.trans (congrArg some (by kernel_rfl))⟩
  f31 := Tryz.func108.trans (congrArg some (by kernel_rfl))
  f32 := Tryz.func109.trans (congrArg some (by kernel_rfl))
  f33 := ⟨Tryz.f110.name, by decide, Tryz.func110.trans (congrArg some (by kernel_rfl))⟩
  f34 := ⟨Tryz.f111.name, by decide, Tryz.func111.trans (congrArg some (by kernel_rfl))⟩
  f35 := ⟨Tryz.f112.name, by decide, Tryz.func112.trans (congrArg some (by kernel_rfl))⟩
  f40 := ⟨Tryz.f113.name, by decide, Tryz.func113.trans (congrArg some (by kernel_rfl))⟩
  t0 := Tryz.underlying0
  a0 := Tryz.isAgg0
  z0 := Tryz.sizeOf0
  v0 := Tryz.zeroValue0
  t3 := Tryz.underlying3
  a3 := Tryz.isAgg3
  z3 := Tryz.sizeOf3
  v3 := Tryz.zeroValue3
  t4 := Tryz.underlying4
  a4 := Tryz.isAgg4
  z4 := Tryz.sizeOf4
  v4 := Tryz.zeroValue4
  t5 := Tryz.underlying5
  a5 := Tryz.isAgg5
  z5 := Tryz.sizeOf5
  v5 := Tryz.zeroValue5
  t9 := Tryz.underlying9
  a9 := Tryz.isAgg9
  z9 := Tryz.sizeOf9
  v9 := Tryz.zeroValue9
  t22 := Tryz.underlying57
  a22 := Tryz.isAgg57
  z22 := Tryz.sizeOf57
  v22 := Tryz.zeroValue57
  t23 := Tryz.underlying57
  a23 := Tryz.isAgg57
  z23 := Tryz.sizeOf57
  v23 := Tryz.zeroValue57
  t25 := Tryz.underlying3
  a25 := Tryz.isAgg3
  z25 := Tryz.sizeOf3
  v25 := Tryz.zeroValue3
  t32 := Tryz.underlying118
  a32 := Tryz.isAgg118
  z32 := Tryz.sizeOf118
  v32 := Tryz.zeroValue118
  t35 := Tryz.underlying122
  a35 := Tryz.isAgg122
  z35 := Tryz.sizeOf122
  v35 := Tryz.zeroValue122
  t36 := Tryz.underlying123
  a36 := Tryz.isAgg123
  z36 := Tryz.sizeOf123
  v36 := Tryz.zeroValue123
  t41 := Tryz.underlying128
  a41 := Tryz.isAgg128
  z41 := Tryz.sizeOf128
  v41 := Tryz.zeroValue128
  t44 := Tryz.underlying113
  a44 := Tryz.isAgg113
  z44 := Tryz.sizeOf113
  v44 := Tryz.zeroValue113
  t46 := Tryz.underlying106
  a46 := Tryz.isAgg106
  z46 := Tryz.sizeOf106
  v46 := Tryz.zeroValue106
  t53 := Tryz.underlying134
  a53 := Tryz.isAgg134
  z53 := Tryz.sizeOf134
  v53 := Tryz.zeroValue134
  t57 := Tryz.underlying138
  a57 := Tryz.isAgg138
  z57 := Tryz.sizeOf138
  v57 := Tryz.zeroValue138
  t63 := Tryz.underlying140
  a63 := Tryz.isAgg140
  z63 := Tryz.sizeOf140
  v63 := Tryz.zeroValue140
  t64 := Tryz.underlying141
  a64 := Tryz.isAgg141
  z64 := Tryz.sizeOf141
  v64 := Tryz.zeroValue141 }
end Go.Proofs
end
section
namespace Go.Dk
open Go.Maps
/-- Numbers, as values. -/
def Nums (l : List Int) : List Value := l.map (.int .i64)
theorem Nums_length (l : List Int) : (Nums l).length = l.length := List.length_map _
theorem Nums_one (l : List Int) : ∀ v ∈ Nums l, v.oneCell' = true := by
  intro v hv
  obtain ⟨x, _, rfl⟩ := List.mem_map.1 hv
  rfl
/-- Sorted, what rises stays. -/
theorem sorted_names {l : List Fl} (hr : Rise l) {ss : List Int} (h : ss.Perm (l.map (·.n))) : ss.mergeSort (fun x y => decide (x ≤ y)) = l.map (·.n) := by
  have h1 : (ss.mergeSort (fun x y => decide (x ≤ y))).Pairwise (fun a b => decide (a ≤ b) = true) := List.pairwise_mergeSort (by intro a b c h1 h2; simp at h1 h2 ⊢; omega) (by intro a b; simp; omega) ss
  have h2 : (l.map (·.n)).Pairwise (fun a b => decide (a ≤ b) = true) := List.pairwise_map.2 (by
    refine List.Pairwise.imp ?_ hr
    intro a b h
    have : a.n < b.n := h
    simp
    omega)
  exact List.Perm.eq_of_pairwise (fun a b _ _ h1 h2 => by simp at h1 h2; omega) h1 h2 ((List.mergeSort_perm ss _).trans h)
end Go.Dk
namespace Go.Proofs.YtajclcbclbppiaaGreat
open Go.RowKit Go.Maps Go.Dk Go.Sort Go.Shelf
variable {w w' : World} {β : Roles} {p : Nat} {S S' : St}
/-- slices.Sort's two contracts, at the fence that asks nothing. -/
theorem sortsA (m : Nat) : AnyZI.SortsIn Tryz.prog sortedA_ren Fence.wide m :=
  ⟨fun blk off cap ss W hH hblk hsz => callsIn_wide.2 (AnyM.slices_Sort_int sortA blk off cap ss W hH hblk hsz),
   fun p cap W => callsIn_wide.2 (AnyM.slices_Sort_int_none sortA p cap W)⟩
theorem keys_sorted {H : Type} (b nn : Nat) (D0 : DataW H) (R : Value → Option (DataW H × List MemPlace)) (w : World) (hown : w.ownsMap Tryz.prog 3 R b nn D0) (hmax : Maps.size D0 ≤ maxLen) (hbytes : Maps.size D0 * 8 ≤ 140737488355328) :
    (∀ mb W, CallsIn Fence.wide 5 Tryz.prog 64 #[.map mb] W fun e w' => e = .returned (.func (.func 82) #[] #[.pointer (some ⟨W.heap.size, 0, none⟩)]) ∧ w' = W.alloc (.cells #[.map mb] 52)) ∧
    CallsIn Fence.wide 5 Tryz.prog 63 #[.func (.func 82) #[] #[.pointer (some ⟨w.heap.size, 0, none⟩)]] (w.alloc (.cells #[.map (some b)] 52)) fun e w' => ∃ (v : Value) (ss : List Int), e = .returned v ∧ ss.Perm (intKeys D0) ∧
      w'.ownsRow (w.heap.size + 1) 3 1 v ss.length ((ss.mergeSort (fun x y => decide (x ≤ y))).map encZ) ∧ (v = .slice none 0 0 ↔ ss = []) ∧ Below (w.heap.size + 1) (w.alloc (.cells #[.map (some b)] 52)) w' := by
  refine ⟨fun mb W => AnyZI.keys_in keysA Fence.wide 5 trivial rfl mb W, ?_⟩
  have hbl := hown.lt
  have hseq : SeqGives Fence.wide 2 Tryz.prog 82 #[.pointer (some ⟨w.heap.size, 0, none⟩)] encZ (fun ss => ss.Perm (intKeys D0)) (Maps.size D0) (w.alloc (.cells #[.map (some b)] 52)) :=
    AnyZI.keys_gives (ρ := keysA_ren) { keysA with } Fence.wide _ trivial rfl (by omega) w.heap.size b nn D0 _ (by simp) (by simp) (by
      obtain ⟨es, clock, hb, Ft, hs, hD⟩ := hown
      exact ⟨es, clock, (Below.heap_alloc _ _ b hbl).trans hb, Ft, hs, hD⟩)
  have cS := AnyZI.sorted_in sortedA Fence.wide 5 trivial trivial trivial trivial rfl (by omega) (sortsA _) (enters_of Tryz.func81 (by kernel_rfl) rfl) 82 #[.pointer (some ⟨w.heap.size, 0, none⟩)] trivial (enters_of Tryz.func82 (by kernel_rfl) rfl) _ _ hmax hbytes _ hseq
  simp only [World.size_alloc] at cS
  exact cS
set_option maxHeartbeats 1000000 in
set_option maxRecDepth 100000 in
theorem files_is (h : DiskAt w β p S) :
    Calls Tryz.prog 34 #[.pointer (some ⟨p, 0, none⟩)] w fun e w' => ∃ ao cap, e = .returned (.slice ao S.fs.length cap) ∧ Rw w' 1 ao S.fs.length cap (Nums (S.fs.map (·.n))) ∧ Ext w w' ∧ ∀ g, ob ao = some g → w.heap.size ≤ g := by
  have N := Lib.hid (none_no h)
  have H := Lib.hid h
  obtain ⟨m, fp, hm, h2, hown, _⟩ := h.head
  have h1 := h2.c0
  have hmany := h.ok.many
  have hrise := h.ok.rise
  have hsz := dat_size (β := β) S.fs
  have KS := keys_sorted m S.fs.length (dat β S.fs) rf w hown (by unfold maxLen; omega) (by omega)
  rw [dat_keys] at KS
  obtain ⟨hK, hS⟩ := KS
  have cK := Lib.hid hK
  have cS := Lib.hid hS
  clear h h2 hown hK hS hsz
  refine (callsIn_wide (n := 6)).1 ?_
  have hfK : Fence.wide.fn 64 := trivial
  have hfS : Fence.wide.fn 63 := trivial
  have hfN : Fence.wide.fn 62 := trivial
  refine callsIn_of_wp Tryz.func34 rfl trivial ?_ rfl
  simp only [Tryz.ntmps34, List.size_toArray, List.length_cons, List.length_nil, Nat.reduceAdd, Nat.reduceSub, Array.replicate_succ, Array.replicate_zero, List.push_toArray, List.append_toArray, List.nil_append, List.cons_append]
  gi_wp2_with (first
    | (gi_at_call 62; refine (callsIn_wide.2 N.out).mono ?_; rintro e w' ⟨rfl, rfl⟩)
    | (gi_at_call 64; refine (cK.out _ _).mono ?_; rintro e w' ⟨rfl, rfl⟩)
    | (gi_at_call 63; refine cS.out.mono ?_; rintro e w' ⟨v, ss, rfl, hS, hrow, hnil, hb⟩))
  go_ret
  rw [sorted_names hrise hS] at hrow
  have hl : ss.length = S.fs.length := by rw [hS.length_eq, List.length_map]
  rw [hl] at hrow
  have hE : Ext w w' := ((Ext.refl w).alloc _).trans (hb.mono (by simp))
  have hrow' := hrow
  rcases hrow.2 with ⟨rfl, hz⟩ | ⟨g, cap, cur, rfl, hg, _⟩
  · rw [hz]
    have e0 : S.fs = [] := List.length_eq_zero_iff.1 hz
    refine ⟨none, 0, rfl, ?_, hE, fun g hg => by cases hg⟩
    rw [e0]
    exact Rw.nil w' 1
  · refine ⟨_, cap, rfl, Rw.owns hrow', hE, fun k hk => ?_⟩
    obtain rfl : g = k := by simpa [ob] using hk
    omega
end Go.Proofs.YtajclcbclbppiaaGreat
end
section
namespace Go.Dk
open Go.RowKit Go.Maps
/-- The first of the files have crashed. -/
def cutTo : List Int → Nat → List Fl → List Fl
  | _, _, [] => []
  | _, 0, f :: r => f :: r
  | ks, k + 1, f :: r => cut (ks.headD 0) f :: cutTo ks.tail k r
theorem cutTo_zero (ks : List Int) (l : List Fl) : cutTo ks 0 l = l := by cases l <;> rfl
theorem cutTo_full (ks : List Int) (l : List Fl) : cutTo ks l.length l = cuts ks l := by
  induction l generalizing ks with
  | nil => rfl
  | cons f r ih => simp only [List.length_cons, cutTo, cuts, ih]
theorem cutTo_names (ks : List Int) (k : Nat) (l : List Fl) : (cutTo ks k l).map (·.n) = l.map (·.n) := by
  induction l generalizing ks k with
  | nil => simp [cutTo]
  | cons f r ih =>
    cases k with
    | zero => rfl
    | succ k => simp only [cutTo, List.map_cons, ih]; rfl
theorem cutTo_at (ks : List Int) (k : Nat) (l : List Fl) : (cutTo ks k l)[k]? = l[k]? := by
  induction l generalizing ks k with
  | nil => simp [cutTo]
  | cons f r ih =>
    cases k with
    | zero => rfl
    | succ k => simpa [cutTo] using ih ks.tail k
theorem cutTo_next (ks : List Int) (k : Nat) (l : List Fl) (hr : Rise l) (f : Fl) (h : l[k]? = some f) : upd (cut (ks.getD k 0) f) (cutTo ks k l) = cutTo ks (k + 1) l := by
  induction l generalizing ks k with
  | nil => simp at h
  | cons g r ih =>
    obtain ⟨h1, h2⟩ := List.pairwise_cons.1 hr
    cases k with
    | zero =>
      obtain rfl : g = f := by simpa using h
      have e : upd (cut (ks.getD 0 0) g) (g :: r) = cut (ks.getD 0 0) g :: upd (cut (ks.getD 0 0) g) r := by
        show (if g.n = (cut (ks.getD 0 0) g).n then _ else g) :: upd _ r = _
        rw [if_pos (show g.n = (cut (ks.getD 0 0) g).n from rfl)]
      show upd _ (g :: r) = cut (ks.headD 0) g :: cutTo ks.tail 0 r
      rw [e, upd_miss _ (fun k hk => by have := h1 k hk; show k.n ≠ g.n; omega), cutTo_zero]
      cases ks <;> rfl
    | succ k =>
      have hf : r[k]? = some f := by simpa using h
      have hm := List.mem_of_getElem? hf
      have e : ks.getD (k + 1) 0 = ks.tail.getD k 0 := by cases ks <;> simp
      show (if (cut (ks.headD 0) g).n = (cut (ks.getD (k + 1) 0) f).n then _ else cut (ks.headD 0) g) :: upd (cut (ks.getD (k + 1) 0) f) (cutTo ks.tail k r) = cut (ks.headD 0) g :: cutTo ks.tail (k + 1) r
      rw [if_neg (by have := h1 f hm; show ¬ g.n = f.n; omega), e, ih ks.tail k h2 hf]
end Go.Dk
namespace Go.Proofs.YtajclcbclbppiaaGreat
open Go.RowKit Go.Maps Go.Dk
variable {w w' : World} {β : Roles} {p : Nat} {S S' : St}
theorem setCell_size (w : World) (q : Addr) (u : Value) : (w.setCell q u).heap.size = w.heap.size := by
  show (w.heap.modify _ _).size = _
  rw [Array.size_modify]
theorem setCell_other (w : World) (q : Addr) (u : Value) {j : Nat} (hj : j ≠ q.block) : (w.setCell q u).heap[j]? = w.heap[j]? := by
  show (w.heap.modify _ _)[j]? = _
  rw [Array.getElem?_modify, if_neg (fun h => hj h.symm)]
/-- The file blocks. -/
def Fbs (β : Roles) : Nat → Prop := fun k => ∃ n, β (4, n) = some k
theorem cut_length (keep : Int) (f : Fl) (hs : f.s ≤ f.b.length) : ((cut keep f).b.length : Int) = f.s + min (max keep 0) ((f.b.length : Int) - f.s) := by
  unfold cut
  simp only [List.length_take]
  omega
theorem FileAt.cutAt {fb cap : Nat} {ao : Option Addr} {f : Fl} (h : FileAt w fb ao cap f) (keep : Int) (hs : f.s ≤ f.b.length) (hg : ∀ g, ob ao = some g → g ≠ fb) {F : World} {L : Nat} (hL : (cut keep f).b.length = L)
    (hF : F.heap = ((w.setCell ⟨fb, 0, none⟩ (.slice ao L cap)).setCell ⟨fb, 1, none⟩ (.int .i64 L)).heap) : FileAt F fb ao cap (cut keep f) := by
  subst hL
  have hl := (cut_s keep f hs).2
  have hle := h.row.le
  refine FileAt.kept (w := (w.setCell ⟨fb, 0, none⟩ (.slice ao (cut keep f).b.length cap)).setCell ⟨fb, 1, none⟩ (.int .i64 (cut keep f).b.length)) ?_ (by rw [hF]; exact Nat.le_refl _) (by rw [hF]) (fun _ _ => by rw [hF])
  have k : ((w.setCell ⟨fb, 0, none⟩ (.slice ao (cut keep f).b.length cap)).setCell ⟨fb, 1, none⟩ (.int .i64 ((cut keep f).b.length : Int))).heap.size = w.heap.size := by
    rw [setCell_size, setCell_size]
  have kb : ∀ j, j ≠ fb → ((w.setCell ⟨fb, 0, none⟩ (.slice ao (cut keep f).b.length cap)).setCell ⟨fb, 1, none⟩ (.int .i64 ((cut keep f).b.length : Int))).heap[j]? = w.heap[j]? := fun j hj => by
    rw [setCell_other _ _ _ hj, setCell_other _ _ _ hj]
  refine ⟨?_, ?_, ?_, ?_, ?_⟩
  · rw [World.cell?_setCell_other _ _ _ _ (by simp), World.cell?_setCell_same _ _ _ h.c0]
  · rw [(cut_s keep f hs).1]
    exact World.cell?_setCell_same _ _ _ ((World.cell?_setCell_other _ _ _ _ (by simp)).trans h.c1)
  · rw [World.frozen?_setCell, World.frozen?_setCell]; exact h.f0
  · rw [World.frozen?_setCell, World.frozen?_setCell]; exact h.f1
  · refine Rw.kept ?_ (by rw [k]; exact Nat.le_refl _) (fun j hj => kb j (hg j hj))
    have e : U8 (cut keep f).b = (U8 f.b).take ((cut keep f).b.length * 1) := by
      have : (cut keep f).b = f.b.take (cut keep f).b.length := by
        unfold cut; simp only [List.length_take]; rw [List.take_eq_take_iff]; omega
      conv => lhs; rw [this]
      rw [U8, List.map_take, Nat.mul_one]; rfl
    by_cases h0 : 0 < f.b.length
    · rw [e]
      exact h.row.front _ _ (by omega) (Nat.le_refl _) hl h0
    · have e1 : f.b = [] := List.length_eq_zero_iff.1 (by omega)
      have e2 : (cut keep f).b = [] := List.length_eq_zero_iff.1 (by omega)
      have := h.row
      rw [e1] at this
      rw [e2]
      exact this
/-- One round of Crash. -/
theorem DiskAt.cutRound {ks : List Int} {k : Nat} {f : Fl} (h : DiskAt w β p { S with fs := cutTo ks k S.fs }) (hrise : Rise S.fs) (hf : S.fs[k]? = some f) {fb cap : Nat} {ao : Option Addr} (k1 : β (4, f.n) = some fb) (k2 : ∀ g, ob ao = some g → β (5, f.n) = some g) (k3 : FileAt w fb ao cap f)
    {F : World} {L : Nat} (hL : (cut (ks.getD k 0) f).b.length = L) (hF : F.heap = ((w.setCell ⟨fb, 0, none⟩ (.slice ao L cap)).setCell ⟨fb, 1, none⟩ (.int .i64 L)).heap) (hfr : Fr (fun k => k = fb) w F) :
    DiskAt F β p { S with fs := cutTo ks (k + 1) S.fs } := by
  have hfm : f ∈ cutTo ks k S.fs := List.mem_of_getElem? ((cutTo_at ks k S.fs).trans hf)
  have hs : f.s ≤ f.b.length := h.ok.sure f hfm
  have hc := cut_s (ks.getD k 0) f hs
  have hA := k3.cutAt (ks.getD k 0) hs (fun g hg e => by have := h.inj _ _ _ (k2 g hg) (e ▸ k1); simp at this) hL hF
  have hok : Ok { S with fs := upd (cut (ks.getD k 0) f) (cutTo ks k S.fs) } := Ok.upd (S := { S with fs := cutTo ks k S.fs }) h.ok hfm rfl (by omega) (by have : (tot (cutTo ks k S.fs) : Int) ≤ S.cap := h.ok.tot; show (tot (cutTo ks k S.fs) : Int) + _ ≤ S.cap + _; omega)
  obtain ⟨β', hD, _, hβ⟩ := DiskAt.turnFile (S := { S with fs := cutTo ks k S.fs }) h (f' := cut (ks.getD k 0) f) rfl k1 (hfr.mono (fun _ _ e => .inl e)) (fun g hg => .inl (k2 g hg)) hA hok
  obtain rfl := hβ k2
  have e := cutTo_next ks k S.fs hrise f hf
  rw [← e]
  exact hD
set_option maxHeartbeats 1000000 in
set_option maxRecDepth 100000 in
theorem crash_is (h : DiskAt w β p S) (hd : S.down = false) {G : Nat → Prop} {ko : Option Addr} {kc : Nat} {ks : List Int} (hk : ks.length ≤ 16777216) (hkeep : KeepAt w G ko ks) (hG : ∀ g, G g → g < w.heap.size ∧ g ≠ p ∧ ¬ Fbs β g) :
    Calls Tryz.prog 60 #[.pointer (some ⟨p, 0, none⟩), .slice ko ks.length kc] w fun e w' => e = .returned (.int .i64 0) ∧ DiskAt w' β p (S.crash ks) ∧ Fr (fun k => k = p ∨ Fbs β k) w w' := by
  have N := Lib.hid (state_up h hd)
  have FI := Lib.hid (files_is h)
  have H := Lib.hid h
  have HK := Lib.hid hkeep
  have HG := Lib.hid hG
  have hrise := h.ok.rise
  have hmany := h.ok.many
  clear h hkeep hG
  go_enter Tryz.func60, Tryz.ntmps60
  go_wp2_with (first | (go_at_call 59; with_reducible refine N.out.mono ?_; rintro e w1 ⟨rfl, rfl⟩) | (go_at_call 34; with_reducible refine FI.out.mono ?_; rintro e w1 ⟨ao, cap, rfl, hrow, hE, hnew⟩) | go_in)
  have HR := Lib.hid hrow
  have HE := Lib.hid hE
  have HN := Lib.hid hnew
  clear hrow hE hnew
  go_loopw [18] (fun i wr => ∃ k : Nat, k ≤ S.fs.length ∧ i = .int .i64 k ∧ DiskAt wr β p { S with fs := cutTo ks k S.fs } ∧ Fr (Fbs β) w1 wr) (fun i _ => S.fs.length - (intOf i).toNat)
  case atStart =>
    refine ⟨0, by omega, rfl, ?_, Fr.refl _ _⟩
    rw [cutTo_zero]
    exact H.out.ext HE.out
  case round =>
    obtain ⟨k, hkl, rfl, hDk, hFr⟩ := hrel
    by_cases hlt : k < S.fs.length
    · obtain ⟨f, hf⟩ : ∃ f, S.fs[k]? = some f := ⟨_, List.getElem?_eq_getElem hlt⟩
      have hfm : f ∈ cutTo ks k S.fs := List.mem_of_getElem? ((cutTo_at ks k S.fs).trans hf)
      obtain ⟨fb, ao', cap', k1, k2, k3⟩ := hDk.file f hfm
      obtain ⟨m, fp, hm, h2, _, _⟩ := hDk.head
      have hget : get (cutTo ks k S.fs) f.n = some f := get_of_mem hDk.ok.rise hfm
      have hlk := look_one hDk (ok_wf hDk.ok hfm) hget hm k1
      have c0 := h2.c0
      obtain ⟨gr, rfl, hgr, hr1, _⟩ := (HR.out.fr hFr (fun g hg ⟨n, hF⟩ => by have := H.out.lt _ _ hF; have := HN.out g hg; omega)).row (by omega)
      have hcell := hr1 k (by omega)
      rw [show (Nums (S.fs.map (·.n)))[k]? = some (.int .i64 f.n) by simp [Nums, hf]] at hcell
      have b0 := k3.c0
      have b1 := k3.c1
      have bf0 := k3.f0
      have bf1 := k3.f1
      have hs := hDk.ok.sure f hfm
      have hbl : (f.b.length : Int) ≤ 1048576 := by
        have h4 : S.cap ≤ 1048576 := hDk.ok.cap1
        have h5 := tot_mem hfm
        have h6 : (tot (cutTo ks k S.fs) : Int) ≤ S.cap := hDk.ok.tot
        omega
      have hcl := cut_length (ks.getD k 0) f hs
      have hcl2 := (cut_s (ks.getD k 0) f hs).2
      have hcap := k3.row.le
      obtain ⟨L, hL⟩ : ∃ L, (cut (ks.getD k 0) f).b.length = L := ⟨_, rfl⟩
      rw [hL] at hcl hcl2
      have hLc : L ≤ cap' := by omega
      have HD := Lib.hid hDk
      have HF := Lib.hid hFr
      have K3 := Lib.hid k3
      clear hDk hFr k3 hr1 h2
      by_cases hkk : k < ks.length
      · rcases HK.out with h0 | ⟨g, o, rfl, hGg, hcs⟩
        · rw [h0] at hkk; exact absurd hkk (by simp)
        · have hck := hcs k hkk
          obtain ⟨hg1, hg2, hg3⟩ := HG.out g hGg
          rw [← Ext.cell HE.out (by exact hg1), ← HF.out.cell (by have := HE.out.size; exact Nat.lt_of_lt_of_le hg1 this) hg3] at hck
          obtain ⟨kv, hkv⟩ : ∃ kv, ks[k] = kv := ⟨_, rfl⟩
          rw [hkv] at hck
          clear hcs
          have e0 : ks.getD k 0 = kv := by rw [List.getD_eq_getElem?_getD, List.getElem?_eq_getElem hkk, hkv]; rfl
          rw [e0] at hcl
          have hw : IntKind.i64.wrap (↑f.s + min (max kv 0) (↑f.b.length - ↑f.s)) = (L : Int) := by rw [← hcl]; exact IntWalk.i64_in _ ⟨by omega, by omega⟩
          clear hcl
          go_wp2
          go_region
          all_goals
            go_wp2
            go_region
            all_goals
              go_wp2
              have hfr : Fr (fun k => k = fb) wr ((wr.setCell ⟨fb, 0, none⟩ (.slice ao' L cap')).setCell ⟨fb, 1, none⟩ (.int .i64 L)) := ((Fr.refl _ wr).setCell (p := ⟨fb, 0, none⟩) (by intro _; rfl) _).setCell (p := ⟨fb, 1, none⟩) (by intro _; rfl) _
              exact ⟨⟨k + 1, by omega, by go_num, HD.out.cutRound hrise hf k1 k2 K3.out hL rfl hfr.drew.drew, HF.out.trans hfr.drew.drew (fun i _ e => ⟨f.n, by rw [e]; exact k1⟩)⟩, by simp [intOf]; omega⟩
      · have e0 : ks.getD k 0 = 0 := by rw [List.getD_eq_getElem?_getD, List.getElem?_eq_none (by omega)]; rfl
        rw [e0] at hcl
        have hw : IntKind.i64.wrap (↑f.s) = (L : Int) := by
          rw [show (L : Int) = f.s by omega]; exact IntWalk.i64_in _ ⟨by omega, by omega⟩
        clear hcl
        go_wp2
        go_region
        all_goals
          go_wp2
          have hfr : Fr (fun k => k = fb) wr ((wr.setCell ⟨fb, 0, none⟩ (.slice ao' L cap')).setCell ⟨fb, 1, none⟩ (.int .i64 L)) := ((Fr.refl _ wr).setCell (p := ⟨fb, 0, none⟩) (by intro _; rfl) _).setCell (p := ⟨fb, 1, none⟩) (by intro _; rfl) _
          exact ⟨⟨k + 1, by omega, by go_num, HD.out.cutRound hrise hf k1 k2 K3.out hL rfl hfr.drew, HF.out.trans hfr.drew (fun i _ e => ⟨f.n, by rw [e]; exact k1⟩)⟩, by simp [intOf]; omega⟩
    · have : k = S.fs.length := by omega
      subst this
      rw [cutTo_full] at hDk
      obtain ⟨m, fp, hm, h2, _, h5⟩ := hDk.head
      have c2 := h2.c2
      have c4 := h2.c4
      have f2 := h2.f2
      have f4 := h2.f4
      have hplt := h2.lt
      have HD := Lib.hid hDk
      have H2 := Lib.hid h2
      have HF := Lib.hid hFr
      clear hDk h2 h5 hFr
      go_wp2
      go_ret
      have hh := (H2.out.set2 true).set4 none
      have hf : Fr (fun k => k = p) wr ((wr.setCell ⟨p, 2, none⟩ (.bool true)).setCell ⟨p, 4, none⟩ (.pointer none)) := ((Fr.refl _ wr).setCell (p := ⟨p, 2, none⟩) (by intro _; rfl) _).setCell (p := ⟨p, 4, none⟩) (by intro _; rfl) _
      refine ⟨rfl, HD.out.turnHead (S' := S.crash ks) hf rfl (H.out.ok.crash ks) hm hh rfl, ?_⟩
      exact ((Fr.of_ext HE.out : Fr (fun k => k = p ∨ Fbs β k) w w1).trans HF.out (fun _ _ h => .inr h)).trans hf (fun _ _ h => .inl h)
end Go.Proofs.YtajclcbclbppiaaGreat
end
section
namespace Go.Dk
/-- How many bytes of each file are not sure. -/
def loose (l : List Fl) : List Int := l.map (fun f => (f.b.length : Int) - f.s)
theorem loose_snoc {l : List Fl} {k : Nat} {f : Fl} (h : l[k]? = some f) : loose (l.take (k + 1)) = loose (l.take k) ++ [(f.b.length : Int) - f.s] := by
  obtain ⟨hk, rfl⟩ := List.getElem?_eq_some_iff.1 h
  rw [List.take_succ_eq_append_getElem hk, loose, List.map_append]
  rfl
end Go.Dk
namespace Go.Proofs.YtajclcbclbppiaaGreat
open Go.RowKit Go.Maps Go.Dk
variable {w w' : World} {β : Roles} {p : Nat} {S S' : St}
theorem infoInt : (Tryz.prog.info? 3).map (fun i => (i.zero, i.size, i.bytes)) = some (some (.int .i64 0), 1, 8) := by kernel_rfl
/-- append of numbers. -/
theorem append_ints {w : World} {ao : Option Addr} {n cap : Nat} {L : List Int} (h : Rw w 1 ao n cap (Nums L)) {x : Value} {m : Nat} (N : List Int) (hs : Src Tryz.prog 1 57 x m (Nums N) w) (hl : n + m ≤ 16777216) (ty : TypeId) :
    ∃ ao' cap' w', (Builtin.append_ #[57, 57] ty #[.slice ao n cap, x]).run Tryz.prog w = .ok (.slice ao' (n + m) cap') w' ∧
      (Rw w' 1 ao' (n + m) cap' (Nums (L ++ N)) ∧ Fr (fun k => ob ao = some k) w w' ∧ (ao' = ao ∨ ∃ g, ao' = some ⟨g, 0, none⟩ ∧ w.heap.size ≤ g)) := by
  obtain ⟨ti, hti, hz, hsz, hby⟩ := info_parts infoInt
  obtain ⟨ao', cap', w', h1, h2, h3⟩ := h.append 57 57 ty 3 ti _ 8 Tryz.underlying57 hti hz hsz hby rfl x m _ hs (by unfold maxLen; omega) (by omega)
  refine ⟨ao', cap', w', h1, ?_, h3⟩
  have e : Nums (L ++ N) = Nums L ++ Nums N := by simp [Nums]
  rw [e]
  exact h2
theorem new_int_at {W : World} (y : Int) (g : Nat) (hb : W.heap[g]? = some (.cells #[.int .i64 y] 3)) : Src Tryz.prog 1 57 (.slice (some ⟨g, 0, none⟩) 1 1) 1 (Nums [y]) W := by
  refine Src.ofSlice _ (e' := 3) Tryz.underlying57 _ 1 1 _ (by simp [Nums]) (fun j u hj => ?_) (Nums_one _)
  have : (⟨g, 0, none⟩ : Addr).add j = ⟨g, j, none⟩ := by unfold Addr.add; split <;> simp_all
  rw [this]
  simp only [World.cell?, hb]
  simpa [Nums] using hj
theorem new_int (W : World) (y : Int) (g : Nat) (hg : g = W.heap.size) : Src Tryz.prog 1 57 (.slice (some ⟨g, 0, none⟩) 1 1) 1 (Nums [y]) (W.alloc (.cells #[.int .i64 y] 3)) := by
  subst hg; exact new_int_at y _ (heap_alloc_new W _)
theorem new_int_drew (W : World) (y : Int) (g : Nat) (hg : g = W.heap.size) : Src Tryz.prog 1 57 (.slice (some ⟨g, 0, none⟩) 1 1) 1 (Nums [y]) (W.alloc (.cells #[.int .i64 y] 3)).drew := by
  subst hg; exact new_int_at y _ (heap_alloc_new W _)
set_option maxHeartbeats 1000000 in
set_option maxRecDepth 100000 in
theorem loose_is (h : DiskAt w β p S) :
    Calls Tryz.prog 44 #[.pointer (some ⟨p, 0, none⟩)] w fun e w' => ∃ ao cap, e = .returned (.slice ao S.fs.length cap) ∧ Rw w' 1 ao S.fs.length cap (Nums (loose S.fs)) ∧ Ext w w' := by
  have FI := Lib.hid (files_is h)
  have H := Lib.hid h
  have hmany := h.ok.many
  clear h
  go_enter Tryz.func44, Tryz.ntmps44
  go_wp2_with (first | (go_at_call 34; with_reducible refine FI.out.mono ?_; rintro e w1 ⟨ao, cap, rfl, hrow, hE, hnew⟩) | go_in)
  have HR := Lib.hid hrow
  have HE := Lib.hid hE
  clear hrow hE hnew
  go_loopw [3, 10] (fun v i wr => ∃ (k : Nat) (a1 : Option Addr) (c1 : Nat), k ≤ S.fs.length ∧ i = .int .i64 k ∧ v = .slice a1 k c1 ∧ Rw wr 1 a1 k c1 (Nums (loose (S.fs.take k))) ∧ (∀ g, ob a1 = some g → w1.heap.size ≤ g) ∧ Ext w1 wr) (fun _ i _ => S.fs.length - (intOf i).toNat)
  case atStart => exact ⟨0, none, 0, by omega, rfl, rfl, Rw.nil w1 1, ⟨fun g hg => (by cases hg), Ext.refl _⟩⟩
  case round =>
    obtain ⟨k, a1, c1, hkl, rfl, rfl, hr, hf1, hEr⟩ := hrel
    have Hr := Lib.hid hr
    have Hf1 := Lib.hid hf1
    clear hr hf1
    by_cases hlt : k < S.fs.length
    · obtain ⟨f, hf⟩ : ∃ f, S.fs[k]? = some f := ⟨_, List.getElem?_eq_getElem hlt⟩
      have hfm : f ∈ S.fs := List.mem_of_getElem? hf
      have hDk := (H.out.ext HE.out).ext hEr
      obtain ⟨fb, ao', cap', k1, k2, k3⟩ := hDk.file f hfm
      obtain ⟨m, fp, hm, h2, _, _⟩ := hDk.head
      have hget : get S.fs f.n = some f := get_of_mem hDk.ok.rise hfm
      have hlk := look_one hDk (ok_wf hDk.ok hfm) hget hm k1
      have c0 := h2.c0
      obtain ⟨gr, rfl, hgr, hr1, _⟩ := (HR.out.ext hEr).row (by omega)
      have hcell := hr1 k (by omega)
      rw [show (Nums (S.fs.map (·.n)))[k]? = some (.int .i64 f.n) by simp [Nums, hf]] at hcell
      have b0 := k3.c0
      have b1 := k3.c1
      have hs := hDk.ok.sure f hfm
      have hbl : (f.b.length : Int) ≤ 1048576 := by
        have h4 := hDk.ok.cap1
        have h5 := tot_mem hfm
        have h6 := hDk.ok.tot
        omega
      have hsn := Lib.hid (loose_snoc hf)
      clear hDk k3 hr1 h2 hget hf hfm
      go_wp2
      go_region_law (refine step_append_rw rfl (.tmp 20) (.tmp 31) _ _ rfl rfl rfl (append_ints (Hr.out.ext (by repeat (first | exact Ext.refl _ | apply Ext.alloc | apply Ext.drew))) _ (by first | exact new_int_drew _ _ _ rfl | exact new_int _ _ _ rfl) (by omega) _) (fun a2 c2 w2 hR => ?_); obtain ⟨hr1, hr2, hr3⟩ := hR)
      all_goals
        go_wp2
        rw [IntWalk.i64_in _ ⟨by omega, by omega⟩, ← hsn.out] at hr1
        refine ⟨⟨k + 1, a2, c2, by omega, by go_num, rfl, hr1, fun g hg => ?_, Fr.grownFrom hr2 (hEr.alloc _).drew (fun k hk => Hf1.out k hk)⟩, by simp [intOf]; omega⟩
        rcases hr3 with rfl | ⟨j, rfl, hj⟩
        · exact Hf1.out g hg
        · obtain rfl : j = g := by simpa [ob] using hg
          have := hEr.size
          simp at hj
          omega
    · obtain rfl : k = S.fs.length := by omega
      rw [List.take_length] at Hr
      go_wp2
      go_ret
      exact ⟨a1, c1, rfl, Hr.out, HE.out.trans hEr⟩
theorem KeepAt.of_row {G : Nat → Prop} {ao : Option Addr} {cap : Nat} {ks : List Int} (h : Rw w 1 ao ks.length cap (Nums ks)) (hG : ∀ g, ob ao = some g → G g) : KeepAt w G ao ks := by
  by_cases h0 : 0 < ks.length
  · obtain ⟨g, rfl, _, h2, _⟩ := h.row h0
    refine .inr ⟨g, 0, rfl, hG g rfl, fun j hj => ?_⟩
    rw [Nat.zero_add, h2 j (by omega), Nums, List.getElem?_map, List.getElem?_eq_getElem hj]
    rfl
  · exact .inl (List.length_eq_zero_iff.1 (by omega))
theorem KeepAt.src {G : Nat → Prop} {a : Addr} {kc : Nat} {ks : List Int} (h : KeepAt w G (some a) ks) : Src Tryz.prog 1 57 (.slice (some a) ks.length kc) ks.length (Nums ks) w := by
  refine Src.ofSlice _ (e' := 3) Tryz.underlying57 _ _ _ _ (by rw [Nums_length, Nat.mul_one]) (fun j u hj => ?_) (Nums_one _)
  have hjl : j < ks.length := by have := (List.getElem?_eq_some_iff.1 hj).1; rwa [Nums_length] at this
  rcases h with rfl | ⟨g, o, e, _, hc⟩
  · simp at hjl
  · cases e
    have : (⟨g, o, none⟩ : Addr).add j = ⟨g, o + j, none⟩ := by unfold Addr.add; split <;> simp_all
    rw [this, hc j hjl, ← hj, Nums, List.getElem?_map, List.getElem?_eq_getElem hjl]
    rfl
theorem KeepAt.ext' {G : Nat → Prop} {ko : Option Addr} {ks : List Int} (h : KeepAt w G ko ks) (hG : ∀ g, G g → g < w.heap.size) (hx : Ext w w') : KeepAt w' G ko ks := h.kept (fun g hg => Below.block hx g (hG g hg))
theorem row_empty (w : World) (t : TypeId) : Rw (w.alloc (.cells #[] t)) 1 (some ⟨w.heap.size, 0, none⟩) 0 0 (Nums []) :=
  ⟨rfl, Nat.le_refl _, by decide, .inr ⟨_, rfl, by simp, fun j hj => by omega, fun j hj => by omega⟩⟩
/-- A failure is set. -/
theorem DiskAt.setFail (h : DiskAt w β p S) {n : Int} {ks : List Int} (hn0 : 0 ≤ n) (hn1 : n ≤ 9223372036854775807) (hk : ks.length ≤ 16777216) {b : Nat} {ko : Option Addr} {kc : Nat} (hfr : Fr (fun k => k = p) w w') (hb : w.heap.size ≤ b ∧ b < w'.heap.size)
    {m : Nat} (hm : β (1, 0) = some m) (hh : HeadAt w' p m S.cap S.down S.starts (some ⟨b, 0, none⟩)) (c0 : w'.cell? ⟨b, 0, none⟩ = some (.int .i64 n)) (f0 : w'.frozen? ⟨b, 0, none⟩ = false) (c1 : w'.cell? ⟨b, 1, none⟩ = some (.slice ko ks.length kc))
    (hK : KeepAt w' (fun g => w.heap.size ≤ g ∧ g < w'.heap.size ∧ g ≠ b) ko ks) : ∃ β', DiskAt w' β' p { S with fail := some (n, ks) } ∧ Tn (Bl β) (Bl β') w w' := by
  classical
  obtain ⟨kb, hkb, hkk⟩ : ∃ kb : Option Nat, (∀ k, kb = some k → w.heap.size ≤ k ∧ k < w'.heap.size ∧ k ≠ b) ∧ KeepAt w' (fun g => kb = some g) ko ks := by
    rcases hK with rfl | ⟨g, o, rfl, hg, hc⟩
    · exact ⟨none, fun _ e => (by cases e), .inl rfl⟩
    · exact ⟨some g, fun k e => (by cases e; exact hg), .inr ⟨g, o, rfl, rfl, hc⟩⟩
  have hβ : ∀ r, r ≠ (2, 0) → r ≠ (3, 0) → (fun r => if r = (2, 0) then some b else if r = (3, 0) then kb else β r) r = β r := fun r h1 h2 => by simp [h1, h2]
  have hβ2 : (fun r => if r = (2, 0) then some b else if r = (3, 0) then kb else β r) (2, 0) = some b := if_pos rfl
  have hβ3 : (fun r => if r = (2, 0) then some b else if r = (3, 0) then kb else β r) (3, 0) = kb := by simp
  obtain ⟨m', fp, h1, h2, h3, _⟩ := h.head
  obtain rfl : m' = m := Option.some.inj (h1.symm.trans hm)
  have hbk : ∀ r k, r ≠ (0, 0) → β r = some k → w'.heap[k]? = w.heap[k]? := fun r k hr hk => hfr.block k (h.lt r k hk) (fun e => hr (h.inj _ _ _ hk (e ▸ h.p0)))
  refine ⟨fun r => if r = (2, 0) then some b else if r = (3, 0) then kb else β r, ⟨h.ok.withFail (fun l ks' e => by cases e; exact ⟨hn0, hn1, hk⟩), fun r s k hr hs => ?_, fun r k hr => ?_, (hβ _ (by simp) (by simp)).trans h.p0, ⟨m', some ⟨b, 0, none⟩, (hβ _ (by simp) (by simp)).trans h1, hh, ?_, ⟨b, ko, kc, rfl, hβ2, c0, f0, c1, ?_⟩⟩, fun f hf => ?_⟩, ⟨hfr.mono (fun k _ e => ⟨_, e ▸ h.p0⟩), fun k ⟨r, hr⟩ => ?_⟩⟩
  · by_cases r2 : r = (2, 0)
    · by_cases s2 : s = (2, 0)
      · rw [r2, s2]
      · by_cases s3 : s = (3, 0)
        · simp only [r2, s3, if_true] at hr hs
          simp at hs
          exact absurd (Option.some.inj hr) (fun e => (hkb k hs).2.2 e.symm)
        · simp only [r2, s2, s3, if_true, if_false] at hr hs
          have := h.lt _ _ hs
          have := Option.some.inj hr
          omega
    · by_cases r3 : r = (3, 0)
      · by_cases s2 : s = (2, 0)
        · simp only [r3, s2, if_true] at hr hs
          simp at hr
          exact absurd (Option.some.inj hs) (fun e => (hkb k hr).2.2 e.symm)
        · by_cases s3 : s = (3, 0)
          · rw [r3, s3]
          · simp only [r3, s2, s3, if_true, if_false] at hr hs
            simp at hr
            have := h.lt _ _ hs
            have := (hkb k hr).1
            omega
      · by_cases s2 : s = (2, 0)
        · simp only [r2, r3, s2, if_true, if_false] at hr hs
          have := h.lt _ _ hr
          have := Option.some.inj hs
          omega
        · by_cases s3 : s = (3, 0)
          · simp only [r2, r3, s3, if_true, if_false] at hr hs
            simp at hs
            have := h.lt _ _ hr
            have := (hkb k hs).1
            omega
          · simp only [r2, r3, s2, s3, if_false] at hr hs
            exact h.inj _ _ _ hr hs
  · by_cases r2 : r = (2, 0)
    · simp only [r2, if_true] at hr
      cases hr
      exact hb.2
    · by_cases r3 : r = (3, 0)
      · simp only [r3, if_true] at hr
        simp at hr
        exact (hkb k hr).2.1
      · simp only [r2, r3, if_false] at hr
        exact Nat.lt_of_lt_of_le (h.lt r k hr) hfr.size
  · show w'.ownsMap _ _ _ _ S.fs.length (dat _ S.fs)
    rw [← dat_congr (β := β) (l := S.fs) rfl (fun g _ => by simp [bn])]
    exact ownsMap_block h3 (hbk _ _ (by simp) h1)
  · rw [hβ3]; exact hkk
  · obtain ⟨fb2, ao2, cap2, k1, k2, k3⟩ := h.file f hf
    exact ⟨fb2, ao2, cap2, (hβ _ (by simp) (by simp)).trans k1, fun i hi => (hβ _ (by simp) (by simp)).trans (k2 i hi), k3.kept hfr.size (hbk _ _ (by simp) k1) (fun i hi => hbk _ _ (by simp) (k2 i hi))⟩
  · by_cases r2 : r = (2, 0)
    · simp only [r2, if_true] at hr
      cases hr
      exact .inr hb.1
    · by_cases r3 : r = (3, 0)
      · simp only [r3, if_true] at hr
        simp at hr
        exact .inr (hkb k hr).1
      · simp only [r2, r3, if_false] at hr
        exact .inl ⟨r, hr⟩
set_option maxRecDepth 100000 in
theorem new_no (w : World) {c : Int} (hc : ¬ (0 ≤ c ∧ c ≤ 1048576)) :
    Calls Tryz.prog 5 #[.int .i64 c] w fun e w' => e = .returned (.tuple #[.pointer none, .int .i64 2]) ∧ w' = w := by
  go_enter Tryz.func5, Tryz.ntmps5
  go_wp2
  all_goals
    go_ret2
    exact ⟨rfl, rfl⟩
/-- A new disk's roles. -/
def role0 (n : Nat) : Roles := fun r => if r = (0, 0) then some (n + 1) else if r = (1, 0) then some n else none
theorem new_at (w : World) {c : Int} (hc : 0 ≤ c ∧ c ≤ 1048576) (t : TypeId) : DiskAt ((w.alloc (.map #[] 0)).alloc (.cells #[.map (some w.heap.size), .int .i64 c, .bool false, .int .i64 0, .pointer none] t)) (role0 w.heap.size) (w.heap.size + 1) ⟨c, [], false, 0, none⟩ := by
  have hb : ((w.alloc (.map #[] 0)).alloc (.cells #[.map (some w.heap.size), .int .i64 c, .bool false, .int .i64 0, .pointer none] t)).heap[w.heap.size + 1]? = some (.cells #[.map (some w.heap.size), .int .i64 c, .bool false, .int .i64 0, .pointer none] t) := by
    have := heap_alloc_new (w.alloc (.map #[] 0)) (.cells #[.map (some w.heap.size), .int .i64 c, .bool false, .int .i64 0, .pointer none] t)
    rwa [World.size_alloc] at this
  have hcell : ∀ j, ((w.alloc (.map #[] 0)).alloc (.cells #[.map (some w.heap.size), .int .i64 c, .bool false, .int .i64 0, .pointer none] t)).cell? ⟨w.heap.size + 1, j, none⟩ = (#[.map (some w.heap.size), .int .i64 c, .bool false, .int .i64 0, .pointer none] : Array Value)[j]? := fun j => by
    simp only [World.cell?, hb]; simp
  have hfz : ∀ j, ((w.alloc (.map #[] 0)).alloc (.cells #[.map (some w.heap.size), .int .i64 c, .bool false, .int .i64 0, .pointer none] t)).frozen? ⟨w.heap.size + 1, j, none⟩ = false := fun j => by
    simp only [World.frozen?, hb]; simp
  have hm := ownsMap_block (World.ownsMap_made (H := Unit) w Tryz.prog 3 rf) (w' := (w.alloc (.map #[] 0)).alloc (.cells #[.map (some w.heap.size), .int .i64 c, .bool false, .int .i64 0, .pointer none] t)) (Below.heap_alloc _ _ _ (by simp))
  refine ⟨⟨hc.1, hc.2, List.Pairwise.nil, hc.1, fun f hf => (by cases hf), fun f hf => (by cases hf), Nat.zero_le _, fun l ks e => (by cases e)⟩, fun r s k hr hs => ?_, fun r k hr => ?_, if_pos rfl, ⟨w.heap.size, none, by simp [role0], ⟨by simp, hcell 0, hcell 1, hcell 2, hcell 3, hcell 4, hfz 2, hfz 3, hfz 4⟩, hm, rfl⟩, fun f hf => (by cases hf)⟩
  · unfold role0 at hr hs
    split at hr <;> split at hs
    · next h1 h2 => rw [h1, h2]
    · split at hs
      · cases hr; simp at hs
      · cases hs
    · split at hr
      · cases hs; simp at hr
      · cases hr
    · split at hr
      · split at hs
        · next h1 h2 => rw [h1, h2]
        · cases hs
      · cases hr
  · unfold role0 at hr
    split at hr
    · cases hr; simp
    · split at hr
      · cases hr; simp; omega
      · cases hr
theorem role0_new {n k : Nat} (h : Bl (role0 n) k) : n ≤ k := by
  obtain ⟨r, hr⟩ := h
  unfold role0 at hr
  split at hr
  · cases hr; omega
  · split at hr
    · cases hr; omega
    · cases hr
set_option maxRecDepth 100000 in
theorem new_yes (w : World) {c : Int} (hc : 0 ≤ c ∧ c ≤ 1048576) :
    Calls Tryz.prog 5 #[.int .i64 c] w fun e w' => e = .returned (.tuple #[.pointer (some ⟨w.heap.size + 1, 0, none⟩), .int .i64 0]) ∧ DiskAt w' (role0 w.heap.size) (w.heap.size + 1) ⟨c, [], false, 0, none⟩ ∧ Ext w w' := by
  have hmk : (Instr.makeMap 52 none).run Tryz.prog w = .ok (.map (some w.heap.size)) (w.alloc (.map #[] 0)) := rfl
  go_enter Tryz.func5, Tryz.ntmps5
  go_wp2
  all_goals
    go_ret2
    exact ⟨rfl, new_at w hc _, ((Ext.refl w).alloc _).alloc _⟩
end Go.Proofs.YtajclcbclbppiaaGreat
end
