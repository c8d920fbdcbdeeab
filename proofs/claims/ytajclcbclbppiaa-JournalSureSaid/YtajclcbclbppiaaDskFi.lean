/-
  The walk of Files: the numbers of all files, sorted, in a row that is new.
-/
import Derived.Test.YtajclcbclbppiaaDskFr
import Derived.Test.YtajclcbclbppiaaDskLay
namespace Go.Dk
open Go.Maps
/-- Numbers, as values. -/
def Nums (l : List Int) : List Value := l.map (.int .i64)
theorem Nums_length (l : List Int) : (Nums l).length = l.length := List.length_map _
theorem Nums_one (l : List Int) : ∀ v ∈ Nums l, v.oneCell' = true := by
  intro v hv
  obtain ⟨x, _, rfl⟩ := List.mem_map.1 hv
  rfl
/-- Sorted, what rises stays. -/
theorem sorted_names {l : List Fl} (hr : Rise l) {ss : List Int} (h : ss.Perm (l.map (·.n))) : ss.mergeSort (fun x y => decide (x ≤ y)) = l.map (·.n) := by
  have h1 : (ss.mergeSort (fun x y => decide (x ≤ y))).Pairwise (fun a b => decide (a ≤ b) = true) := List.pairwise_mergeSort (by intro a b c h1 h2; simp at h1 h2 ⊢; omega) (by intro a b; simp; omega) ss
  have h2 : (l.map (·.n)).Pairwise (fun a b => decide (a ≤ b) = true) := List.pairwise_map.2 (by
    refine List.Pairwise.imp ?_ hr
    intro a b h
    have : a.n < b.n := h
    simp
    omega)
  exact List.Perm.eq_of_pairwise (fun a b _ _ h1 h2 => by simp at h1 h2; omega) h1 h2 ((List.mergeSort_perm ss _).trans h)
end Go.Dk
namespace Go.Proofs.Ytajclcbclbppiaa
open Go.RowKit Go.Maps Go.Dk Go.Sort Go.Shelf
variable {w w' : World} {β : Roles} {p : Nat} {S S' : St}
/-- slices.Sort's two contracts, at the fence that asks nothing. -/
theorem sortsA (m : Nat) : AnyZI.SortsIn Try.prog sortedA_ren Fence.wide m :=
  ⟨fun blk off cap ss W hH hblk hsz => callsIn_wide.2 (AnyM.slices_Sort_int sortA blk off cap ss W hH hblk hsz),
   fun p cap W => callsIn_wide.2 (AnyM.slices_Sort_int_none sortA p cap W)⟩
theorem keys_sorted {H : Type} (b nn : Nat) (D0 : DataW H) (R : Value → Option (DataW H × List MemPlace)) (w : World) (hown : w.ownsMap Try.prog 3 R b nn D0) (hmax : Maps.size D0 ≤ maxLen) (hbytes : Maps.size D0 * 8 ≤ 140737488355328) :
    (∀ mb W, CallsIn Fence.wide 5 Try.prog 44 #[.map mb] W fun e w' => e = .returned (.func (.func 63) #[] #[.pointer (some ⟨W.heap.size, 0, none⟩)]) ∧ w' = W.alloc (.cells #[.map mb] 48)) ∧
    CallsIn Fence.wide 5 Try.prog 43 #[.func (.func 63) #[] #[.pointer (some ⟨w.heap.size, 0, none⟩)]] (w.alloc (.cells #[.map (some b)] 48)) fun e w' => ∃ (v : Value) (ss : List Int), e = .returned v ∧ ss.Perm (intKeys D0) ∧
      w'.ownsRow (w.heap.size + 1) 3 1 v ss.length ((ss.mergeSort (fun x y => decide (x ≤ y))).map encZ) ∧ (v = .slice none 0 0 ↔ ss = []) ∧ Below (w.heap.size + 1) (w.alloc (.cells #[.map (some b)] 48)) w' := by
  refine ⟨fun mb W => AnyZI.keys_in keysA Fence.wide 5 trivial rfl mb W, ?_⟩
  have hbl := hown.lt
  have hseq : SeqGives Fence.wide 2 Try.prog 63 #[.pointer (some ⟨w.heap.size, 0, none⟩)] encZ (fun ss => ss.Perm (intKeys D0)) (Maps.size D0) (w.alloc (.cells #[.map (some b)] 48)) :=
    AnyZI.keys_gives (ρ := keysA_ren) { keysA with } Fence.wide _ trivial rfl (by omega) w.heap.size b nn D0 _ (by simp) (by simp) (by
      obtain ⟨es, clock, hb, Ft, hs, hD⟩ := hown
      exact ⟨es, clock, (Below.heap_alloc _ _ b hbl).trans hb, Ft, hs, hD⟩)
  have cS := AnyZI.sorted_in sortedA Fence.wide 5 trivial trivial trivial trivial rfl (by omega) (sortsA _) (enters_of Try.func62 (by kernel_rfl) rfl) 63 #[.pointer (some ⟨w.heap.size, 0, none⟩)] trivial (enters_of Try.func63 (by kernel_rfl) rfl) _ _ hmax hbytes _ hseq
  simp only [World.size_alloc] at cS
  exact cS
set_option maxHeartbeats 1000000 in
set_option maxRecDepth 100000 in
theorem files_is (h : DiskAt w β p S) :
    Calls Try.prog 23 #[.pointer (some ⟨p, 0, none⟩)] w fun e w' => ∃ ao cap, e = .returned (.slice ao S.fs.length cap) ∧ Rw w' 1 ao S.fs.length cap (Nums (S.fs.map (·.n))) ∧ Ext w w' ∧ ∀ g, ob ao = some g → w.heap.size ≤ g := by
  have N := Lib.hid (none_no h)
  have H := Lib.hid h
  obtain ⟨m, fp, hm, h2, hown, _⟩ := h.head
  have h1 := h2.c0
  have hmany := h.ok.many
  have hrise := h.ok.rise
  have hsz := dat_size (β := β) S.fs
  have KS := keys_sorted m S.fs.length (dat β S.fs) rf w hown (by unfold maxLen; omega) (by omega)
  rw [dat_keys] at KS
  obtain ⟨hK, hS⟩ := KS
  have cK := Lib.hid hK
  have cS := Lib.hid hS
  clear h h2 hown hK hS hsz
  refine (callsIn_wide (n := 6)).1 ?_
  have hfK : Fence.wide.fn 44 := trivial
  have hfS : Fence.wide.fn 43 := trivial
  have hfN : Fence.wide.fn 40 := trivial
  refine callsIn_of_wp Try.func23 rfl trivial ?_ rfl
  simp only [Try.ntmps23, List.size_toArray, List.length_cons, List.length_nil, Nat.reduceAdd, Nat.reduceSub, Array.replicate_succ, Array.replicate_zero, List.push_toArray, List.append_toArray, List.nil_append, List.cons_append]
  gi_wp2_with (first
    | (gi_at_call 40; refine (callsIn_wide.2 N.out).mono ?_; rintro e w' ⟨rfl, rfl⟩)
    | (gi_at_call 44; refine (cK.out _ _).mono ?_; rintro e w' ⟨rfl, rfl⟩)
    | (gi_at_call 43; refine cS.out.mono ?_; rintro e w' ⟨v, ss, rfl, hS, hrow, hnil, hb⟩))
  go_ret
  rw [sorted_names hrise hS] at hrow
  have hl : ss.length = S.fs.length := by rw [hS.length_eq, List.length_map]
  rw [hl] at hrow
  have hE : Ext w w' := ((Ext.refl w).alloc _).trans (hb.mono (by simp))
  have hrow' := hrow
  rcases hrow.2 with ⟨rfl, hz⟩ | ⟨g, cap, cur, rfl, hg, _⟩
  · rw [hz]
    have e0 : S.fs = [] := List.length_eq_zero_iff.1 hz
    refine ⟨none, 0, rfl, ?_, hE, fun g hg => by cases hg⟩
    rw [e0]
    exact Rw.nil w' 1
  · refine ⟨_, cap, rfl, Rw.owns hrow', hE, fun k hk => ?_⟩
    obtain rfl : g = k := by simpa [ob] using hk
    omega
end Go.Proofs.Ytajclcbclbppiaa
