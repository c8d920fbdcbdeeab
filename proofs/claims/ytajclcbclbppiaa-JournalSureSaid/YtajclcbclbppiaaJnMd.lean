/-
  The walks of load and mend: a file's records read; what mends a disk.
-/
import Derived.Test.YtajclcbclbppiaaJnAl
namespace Go.Proofs.Ytajclcbclbppiaa
open Go.RowKit Go.Maps Go.Dk Go.Rc Go.Jn Go.Shelf
variable {W w w' : World} {O O' B B' : Nat → Prop} {p : Nat} {S S' : St} {n e z : Int}
theorem wf_of {n : Int} (h : 0 ≤ n ∧ n ≤ 9223372036854775807) : (Lit.int .i64 n).wf = true := by
  have e : IntKind.i64.min = -9223372036854775808 := rfl
  simp [Lit.wf, e]
  omega
theorem whole_new (s : List UInt8) (hs : s.length ≤ 16770000) (w : World) :
    Calls Try.prog 46 #[.string (ofL s)] w fun e W' => ∃ ao cap, e = .returned (.tuple #[.slice ao (itsAt s 0).length cap, .int .i64 (endOf (itsAt s 0))]) ∧
      Rw W' 1 ao (itsAt s 0).length cap (Se ((itsAt s 0).map (·.1))) ∧ Ext w W' ∧ ∀ g, ob ao = some g → w.heap.size ≤ g := by
  refine (callsIn_wide (n := 3)).1 ((whole_in 3 (Nat.le_refl _) s hs w).mono ?_)
  rintro e W' ⟨v, rfl, hr, hb⟩
  rcases hr.2 with ⟨rfl, hn⟩ | ⟨g, cap, cur, rfl, hg, _⟩
  · have hl := hr.1
    rw [hn] at hl ⊢
    have hnil : Se ((itsAt s 0).map (·.1)) = [] := List.length_eq_zero_iff.1 (by simpa using hl)
    exact ⟨none, 0, rfl, by rw [hnil]; exact Rw.nil W' 1, hb, fun g hg => by cases hg⟩
  · exact ⟨_, cap, rfl, Rw.owns hr, hb, fun k hk => by
      obtain rfl : g = k := by simpa [ob] using hk
      omega⟩
set_option maxHeartbeats 1000000 in
set_option maxRecDepth 100000 in
theorem load_is (h : Dp W O p S w) (hd : S.down = false) {f : Fl} (hf : f ∈ S.fs) :
    Calls Try.prog 24 #[.pointer (some ⟨p, 0, none⟩), .int .i64 f.n] w fun x w' => ∃ ao cap, x = .returned (.tuple #[.slice ao (itsAt f.b 0).length cap, .int .i64 (endOf (itsAt f.b 0)), .int .i64 f.b.length]) ∧ Rw w' 1 ao (itsAt f.b 0).length cap (Se (pays f.b)) ∧ Ext w w' ∧ ∀ g, ob ao = some g → w.heap.size ≤ g := by
  have hg := get_of_mem h.ok.rise hf
  have hn := wf_of (h.ok.names f hf)
  have hl : f.b.length ≤ 1048576 := by have := tot_mem hf; have := h.ok.tot; have := h.ok.cap1; omega
  have K1 := Lib.hid (k_size h hn (z := f.b.length) (e := 0) (by simp [Dk.size, hd, hg]))
  have K2 := Lib.hid (k_read h hn (a := 0) (z := f.b.length) (l := f.b) (e := 0) (by simp [Dk.read, hd, hg]))
  have K3 := Lib.hid (fun w' => whole_new f.b (by omega) w')
  have hE := Ext.refl w
  clear h
  go_enter Try.func24, Try.ntmps24
  go_wp2_with (first | (go_at_call 22; (with_reducible refine K1.out.mono ?_); rintro x w1 ⟨rfl, rfl⟩) | (go_at_call 45; (with_reducible refine K2.out.mono ?_); rintro x w2 ⟨rfl, hx2⟩) | (go_at_call 46; (with_reducible refine (K3.out _).mono ?_); rintro x w3 ⟨ao, cap, rfl, hr, hx3, hnw⟩; have HR := Lib.hid hr; have HN := Lib.hid hnw; clear hr hnw))
  go_ret3
  exact ⟨ao, cap, rfl, HR.out, hx2.trans hx3, fun g hg => Nat.le_trans hx2.size (HN.out g hg)⟩
/-! ### closures, gathered -/
/-- A closure, whose boxes lie in B. -/
def Pre (w : World) (B : Nat → Prop) (p : Nat) (v : Value) (f : St → St × Int) : Prop :=
  v.oneCell' = true ∧ ∀ W O, Under O W → (∀ k, B k → O k) → (∀ k, B k → W.heap[k]? = w.heap[k]?) → StepAt W O p v f
def Pres (w : World) (B : Nat → Prop) (p : Nat) (vs : List Value) (fs : List (St → St × Int)) : Prop :=
  vs.length = fs.length ∧ ∀ (k : Nat) (v : Value) (f : St → St × Int), vs[k]? = some v → fs[k]? = some f → Pre w B p v f
theorem Pre.mono {v : Value} {f : St → St × Int} (h : Pre w B p v f) (hB : ∀ k, B k → B' k) (hw : ∀ k, B k → w'.heap[k]? = w.heap[k]?) : Pre w' B' p v f :=
  ⟨h.1, fun W O hu hO hk => h.2 W O hu (fun k hb => hO k (hB k hb)) (fun k hb => (hk k (hB k hb)).trans (hw k hb))⟩
theorem Pres.nil (w : World) (B : Nat → Prop) (p : Nat) : Pres w B p [] [] := ⟨rfl, fun k v f h => by simp at h⟩
theorem Pres.mono {vs : List Value} {fs : List (St → St × Int)} (h : Pres w B p vs fs) (hB : ∀ k, B k → B' k) (hw : ∀ k, B k → w'.heap[k]? = w.heap[k]?) : Pres w' B' p vs fs :=
  ⟨h.1, fun k v f hv hf => (h.2 k v f hv hf).mono hB hw⟩
theorem Pres.snoc {vs : List Value} {fs : List (St → St × Int)} {v : Value} {f : St → St × Int} (h : Pres w B p vs fs) (hv : Pre w B p v f) : Pres w B p (vs ++ [v]) (fs ++ [f]) := by
  refine ⟨by simp [h.1], fun k u g hu hg => ?_⟩
  have hl := h.1
  rcases Nat.lt_trichotomy k vs.length with hk | hk | hk
  · rw [List.getElem?_append_left hk] at hu
    rw [List.getElem?_append_left (by omega)] at hg
    exact h.2 k u g hu hg
  · subst hk
    rw [List.getElem?_append_right (Nat.le_refl _)] at hu
    rw [hl, List.getElem?_append_right (Nat.le_refl _)] at hg
    simp at hu hg
    subst hu; subst hg
    exact hv
  · rw [List.getElem?_eq_none (by simp; omega)] at hu
    cases hu
theorem Pres.steps {vs : List Value} {fs : List (St → St × Int)} (h : Pres w B p vs fs) (hu : Under O w) (hO : ∀ k, B k → O k) : Steps w O p vs fs :=
  ⟨h.1, fun k v f hv hf => (h.2 k v f hv hf).2 w O hu hO (fun _ _ => rfl)⟩
theorem Pres.one {vs : List Value} {fs : List (St → St × Int)} (h : Pres w B p vs fs) : ∀ u ∈ vs, u.oneCell' = true := by
  intro u hu
  obtain ⟨k, hk⟩ := List.mem_iff_getElem?.1 hu
  have := (List.getElem?_eq_some_iff.1 hk).1
  exact (h.2 k u _ hk (List.getElem?_eq_getElem (by have := h.1; omega))).1
section
variable {b c d : Nat}
theorem cell_kept {W w : World} {b i : Nat} {v : Value} (h : W.heap[b]? = w.heap[b]?) (c0 : w.cell? ⟨b, i, none⟩ = some v) : W.cell? ⟨b, i, none⟩ = some v := (World.cell?_of_block (a := ⟨b, i, none⟩) h).trans c0
theorem mend1_pre (hb : B b) (hc : B c) (hd : B d) (c0 : w.cell? ⟨b, 0, none⟩ = some (.pointer (some ⟨p, 0, none⟩))) (c1 : w.cell? ⟨c, 0, none⟩ = some (.int .i64 n)) (c2 : w.cell? ⟨d, 0, none⟩ = some (.int .i64 e)) (hn : (Lit.int .i64 n).wf = true) :
    Pre w B p (.func (.func 47) #[] #[.pointer (some ⟨b, 0, none⟩), .pointer (some ⟨c, 0, none⟩), .pointer (some ⟨d, 0, none⟩)]) (fun S => truncate S n e) :=
  ⟨rfl, fun _ _ hu hO hk => mend1_step hu (hO b hb) (hO c hc) (hO d hd) (cell_kept (hk b hb) c0) (cell_kept (hk c hc) c1) (cell_kept (hk d hd) c2) hn⟩
theorem mend2_pre (hb : B b) (hc : B c) (c0 : w.cell? ⟨b, 0, none⟩ = some (.pointer (some ⟨p, 0, none⟩))) (c1 : w.cell? ⟨c, 0, none⟩ = some (.int .i64 n)) (hn : (Lit.int .i64 n).wf = true) :
    Pre w B p (.func (.func 49) #[] #[.pointer (some ⟨b, 0, none⟩), .pointer (some ⟨c, 0, none⟩)]) (fun S => sync S n) :=
  ⟨rfl, fun _ _ hu hO hk => mend2_step hu (hO b hb) (hO c hc) (cell_kept (hk b hb) c0) (cell_kept (hk c hc) c1) hn⟩
theorem mend3_pre (hb : B b) (hc : B c) (c0 : w.cell? ⟨b, 0, none⟩ = some (.pointer (some ⟨p, 0, none⟩))) (c1 : w.cell? ⟨c, 0, none⟩ = some (.int .i64 n)) (hn : (Lit.int .i64 n).wf = true) :
    Pre w B p (.func (.func 50) #[] #[.pointer (some ⟨b, 0, none⟩), .pointer (some ⟨c, 0, none⟩)]) (fun S => delete S n) :=
  ⟨rfl, fun _ _ hu hO hk => mend3_step hu (hO b hb) (hO c hc) (cell_kept (hk b hb) c0) (cell_kept (hk c hc) c1) hn⟩
end
theorem infoFn : (Try.prog.info? 43).map (fun i => (i.zero, i.size, i.bytes)) = some (some .nilFunc, 1, 8) := by kernel_rfl
theorem append_fn {w : World} {ao : Option Addr} {n cap : Nat} {vs : List Value} (h : Rw w 1 ao n cap vs) {x : Value} (y : Value) (hs : Src Try.prog 1 91 x 1 [y] w) (hl : n + 1 ≤ 16777216) (ty : TypeId) :
    ∃ ao' cap' w', (Builtin.append_ #[91, 91] ty #[.slice ao n cap, x]).run Try.prog w = .ok (.slice ao' (n + 1) cap') w' ∧
      (Rw w' 1 ao' (n + 1) cap' (vs ++ [y]) ∧ Fr (fun k => ob ao = some k) w w' ∧ (ao' = ao ∨ ∃ g, ao' = some ⟨g, 0, none⟩ ∧ w.heap.size ≤ g)) := by
  obtain ⟨ti, hti, hz, hsz, hby⟩ := info_parts infoFn
  exact h.append 91 91 ty 43 ti _ 8 Try.underlying91 hti hz hsz hby rfl x 1 _ hs (by unfold maxLen; omega) (by omega)
theorem new_fn (W : World) (y : Value) (hy : y.oneCell' = true) (g : Nat) (hg : g = W.heap.size) : Src Try.prog 1 91 (.slice (some ⟨g, 0, none⟩) 1 1) 1 [y] (W.alloc (.cells #[y] 43)) := by
  subst hg
  have hb := heap_alloc_new W (.cells #[y] 43)
  refine Src.ofSlice _ (e' := 43) Try.underlying91 _ 1 1 _ (by simp) (fun j u hj => ?_) (fun u hu => by simp at hu; subst hu; exact hy)
  have : (⟨W.heap.size, 0, none⟩ : Addr).add j = ⟨W.heap.size, j, none⟩ := by unfold Addr.add; split <;> simp_all
  rw [this]
  simp only [World.cell?, hb]
  simpa using hj
/-! ### mend -/
/-- Closures gathered since w: their boxes, the row that holds them. -/
structure Gath (w wr : World) (p : Nat) (n : Int) (B : Nat → Prop) (ao : Option Addr) (cap : Nat) (vs : List Value) (fs : List (St → St × Int)) : Prop where
  row : Rw wr 1 ao vs.length cap vs
  pres : Pres wr B p vs fs
  low : ∀ k, B k → w.heap.size ≤ k ∧ k < wr.heap.size
  own : ∀ g, ob ao = some g → w.heap.size ≤ g ∧ ¬ B g
  ext : Ext w wr
  b0 : B w.heap.size
  b1 : B (w.heap.size + 1)
  c0 : wr.cell? ⟨w.heap.size, 0, none⟩ = some (.pointer (some ⟨p, 0, none⟩))
  c1 : wr.cell? ⟨w.heap.size + 1, 0, none⟩ = some (.int .i64 n)
section
variable {wr w2 : World} {ao : Option Addr} {cap : Nat} {vs : List Value} {fs : List (St → St × Int)}
theorem Gath.grow (h : Gath w wr p n B ao cap vs fs) (hx : Ext wr w2) : Gath w w2 p n B ao cap vs fs :=
  ⟨h.row.ext hx, h.pres.mono (fun _ hb => hb) (fun k hb => Below.block hx k (h.low k hb).2), fun k hb => ⟨(h.low k hb).1, Nat.lt_of_lt_of_le (h.low k hb).2 hx.size⟩, h.own, h.ext.trans hx, h.b0, h.b1,
    (hx.cell (p := ⟨w.heap.size, 0, none⟩) (h.low _ h.b0).2).trans h.c0, (hx.cell (p := ⟨w.heap.size + 1, 0, none⟩) (h.low _ h.b1).2).trans h.c1⟩
/-- A box more. -/
theorem Gath.box (h : Gath w wr p n B ao cap vs fs) (hx : Ext wr w2) {b : Nat} (hb : wr.heap.size ≤ b) (hb2 : b < w2.heap.size) : Gath w w2 p n (fun k => B k ∨ k = b) ao cap vs fs := by
  have h2 := h.grow hx
  exact ⟨h2.row, h2.pres.mono (fun _ hb => .inl hb) (fun _ _ => rfl), fun k hk => hk.elim (fun hk => h2.low k hk) (fun e => ⟨by have := h.ext.size; omega, by omega⟩),
    fun g hg => ⟨(h.own g hg).1, fun hk => hk.elim (h.own g hg).2 (fun e => by have := h.row.lt g hg; omega)⟩, h2.ext, .inl h2.b0, .inl h2.b1, h2.c0, h2.c1⟩
/-- A closure more. -/
theorem Gath.app (h : Gath w wr p n B ao cap vs fs) (hx : Ext wr w2) {v : Value} {f : St → St × Int} (hv : Pre w2 B p v f) {ao' : Option Addr} {cap' : Nat} {w4 : World} (hr : Rw w4 1 ao' (vs.length + 1) cap' (vs ++ [v])) (hf : Fr (fun k => ob ao = some k) w2 w4) (ha : ao' = ao ∨ ∃ g, ao' = some ⟨g, 0, none⟩ ∧ w2.heap.size ≤ g) :
    Gath w w4 p n B ao' cap' (vs ++ [v]) (fs ++ [f]) := by
  have h2 := h.grow hx
  have hk : ∀ k, B k → w4.heap[k]? = w2.heap[k]? := fun k hb => hf.block k (h2.low k hb).2 (fun e => (h2.own k e).2 hb)
  refine ⟨by rw [List.length_append]; exact hr, (h2.pres.snoc hv).mono (fun _ hb => hb) hk, fun k hb => ⟨(h2.low k hb).1, Nat.lt_of_lt_of_le (h2.low k hb).2 hf.size⟩, fun g hg => ?_, hf.grownFrom h2.ext (fun k e => (h2.own k e).1), h2.b0, h2.b1, cell_kept (hk _ h2.b0) h2.c0, cell_kept (hk _ h2.b1) h2.c1⟩
  rcases ha with rfl | ⟨j, rfl, hj⟩
  · exact h2.own g hg
  · obtain rfl : j = g := by simpa [ob] using hg
    exact ⟨by have := h2.ext.size; omega, fun hb => by have := (h2.low j hb).2; omega⟩
end
end Go.Proofs.Ytajclcbclbppiaa
