/-
  A disk in the heap: its head, its map, its files; which blocks are whose (roles).
-/
import Derived.Test.YtajclcbclbppiaaDskPl
import Derived.Test.YtajclcbclbppiaaRows
namespace Go.Proofs.Ytajclcbclbppiaa
open Go.RowKit Go.Maps Go.Dk
/-- Which block has which role: (0,0) the head, (1,0) the map, (2,0) the failure, (3,0) what it keeps, (4,n) a file, (5,n) its bytes. -/
abbrev Roles := Nat × Int → Option Nat
/-- The blocks of a disk. -/
def Bl (β : Roles) : Nat → Prop := fun k => ∃ r, β r = some k
structure HeadAt (w : World) (p m : Nat) (cap : Int) (down : Bool) (starts : Int) (fp : Option Addr) : Prop where
  lt : p < w.heap.size
  c0 : w.cell? ⟨p, 0, none⟩ = some (.map (some m))
  c1 : w.cell? ⟨p, 1, none⟩ = some (.int .i64 cap)
  c2 : w.cell? ⟨p, 2, none⟩ = some (.bool down)
  c3 : w.cell? ⟨p, 3, none⟩ = some (.int .i64 starts)
  c4 : w.cell? ⟨p, 4, none⟩ = some (.pointer fp)
  f2 : w.frozen? ⟨p, 2, none⟩ = false
  f3 : w.frozen? ⟨p, 3, none⟩ = false
  f4 : w.frozen? ⟨p, 4, none⟩ = false
theorem HeadAt.kept {w w' : World} {p m : Nat} {cap : Int} {down : Bool} {starts : Int} {fp : Option Addr} (h : HeadAt w p m cap down starts fp) (hs : w.heap.size ≤ w'.heap.size) (hp : w'.heap[p]? = w.heap[p]?) : HeadAt w' p m cap down starts fp :=
  ⟨Nat.lt_of_lt_of_le h.lt hs, (World.cell?_of_block (a := ⟨p, 0, none⟩) hp).trans h.c0, (World.cell?_of_block (a := ⟨p, 1, none⟩) hp).trans h.c1, (World.cell?_of_block (a := ⟨p, 2, none⟩) hp).trans h.c2, (World.cell?_of_block (a := ⟨p, 3, none⟩) hp).trans h.c3, (World.cell?_of_block (a := ⟨p, 4, none⟩) hp).trans h.c4,
   (World.frozen?_of_block (a := ⟨p, 2, none⟩) hp).trans h.f2, (World.frozen?_of_block (a := ⟨p, 3, none⟩) hp).trans h.f3, (World.frozen?_of_block (a := ⟨p, 4, none⟩) hp).trans h.f4⟩
structure FileAt (w : World) (fb : Nat) (ao : Option Addr) (cap : Nat) (f : Fl) : Prop where
  c0 : w.cell? ⟨fb, 0, none⟩ = some (.slice ao f.b.length cap)
  c1 : w.cell? ⟨fb, 1, none⟩ = some (.int .i64 f.s)
  f0 : w.frozen? ⟨fb, 0, none⟩ = false
  f1 : w.frozen? ⟨fb, 1, none⟩ = false
  row : Rw w 1 ao f.b.length cap (U8 f.b)
theorem FileAt.kept {w w' : World} {fb : Nat} {ao : Option Addr} {cap : Nat} {f : Fl} (h : FileAt w fb ao cap f) (hs : w.heap.size ≤ w'.heap.size) (hp : w'.heap[fb]? = w.heap[fb]?) (hb : ∀ g, ob ao = some g → w'.heap[g]? = w.heap[g]?) : FileAt w' fb ao cap f :=
  ⟨(World.cell?_of_block (a := ⟨fb, 0, none⟩) hp).trans h.c0, (World.cell?_of_block (a := ⟨fb, 1, none⟩) hp).trans h.c1, (World.frozen?_of_block (a := ⟨fb, 0, none⟩) hp).trans h.f0, (World.frozen?_of_block (a := ⟨fb, 1, none⟩) hp).trans h.f1, h.row.kept hs hb⟩
/-- What is kept at a failure. -/
def KeepAt (w : World) (G : Nat → Prop) (ko : Option Addr) (ks : List Int) : Prop :=
  ks = [] ∨ ∃ g o, ko = some ⟨g, o, none⟩ ∧ G g ∧ ∀ j (h : j < ks.length), w.cell? ⟨g, o + j, none⟩ = some (.int .i64 ks[j])
theorem KeepAt.kept {w w' : World} {G : Nat → Prop} {ko : Option Addr} {ks : List Int} (h : KeepAt w G ko ks) (hb : ∀ g, G g → w'.heap[g]? = w.heap[g]?) : KeepAt w' G ko ks := by
  rcases h with h | ⟨g, o, e, hg, h⟩
  · exact .inl h
  · exact .inr ⟨g, o, e, hg, fun j hj => (World.cell?_of_block (a := ⟨g, o + j, none⟩) (hb g hg)).trans (h j hj)⟩
def FailAt (w : World) (β : Roles) (fp : Option Addr) : Option (Int × List Int) → Prop
  | none => fp = none
  | some (l, ks) => ∃ b ko kc, fp = some ⟨b, 0, none⟩ ∧ β (2, 0) = some b ∧ w.cell? ⟨b, 0, none⟩ = some (.int .i64 l) ∧ w.frozen? ⟨b, 0, none⟩ = false ∧
      w.cell? ⟨b, 1, none⟩ = some (.slice ko ks.length kc) ∧ KeepAt w (fun g => β (3, 0) = some g) ko ks
theorem FailAt.kept {w w' : World} {β : Roles} {fp : Option Addr} {x : Option (Int × List Int)} (h : FailAt w β fp x) (hb : ∀ r k, r.1 = 2 ∨ r.1 = 3 → β r = some k → w'.heap[k]? = w.heap[k]?) : FailAt w' β fp x := by
  match x, h with
  | none, h => exact h
  | some (l, ks), ⟨b, ko, kc, e, hb0, c0, f0, c1, hk⟩ =>
    have h2 := hb _ _ (.inl rfl) hb0
    exact ⟨b, ko, kc, e, hb0, (World.cell?_of_block (a := ⟨b, 0, none⟩) h2).trans c0, (World.frozen?_of_block (a := ⟨b, 0, none⟩) h2).trans f0, (World.cell?_of_block (a := ⟨b, 1, none⟩) h2).trans c1, hk.kept (fun g hg => hb _ _ (.inr rfl) hg)⟩
theorem FailAt.roles {w : World} {β β' : Roles} {fp : Option Addr} {x : Option (Int × List Int)} (h : FailAt w β fp x) (hb : ∀ r, r.1 = 2 ∨ r.1 = 3 → β' r = β r) : FailAt w β' fp x := by
  match x, h with
  | none, h => exact h
  | some (l, ks), ⟨b, ko, kc, e, hb0, c0, f0, c1, hk⟩ =>
    refine ⟨b, ko, kc, e, (hb _ (.inl rfl)).trans hb0, c0, f0, c1, ?_⟩
    rw [hb _ (.inr rfl)]; exact hk
/-- A disk at p. -/
structure DiskAt (w : World) (β : Roles) (p : Nat) (S : St) : Prop where
  ok : Ok S
  inj : ∀ r s k, β r = some k → β s = some k → r = s
  lt : ∀ r k, β r = some k → k < w.heap.size
  p0 : β (0, 0) = some p
  head : ∃ m fp, β (1, 0) = some m ∧ HeadAt w p m S.cap S.down S.starts fp ∧ w.ownsMap (H := Unit) Try.prog 3 rf m S.fs.length (dat β S.fs) ∧ FailAt w β fp S.fail
  file : ∀ f ∈ S.fs, ∃ fb ao cap, β (4, f.n) = some fb ∧ (∀ g, ob ao = some g → β (5, f.n) = some g) ∧ FileAt w fb ao cap f
variable {w w' : World} {β : Roles} {p : Nat} {S S' : St}
theorem ownsMap_block {H : Type} {P : Program} {k : TypeId} {R : Value → Option (DataW H × List MemPlace)} {w w' : World} {b n : Nat} {D : DataW H} (h : w.ownsMap P k R b n D) (hb : w'.heap[b]? = w.heap[b]?) : w'.ownsMap P k R b n D := by
  obtain ⟨es, clock, hb', F, hs, hD⟩ := h
  exact ⟨es, clock, hb.trans hb', F, hs, hD⟩
theorem DiskAt.kept (h : DiskAt w β p S) (hs : w.heap.size ≤ w'.heap.size) (hb : ∀ r k, β r = some k → w'.heap[k]? = w.heap[k]?) : DiskAt w' β p S := by
  obtain ⟨m, fp, h1, h2, h3, h4⟩ := h.head
  refine ⟨h.ok, h.inj, fun r k hr => Nat.lt_of_lt_of_le (h.lt r k hr) hs, h.p0, ⟨m, fp, h1, h2.kept hs (hb _ _ h.p0), ownsMap_block h3 (hb _ _ h1), h4.kept (fun r k _ => hb r k)⟩, fun f hf => ?_⟩
  obtain ⟨fb, ao, cap, k1, k2, k3⟩ := h.file f hf
  exact ⟨fb, ao, cap, k1, k2, k3.kept hs (hb _ _ k1) (fun g hg => hb _ _ (k2 g hg))⟩
theorem DiskAt.ext (h : DiskAt w β p S) (hx : Ext w w') : DiskAt w' β p S := h.kept hx.size (fun r k hr => Below.block hx k (h.lt r k hr))
theorem DiskAt.fr {F : Nat → Prop} (h : DiskAt w β p S) (hf : Fr F w w') (ha : ∀ k, Bl β k → ¬ F k) : DiskAt w' β p S := h.kept hf.size (fun r k hr => hf.block k (h.lt r k hr) (ha k ⟨r, hr⟩))
theorem DiskAt.under (h : DiskAt w β p S) : Under (Bl β) w := fun _ ⟨r, hr⟩ => h.lt r _ hr
/-- Its head has turned, not its files. -/
theorem DiskAt.turnHead (h : DiskAt w β p S) (hf : Fr (fun k => k = p) w w') (hfs : S'.fs = S.fs) (hok : Ok S') {m : Nat} {fp : Option Addr} (hm : β (1, 0) = some m) (hh : HeadAt w' p m S'.cap S'.down S'.starts fp) (hfa : FailAt w' β fp S'.fail) : DiskAt w' β p S' := by
  obtain ⟨m', fp', h1, h2, h3, h4⟩ := h.head
  obtain rfl : m' = m := Option.some.inj (h1.symm.trans hm)
  have hb : ∀ r k, r ≠ (0, 0) → β r = some k → w'.heap[k]? = w.heap[k]? := fun r k hr hk => hf.block k (h.lt r k hk) (fun e => hr (h.inj _ _ _ hk (e ▸ h.p0)))
  refine ⟨hok, h.inj, fun r k hr => Nat.lt_of_lt_of_le (h.lt r k hr) hf.size, h.p0, ⟨m', fp, h1, hh, ?_, hfa⟩, fun f hf' => ?_⟩
  · rw [hfs]
    exact ownsMap_block h3 (hb _ _ (by simp) h1)
  · rw [hfs] at hf'
    obtain ⟨fb, ao, cap, k1, k2, k3⟩ := h.file f hf'
    exact ⟨fb, ao, cap, k1, k2, k3.kept hf.size (hb _ _ (by simp) k1) (fun g hg => hb _ _ (by simp) (k2 g hg))⟩
theorem Tn.same {F : Nat → Prop} {G : Nat → Prop} {w w' : World} (h : Fr F w w') (hF : ∀ k, F k → G k) : Tn G G w w' := ⟨h.mono (fun k _ hk => hF k hk), fun _ h => .inl h⟩
/-- One file has turned: its row is where it was, or in a block that is new. -/
theorem DiskAt.turnFile (h : DiskAt w β p S) {f f' : Fl} (hn : f'.n = f.n) {fb : Nat} {ao' : Option Addr} {cap' : Nat} (hfb : β (4, f.n) = some fb) (hfr : Fr (fun k => k = fb ∨ β (5, f.n) = some k) w w')
    (hao : ∀ g, ob ao' = some g → β (5, f.n) = some g ∨ w.heap.size ≤ g) (hF : FileAt w' fb ao' cap' f') (hok : Ok { S with fs := upd f' S.fs }) :
    ∃ β', DiskAt w' β' p { S with fs := upd f' S.fs } ∧ Tn (Bl β) (Bl β') w w' ∧ ((∀ g, ob ao' = some g → β (5, f.n) = some g) → β' = β) := by
  classical
  have hlt := hF.row.lt
  by_cases hc : ∀ g, ob ao' = some g → β (5, f.n) = some g
  · refine ⟨β, ?_, Tn.same hfr (fun k hk => hk.elim (fun e => ⟨_, e ▸ hfb⟩) (fun e => ⟨_, e⟩)), fun _ => rfl⟩
    obtain ⟨m, fp, h1, h2, h3, h4⟩ := h.head
    have hb : ∀ r k, r ≠ (4, f.n) → r ≠ (5, f.n) → β r = some k → w'.heap[k]? = w.heap[k]? := fun r k hr hr' hk => hfr.block k (h.lt r k hk) (fun e => e.elim (fun e => hr (h.inj _ _ _ hk (e ▸ hfb))) (fun e => hr' (h.inj _ _ _ hk e)))
    refine ⟨hok, h.inj, fun r k hr => Nat.lt_of_lt_of_le (h.lt r k hr) hfr.size, h.p0, ⟨m, fp, h1, h2.kept hfr.size (hb _ _ (by simp) (by simp) h.p0), ?_, h4.kept (fun r k hr hk => hb r k (by rintro rfl; simp at hr) (by rintro rfl; simp at hr) hk)⟩, fun g hg => ?_⟩
    · show w'.ownsMap _ _ _ _ (upd f' S.fs).length (dat β (upd f' S.fs))
      rw [length_upd, ← dat_congr (β := β) (names_upd f' S.fs).symm (fun _ _ => rfl)]
      exact ownsMap_block h3 (hb _ _ (by simp) (by simp) h1)
    · rcases mem_upd hg with ⟨rfl, _⟩ | ⟨hg, hne⟩
      · rw [hn]; exact ⟨fb, ao', cap', hfb, hc, hF⟩
      · obtain ⟨fb2, ao2, cap2, k1, k2, k3⟩ := h.file g hg
        have hne' : g.n ≠ f.n := hn ▸ hne
        exact ⟨fb2, ao2, cap2, k1, k2, k3.kept hfr.size (hb _ _ (by simpa using hne') (by simp) k1) (fun i hi => hb _ _ (by simp) (by simpa using hne') (k2 i hi))⟩
  · obtain ⟨q, hq, hq5⟩ : ∃ q, ob ao' = some q ∧ ¬ β (5, f.n) = some q := by
      by_cases h0 : ∃ q, ob ao' = some q ∧ ¬ β (5, f.n) = some q
      · exact h0
      · exact absurd (fun g hg => Classical.byContradiction fun hx => h0 ⟨g, hg, hx⟩) hc
    have hnew : w.heap.size ≤ q := (hao q hq).resolve_left hq5
    have hβ : ∀ r, r ≠ (5, f.n) → (fun r => if r = (5, f.n) then some q else β r) r = β r := fun r hr => if_neg hr
    refine ⟨fun r => if r = (5, f.n) then some q else β r, ?_, ⟨hfr.mono (fun k _ hk => hk.elim (fun e => ⟨_, e ▸ hfb⟩) (fun e => ⟨_, e⟩)), fun k ⟨r, hr⟩ => ?_⟩, fun hx => absurd hx hc⟩
    · obtain ⟨m, fp, h1, h2, h3, h4⟩ := h.head
      have hb : ∀ r k, r ≠ (4, f.n) → r ≠ (5, f.n) → β r = some k → w'.heap[k]? = w.heap[k]? := fun r k hr hr' hk => hfr.block k (h.lt r k hk) (fun e => e.elim (fun e => hr (h.inj _ _ _ hk (e ▸ hfb))) (fun e => hr' (h.inj _ _ _ hk e)))
      refine ⟨hok, fun r s k hr hs => ?_, fun r k hr => ?_, (hβ _ (by simp)).trans h.p0, ⟨m, fp, (hβ _ (by simp)).trans h1, h2.kept hfr.size (hb _ _ (by simp) (by simp) h.p0), ?_, ?_⟩, fun g hg => ?_⟩
      · by_cases e1 : r = (5, f.n)
        · by_cases e2 : s = (5, f.n)
          · rw [e1, e2]
          · simp only [e1, e2, if_true, if_false] at hr hs
            cases hr
            exact absurd (h.lt _ _ hs) (by omega)
        · by_cases e2 : s = (5, f.n)
          · simp only [e1, e2, if_true, if_false] at hr hs
            cases hs
            exact absurd (h.lt _ _ hr) (by omega)
          · simp only [e1, e2, if_false] at hr hs
            exact h.inj _ _ _ hr hs
      · by_cases e1 : r = (5, f.n)
        · simp only [e1, if_true] at hr
          cases hr
          exact hlt _ hq
        · simp only [e1, if_false] at hr
          exact Nat.lt_of_lt_of_le (h.lt r k hr) hfr.size
      · show w'.ownsMap _ _ _ _ (upd f' S.fs).length (dat _ (upd f' S.fs))
        rw [length_upd, ← dat_congr (β := β) (names_upd f' S.fs).symm (fun g _ => by simp [bn])]
        exact ownsMap_block h3 (hb _ _ (by simp) (by simp) h1)
      · exact (h4.kept (fun r k hr hk => hb r k (by rintro rfl; simp at hr) (by rintro rfl; simp at hr) hk)).roles (fun r hr => hβ r (by rintro rfl; simp at hr))
      · rcases mem_upd hg with ⟨rfl, _⟩ | ⟨hg, hne⟩
        · rw [hn]
          exact ⟨fb, ao', cap', (hβ _ (by simp)).trans hfb, fun i hi => by simp only [if_true]; exact hq.symm.trans hi, hF⟩
        · obtain ⟨fb2, ao2, cap2, k1, k2, k3⟩ := h.file g hg
          have hne' : g.n ≠ f.n := hn ▸ hne
          exact ⟨fb2, ao2, cap2, (hβ _ (by simp)).trans k1, fun i hi => (hβ _ (by simpa using hne')).trans (k2 i hi), k3.kept hfr.size (hb _ _ (by simpa using hne') (by simp) k1) (fun i hi => hb _ _ (by simp) (by simpa using hne') (k2 i hi))⟩
    · by_cases e1 : r = (5, f.n)
      · simp only [e1, if_true] at hr
        cases hr
        exact .inr hnew
      · simp only [e1, if_false] at hr
        exact .inl ⟨r, hr⟩
/-- A file that is new, in a block that is new. -/
theorem DiskAt.putFile (h : DiskAt w β p S) {f : Fl} (hf : get S.fs f.n = none) (hm : ∀ m, β (1, 0) = some m → w'.ownsMap (H := Unit) Try.prog 3 rf m (S.fs.length + 1) ((dat β S.fs).put (.int .i64 f.n) (.lit (.int .i64 (w.heap.size : Nat)))))
    (hfr : Fr (fun k => β (1, 0) = some k) w w') (hs : w.heap.size < w'.heap.size) (hF : FileAt w' w.heap.size none 0 f) (hok : Ok { S with fs := ins f S.fs }) :
    ∃ β', DiskAt w' β' p { S with fs := ins f S.fs } ∧ Tn (Bl β) (Bl β') w w' := by
  classical
  have hβ : ∀ r, r ≠ (4, f.n) → (fun r => if r = (4, f.n) then some w.heap.size else β r) r = β r := fun r hr => if_neg hr
  have hβ4 : (fun r => if r = (4, f.n) then some w.heap.size else β r) (4, f.n) = some w.heap.size := if_pos rfl
  obtain ⟨m, fp, h1, h2, h3, h4⟩ := h.head
  have hb : ∀ r k, r ≠ (1, 0) → β r = some k → w'.heap[k]? = w.heap[k]? := fun r k hr hk => hfr.block k (h.lt r k hk) (fun e => hr (h.inj _ _ _ hk e))
  refine ⟨fun r => if r = (4, f.n) then some w.heap.size else β r, ⟨hok, fun r s k hr hs' => ?_, fun r k hr => ?_, (hβ _ (by simp)).trans h.p0, ⟨m, fp, (hβ _ (by simp)).trans h1, h2.kept hfr.size (hb _ _ (by simp) h.p0), ?_, ?_⟩, fun g hg => ?_⟩, ⟨hfr.mono (fun k _ hk => ⟨_, hk⟩), fun k ⟨r, hr⟩ => ?_⟩⟩
  · by_cases e1 : r = (4, f.n)
    · by_cases e2 : s = (4, f.n)
      · rw [e1, e2]
      · simp only [e1, e2, if_true, if_false] at hr hs'
        cases hr
        exact absurd (h.lt _ _ hs') (by omega)
    · by_cases e2 : s = (4, f.n)
      · simp only [e1, e2, if_true, if_false] at hr hs'
        cases hs'
        exact absurd (h.lt _ _ hr) (by omega)
      · simp only [e1, e2, if_false] at hr hs'
        exact h.inj _ _ _ hr hs'
  · by_cases e1 : r = (4, f.n)
    · simp only [e1, if_true] at hr
      cases hr
      exact hs
    · simp only [e1, if_false] at hr
      exact Nat.lt_of_lt_of_le (h.lt r k hr) hfr.size
  · show w'.ownsMap _ _ _ _ (ins f S.fs).length (dat _ (ins f S.fs))
    rw [length_ins, ← dat_put S.fs f hf]
    have e := hm m h1
    rw [dat_congr (β := β) (β' := fun r => if r = (4, f.n) then some w.heap.size else β r) (l' := S.fs) rfl (fun g hg => by
      have := get_none hf g hg
      simp [bn, this])] at e
    have e2 : bn (fun r => if r = (4, f.n) then some w.heap.size else β r) f.n = w.heap.size := by simp [bn]
    rw [e2]
    exact e
  · exact (h4.kept (fun r k hr hk => hb r k (by rintro rfl; simp at hr) hk)).roles (fun r hr => hβ r (by rintro rfl; simp at hr))
  · rcases mem_ins.1 hg with rfl | hg
    · exact ⟨w.heap.size, none, 0, hβ4, fun i hi => (by cases hi), hF⟩
    · obtain ⟨fb2, ao2, cap2, k1, k2, k3⟩ := h.file g hg
      have hne : g.n ≠ f.n := get_none hf g hg
      exact ⟨fb2, ao2, cap2, (hβ _ (by simpa using hne)).trans k1, fun i hi => (hβ _ (by simp)).trans (k2 i hi), k3.kept hfr.size (hb _ _ (by simp) k1) (fun i hi => hb _ _ (by simp) (k2 i hi))⟩
  · by_cases e1 : r = (4, f.n)
    · simp only [e1, if_true] at hr
      cases hr
      exact .inr (Nat.le_refl _)
    · simp only [e1, if_false] at hr
      exact .inl ⟨r, hr⟩
/-- A file is taken away. -/
theorem DiskAt.dropFile (h : DiskAt w β p S) (n : Int) (hm : ∀ m, β (1, 0) = some m → ∃ c, w'.ownsMap (H := Unit) Try.prog 3 rf m c ((dat β S.fs).del (.int .i64 n)))
    (hfr : Fr (fun k => β (1, 0) = some k) w w') (hok : Ok { S with fs := del n S.fs }) :
    DiskAt w' β p { S with fs := del n S.fs } ∧ Tn (Bl β) (Bl β) w w' := by
  obtain ⟨m, fp, h1, h2, h3, h4⟩ := h.head
  have hb : ∀ r k, r ≠ (1, 0) → β r = some k → w'.heap[k]? = w.heap[k]? := fun r k hr hk => hfr.block k (h.lt r k hk) (fun e => hr (h.inj _ _ _ hk e))
  refine ⟨⟨hok, h.inj, fun r k hr => Nat.lt_of_lt_of_le (h.lt r k hr) hfr.size, h.p0, ⟨m, fp, h1, h2.kept hfr.size (hb _ _ (by simp) h.p0), ?_, ?_⟩, fun g hg => ?_⟩, Tn.same hfr (fun k hk => ⟨_, hk⟩)⟩
  · show w'.ownsMap _ _ _ _ (del n S.fs).length (dat _ (del n S.fs))
    obtain ⟨c, e⟩ := hm m h1
    have e2 := ownsMap_tight e
    rw [dat_del, dat_size] at e2
    exact e2
  · exact h4.kept (fun r k hr hk => hb r k (by rintro rfl; simp at hr) hk)
  · obtain ⟨hg, _⟩ := mem_del.1 hg
    obtain ⟨fb2, ao2, cap2, k1, k2, k3⟩ := h.file g hg
    exact ⟨fb2, ao2, cap2, k1, k2, k3.kept hfr.size (hb _ _ (by simp) k1) (fun i hi => hb _ _ (by simp) (k2 i hi))⟩
end Go.Proofs.Ytajclcbclbppiaa
