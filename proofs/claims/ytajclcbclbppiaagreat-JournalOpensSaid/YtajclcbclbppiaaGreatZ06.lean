/-
  The disk, plainly: its files, rising by their numbers; the datum of a map that holds their blocks.
  A disk in the heap: its head, its map, its files; which blocks are whose (roles).
  What is done with a disk, plainly.
  The walks of the disk: those that only read.
  The walk of Free: a loop over the map.
  The walks of Read, Start, Fail and New.
-/
import Derived.Test.YtajclcbclbppiaaGreatZ01
import Derived.Test.YtajclcbclbppiaaGreatZ05
import Derived.Maps.OwnSet
import Derived.Maps.RangeWalk
import Derived.Lib.SlKeysI
import Derived.Test.YtajclcbclbppiaaGreatRows
import Derived.BigQuiet
import Derived.Deep.QuietTactic
import Derived.BigRegion
section
namespace Go.Dk
open Go.RowKit Go.Maps
/-- A file: its number, its bytes, how many of them are sure. -/
structure Fl where
  n : Int
  b : List UInt8
  s : Nat
/-- A disk: how much it takes; its files; is it down; how often it was started; behind how many changes it fails, and what is kept. -/
structure St where
  cap : Int
  fs : List Fl
  down : Bool
  starts : Int
  fail : Option (Int × List Int)
/-- All bytes of files. -/
def tot : List Fl → Nat
  | [] => 0
  | f :: r => f.b.length + tot r
/-- Rising numbers. -/
def Rise (l : List Fl) : Prop := l.Pairwise (fun f g => f.n < g.n)
/-- The file of this number. -/
def get : List Fl → Int → Option Fl
  | [], _ => none
  | f :: r, n => if f.n = n then some f else get r n
theorem get_cons (f : Fl) (r : List Fl) (n : Int) : get (f :: r) n = if f.n = n then some f else get r n := rfl
/-- A file more. -/
def ins (f : Fl) : List Fl → List Fl
  | [] => [f]
  | g :: r => if f.n < g.n then f :: g :: r else g :: ins f r
/-- A file as it is now. -/
def upd (f : Fl) (l : List Fl) : List Fl := l.map (fun g => if g.n = f.n then f else g)
/-- Without a file. -/
def del (n : Int) (l : List Fl) : List Fl := l.filter (fun g => decide (g.n ≠ n))
theorem get_mem {l : List Fl} {n : Int} {f : Fl} (h : get l n = some f) : f ∈ l ∧ f.n = n := by
  induction l with
  | nil => cases h
  | cons g r ih =>
    unfold get at h
    split at h
    · cases h; exact ⟨.head _, by assumption⟩
    · exact ⟨.tail _ (ih h).1, (ih h).2⟩
theorem get_none {l : List Fl} {n : Int} (h : get l n = none) : ∀ f ∈ l, f.n ≠ n := by
  induction l with
  | nil => intro f hf; cases hf
  | cons g r ih =>
    unfold get at h
    split at h
    · cases h
    · intro f hf
      rcases List.mem_cons.1 hf with rfl | hf
      · assumption
      · exact ih h f hf
theorem get_of_mem {l : List Fl} (hr : Rise l) {f : Fl} (h : f ∈ l) : get l f.n = some f := by
  induction l with
  | nil => cases h
  | cons g r ih =>
    unfold get
    obtain ⟨h1, h2⟩ := List.pairwise_cons.1 hr
    rcases List.mem_cons.1 h with rfl | h
    · rw [if_pos rfl]
    · rw [if_neg (by have := h1 f h; omega)]
      exact ih h2 h
/-- Two files of one number are one. -/
theorem rise_same {l : List Fl} (hr : Rise l) {f g : Fl} (hf : f ∈ l) (hg : g ∈ l) (h : f.n = g.n) : f = g := by
  have h1 := get_of_mem hr hf
  have h2 := get_of_mem hr hg
  rw [h, h2] at h1
  exact (Option.some.inj h1).symm
theorem tot_append (a b : List Fl) : tot (a ++ b) = tot a + tot b := by
  induction a with
  | nil => simp [tot]
  | cons f r ih => simp only [List.cons_append, tot, ih]; omega
theorem mem_ins {f g : Fl} : ∀ {l : List Fl}, g ∈ ins f l ↔ g = f ∨ g ∈ l
  | [] => by simp [ins]
  | h :: r => by
    unfold ins
    split
    · simp
    · simp only [List.mem_cons, mem_ins (l := r)]
      constructor
      · rintro (h | h | h)
        · exact .inr (.inl h)
        · exact .inl h
        · exact .inr (.inr h)
      · rintro (h | h | h)
        · exact .inr (.inl h)
        · exact .inl h
        · exact .inr (.inr h)
theorem rise_ins {f : Fl} : ∀ {l : List Fl}, Rise l → (∀ g ∈ l, g.n ≠ f.n) → Rise (ins f l)
  | [], _, _ => by simp [ins, Rise]
  | h :: r, hr, hn => by
    obtain ⟨h1, h2⟩ := List.pairwise_cons.1 hr
    have hh := hn h (.head _)
    unfold ins
    split
    · refine List.pairwise_cons.2 ⟨fun g hg => ?_, hr⟩
      rcases List.mem_cons.1 hg with rfl | hg
      · assumption
      · have := h1 g hg; omega
    · refine List.pairwise_cons.2 ⟨fun g hg => ?_, rise_ins h2 (fun g hg => hn g (.tail _ hg))⟩
      rcases mem_ins.1 hg with rfl | hg
      · omega
      · exact h1 g hg
theorem tot_ins (f : Fl) : ∀ l : List Fl, tot (ins f l) = f.b.length + tot l
  | [] => rfl
  | g :: r => by
    unfold ins
    split
    · rfl
    · simp only [tot, tot_ins f r]; omega
theorem length_ins (f : Fl) : ∀ l : List Fl, (ins f l).length = l.length + 1
  | [] => rfl
  | g :: r => by
    unfold ins
    split
    · rfl
    · simp only [List.length_cons, length_ins f r]
theorem names_upd (f : Fl) (l : List Fl) : (upd f l).map (·.n) = l.map (·.n) := by
  unfold upd
  rw [List.map_map]
  refine List.map_congr_left fun g _ => ?_
  show (if g.n = f.n then f else g).n = g.n
  split
  · exact (by assumption : g.n = f.n).symm
  · rfl
theorem rise_names {l l' : List Fl} (h : l.map (·.n) = l'.map (·.n)) (hr : Rise l) : Rise l' := by
  have h1 : (l.map (·.n)).Pairwise (· < ·) := List.pairwise_map.2 hr
  rw [h] at h1
  exact List.pairwise_map.1 h1
theorem rise_upd {f : Fl} {l : List Fl} (hr : Rise l) : Rise (upd f l) := rise_names (names_upd f l).symm hr
theorem length_upd (f : Fl) (l : List Fl) : (upd f l).length = l.length := List.length_map _
theorem mem_upd {f g : Fl} {l : List Fl} (h : g ∈ upd f l) : (g = f ∧ ∃ k ∈ l, k.n = f.n) ∨ (g ∈ l ∧ g.n ≠ f.n) := by
  unfold upd at h
  obtain ⟨k, hk, e⟩ := List.mem_map.1 h
  split at e
  · exact .inl ⟨e.symm, k, hk, by assumption⟩
  · subst e; exact .inr ⟨hk, by assumption⟩
theorem upd_miss (f : Fl) {l : List Fl} (h : ∀ k ∈ l, k.n ≠ f.n) : upd f l = l := by
  unfold upd
  conv => rhs; rw [← List.map_id l]
  refine List.map_congr_left fun g hg => ?_
  rw [if_neg (h g hg)]; rfl
theorem tot_upd {f g : Fl} : ∀ {l : List Fl}, Rise l → g ∈ l → g.n = f.n → tot (upd f l) + g.b.length = tot l + f.b.length
  | h :: r, hr, hg, e => by
    obtain ⟨h1, h2⟩ := List.pairwise_cons.1 hr
    show tot ((if h.n = f.n then f else h) :: upd f r) + _ = _
    rcases List.mem_cons.1 hg with rfl | hg
    · rw [if_pos e, upd_miss f (fun k hk => by have := h1 k hk; omega)]
      simp only [tot]; omega
    · have := h1 g hg
      rw [if_neg (by omega)]
      have ih := tot_upd h2 hg e
      simp only [tot]; omega
theorem mem_del {n : Int} {g : Fl} {l : List Fl} : g ∈ del n l ↔ g ∈ l ∧ g.n ≠ n := by simp [del]
theorem rise_del {n : Int} {l : List Fl} (hr : Rise l) : Rise (del n l) := List.Pairwise.filter _ hr
theorem tot_del (n : Int) : ∀ l : List Fl, tot (del n l) ≤ tot l
  | [] => Nat.le_refl _
  | f :: r => by
    have ih := tot_del n r
    unfold del at ih ⊢
    rw [List.filter_cons]
    split
    · simp only [tot]; omega
    · simp only [tot]; omega
theorem length_del (n : Int) (l : List Fl) : (del n l).length ≤ l.length := List.length_filter_le _ _
theorem tot_mem {f : Fl} {l : List Fl} (h : f ∈ l) : f.b.length ≤ tot l := by
  induction l with
  | nil => cases h
  | cons g r ih =>
    rcases List.mem_cons.1 h with rfl | h
    · simp only [tot]; omega
    · have := ih h; simp only [tot]; omega

/-! ### what a crash leaves -/
/-- Of a file, so much of what is not sure stays. -/
def cut (keep : Int) (f : Fl) : Fl := ⟨f.n, f.b.take (f.s + (min (max keep 0) (f.b.length - f.s : Nat)).toNat), f.s + (min (max keep 0) (f.b.length - f.s : Nat)).toNat⟩
/-- Of files, in their order. -/
def cuts : List Int → List Fl → List Fl
  | _, [] => []
  | keep, f :: r => cut (keep.headD 0) f :: cuts keep.tail r
theorem cuts_length (keep : List Int) (l : List Fl) : (cuts keep l).length = l.length := by
  induction l generalizing keep with
  | nil => rfl
  | cons f r ih => simp only [cuts, List.length_cons, ih]
theorem cuts_names (keep : List Int) (l : List Fl) : (cuts keep l).map (·.n) = l.map (·.n) := by
  induction l generalizing keep with
  | nil => rfl
  | cons f r ih => simp only [cuts, List.map_cons, ih]; rfl
theorem cuts_get (keep : List Int) (l : List Fl) (i : Nat) : (cuts keep l)[i]? = l[i]?.map (cut (keep.getD i 0)) := by
  induction l generalizing keep i with
  | nil => simp [cuts]
  | cons f r ih =>
    cases i with
    | zero => cases keep <;> simp [cuts]
    | succ i => cases keep <;> simp [cuts, ih]
theorem cut_s (keep : Int) (f : Fl) (h : f.s ≤ f.b.length) : (cut keep f).s = (cut keep f).b.length ∧ (cut keep f).b.length ≤ f.b.length := by
  unfold cut
  simp only [List.length_take]
  omega
theorem tot_cuts (keep : List Int) (l : List Fl) (h : ∀ f ∈ l, f.s ≤ f.b.length) : tot (cuts keep l) ≤ tot l := by
  induction l generalizing keep with
  | nil => exact Nat.le_refl _
  | cons f r ih =>
    have h1 := (cut_s (keep.headD 0) f (h f (.head _))).2
    have h2 := ih keep.tail (fun g hg => h g (.tail _ hg))
    simp only [cuts, tot]; omega
theorem cuts_mem {keep : List Int} {l : List Fl} {g : Fl} (h : g ∈ cuts keep l) : ∃ f ∈ l, ∃ k, g = cut k f := by
  obtain ⟨i, hi⟩ := List.mem_iff_getElem?.1 h
  rw [cuts_get] at hi
  cases hf : l[i]? with
  | none => rw [hf] at hi; cases hi
  | some f =>
    rw [hf] at hi
    exact ⟨f, List.mem_of_getElem? hf, _, (Option.some.inj hi).symm⟩

/-! ### what is well -/
structure Ok (S : St) : Prop where
  cap0 : 0 ≤ S.cap
  cap1 : S.cap ≤ 1048576
  rise : Rise S.fs
  tot : (tot S.fs : Int) ≤ S.cap
  sure : ∀ f ∈ S.fs, f.s ≤ f.b.length
  names : ∀ f ∈ S.fs, 0 ≤ f.n ∧ f.n ≤ 9223372036854775807
  many : S.fs.length ≤ 100
  fail : ∀ l ks, S.fail = some (l, ks) → 0 ≤ l ∧ l ≤ 9223372036854775807 ∧ ks.length ≤ 16777216
/-- Behind a crash. -/
def St.crash (S : St) (keep : List Int) : St := { S with fs := cuts keep S.fs, down := true, fail := none }
theorem Ok.crash {S : St} (h : Ok S) (keep : List Int) : Ok (S.crash keep) where
  cap0 := h.cap0
  cap1 := h.cap1
  rise := rise_names (cuts_names keep S.fs).symm h.rise
  tot := by
    have h1 := tot_cuts keep S.fs h.sure
    have h2 := h.tot
    show (Dk.tot (cuts keep S.fs) : Int) ≤ S.cap
    omega
  sure := fun g hg => by
    obtain ⟨f, hf, k, rfl⟩ := cuts_mem hg
    have := (cut_s k f (h.sure f hf)).1
    omega
  names := fun g hg => by
    obtain ⟨f, hf, k, rfl⟩ := cuts_mem hg
    exact h.names f hf
  many := by show (cuts keep S.fs).length ≤ 100; rw [cuts_length]; exact h.many
  fail := fun l ks e => by cases e

/-! ### the datum of the map -/
variable {β : Nat × Int → Option Nat}
/-- A file's block. -/
def bn (β : Nat × Int → Option Nat) (n : Int) : Nat := (β (4, n)).getD 0
/-- The map's entry of a file. -/
def ent (β : Nat × Int → Option Nat) (f : Fl) : Lit × DataW Unit := (.int .i64 f.n, .lit (.int .i64 (bn β f.n)))
/-- The map's datum. -/
def dat (β : Nat × Int → Option Nat) (l : List Fl) : DataW Unit := .map (l.map (ent β))
theorem dat_size (l : List Fl) : Maps.size (dat β l) = l.length := by simp [dat, Maps.size]
theorem dat_keys (l : List Fl) : intKeys (dat β l) = l.map (·.n) := by
  simp only [dat, intKeys, List.map_map]
  rfl
theorem same_iff (a b : Int) : (Lit.int .i64 a).sameKey (.int .i64 b) = decide (a = b) := by simp [Lit.sameKey]
theorem dat_has (l : List Fl) (n : Int) : Maps.has (dat β l) (.int .i64 n) = (get l n).isSome := by
  rw [dat, Maps.has_eq]
  induction l with
  | nil => rfl
  | cons f r ih =>
    rw [List.map_cons, List.any_cons, ih]
    show ((Lit.int .i64 f.n).sameKey (.int .i64 n) || _) = _
    rw [same_iff, get_cons]
    by_cases h : f.n = n
    · rw [if_pos h]; simp [h]
    · rw [if_neg h]; simp [h]
theorem dat_at (l : List Fl) (n : Int) (z : DataW Unit) : (dat β l).atKey (.int .i64 n) z = if (get l n).isSome then .lit (.int .i64 (bn β n)) else z := by
  induction l with
  | nil => rfl
  | cons f r ih =>
    unfold dat DataW.atKey at ih ⊢
    simp only [List.map_cons, List.find?_cons]
    have e : (ent β f).1.sameKey (.int .i64 n) = decide (f.n = n) := same_iff _ _
    rw [e, get_cons]
    by_cases h : f.n = n
    · subst h; simp [ent]
    · simp only [h, decide_false, if_false]
      exact ih
theorem dat_congr {β β' : Nat × Int → Option Nat} {l l' : List Fl} (hn : l.map (·.n) = l'.map (·.n)) (h : ∀ f ∈ l, bn β f.n = bn β' f.n) : dat β l = dat β' l' := by
  unfold dat
  congr 1
  have e : ∀ (γ : Nat × Int → Option Nat) (m : List Fl), m.map (ent γ) = (m.map (·.n)).map (fun n => (Lit.int .i64 n, DataW.lit (H := Unit) (.int .i64 (bn γ n)))) := fun γ m => by rw [List.map_map]; rfl
  rw [e, e, ← hn]
  refine List.map_congr_left fun n hm => ?_
  obtain ⟨f, hf, rfl⟩ := List.mem_map.1 hm
  rw [h f hf]
theorem dat_del (l : List Fl) (n : Int) : (dat β l).del (.int .i64 n) = dat β (del n l) := by
  unfold dat DataW.del del
  show DataW.map _ = DataW.map _
  congr 1
  rw [List.filter_map]
  congr 1
  refine List.filter_congr fun f _ => ?_
  show (!(Lit.int .i64 f.n).sameKey (.int .i64 n)) = _
  rw [same_iff]
  simp
theorem insert_ent (f : Fl) : ∀ l : List Fl, DataW.insert (ent β f) (l.map (ent β)) = (ins f l).map (ent β)
  | [] => rfl
  | g :: r => by
    simp only [List.map_cons, DataW.insert, ins]
    have e : (ent β f).1.before (ent β g).1 = decide (f.n < g.n) := rfl
    rw [e]
    by_cases h : f.n < g.n
    · simp [h]
    · simp [h, insert_ent f r]
theorem dat_put (l : List Fl) (f : Fl) (h : get l f.n = none) : (dat β l).put (.int .i64 f.n) (.lit (.int .i64 (bn β f.n))) = dat β (ins f l) := by
  unfold dat DataW.put
  show DataW.map _ = DataW.map _
  rw [← insert_ent]
  congr 2
  rw [List.filter_map]
  congr 1
  refine List.filter_eq_self.2 fun g hg => ?_
  have := get_none h g hg
  show (!(Lit.int .i64 g.n).sameKey (.int .i64 f.n)) = true
  rw [same_iff]
  simpa using this
/-- How a map's element reads: a pointer, by its block. -/
def rf : Value → Option (DataW Unit × List MemPlace)
  | .pointer (some ⟨b, 0, none⟩) => some (.lit (.int .i64 b), [])
  | .pointer none => some (.nil, [])
  | _ => none
theorem rf_inv {v : Value} {b : Nat} {ps : List MemPlace} (h : rf v = some (.lit (.int .i64 b), ps)) : v = .pointer (some ⟨b, 0, none⟩) := by
  unfold rf at h
  split at h
  · simp only [Option.some.injEq, Prod.mk.injEq, DataW.lit.injEq, Lit.int.injEq, true_and] at h
    obtain ⟨h, _⟩ := h
    have : _ = b := Int.ofNat.inj h
    subst this; rfl
  · cases h
  · cases h
theorem rf_nil {v : Value} {ps : List MemPlace} (h : rf v = some (.nil, ps)) : v = .pointer none := by
  unfold rf at h
  split at h
  · cases h
  · rfl
  · cases h
/-- The map's own bound is how many it has. -/
theorem ownsMap_tight {H : Type} {P : Program} {k : TypeId} {R : Value → Option (DataW H × List MemPlace)} {w : World} {b n : Nat} {D : DataW H} (h : w.ownsMap P k R b n D) : w.ownsMap P k R b (Maps.size D) D := by
  obtain ⟨es, clock, hb, F, _, rfl⟩ := h
  exact ⟨es, clock, hb, F, by simp [Maps.size, length_sorted], rfl⟩
end Go.Dk
end
section
namespace Go.Proofs.YtajclcbclbppiaaGreat
open Go.RowKit Go.Maps Go.Dk
/-- Which block has which role: (0,0) the head, (1,0) the map, (2,0) the failure, (3,0) what it keeps, (4,n) a file, (5,n) its bytes. -/
abbrev Roles := Nat × Int → Option Nat
/-- The blocks of a disk. -/
def Bl (β : Roles) : Nat → Prop := fun k => ∃ r, β r = some k
structure HeadAt (w : World) (p m : Nat) (cap : Int) (down : Bool) (starts : Int) (fp : Option Addr) : Prop where
  lt : p < w.heap.size
  c0 : w.cell? ⟨p, 0, none⟩ = some (.map (some m))
  c1 : w.cell? ⟨p, 1, none⟩ = some (.int .i64 cap)
  c2 : w.cell? ⟨p, 2, none⟩ = some (.bool down)
  c3 : w.cell? ⟨p, 3, none⟩ = some (.int .i64 starts)
  c4 : w.cell? ⟨p, 4, none⟩ = some (.pointer fp)
  f2 : w.frozen? ⟨p, 2, none⟩ = false
  f3 : w.frozen? ⟨p, 3, none⟩ = false
  f4 : w.frozen? ⟨p, 4, none⟩ = false
theorem HeadAt.kept {w w' : World} {p m : Nat} {cap : Int} {down : Bool} {starts : Int} {fp : Option Addr} (h : HeadAt w p m cap down starts fp) (hs : w.heap.size ≤ w'.heap.size) (hp : w'.heap[p]? = w.heap[p]?) : HeadAt w' p m cap down starts fp :=
  ⟨Nat.lt_of_lt_of_le h.lt hs, (World.cell?_of_block (a := ⟨p, 0, none⟩) hp).trans h.c0, (World.cell?_of_block (a := ⟨p, 1, none⟩) hp).trans h.c1, (World.cell?_of_block (a := ⟨p, 2, none⟩) hp).trans h.c2, (World.cell?_of_block (a := ⟨p, 3, none⟩) hp).trans h.c3, (World.cell?_of_block (a := ⟨p, 4, none⟩) hp).trans h.c4,
   (World.frozen?_of_block (a := ⟨p, 2, none⟩) hp).trans h.f2, (World.frozen?_of_block (a := ⟨p, 3, none⟩) hp).trans h.f3, (World.frozen?_of_block (a := ⟨p, 4, none⟩) hp).trans h.f4⟩
structure FileAt (w : World) (fb : Nat) (ao : Option Addr) (cap : Nat) (f : Fl) : Prop where
  c0 : w.cell? ⟨fb, 0, none⟩ = some (.slice ao f.b.length cap)
  c1 : w.cell? ⟨fb, 1, none⟩ = some (.int .i64 f.s)
  f0 : w.frozen? ⟨fb, 0, none⟩ = false
  f1 : w.frozen? ⟨fb, 1, none⟩ = false
  row : Rw w 1 ao f.b.length cap (U8 f.b)
theorem FileAt.kept {w w' : World} {fb : Nat} {ao : Option Addr} {cap : Nat} {f : Fl} (h : FileAt w fb ao cap f) (hs : w.heap.size ≤ w'.heap.size) (hp : w'.heap[fb]? = w.heap[fb]?) (hb : ∀ g, ob ao = some g → w'.heap[g]? = w.heap[g]?) : FileAt w' fb ao cap f :=
  ⟨(World.cell?_of_block (a := ⟨fb, 0, none⟩) hp).trans h.c0, (World.cell?_of_block (a := ⟨fb, 1, none⟩) hp).trans h.c1, (World.frozen?_of_block (a := ⟨fb, 0, none⟩) hp).trans h.f0, (World.frozen?_of_block (a := ⟨fb, 1, none⟩) hp).trans h.f1, h.row.kept hs hb⟩
/-- What is kept at a failure. -/
def KeepAt (w : World) (G : Nat → Prop) (ko : Option Addr) (ks : List Int) : Prop :=
  ks = [] ∨ ∃ g o, ko = some ⟨g, o, none⟩ ∧ G g ∧ ∀ j (h : j < ks.length), w.cell? ⟨g, o + j, none⟩ = some (.int .i64 ks[j])
theorem KeepAt.kept {w w' : World} {G : Nat → Prop} {ko : Option Addr} {ks : List Int} (h : KeepAt w G ko ks) (hb : ∀ g, G g → w'.heap[g]? = w.heap[g]?) : KeepAt w' G ko ks := by
  rcases h with h | ⟨g, o, e, hg, h⟩
  · exact .inl h
  · exact .inr ⟨g, o, e, hg, fun j hj => (World.cell?_of_block (a := ⟨g, o + j, none⟩) (hb g hg)).trans (h j hj)⟩
def FailAt (w : World) (β : Roles) (fp : Option Addr) : Option (Int × List Int) → Prop
  | none => fp = none
  | some (l, ks) => ∃ b ko kc, fp = some ⟨b, 0, none⟩ ∧ β (2, 0) = some b ∧ w.cell? ⟨b, 0, none⟩ = some (.int .i64 l) ∧ w.frozen? ⟨b, 0, none⟩ = false ∧
      w.cell? ⟨b, 1, none⟩ = some (.slice ko ks.length kc) ∧ KeepAt w (fun g => β (3, 0) = some g) ko ks
theorem FailAt.kept {w w' : World} {β : Roles} {fp : Option Addr} {x : Option (Int × List Int)} (h : FailAt w β fp x) (hb : ∀ r k, r.1 = 2 ∨ r.1 = 3 → β r = some k → w'.heap[k]? = w.heap[k]?) : FailAt w' β fp x := by
  match x, h with
  | none, h => exact h
  | some (l, ks), ⟨b, ko, kc, e, hb0, c0, f0, c1, hk⟩ =>
    have h2 := hb _ _ (.inl rfl) hb0
    exact ⟨b, ko, kc, e, hb0, (World.cell?_of_block (a := ⟨b, 0, none⟩) h2).trans c0, (World.frozen?_of_block (a := ⟨b, 0, none⟩) h2).trans f0, (World.cell?_of_block (a := ⟨b, 1, none⟩) h2).trans c1, hk.kept (fun g hg => hb _ _ (.inr rfl) hg)⟩
theorem FailAt.roles {w : World} {β β' : Roles} {fp : Option Addr} {x : Option (Int × List Int)} (h : FailAt w β fp x) (hb : ∀ r, r.1 = 2 ∨ r.1 = 3 → β' r = β r) : FailAt w β' fp x := by
  match x, h with
  | none, h => exact h
  | some (l, ks), ⟨b, ko, kc, e, hb0, c0, f0, c1, hk⟩ =>
    refine ⟨b, ko, kc, e, (hb _ (.inl rfl)).trans hb0, c0, f0, c1, ?_⟩
    rw [hb _ (.inr rfl)]; exact hk
/-- A disk at p. -/
structure DiskAt (w : World) (β : Roles) (p : Nat) (S : St) : Prop where
  ok : Ok S
  inj : ∀ r s k, β r = some k → β s = some k → r = s
  lt : ∀ r k, β r = some k → k < w.heap.size
  p0 : β (0, 0) = some p
  head : ∃ m fp, β (1, 0) = some m ∧ HeadAt w p m S.cap S.down S.starts fp ∧ w.ownsMap (H := Unit) Tryz.prog 3 rf m S.fs.length (dat β S.fs) ∧ FailAt w β fp S.fail
  file : ∀ f ∈ S.fs, ∃ fb ao cap, β (4, f.n) = some fb ∧ (∀ g, ob ao = some g → β (5, f.n) = some g) ∧ FileAt w fb ao cap f
variable {w w' : World} {β : Roles} {p : Nat} {S S' : St}
theorem ownsMap_block {H : Type} {P : Program} {k : TypeId} {R : Value → Option (DataW H × List MemPlace)} {w w' : World} {b n : Nat} {D : DataW H} (h : w.ownsMap P k R b n D) (hb : w'.heap[b]? = w.heap[b]?) : w'.ownsMap P k R b n D := by
  obtain ⟨es, clock, hb', F, hs, hD⟩ := h
  exact ⟨es, clock, hb.trans hb', F, hs, hD⟩
theorem DiskAt.kept (h : DiskAt w β p S) (hs : w.heap.size ≤ w'.heap.size) (hb : ∀ r k, β r = some k → w'.heap[k]? = w.heap[k]?) : DiskAt w' β p S := by
  obtain ⟨m, fp, h1, h2, h3, h4⟩ := h.head
  refine ⟨h.ok, h.inj, fun r k hr => Nat.lt_of_lt_of_le (h.lt r k hr) hs, h.p0, ⟨m, fp, h1, h2.kept hs (hb _ _ h.p0), ownsMap_block h3 (hb _ _ h1), h4.kept (fun r k _ => hb r k)⟩, fun f hf => ?_⟩
  obtain ⟨fb, ao, cap, k1, k2, k3⟩ := h.file f hf
  exact ⟨fb, ao, cap, k1, k2, k3.kept hs (hb _ _ k1) (fun g hg => hb _ _ (k2 g hg))⟩
theorem DiskAt.ext (h : DiskAt w β p S) (hx : Ext w w') : DiskAt w' β p S := h.kept hx.size (fun r k hr => Below.block hx k (h.lt r k hr))
theorem DiskAt.fr {F : Nat → Prop} (h : DiskAt w β p S) (hf : Fr F w w') (ha : ∀ k, Bl β k → ¬ F k) : DiskAt w' β p S := h.kept hf.size (fun r k hr => hf.block k (h.lt r k hr) (ha k ⟨r, hr⟩))
theorem DiskAt.under (h : DiskAt w β p S) : Under (Bl β) w := fun _ ⟨r, hr⟩ => h.lt r _ hr
/-- Its head has turned, not its files. -/
theorem DiskAt.turnHead (h : DiskAt w β p S) (hf : Fr (fun k => k = p) w w') (hfs : S'.fs = S.fs) (hok : Ok S') {m : Nat} {fp : Option Addr} (hm : β (1, 0) = some m) (hh : HeadAt w' p m S'.cap S'.down S'.starts fp) (hfa : FailAt w' β fp S'.fail) : DiskAt w' β p S' := by
  obtain ⟨m', fp', h1, h2, h3, h4⟩ := h.head
  obtain rfl : m' = m := Option.some.inj (h1.symm.trans hm)
  have hb : ∀ r k, r ≠ (0, 0) → β r = some k → w'.heap[k]? = w.heap[k]? := fun r k hr hk => hf.block k (h.lt r k hk) (fun e => hr (h.inj _ _ _ hk (e ▸ h.p0)))
  refine ⟨hok, h.inj, fun r k hr => Nat.lt_of_lt_of_le (h.lt r k hr) hf.size, h.p0, ⟨m', fp, h1, hh, ?_, hfa⟩, fun f hf' => ?_⟩
  · rw [hfs]
    exact ownsMap_block h3 (hb _ _ (by simp) h1)
  · rw [hfs] at hf'
    obtain ⟨fb, ao, cap, k1, k2, k3⟩ := h.file f hf'
    exact ⟨fb, ao, cap, k1, k2, k3.kept hf.size (hb _ _ (by simp) k1) (fun g hg => hb _ _ (by simp) (k2 g hg))⟩
theorem Tn.same {F : Nat → Prop} {G : Nat → Prop} {w w' : World} (h : Fr F w w') (hF : ∀ k, F k → G k) : Tn G G w w' := ⟨h.mono (fun k _ hk => hF k hk), fun _ h => .inl h⟩
/-- One file has turned: its row is where it was, or in a block that is new. -/
theorem DiskAt.turnFile (h : DiskAt w β p S) {f f' : Fl} (hn : f'.n = f.n) {fb : Nat} {ao' : Option Addr} {cap' : Nat} (hfb : β (4, f.n) = some fb) (hfr : Fr (fun k => k = fb ∨ β (5, f.n) = some k) w w')
    (hao : ∀ g, ob ao' = some g → β (5, f.n) = some g ∨ w.heap.size ≤ g) (hF : FileAt w' fb ao' cap' f') (hok : Ok { S with fs := upd f' S.fs }) :
    ∃ β', DiskAt w' β' p { S with fs := upd f' S.fs } ∧ Tn (Bl β) (Bl β') w w' ∧ ((∀ g, ob ao' = some g → β (5, f.n) = some g) → β' = β) := by
  classical
  have hlt := hF.row.lt
  by_cases hc : ∀ g, ob ao' = some g → β (5, f.n) = some g
  · refine ⟨β, ?_, Tn.same hfr (fun k hk => hk.elim (fun e => ⟨_, e ▸ hfb⟩) (fun e => ⟨_, e⟩)), fun _ => rfl⟩
    obtain ⟨m, fp, h1, h2, h3, h4⟩ := h.head
    have hb : ∀ r k, r ≠ (4, f.n) → r ≠ (5, f.n) → β r = some k → w'.heap[k]? = w.heap[k]? := fun r k hr hr' hk => hfr.block k (h.lt r k hk) (fun e => e.elim (fun e => hr (h.inj _ _ _ hk (e ▸ hfb))) (fun e => hr' (h.inj _ _ _ hk e)))
    refine ⟨hok, h.inj, fun r k hr => Nat.lt_of_lt_of_le (h.lt r k hr) hfr.size, h.p0, ⟨m, fp, h1, h2.kept hfr.size (hb _ _ (by simp) (by simp) h.p0), ?_, h4.kept (fun r k hr hk => hb r k (by rintro rfl; simp at hr) (by rintro rfl; simp at hr) hk)⟩, fun g hg => ?_⟩
    · show w'.ownsMap _ _ _ _ (upd f' S.fs).length (dat β (upd f' S.fs))
      rw [length_upd, ← dat_congr (β := β) (names_upd f' S.fs).symm (fun _ _ => rfl)]
      exact ownsMap_block h3 (hb _ _ (by simp) (by simp) h1)
    · rcases mem_upd hg with ⟨rfl, _⟩ | ⟨hg, hne⟩
      · rw [hn]; exact ⟨fb, ao', cap', hfb, hc, hF⟩
      · obtain ⟨fb2, ao2, cap2, k1, k2, k3⟩ := h.file g hg
        have hne' : g.n ≠ f.n := hn ▸ hne
        exact ⟨fb2, ao2, cap2, k1, k2, k3.kept hfr.size (hb _ _ (by simpa using hne') (by simp) k1) (fun i hi => hb _ _ (by simp) (by simpa using hne') (k2 i hi))⟩
  · obtain ⟨q, hq, hq5⟩ : ∃ q, ob ao' = some q ∧ ¬ β (5, f.n) = some q := by
      by_cases h0 : ∃ q, ob ao' = some q ∧ ¬ β (5, f.n) = some q
      · exact h0
      · exact absurd (fun g hg => Classical.byContradiction fun hx => h0 ⟨g, hg, hx⟩) hc
    have hnew : w.heap.size ≤ q := (hao q hq).resolve_left hq5
    have hβ : ∀ r, r ≠ (5, f.n) → (fun r => if r = (5, f.n) then some q else β r) r = β r := fun r hr => if_neg hr
    refine ⟨fun r => if r = (5, f.n) then some q else β r, ?_, ⟨hfr.mono (fun k _ hk => hk.elim (fun e => ⟨_, e ▸ hfb⟩) (fun e => ⟨_, e⟩)), fun k ⟨r, hr⟩ => ?_⟩, fun hx => absurd hx hc⟩
    · obtain ⟨m, fp, h1, h2, h3, h4⟩ := h.head
      have hb : ∀ r k, r ≠ (4, f.n) → r ≠ (5, f.n) → β r = some k → w'.heap[k]? = w.heap[k]? := fun r k hr hr' hk => hfr.block k (h.lt r k hk) (fun e => e.elim (fun e => hr (h.inj _ _ _ hk (e ▸ hfb))) (fun e => hr' (h.inj _ _ _ hk e)))
      refine ⟨hok, fun r s k hr hs => ?_, fun r k hr => ?_, (hβ _ (by simp)).trans h.p0, ⟨m, fp, (hβ _ (by simp)).trans h1, h2.kept hfr.size (hb _ _ (by simp) (by simp) h.p0), ?_, ?_⟩, fun g hg => ?_⟩
      · by_cases e1 : r = (5, f.n)
        · by_cases e2 : s = (5, f.n)
          · rw [e1, e2]
          · simp only [e1, e2, if_true, if_false] at hr hs
            cases hr
            exact absurd (h.lt _ _ hs) (by omega)
        · by_cases e2 : s = (5, f.n)
          · simp only [e1, e2, if_true, if_false] at hr hs
            cases hs
            exact absurd (h.lt _ _ hr) (by omega)
          · simp only [e1, e2, if_false] at hr hs
            exact h.inj _ _ _ hr hs
      · by_cases e1 : r = (5, f.n)
        · simp only [e1, if_true] at hr
          cases hr
          exact hlt _ hq
        · simp only [e1, if_false] at hr
          exact Nat.lt_of_lt_of_le (h.lt r k hr) hfr.size
      · show w'.ownsMap _ _ _ _ (upd f' S.fs).length (dat _ (upd f' S.fs))
        rw [length_upd, ← dat_congr (β := β) (names_upd f' S.fs).symm (fun g _ => by simp [bn])]
        exact ownsMap_block h3 (hb _ _ (by simp) (by simp) h1)
      · exact (h4.kept (fun r k hr hk => hb r k (by rintro rfl; simp at hr) (by rintro rfl; simp at hr) hk)).roles (fun r hr => hβ r (by rintro rfl; simp at hr))
      · rcases mem_upd hg with ⟨rfl, _⟩ | ⟨hg, hne⟩
        · rw [hn]
          exact ⟨fb, ao', cap', (hβ _ (by simp)).trans hfb, fun i hi => by simp only [if_true]; exact hq.symm.trans hi, hF⟩
        · obtain ⟨fb2, ao2, cap2, k1, k2, k3⟩ := h.file g hg
          have hne' : g.n ≠ f.n := hn ▸ hne
          exact ⟨fb2, ao2, cap2, (hβ _ (by simp)).trans k1, fun i hi => (hβ _ (by simpa using hne')).trans (k2 i hi), k3.kept hfr.size (hb _ _ (by simpa using hne') (by simp) k1) (fun i hi => hb _ _ (by simp) (by simpa using hne') (k2 i hi))⟩
    · by_cases e1 : r = (5, f.n)
      · simp only [e1, if_true] at hr
        cases hr
        exact .inr hnew
      · simp only [e1, if_false] at hr
        exact .inl ⟨r, hr⟩
/-- A file that is new, in a block that is new. -/
theorem DiskAt.putFile (h : DiskAt w β p S) {f : Fl} (hf : get S.fs f.n = none) (hm : ∀ m, β (1, 0) = some m → w'.ownsMap (H := Unit) Tryz.prog 3 rf m (S.fs.length + 1) ((dat β S.fs).put (.int .i64 f.n) (.lit (.int .i64 (w.heap.size : Nat)))))
    (hfr : Fr (fun k => β (1, 0) = some k) w w') (hs : w.heap.size < w'.heap.size) (hF : FileAt w' w.heap.size none 0 f) (hok : Ok { S with fs := ins f S.fs }) :
    ∃ β', DiskAt w' β' p { S with fs := ins f S.fs } ∧ Tn (Bl β) (Bl β') w w' := by
  classical
  have hβ : ∀ r, r ≠ (4, f.n) → (fun r => if r = (4, f.n) then some w.heap.size else β r) r = β r := fun r hr => if_neg hr
  have hβ4 : (fun r => if r = (4, f.n) then some w.heap.size else β r) (4, f.n) = some w.heap.size := if_pos rfl
  obtain ⟨m, fp, h1, h2, h3, h4⟩ := h.head
  have hb : ∀ r k, r ≠ (1, 0) → β r = some k → w'.heap[k]? = w.heap[k]? := fun r k hr hk => hfr.block k (h.lt r k hk) (fun e => hr (h.inj _ _ _ hk e))
  refine ⟨fun r => if r = (4, f.n) then some w.heap.size else β r, ⟨hok, fun r s k hr hs' => ?_, fun r k hr => ?_, (hβ _ (by simp)).trans h.p0, ⟨m, fp, (hβ _ (by simp)).trans h1, h2.kept hfr.size (hb _ _ (by simp) h.p0), ?_, ?_⟩, fun g hg => ?_⟩, ⟨hfr.mono (fun k _ hk => ⟨_, hk⟩), fun k ⟨r, hr⟩ => ?_⟩⟩
  · by_cases e1 : r = (4, f.n)
    · by_cases e2 : s = (4, f.n)
      · rw [e1, e2]
      · simp only [e1, e2, if_true, if_false] at hr hs'
        cases hr
        exact absurd (h.lt _ _ hs') (by omega)
    · by_cases e2 : s = (4, f.n)
      · simp only [e1, e2, if_true, if_false] at hr hs'
        cases hs'
        exact absurd (h.lt _ _ hr) (by omega)
      · simp only [e1, e2, if_false] at hr hs'
        exact h.inj _ _ _ hr hs'
  · by_cases e1 : r = (4, f.n)
    · simp only [e1, if_true] at hr
      cases hr
      exact hs
    · simp only [e1, if_false] at hr
      exact Nat.lt_of_lt_of_le (h.lt r k hr) hfr.size
  · show w'.ownsMap _ _ _ _ (ins f S.fs).length (dat _ (ins f S.fs))
    rw [length_ins, ← dat_put S.fs f hf]
    have e := hm m h1
    rw [dat_congr (β := β) (β' := fun r => if r = (4, f.n) then some w.heap.size else β r) (l' := S.fs) rfl (fun g hg => by
      have := get_none hf g hg
      simp [bn, this])] at e
    have e2 : bn (fun r => if r = (4, f.n) then some w.heap.size else β r) f.n = w.heap.size := by simp [bn]
    rw [e2]
    exact e
  · exact (h4.kept (fun r k hr hk => hb r k (by rintro rfl; simp at hr) hk)).roles (fun r hr => hβ r (by rintro rfl; simp at hr))
  · rcases mem_ins.1 hg with rfl | hg
    · exact ⟨w.heap.size, none, 0, hβ4, fun i hi => (by cases hi), hF⟩
    · obtain ⟨fb2, ao2, cap2, k1, k2, k3⟩ := h.file g hg
      have hne : g.n ≠ f.n := get_none hf g hg
      exact ⟨fb2, ao2, cap2, (hβ _ (by simpa using hne)).trans k1, fun i hi => (hβ _ (by simp)).trans (k2 i hi), k3.kept hfr.size (hb _ _ (by simp) k1) (fun i hi => hb _ _ (by simp) (k2 i hi))⟩
  · by_cases e1 : r = (4, f.n)
    · simp only [e1, if_true] at hr
      cases hr
      exact .inr (Nat.le_refl _)
    · simp only [e1, if_false] at hr
      exact .inl ⟨r, hr⟩
/-- A file is taken away. -/
theorem DiskAt.dropFile (h : DiskAt w β p S) (n : Int) (hm : ∀ m, β (1, 0) = some m → ∃ c, w'.ownsMap (H := Unit) Tryz.prog 3 rf m c ((dat β S.fs).del (.int .i64 n)))
    (hfr : Fr (fun k => β (1, 0) = some k) w w') (hok : Ok { S with fs := del n S.fs }) :
    DiskAt w' β p { S with fs := del n S.fs } ∧ Tn (Bl β) (Bl β) w w' := by
  obtain ⟨m, fp, h1, h2, h3, h4⟩ := h.head
  have hb : ∀ r k, r ≠ (1, 0) → β r = some k → w'.heap[k]? = w.heap[k]? := fun r k hr hk => hfr.block k (h.lt r k hk) (fun e => hr (h.inj _ _ _ hk e))
  refine ⟨⟨hok, h.inj, fun r k hr => Nat.lt_of_lt_of_le (h.lt r k hr) hfr.size, h.p0, ⟨m, fp, h1, h2.kept hfr.size (hb _ _ (by simp) h.p0), ?_, ?_⟩, fun g hg => ?_⟩, Tn.same hfr (fun k hk => ⟨_, hk⟩)⟩
  · show w'.ownsMap _ _ _ _ (del n S.fs).length (dat _ (del n S.fs))
    obtain ⟨c, e⟩ := hm m h1
    have e2 := ownsMap_tight e
    rw [dat_del, dat_size] at e2
    exact e2
  · exact h4.kept (fun r k hr hk => hb r k (by rintro rfl; simp at hr) hk)
  · obtain ⟨hg, _⟩ := mem_del.1 hg
    obtain ⟨fb2, ao2, cap2, k1, k2, k3⟩ := h.file g hg
    exact ⟨fb2, ao2, cap2, k1, k2, k3.kept hfr.size (hb _ _ (by simp) k1) (fun i hi => hb _ _ (by simp) (k2 i hi))⟩
end Go.Proofs.YtajclcbclbppiaaGreat
end
section
namespace Go.Dk
/-- A change: what it is behind it; early: it is done ahead of the disk's going down. -/
def chg (S S1 : St) (early : Bool) : St × Int :=
  match S.fail with
  | none => (S1, 0)
  | some (l, ks) => if l = 0 then ((if early then S1 else S).crash ks, 61) else ({ S1 with fail := some (l - 1, ks) }, 0)
def create (S : St) (n : Int) : St × Int :=
  if S.down then (S, 61) else if n < 0 then (S, 2) else
    match get S.fs n with
    | some _ => (S, 62)
    | none => if 100 ≤ S.fs.length then (S, 60) else chg S { S with fs := ins ⟨n, [], 0⟩ S.fs } false
def append (S : St) (n : Int) (s : List UInt8) : St × Int :=
  if S.down then (S, 61) else
    match get S.fs n with
    | none => (S, 4)
    | some f => if S.cap - tot S.fs < s.length then (S, 60) else chg S { S with fs := upd ⟨f.n, f.b ++ s, f.s⟩ S.fs } true
def sync (S : St) (n : Int) : St × Int :=
  if S.down then (S, 61) else
    match get S.fs n with
    | none => (S, 4)
    | some f => chg S { S with fs := upd ⟨f.n, f.b, f.b.length⟩ S.fs } false
def truncate (S : St) (n size : Int) : St × Int :=
  if S.down then (S, 61) else
    match get S.fs n with
    | none => (S, 4)
    | some f => if size < 0 ∨ (f.b.length : Int) < size then (S, 2) else chg S { S with fs := upd ⟨f.n, f.b.take size.toNat, min f.s size.toNat⟩ S.fs } false
def delete (S : St) (n : Int) : St × Int :=
  if S.down then (S, 61) else
    match get S.fs n with
    | none => (S, 4)
    | some _ => chg S { S with fs := del n S.fs } false
def read (S : St) (n at_ size : Int) : List UInt8 × Int :=
  if S.down then ([], 61) else
    match get S.fs n with
    | none => ([], 4)
    | some f => if at_ < 0 ∨ size < 0 ∨ (f.b.length : Int) < size ∨ (f.b.length : Int) - size < at_ then ([], 2) else ((f.b.drop at_.toNat).take size.toNat, 0)
def size (S : St) (n : Int) : Int × Int :=
  if S.down then (0, 61) else
    match get S.fs n with
    | none => (0, 4)
    | some f => (f.b.length, 0)
def crash (S : St) (ks : List Int) : St × Int := if S.down then (S, 61) else (S.crash ks, 0)
def start (S : St) : St × Int := if S.down then ({ S with down := false, starts := IntKind.i64.wrap (S.starts + 1) }, 0) else (S, 2)
def fail (S : St) (n : Int) (ks : List Int) : St × Int := if S.down then (S, 61) else if n < 0 then (S, 2) else ({ S with fail := some (n, ks) }, 0)
/-! ### well it stays -/
theorem Ok.withFail {S : St} (h : Ok S) {x : Option (Int × List Int)} (hx : ∀ l ks, x = some (l, ks) → 0 ≤ l ∧ l ≤ 9223372036854775807 ∧ ks.length ≤ 16777216) : Ok { S with fail := x } :=
  ⟨h.cap0, h.cap1, h.rise, h.tot, h.sure, h.names, h.many, hx⟩
theorem Ok.withDown {S : St} (h : Ok S) (d : Bool) (s : Int) : Ok { S with down := d, starts := s } := ⟨h.cap0, h.cap1, h.rise, h.tot, h.sure, h.names, h.many, h.fail⟩
theorem Ok.ins {S : St} (h : Ok S) (n : Int) (h0 : 0 ≤ n) (h1 : n ≤ 9223372036854775807) (hg : get S.fs n = none) (hl : S.fs.length < 100) : Ok { S with fs := ins ⟨n, [], 0⟩ S.fs } where
  cap0 := h.cap0
  cap1 := h.cap1
  rise := rise_ins h.rise (fun g hg' => get_none hg g hg')
  tot := by have := h.tot; show (Dk.tot (Dk.ins _ _) : Int) ≤ S.cap; rw [tot_ins]; simpa using this
  sure := fun f hf => by
    rcases mem_ins.1 hf with rfl | hf
    · exact Nat.le_refl _
    · exact h.sure f hf
  names := fun f hf => by
    rcases mem_ins.1 hf with rfl | hf
    · exact ⟨h0, h1⟩
    · exact h.names f hf
  many := by show (Dk.ins _ _).length ≤ 100; rw [length_ins]; omega
  fail := h.fail
theorem Ok.upd {S : St} (h : Ok S) {f f' : Fl} (hf : f ∈ S.fs) (hn : f'.n = f.n) (hs : f'.s ≤ f'.b.length) (ht : (Dk.tot S.fs : Int) + f'.b.length ≤ S.cap + f.b.length) : Ok { S with fs := upd f' S.fs } where
  cap0 := h.cap0
  cap1 := h.cap1
  rise := rise_upd h.rise
  tot := by
    have := tot_upd (f := f') h.rise hf hn.symm
    show (Dk.tot (Dk.upd _ _) : Int) ≤ S.cap
    omega
  sure := fun g hg => by
    rcases mem_upd hg with ⟨rfl, _⟩ | ⟨hg, _⟩
    · exact hs
    · exact h.sure g hg
  names := fun g hg => by
    rcases mem_upd hg with ⟨rfl, _⟩ | ⟨hg, _⟩
    · rw [hn]; exact h.names f hf
    · exact h.names g hg
  many := by show (Dk.upd _ _).length ≤ 100; rw [length_upd]; exact h.many
  fail := h.fail
theorem Ok.del {S : St} (h : Ok S) (n : Int) : Ok { S with fs := del n S.fs } where
  cap0 := h.cap0
  cap1 := h.cap1
  rise := rise_del h.rise
  tot := by have := tot_del n S.fs; have := h.tot; show (Dk.tot (Dk.del _ _) : Int) ≤ S.cap; omega
  sure := fun f hf => h.sure f (mem_del.1 hf).1
  names := fun f hf => h.names f (mem_del.1 hf).1
  many := Nat.le_trans (length_del n S.fs) h.many
  fail := h.fail
end Go.Dk
end
section
namespace Go.Proofs.YtajclcbclbppiaaGreat
open Go.RowKit Go.Maps Go.Dk
variable {w w' : World} {β : Roles} {p : Nat} {S S' : St}
theorem zeroFile (w : World) : (zeroValue 60).run Tryz.prog w = .ok (.pointer none) w := by kernel_rfl
theorem keyedInt : Keyed Tryz.prog 3 := int_keyed Tryz.underlying3
theorem keyInt {n : Int} (h : (Lit.int .i64 n).wf = true) : keyOf Tryz.prog 3 (.int .i64 n) = some (.int .i64 n) := keyOf_int_mk Tryz.underlying3 h
theorem ok_wf (h : Ok S) {f : Fl} (hf : f ∈ S.fs) : (Lit.int .i64 f.n).wf = true := by
  have := h.names f hf
  have e : IntKind.i64.min = -9223372036854775808 := rfl
  simp [Lit.wf, e]
  omega
/-- A look into the map, as the run of the operation. -/
theorem look_some (h : DiskAt w β p S) {n : Int} (hn : (Lit.int .i64 n).wf = true) {f : Fl} (hf : get S.fs n = some f) {m fb : Nat} (hm : β (1, 0) = some m) (hfb : β (4, n) = some fb) :
    (Instr.lookup 52 (.map (some m)) (.int .i64 n) true).run Tryz.prog w = .ok (.tuple #[.pointer (some ⟨fb, 0, none⟩), .bool true]) w := by
  obtain ⟨m', fp, h1, _, h3, _⟩ := h.head
  obtain rfl : m' = m := Option.some.inj (h1.symm.trans hm)
  obtain ⟨v, ps, hrun, hv⟩ := h3.look_ok keyedInt Tryz.underlying52 (zeroFile w) (R := rf) (zd := .nil) (zp := []) rfl (keyInt hn)
  rw [dat_has, hf] at hrun
  rw [dat_at, hf] at hv
  have e : bn β n = fb := by simp [bn, hfb]
  rw [e] at hv
  obtain rfl := rf_inv (b := fb) hv
  exact hrun
theorem look_none (h : DiskAt w β p S) {n : Int} (hn : (Lit.int .i64 n).wf = true) (hf : get S.fs n = none) {m : Nat} (hm : β (1, 0) = some m) :
    (Instr.lookup 52 (.map (some m)) (.int .i64 n) true).run Tryz.prog w = .ok (.tuple #[.pointer none, .bool false]) w := by
  obtain ⟨m', fp, h1, _, h3, _⟩ := h.head
  obtain rfl : m' = m := Option.some.inj (h1.symm.trans hm)
  obtain ⟨v, ps, hrun, hv⟩ := h3.look_ok keyedInt Tryz.underlying52 (zeroFile w) (R := rf) (zd := .nil) (zp := []) rfl (keyInt hn)
  rw [dat_has, hf] at hrun
  rw [dat_at, hf] at hv
  obtain rfl := rf_nil hv
  exact hrun
theorem look_one (h : DiskAt w β p S) {n : Int} (hn : (Lit.int .i64 n).wf = true) {f : Fl} (hf : get S.fs n = some f) {m fb : Nat} (hm : β (1, 0) = some m) (hfb : β (4, n) = some fb) :
    (Instr.lookup 52 (.map (some m)) (.int .i64 n) false).run Tryz.prog w = .ok (.pointer (some ⟨fb, 0, none⟩)) w := by
  obtain ⟨m', fp, h1, _, h3, _⟩ := h.head
  obtain rfl : m' = m := Option.some.inj (h1.symm.trans hm)
  obtain ⟨v, ps, hrun, hv⟩ := h3.lookup keyedInt Tryz.underlying52 (zeroFile w) (R := rf) (zd := .nil) (zp := []) rfl (keyInt hn)
  rw [dat_at, hf] at hv
  have e : bn β n = fb := by simp [bn, hfb]
  rw [e] at hv
  obtain rfl := rf_inv (b := fb) hv
  exact hrun
theorem len_map (h : DiskAt w β p S) {m : Nat} (hm : β (1, 0) = some m) (ty : TypeId) : (Builtin.len_ #[52] ty #[.map (some m)]).run Tryz.prog w = .ok (.int .i64 (S.fs.length : Nat)) w := by
  obtain ⟨m', fp, h1, _, h3, _⟩ := h.head
  obtain rfl : m' = m := Option.some.inj (h1.symm.trans hm)
  have e := h3.len Tryz.underlying52 ty
  rwa [dat_size] at e
theorem map_made (w : World) (m : Nat) : (binOp .eql 52 (.map (some m)) (.map none)).run Tryz.prog w = .ok (.bool false) w := by kernel_rfl
theorem map_nil (w : World) : (binOp .eql 52 (.map none) (.map none)).run Tryz.prog w = .ok (.bool true) w := by kernel_rfl
set_option maxRecDepth 100000 in
theorem none_no (h : DiskAt w β p S) :
    Calls Tryz.prog 62 #[.pointer (some ⟨p, 0, none⟩)] w fun e w' => e = .returned (.bool false) ∧ w = w' := by
  obtain ⟨m, fp, _, h2, _⟩ := h.head
  have h1 := h2.c0
  have hm := map_made w m
  clear h h2
  go_enter Tryz.func62, Tryz.ntmps62
  go_wp2
  go_ret
  exact ⟨rfl, rfl⟩
set_option maxRecDepth 100000 in
theorem state_up (h : DiskAt w β p S) (hd : S.down = false) :
    Calls Tryz.prog 59 #[.pointer (some ⟨p, 0, none⟩)] w fun e w' => e = .returned (.int .i64 0) ∧ w = w' := by
  obtain ⟨m, fp, _, h2, _⟩ := h.head
  have h1 := h2.c2
  have N := Lib.hid (none_no h)
  rw [hd] at h1
  clear h h2 hd
  go_enter Tryz.func59, Tryz.ntmps59
  go_wp2_with (go_at_call 62; with_reducible refine N.out.mono ?_; rintro e w1 ⟨rfl, rfl⟩)
  go_ret
  exact ⟨rfl, rfl⟩
set_option maxRecDepth 100000 in
theorem state_down (h : DiskAt w β p S) (hd : S.down = true) :
    Calls Tryz.prog 59 #[.pointer (some ⟨p, 0, none⟩)] w fun e w' => e = .returned (.int .i64 61) ∧ w = w' := by
  obtain ⟨m, fp, _, h2, _⟩ := h.head
  have h1 := h2.c2
  have N := Lib.hid (none_no h)
  rw [hd] at h1
  clear h h2 hd
  go_enter Tryz.func59, Tryz.ntmps59
  go_wp2_with (go_at_call 62; with_reducible refine N.out.mono ?_; rintro e w1 ⟨rfl, rfl⟩)
  go_ret
  exact ⟨rfl, rfl⟩
/-- state, at one point. -/
theorem state_at (h : DiskAt w β p S) : ∃ x, (Calls Tryz.prog 59 #[.pointer (some ⟨p, 0, none⟩)] w fun e w' => e = .returned (.int .i64 x) ∧ w = w') ∧ ((S.down = true ∧ x = 61) ∨ (S.down = false ∧ x = 0)) := by
  cases hd : S.down
  · exact ⟨_, state_up h hd, .inr ⟨rfl, rfl⟩⟩
  · exact ⟨_, state_down h hd, .inl ⟨rfl, rfl⟩⟩
set_option maxRecDepth 100000 in
theorem get_yes (h : DiskAt w β p S) (hd : S.down = false) {n : Int} (hn : (Lit.int .i64 n).wf = true) {f : Fl} (hf : get S.fs n = some f) {fb : Nat} (hfb : β (4, n) = some fb) :
    Calls Tryz.prog 22 #[.pointer (some ⟨p, 0, none⟩), .int .i64 n] w fun e w' => e = .returned (.tuple #[.pointer (some ⟨fb, 0, none⟩), .int .i64 0]) ∧ w = w' := by
  obtain ⟨m, fp, hm, h2, _⟩ := h.head
  have h1 := h2.c0
  have hl := look_some h hn hf hm hfb
  have N := Lib.hid (state_up h hd)
  clear h h2
  go_enter Tryz.func22, Tryz.ntmps22
  go_wp2_with (go_at_call 59; with_reducible refine N.out.mono ?_; rintro e w1 ⟨rfl, rfl⟩)
  go_ret2
  exact ⟨rfl, rfl⟩
set_option maxRecDepth 100000 in
theorem get_no (h : DiskAt w β p S) (hd : S.down = false) {n : Int} (hn : (Lit.int .i64 n).wf = true) (hf : get S.fs n = none) :
    Calls Tryz.prog 22 #[.pointer (some ⟨p, 0, none⟩), .int .i64 n] w fun e w' => e = .returned (.tuple #[.pointer none, .int .i64 4]) ∧ w = w' := by
  obtain ⟨m, fp, hm, h2, _⟩ := h.head
  have h1 := h2.c0
  have hl := look_none h hn hf hm
  have N := Lib.hid (state_up h hd)
  clear h h2
  go_enter Tryz.func22, Tryz.ntmps22
  go_wp2_with (go_at_call 59; with_reducible refine N.out.mono ?_; rintro e w1 ⟨rfl, rfl⟩)
  go_ret2
  exact ⟨rfl, rfl⟩
set_option maxRecDepth 100000 in
theorem get_down (h : DiskAt w β p S) (hd : S.down = true) (n : Int) :
    Calls Tryz.prog 22 #[.pointer (some ⟨p, 0, none⟩), .int .i64 n] w fun e w' => e = .returned (.tuple #[.pointer none, .int .i64 61]) ∧ w = w' := by
  have N := Lib.hid (state_down h hd)
  clear h
  go_enter Tryz.func22, Tryz.ntmps22
  go_wp2_with (go_at_call 59; with_reducible refine N.out.mono ?_; rintro e w1 ⟨rfl, rfl⟩)
  go_ret2
  exact ⟨rfl, rfl⟩
/-- get, at one point. -/
theorem get_at (h : DiskAt w β p S) {n : Int} (hn : (Lit.int .i64 n).wf = true) : ∃ v e, (Calls Tryz.prog 22 #[.pointer (some ⟨p, 0, none⟩), .int .i64 n] w fun x w' => x = .returned (.tuple #[v, .int .i64 e]) ∧ w = w') ∧
    ((S.down = true ∧ v = .pointer none ∧ e = 61) ∨ (S.down = false ∧ get S.fs n = none ∧ v = .pointer none ∧ e = 4) ∨
      ∃ f fb ao cap, S.down = false ∧ get S.fs n = some f ∧ f ∈ S.fs ∧ f.n = n ∧ β (4, n) = some fb ∧ (∀ g, ob ao = some g → β (5, n) = some g) ∧ FileAt w fb ao cap f ∧ v = .pointer (some ⟨fb, 0, none⟩) ∧ e = 0) := by
  cases hd : S.down
  · cases hf : get S.fs n with
    | none => exact ⟨_, _, get_no h hd hn hf, .inr (.inl ⟨rfl, rfl, rfl, rfl⟩)⟩
    | some f =>
      obtain ⟨k1, k2⟩ := get_mem hf
      obtain ⟨fb, ao, cap, k3, k4, k5⟩ := h.file f k1
      rw [k2] at k3 k4
      exact ⟨_, _, get_yes h hd hn hf k3, .inr (.inr ⟨f, fb, ao, cap, rfl, rfl, k1, k2, k3, k4, k5, rfl, rfl⟩)⟩
  · exact ⟨_, _, get_down h hd n, .inl ⟨rfl, rfl, rfl⟩⟩
set_option maxRecDepth 100000 in
theorem size_is (h : DiskAt w β p S) {n : Int} (hn : (Lit.int .i64 n).wf = true) :
    Calls Tryz.prog 33 #[.pointer (some ⟨p, 0, none⟩), .int .i64 n] w fun e w' => e = .returned (.tuple #[.int .i64 (Dk.size S n).1, .int .i64 (Dk.size S n).2]) ∧ w = w' := by
  obtain ⟨v, e, hC, ht⟩ := get_at h hn
  have C := Lib.hid hC
  clear hC h hn
  rcases ht with ⟨hd, rfl, rfl⟩ | ⟨hd, hf, rfl, rfl⟩ | ⟨f, fb, ao, cap, hd, hf, _, _, _, _, hF, rfl, rfl⟩
  · rw [show Dk.size S n = (0, 61) by simp [Dk.size, hd]]
    clear hd
    go_enter Tryz.func33, Tryz.ntmps33
    go_wp2_with (go_at_call 22; with_reducible refine C.out.mono ?_; rintro e w1 ⟨rfl, rfl⟩)
    go_ret2
    exact ⟨rfl, rfl⟩
  · rw [show Dk.size S n = (0, 4) by simp [Dk.size, hd, hf]]
    clear hd hf
    go_enter Tryz.func33, Tryz.ntmps33
    go_wp2_with (go_at_call 22; with_reducible refine C.out.mono ?_; rintro e w1 ⟨rfl, rfl⟩)
    go_ret2
    exact ⟨rfl, rfl⟩
  · rw [show Dk.size S n = ((f.b.length : Int), 0) by simp [Dk.size, hd, hf]]
    have h0 := hF.c0
    clear hd hf hF
    go_enter Tryz.func33, Tryz.ntmps33
    go_wp2_with (go_at_call 22; with_reducible refine C.out.mono ?_; rintro e w1 ⟨rfl, rfl⟩)
    go_ret2
    exact ⟨rfl, rfl⟩
set_option maxRecDepth 100000 in
theorem up_is (h : DiskAt w β p S) :
    Calls Tryz.prog 32 #[.pointer (some ⟨p, 0, none⟩)] w fun e w' => e = .returned (.bool (!S.down)) ∧ w = w' := by
  obtain ⟨x, hN, ht⟩ := state_at h
  have N := Lib.hid hN
  clear h hN
  rcases ht with ⟨hd, rfl⟩ | ⟨hd, rfl⟩
  all_goals
    rw [hd]
    clear hd
    go_enter Tryz.func32, Tryz.ntmps32
    go_wp2_with (go_at_call 59; with_reducible refine N.out.mono ?_; rintro e w1 ⟨rfl, rfl⟩)
    go_ret
    exact ⟨rfl, rfl⟩
set_option maxRecDepth 100000 in
theorem starts_is (h : DiskAt w β p S) :
    Calls Tryz.prog 37 #[.pointer (some ⟨p, 0, none⟩)] w fun e w' => e = .returned (.int .i64 S.starts) ∧ w = w' := by
  have N := Lib.hid (none_no h)
  obtain ⟨m, fp, hm, h2, _⟩ := h.head
  have h1 := h2.c3
  clear h h2
  go_enter Tryz.func37, Tryz.ntmps37
  go_wp2_with (go_at_call 62; with_reducible refine N.out.mono ?_; rintro e w1 ⟨rfl, rfl⟩)
  go_ret
  exact ⟨rfl, rfl⟩
end Go.Proofs.YtajclcbclbppiaaGreat
end
section
namespace Go.Dk
open Go.RowKit Go.Maps
/-- The bytes of the files whose numbers are still to come. -/
def rest (left : Lit → Bool) : List Fl → Nat
  | [] => 0
  | f :: r => (if left (.int .i64 f.n) then f.b.length else 0) + rest left r
theorem rest_all {left : Lit → Bool} : ∀ {l : List Fl}, (∀ f ∈ l, left (.int .i64 f.n) = true) → rest left l = tot l
  | [], _ => rfl
  | f :: r, h => by simp only [rest, tot, h f (.head _), if_true, rest_all (fun g hg => h g (.tail _ hg))]
theorem rest_none {left : Lit → Bool} (h : ∀ z, left z = false) : ∀ l : List Fl, rest left l = 0
  | [] => rfl
  | f :: r => by simp [rest, h, rest_none h r]
theorem rest_miss {left : Lit → Bool} {n : Int} : ∀ {l : List Fl}, (∀ f ∈ l, f.n ≠ n) → rest (fun z => left z && !z.sameKey (.int .i64 n)) l = rest left l
  | [], _ => rfl
  | f :: r, h => by
    have h1 := h f (.head _)
    have e : (Lit.int .i64 f.n).sameKey (.int .i64 n) = false := by rw [same_iff]; simpa using h1
    simp only [rest, e, rest_miss (fun g hg => h g (.tail _ hg)), Bool.not_false, Bool.and_true]
theorem rest_le {left : Lit → Bool} : ∀ l : List Fl, rest left l ≤ tot l
  | [] => Nat.le_refl _
  | f :: r => by
    have ih := rest_le (left := left) r
    simp only [rest, tot]
    split <;> omega
theorem rest_strike {left : Lit → Bool} {n : Int} {f : Fl} : ∀ {l : List Fl}, Rise l → get l n = some f → left (.int .i64 n) = true → rest (fun z => left z && !z.sameKey (.int .i64 n)) l + f.b.length = rest left l
  | g :: r, hr, hg, hl => by
    obtain ⟨h1, h2⟩ := List.pairwise_cons.1 hr
    rw [get_cons] at hg
    by_cases hn : g.n = n
    · rw [if_pos hn] at hg
      obtain rfl : g = f := Option.some.inj hg
      subst hn
      have e : (Lit.int .i64 g.n).sameKey (.int .i64 g.n) = true := by rw [same_iff]; simp
      simp only [rest, e, hl, rest_miss (left := left) (n := g.n) (fun k hk => by have := h1 k hk; omega)]
      simp
      omega
    · rw [if_neg hn] at hg
      have e : (Lit.int .i64 g.n).sameKey (.int .i64 n) = false := by rw [same_iff]; simpa using hn
      have ih := rest_strike h2 hg hl
      simp only [rest, e, Bool.not_false, Bool.and_true]
      omega
end Go.Dk
namespace Go.Proofs.YtajclcbclbppiaaGreat
open Go.RowKit Go.Maps Go.Dk
variable {w w' : World} {β : Roles} {p : Nat} {S S' : St}
theorem inv_rf {v : Value} {y : DataW Unit × List MemPlace} (h : rf v = some y) : ∃ c, v = .pointer c := by
  unfold rf at h
  split at h
  · exact ⟨_, rfl⟩
  · exact ⟨_, rfl⟩
  · cases h
theorem inv_key {key : Value} {kl : Lit} (h : keyOf Tryz.prog 3 key = some kl) : ∃ x, key = .int .i64 x := by
  obtain ⟨x, h, _⟩ := keyOf_int_inv Tryz.underlying3 h
  exact ⟨x, h⟩
/-- An entry that has come: which file it is. -/
theorem entry_file {x : Int} {c : Option Addr} {kl : Lit} {y : DataW Unit × List MemPlace} {fs : List Fl} (hk : keyOf Tryz.prog 3 (.int .i64 x) = some kl) (hv : rf (.pointer c) = some y) (ha : ∀ zd, (dat β fs).atKey kl zd = y.1) :
    ∃ f, kl = .int .i64 x ∧ get fs x = some f ∧ c = some ⟨bn β x, 0, none⟩ := by
  obtain ⟨x', e, rfl, _⟩ := keyOf_int_inv Tryz.underlying3 hk
  cases e
  have h1 := ha .nil
  have h2 := ha (.lit (.int .i64 (-1)))
  rw [dat_at] at h1 h2
  cases hg : get fs x with
  | none =>
    rw [hg] at h1 h2
    have := h1.trans h2.symm
    cases this
  | some f =>
    rw [hg] at h1
    obtain ⟨y1, y2⟩ := y
    obtain rfl := (show DataW.lit (.int .i64 (bn β x : Nat)) = y1 from h1)
    have := rf_inv hv
    cases this
    exact ⟨f, rfl, rfl, rfl⟩
set_option maxHeartbeats 1000000 in
set_option maxRecDepth 100000 in
theorem free_is (h : DiskAt w β p S) :
    Calls Tryz.prog 28 #[.pointer (some ⟨p, 0, none⟩)] w fun e w' => e = .returned (.int .i64 (S.cap - tot S.fs)) ∧ Ext w w' := by
  have N := Lib.hid (none_no h)
  obtain ⟨m, fp, hm, h2, hown, _⟩ := h.head
  have h0 := h2.c0
  have h1 := h2.c1
  have hmlt := h.lt _ _ hm
  have H := Lib.hid h
  clear h h2
  go_enter Tryz.func28, Tryz.ntmps28
  go_wp2_with (first | (go_at_call 62; with_reducible refine N.out.mono ?_; rintro e w1 ⟨rfl, rfl⟩) | (at_range; refine wpList_range_own _ rfl _ 52 rfl 3 60 keyedInt Tryz.underlying52 rf m _ _ rfl hown ?_; intro w0 hrg0 hg0 hs0) | go_in)
  go_frame
  go_loopw [3] (fun v wr => ∃ (left : Lit → Bool) (cnt : Nat), wr.ranges Tryz.prog 3 rf m w.heap.size S.fs.length (dat β S.fs) left cnt ∧ v = .int .i64 (S.cap - tot S.fs + rest left S.fs) ∧ Ext w wr) (fun _ wr => wr.rangeLeft m w.heap.size)
  case atStart =>
    refine ⟨_, _, hrg0, ?_, (Ext.refl w).grown hg0 (by simp)⟩
    rw [rest_all (fun f hf => by rw [dat_has, get_of_mem H.out.ok.rise hf]; rfl)]
    congr 1
    omega
  case round =>
    obtain ⟨left, cnt, hrg, rfl, hE⟩ := hrel
    go_wp2_with (first | (at_next; refine wpList_next_ranges (α := Int) (β := Option Addr) _ rfl _ rfl 3 keyedInt rf (Value.int .i64) Value.pointer (fun key kl hk => inv_key hk) (fun v y hv => inv_rf hv) m w.heap.size _ _ _ _ rfl hrg ?_ ?_) | go_in)
    · intro hc0 hl0
      go_wp2
      go_ret
      refine ⟨?_, hE⟩
      rw [rest_none hl0]
      simp
    · intro x c kl y ps w1 cnt1 hk hlx hv hat hrg1 hlt hg1 hs1 hen
      obtain ⟨f, rfl, hf, rfl⟩ := entry_file (y := (y, ps)) hk hv hat
      have hE1 : Ext w w1 := hE.grown hg1 (by simp)
      obtain ⟨k1, k2⟩ := get_mem hf
      obtain ⟨fb, ao, cap, k3, k4, k5⟩ := (H.out.ext hE1).file f k1
      rw [k2] at k3
      have e : bn β x = fb := by simp [bn, k3]
      have hb0 := k5.c0
      have hst := rest_strike H.out.ok.rise hf hlx
      have hm0 := hrg.left_eq
      have hm1 := hrg1.left_eq
      have hcap := H.out.ok.tot
      have hcap1 := H.out.ok.cap1
      have hcap0 := H.out.ok.cap0
      have hbl : (f.b.length : Int) ≤ 1048576 := by have := tot_mem k1; omega
      have hrl := rest_le (left := left) S.fs
      rw [e] at hen
      rw [e]
      clear hv hat hk k5 hrg hown h0 h1
      go_wp2
      refine ⟨⟨_, cnt1, hrg1, ?_, hE1⟩, by rw [hm0, hm1]; exact hlt⟩
      have e5 : S.cap - tot S.fs + rest left S.fs - f.b.length = S.cap - tot S.fs + rest (fun z => left z && !z.sameKey (.int .i64 x)) S.fs := by omega
      rw [e5]
end Go.Proofs.YtajclcbclbppiaaGreat
end
section
namespace Go.Proofs.YtajclcbclbppiaaGreat
open Go.RowKit Go.Maps Go.Dk
variable {w w' : World} {β : Roles} {p : Nat} {S S' : St}
theorem empty_string (w : World) (o : Option Addr) (c : Nat) : (convert 51 9 (.slice o 0 c)).run Tryz.prog w = .ok (.string (ofL [])) w := by
  rw [run_convert_bytes_string w _ _ 5 _ _ _ Tryz.underlying51 Tryz.underlying5 Tryz.underlying9]
  cases o with
  | none => rfl
  | some o =>
    first | rfl | (simp; rfl)
/-- Bytes of a row, as a string. -/
theorem row_string {g cap : Nat} {l : List UInt8} (h : Rw w 1 (some ⟨g, 0, none⟩) l.length cap (U8 l)) (x y : Nat) (hxy : x + y ≤ l.length) (o : Option Addr) (c : Nat) (ho : 0 < y → o = some ⟨g, x, none⟩) :
    (convert 51 9 (.slice o y c)).run Tryz.prog w = .ok (.string (ofL ((l.drop x).take y))) w := by
  have hl : ((l.drop x).take y).length = y := by rw [List.length_take, List.length_drop]; omega
  by_cases h0 : 0 < y
  · rw [ho h0]
    have := run_convert_bytes_back (P := Tryz.prog) w 51 9 5 ⟨g, x, none⟩ c ((l.drop x).take y) Tryz.underlying51 Tryz.underlying5 Tryz.underlying9 (fun j hj => by
      obtain ⟨g', e, _, h2, _⟩ := h.row (by omega)
      cases e
      have h3 : (⟨g, x, none⟩ : Addr).add j = ⟨g, x + j, none⟩ := by unfold Addr.add; split <;> simp_all
      rw [h3, h2 _ (by omega), U8_get l _ (by omega)]
      simp [List.getElem_take, List.getElem_drop, List.getD_eq_getElem?_getD, List.getElem?_eq_getElem (show x + j < l.length by omega)])
    rw [hl] at this
    exact this
  · obtain rfl : y = 0 := by omega
    exact empty_string w o c
set_option maxHeartbeats 1000000 in
set_option maxRecDepth 100000 in
theorem read_is (h : DiskAt w β p S) {n : Int} (hn : (Lit.int .i64 n).wf = true) (at_ size : Int) :
    Calls Tryz.prog 45 #[.pointer (some ⟨p, 0, none⟩), .int .i64 n, .int .i64 at_, .int .i64 size] w fun e w' => e = .returned (.tuple #[.string (ofL (Dk.read S n at_ size).1), .int .i64 (Dk.read S n at_ size).2]) ∧ Ext w w' := by
  obtain ⟨v, e, hC, ht⟩ := get_at h hn
  have C := Lib.hid hC
  have hcap := h.ok.tot
  have hcap1 := h.ok.cap1
  clear hC h hn
  rcases ht with ⟨hd, rfl, rfl⟩ | ⟨hd, hf, rfl, rfl⟩ | ⟨f, fb, ao, cap, hd, hf, hm, _, _, _, hF, rfl, rfl⟩
  · rw [show Dk.read S n at_ size = ([], 61) by simp [Dk.read, hd]]
    clear hd hcap hcap1
    go_enter Tryz.func45, Tryz.ntmps45
    go_wp2_with (go_at_call 22; with_reducible refine C.out.mono ?_; rintro e w1 ⟨rfl, rfl⟩)
    go_ret2
    exact ⟨rfl, Ext.refl _⟩
  · rw [show Dk.read S n at_ size = ([], 4) by simp [Dk.read, hd, hf]]
    clear hd hf hcap hcap1
    go_enter Tryz.func45, Tryz.ntmps45
    go_wp2_with (go_at_call 22; with_reducible refine C.out.mono ?_; rintro e w1 ⟨rfl, rfl⟩)
    go_ret2
    exact ⟨rfl, Ext.refl _⟩
  · have hb := tot_mem hm
    have h0 := hF.c0
    by_cases hc : at_ < 0 ∨ size < 0 ∨ (f.b.length : Int) < size ∨ (f.b.length : Int) - size < at_
    · rw [show Dk.read S n at_ size = ([], 2) by simp [Dk.read, hd, hf, hc]]
      clear hd hf hm
      go_enter Tryz.func45, Tryz.ntmps45
      go_wp2_with (go_at_call 22; with_reducible refine C.out.mono ?_; rintro e w1 ⟨rfl, rfl⟩)
      all_goals
        go_ret2
        exact ⟨rfl, Ext.refl _⟩
    · obtain ⟨x, rfl⟩ : ∃ x : Nat, at_ = x := ⟨at_.toNat, by omega⟩
      obtain ⟨y, rfl⟩ : ∃ y : Nat, size = y := ⟨size.toNat, by omega⟩
      have hxy : x + y ≤ f.b.length := by omega
      rw [show Dk.read S n x y = ((f.b.drop x).take y, 0) by simp only [Dk.read, hd, hf, if_neg hc]; simp]
      have hrow := hF.row
      have hle := hrow.le
      have hin : (0 : Int) ≤ (x : Int) + (y : Int) ∧ (x : Int) + (y : Int) ≤ (cap : Int) := by omega
      clear hd hf hm hc hF
      by_cases hcx : cap = x
      · have hcv := empty_string w ao 0
        obtain rfl : y = 0 := by omega
        simp only [List.take_zero]
        go_enter Tryz.func45, Tryz.ntmps45
        go_wp2_with (go_at_call 22; with_reducible refine C.out.mono ?_; rintro e w1 ⟨rfl, rfl⟩)
        go_ret2
        exact ⟨rfl, Ext.refl _⟩
      · obtain ⟨g, rfl⟩ : ∃ g, ao = some ⟨g, 0, none⟩ := by
          rcases hrow.at_ with ⟨_, h⟩ | ⟨g, h, _⟩
          · omega
          · exact ⟨g, h⟩
        have hcv := row_string hrow x y hxy (some ⟨g, x, none⟩) (cap - x) (fun _ => rfl)
        go_enter Tryz.func45, Tryz.ntmps45
        go_wp2_with (go_at_call 22; with_reducible refine C.out.mono ?_; rintro e w1 ⟨rfl, rfl⟩)
        go_ret2
        exact ⟨rfl, Ext.refl _⟩
theorem HeadAt.set2 {m : Nat} {cap : Int} {d : Bool} {s : Int} {fp : Option Addr} (h : HeadAt w p m cap d s fp) (v : Bool) : HeadAt (w.setCell ⟨p, 2, none⟩ (.bool v)) p m cap v s fp := by
  have k : ∀ o, o ≠ 2 → (w.setCell ⟨p, 2, none⟩ (.bool v)).cell? ⟨p, o, none⟩ = w.cell? ⟨p, o, none⟩ := fun o ho => World.cell?_setCell_other _ _ _ _ (by first | simp; done | (simp; exact ho))
  exact ⟨by show _ < (w.heap.modify _ _).size; rw [Array.size_modify]; exact h.lt, (k 0 (by decide)).trans h.c0, (k 1 (by decide)).trans h.c1, World.cell?_setCell_same _ _ _ h.c2, (k 3 (by decide)).trans h.c3, (k 4 (by decide)).trans h.c4, (World.frozen?_setCell _ _ _ _).trans h.f2, (World.frozen?_setCell _ _ _ _).trans h.f3, (World.frozen?_setCell _ _ _ _).trans h.f4⟩
theorem HeadAt.set3 {m : Nat} {cap : Int} {d : Bool} {s : Int} {fp : Option Addr} (h : HeadAt w p m cap d s fp) (v : Int) : HeadAt (w.setCell ⟨p, 3, none⟩ (.int .i64 v)) p m cap d v fp := by
  have k : ∀ o, o ≠ 3 → (w.setCell ⟨p, 3, none⟩ (.int .i64 v)).cell? ⟨p, o, none⟩ = w.cell? ⟨p, o, none⟩ := fun o ho => World.cell?_setCell_other _ _ _ _ (by first | simp; done | (simp; exact ho))
  exact ⟨by show _ < (w.heap.modify _ _).size; rw [Array.size_modify]; exact h.lt, (k 0 (by decide)).trans h.c0, (k 1 (by decide)).trans h.c1, (k 2 (by decide)).trans h.c2, World.cell?_setCell_same _ _ _ h.c3, (k 4 (by decide)).trans h.c4, (World.frozen?_setCell _ _ _ _).trans h.f2, (World.frozen?_setCell _ _ _ _).trans h.f3, (World.frozen?_setCell _ _ _ _).trans h.f4⟩
theorem HeadAt.set4 {m : Nat} {cap : Int} {d : Bool} {s : Int} {fp : Option Addr} (h : HeadAt w p m cap d s fp) (v : Option Addr) : HeadAt (w.setCell ⟨p, 4, none⟩ (.pointer v)) p m cap d s v := by
  have k : ∀ o, o ≠ 4 → (w.setCell ⟨p, 4, none⟩ (.pointer v)).cell? ⟨p, o, none⟩ = w.cell? ⟨p, o, none⟩ := fun o ho => World.cell?_setCell_other _ _ _ _ (by first | simp; done | (simp; exact ho))
  exact ⟨by show _ < (w.heap.modify _ _).size; rw [Array.size_modify]; exact h.lt, (k 0 (by decide)).trans h.c0, (k 1 (by decide)).trans h.c1, (k 2 (by decide)).trans h.c2, (k 3 (by decide)).trans h.c3, World.cell?_setCell_same _ _ _ h.c4, (World.frozen?_setCell _ _ _ _).trans h.f2, (World.frozen?_setCell _ _ _ _).trans h.f3, (World.frozen?_setCell _ _ _ _).trans h.f4⟩
theorem DiskAt.failKept (h : DiskAt w β p S) {fp : Option Addr} {x : Option (Int × List Int)} (hf : Fr (fun k => k = p) w w') (hx : FailAt w β fp x) : FailAt w' β fp x :=
  hx.kept (fun r k hr hk => hf.block k (h.lt r k hk) (fun e => by have := h.inj _ _ _ hk (e ▸ h.p0); rw [this] at hr; simp at hr))
end Go.Proofs.YtajclcbclbppiaaGreat
end
