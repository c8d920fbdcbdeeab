/-
  The disk, plainly: its files, rising by their numbers; the datum of a map that holds their blocks.
-/
import Derived.Test.YtajclcbclbppiaaRow
import Derived.Test.YtajclcbclbppiaaGen
import Derived.Maps.OwnSet
import Derived.Maps.RangeWalk
import Derived.Lib.SlKeysI
namespace Go.Dk
open Go.RowKit Go.Maps
/-- A file: its number, its bytes, how many of them are sure. -/
structure Fl where
  n : Int
  b : List UInt8
  s : Nat
/-- A disk: how much it takes; its files; is it down; how often it was started; behind how many changes it fails, and what is kept. -/
structure St where
  cap : Int
  fs : List Fl
  down : Bool
  starts : Int
  fail : Option (Int × List Int)
/-- All bytes of files. -/
def tot : List Fl → Nat
  | [] => 0
  | f :: r => f.b.length + tot r
/-- Rising numbers. -/
def Rise (l : List Fl) : Prop := l.Pairwise (fun f g => f.n < g.n)
/-- The file of this number. -/
def get : List Fl → Int → Option Fl
  | [], _ => none
  | f :: r, n => if f.n = n then some f else get r n
theorem get_cons (f : Fl) (r : List Fl) (n : Int) : get (f :: r) n = if f.n = n then some f else get r n := rfl
/-- A file more. -/
def ins (f : Fl) : List Fl → List Fl
  | [] => [f]
  | g :: r => if f.n < g.n then f :: g :: r else g :: ins f r
/-- A file as it is now. -/
def upd (f : Fl) (l : List Fl) : List Fl := l.map (fun g => if g.n = f.n then f else g)
/-- Without a file. -/
def del (n : Int) (l : List Fl) : List Fl := l.filter (fun g => decide (g.n ≠ n))
theorem get_mem {l : List Fl} {n : Int} {f : Fl} (h : get l n = some f) : f ∈ l ∧ f.n = n := by
  induction l with
  | nil => cases h
  | cons g r ih =>
    unfold get at h
    split at h
    · cases h; exact ⟨.head _, by assumption⟩
    · exact ⟨.tail _ (ih h).1, (ih h).2⟩
theorem get_none {l : List Fl} {n : Int} (h : get l n = none) : ∀ f ∈ l, f.n ≠ n := by
  induction l with
  | nil => intro f hf; cases hf
  | cons g r ih =>
    unfold get at h
    split at h
    · cases h
    · intro f hf
      rcases List.mem_cons.1 hf with rfl | hf
      · assumption
      · exact ih h f hf
theorem get_of_mem {l : List Fl} (hr : Rise l) {f : Fl} (h : f ∈ l) : get l f.n = some f := by
  induction l with
  | nil => cases h
  | cons g r ih =>
    unfold get
    obtain ⟨h1, h2⟩ := List.pairwise_cons.1 hr
    rcases List.mem_cons.1 h with rfl | h
    · rw [if_pos rfl]
    · rw [if_neg (by have := h1 f h; omega)]
      exact ih h2 h
/-- Two files of one number are one. -/
theorem rise_same {l : List Fl} (hr : Rise l) {f g : Fl} (hf : f ∈ l) (hg : g ∈ l) (h : f.n = g.n) : f = g := by
  have h1 := get_of_mem hr hf
  have h2 := get_of_mem hr hg
  rw [h, h2] at h1
  exact (Option.some.inj h1).symm
theorem tot_append (a b : List Fl) : tot (a ++ b) = tot a + tot b := by
  induction a with
  | nil => simp [tot]
  | cons f r ih => simp only [List.cons_append, tot, ih]; omega
theorem mem_ins {f g : Fl} : ∀ {l : List Fl}, g ∈ ins f l ↔ g = f ∨ g ∈ l
  | [] => by simp [ins]
  | h :: r => by
    unfold ins
    split
    · simp
    · simp only [List.mem_cons, mem_ins (l := r)]
      constructor
      · rintro (h | h | h)
        · exact .inr (.inl h)
        · exact .inl h
        · exact .inr (.inr h)
      · rintro (h | h | h)
        · exact .inr (.inl h)
        · exact .inl h
        · exact .inr (.inr h)
theorem rise_ins {f : Fl} : ∀ {l : List Fl}, Rise l → (∀ g ∈ l, g.n ≠ f.n) → Rise (ins f l)
  | [], _, _ => by simp [ins, Rise]
  | h :: r, hr, hn => by
    obtain ⟨h1, h2⟩ := List.pairwise_cons.1 hr
    have hh := hn h (.head _)
    unfold ins
    split
    · refine List.pairwise_cons.2 ⟨fun g hg => ?_, hr⟩
      rcases List.mem_cons.1 hg with rfl | hg
      · assumption
      · have := h1 g hg; omega
    · refine List.pairwise_cons.2 ⟨fun g hg => ?_, rise_ins h2 (fun g hg => hn g (.tail _ hg))⟩
      rcases mem_ins.1 hg with rfl | hg
      · omega
      · exact h1 g hg
theorem tot_ins (f : Fl) : ∀ l : List Fl, tot (ins f l) = f.b.length + tot l
  | [] => rfl
  | g :: r => by
    unfold ins
    split
    · rfl
    · simp only [tot, tot_ins f r]; omega
theorem length_ins (f : Fl) : ∀ l : List Fl, (ins f l).length = l.length + 1
  | [] => rfl
  | g :: r => by
    unfold ins
    split
    · rfl
    · simp only [List.length_cons, length_ins f r]
theorem names_upd (f : Fl) (l : List Fl) : (upd f l).map (·.n) = l.map (·.n) := by
  unfold upd
  rw [List.map_map]
  refine List.map_congr_left fun g _ => ?_
  show (if g.n = f.n then f else g).n = g.n
  split
  · exact (by assumption : g.n = f.n).symm
  · rfl
theorem rise_names {l l' : List Fl} (h : l.map (·.n) = l'.map (·.n)) (hr : Rise l) : Rise l' := by
  have h1 : (l.map (·.n)).Pairwise (· < ·) := List.pairwise_map.2 hr
  rw [h] at h1
  exact List.pairwise_map.1 h1
theorem rise_upd {f : Fl} {l : List Fl} (hr : Rise l) : Rise (upd f l) := rise_names (names_upd f l).symm hr
theorem length_upd (f : Fl) (l : List Fl) : (upd f l).length = l.length := List.length_map _
theorem mem_upd {f g : Fl} {l : List Fl} (h : g ∈ upd f l) : (g = f ∧ ∃ k ∈ l, k.n = f.n) ∨ (g ∈ l ∧ g.n ≠ f.n) := by
  unfold upd at h
  obtain ⟨k, hk, e⟩ := List.mem_map.1 h
  split at e
  · exact .inl ⟨e.symm, k, hk, by assumption⟩
  · subst e; exact .inr ⟨hk, by assumption⟩
theorem upd_miss (f : Fl) {l : List Fl} (h : ∀ k ∈ l, k.n ≠ f.n) : upd f l = l := by
  unfold upd
  conv => rhs; rw [← List.map_id l]
  refine List.map_congr_left fun g hg => ?_
  rw [if_neg (h g hg)]; rfl
theorem tot_upd {f g : Fl} : ∀ {l : List Fl}, Rise l → g ∈ l → g.n = f.n → tot (upd f l) + g.b.length = tot l + f.b.length
  | h :: r, hr, hg, e => by
    obtain ⟨h1, h2⟩ := List.pairwise_cons.1 hr
    show tot ((if h.n = f.n then f else h) :: upd f r) + _ = _
    rcases List.mem_cons.1 hg with rfl | hg
    · rw [if_pos e, upd_miss f (fun k hk => by have := h1 k hk; omega)]
      simp only [tot]; omega
    · have := h1 g hg
      rw [if_neg (by omega)]
      have ih := tot_upd h2 hg e
      simp only [tot]; omega
theorem mem_del {n : Int} {g : Fl} {l : List Fl} : g ∈ del n l ↔ g ∈ l ∧ g.n ≠ n := by simp [del]
theorem rise_del {n : Int} {l : List Fl} (hr : Rise l) : Rise (del n l) := List.Pairwise.filter _ hr
theorem tot_del (n : Int) : ∀ l : List Fl, tot (del n l) ≤ tot l
  | [] => Nat.le_refl _
  | f :: r => by
    have ih := tot_del n r
    unfold del at ih ⊢
    rw [List.filter_cons]
    split
    · simp only [tot]; omega
    · simp only [tot]; omega
theorem length_del (n : Int) (l : List Fl) : (del n l).length ≤ l.length := List.length_filter_le _ _
theorem tot_mem {f : Fl} {l : List Fl} (h : f ∈ l) : f.b.length ≤ tot l := by
  induction l with
  | nil => cases h
  | cons g r ih =>
    rcases List.mem_cons.1 h with rfl | h
    · simp only [tot]; omega
    · have := ih h; simp only [tot]; omega

/-! ### what a crash leaves -/
/-- Of a file, so much of what is not sure stays. -/
def cut (keep : Int) (f : Fl) : Fl := ⟨f.n, f.b.take (f.s + (min (max keep 0) (f.b.length - f.s : Nat)).toNat), f.s + (min (max keep 0) (f.b.length - f.s : Nat)).toNat⟩
/-- Of files, in their order. -/
def cuts : List Int → List Fl → List Fl
  | _, [] => []
  | keep, f :: r => cut (keep.headD 0) f :: cuts keep.tail r
theorem cuts_length (keep : List Int) (l : List Fl) : (cuts keep l).length = l.length := by
  induction l generalizing keep with
  | nil => rfl
  | cons f r ih => simp only [cuts, List.length_cons, ih]
theorem cuts_names (keep : List Int) (l : List Fl) : (cuts keep l).map (·.n) = l.map (·.n) := by
  induction l generalizing keep with
  | nil => rfl
  | cons f r ih => simp only [cuts, List.map_cons, ih]; rfl
theorem cuts_get (keep : List Int) (l : List Fl) (i : Nat) : (cuts keep l)[i]? = l[i]?.map (cut (keep.getD i 0)) := by
  induction l generalizing keep i with
  | nil => simp [cuts]
  | cons f r ih =>
    cases i with
    | zero => cases keep <;> simp [cuts]
    | succ i => cases keep <;> simp [cuts, ih]
theorem cut_s (keep : Int) (f : Fl) (h : f.s ≤ f.b.length) : (cut keep f).s = (cut keep f).b.length ∧ (cut keep f).b.length ≤ f.b.length := by
  unfold cut
  simp only [List.length_take]
  omega
theorem tot_cuts (keep : List Int) (l : List Fl) (h : ∀ f ∈ l, f.s ≤ f.b.length) : tot (cuts keep l) ≤ tot l := by
  induction l generalizing keep with
  | nil => exact Nat.le_refl _
  | cons f r ih =>
    have h1 := (cut_s (keep.headD 0) f (h f (.head _))).2
    have h2 := ih keep.tail (fun g hg => h g (.tail _ hg))
    simp only [cuts, tot]; omega
theorem cuts_mem {keep : List Int} {l : List Fl} {g : Fl} (h : g ∈ cuts keep l) : ∃ f ∈ l, ∃ k, g = cut k f := by
  obtain ⟨i, hi⟩ := List.mem_iff_getElem?.1 h
  rw [cuts_get] at hi
  cases hf : l[i]? with
  | none => rw [hf] at hi; cases hi
  | some f =>
    rw [hf] at hi
    exact ⟨f, List.mem_of_getElem? hf, _, (Option.some.inj hi).symm⟩

/-! ### what is well -/
structure Ok (S : St) : Prop where
  cap0 : 0 ≤ S.cap
  cap1 : S.cap ≤ 1048576
  rise : Rise S.fs
  tot : (tot S.fs : Int) ≤ S.cap
  sure : ∀ f ∈ S.fs, f.s ≤ f.b.length
  names : ∀ f ∈ S.fs, 0 ≤ f.n ∧ f.n ≤ 9223372036854775807
  many : S.fs.length ≤ 100
  fail : ∀ l ks, S.fail = some (l, ks) → 0 ≤ l ∧ l ≤ 9223372036854775807 ∧ ks.length ≤ 16777216
/-- Behind a crash. -/
def St.crash (S : St) (keep : List Int) : St := { S with fs := cuts keep S.fs, down := true, fail := none }
theorem Ok.crash {S : St} (h : Ok S) (keep : List Int) : Ok (S.crash keep) where
  cap0 := h.cap0
  cap1 := h.cap1
  rise := rise_names (cuts_names keep S.fs).symm h.rise
  tot := by
    have h1 := tot_cuts keep S.fs h.sure
    have h2 := h.tot
    show (Dk.tot (cuts keep S.fs) : Int) ≤ S.cap
    omega
  sure := fun g hg => by
    obtain ⟨f, hf, k, rfl⟩ := cuts_mem hg
    have := (cut_s k f (h.sure f hf)).1
    omega
  names := fun g hg => by
    obtain ⟨f, hf, k, rfl⟩ := cuts_mem hg
    exact h.names f hf
  many := by show (cuts keep S.fs).length ≤ 100; rw [cuts_length]; exact h.many
  fail := fun l ks e => by cases e

/-! ### the datum of the map -/
variable {β : Nat × Int → Option Nat}
/-- A file's block. -/
def bn (β : Nat × Int → Option Nat) (n : Int) : Nat := (β (4, n)).getD 0
/-- The map's entry of a file. -/
def ent (β : Nat × Int → Option Nat) (f : Fl) : Lit × DataW Unit := (.int .i64 f.n, .lit (.int .i64 (bn β f.n)))
/-- The map's datum. -/
def dat (β : Nat × Int → Option Nat) (l : List Fl) : DataW Unit := .map (l.map (ent β))
theorem dat_size (l : List Fl) : Maps.size (dat β l) = l.length := by simp [dat, Maps.size]
theorem dat_keys (l : List Fl) : intKeys (dat β l) = l.map (·.n) := by
  simp only [dat, intKeys, List.map_map]
  rfl
theorem same_iff (a b : Int) : (Lit.int .i64 a).sameKey (.int .i64 b) = decide (a = b) := by simp [Lit.sameKey]
theorem dat_has (l : List Fl) (n : Int) : Maps.has (dat β l) (.int .i64 n) = (get l n).isSome := by
  rw [dat, Maps.has_eq]
  induction l with
  | nil => rfl
  | cons f r ih =>
    rw [List.map_cons, List.any_cons, ih]
    show ((Lit.int .i64 f.n).sameKey (.int .i64 n) || _) = _
    rw [same_iff, get_cons]
    by_cases h : f.n = n
    · rw [if_pos h]; simp [h]
    · rw [if_neg h]; simp [h]
theorem dat_at (l : List Fl) (n : Int) (z : DataW Unit) : (dat β l).atKey (.int .i64 n) z = if (get l n).isSome then .lit (.int .i64 (bn β n)) else z := by
  induction l with
  | nil => rfl
  | cons f r ih =>
    unfold dat DataW.atKey at ih ⊢
    simp only [List.map_cons, List.find?_cons]
    have e : (ent β f).1.sameKey (.int .i64 n) = decide (f.n = n) := same_iff _ _
    rw [e, get_cons]
    by_cases h : f.n = n
    · subst h; simp [ent]
    · simp only [h, decide_false, if_false]
      exact ih
theorem dat_congr {β β' : Nat × Int → Option Nat} {l l' : List Fl} (hn : l.map (·.n) = l'.map (·.n)) (h : ∀ f ∈ l, bn β f.n = bn β' f.n) : dat β l = dat β' l' := by
  unfold dat
  congr 1
  have e : ∀ (γ : Nat × Int → Option Nat) (m : List Fl), m.map (ent γ) = (m.map (·.n)).map (fun n => (Lit.int .i64 n, DataW.lit (H := Unit) (.int .i64 (bn γ n)))) := fun γ m => by rw [List.map_map]; rfl
  rw [e, e, ← hn]
  refine List.map_congr_left fun n hm => ?_
  obtain ⟨f, hf, rfl⟩ := List.mem_map.1 hm
  rw [h f hf]
theorem dat_del (l : List Fl) (n : Int) : (dat β l).del (.int .i64 n) = dat β (del n l) := by
  unfold dat DataW.del del
  show DataW.map _ = DataW.map _
  congr 1
  rw [List.filter_map]
  congr 1
  refine List.filter_congr fun f _ => ?_
  show (!(Lit.int .i64 f.n).sameKey (.int .i64 n)) = _
  rw [same_iff]
  simp
theorem insert_ent (f : Fl) : ∀ l : List Fl, DataW.insert (ent β f) (l.map (ent β)) = (ins f l).map (ent β)
  | [] => rfl
  | g :: r => by
    simp only [List.map_cons, DataW.insert, ins]
    have e : (ent β f).1.before (ent β g).1 = decide (f.n < g.n) := rfl
    rw [e]
    by_cases h : f.n < g.n
    · simp [h]
    · simp [h, insert_ent f r]
theorem dat_put (l : List Fl) (f : Fl) (h : get l f.n = none) : (dat β l).put (.int .i64 f.n) (.lit (.int .i64 (bn β f.n))) = dat β (ins f l) := by
  unfold dat DataW.put
  show DataW.map _ = DataW.map _
  rw [← insert_ent]
  congr 2
  rw [List.filter_map]
  congr 1
  refine List.filter_eq_self.2 fun g hg => ?_
  have := get_none h g hg
  show (!(Lit.int .i64 g.n).sameKey (.int .i64 f.n)) = true
  rw [same_iff]
  simpa using this
/-- How a map's element reads: a pointer, by its block. -/
def rf : Value → Option (DataW Unit × List MemPlace)
  | .pointer (some ⟨b, 0, none⟩) => some (.lit (.int .i64 b), [])
  | .pointer none => some (.nil, [])
  | _ => none
theorem rf_inv {v : Value} {b : Nat} {ps : List MemPlace} (h : rf v = some (.lit (.int .i64 b), ps)) : v = .pointer (some ⟨b, 0, none⟩) := by
  unfold rf at h
  split at h
  · simp only [Option.some.injEq, Prod.mk.injEq, DataW.lit.injEq, Lit.int.injEq, true_and] at h
    obtain ⟨h, _⟩ := h
    have : _ = b := Int.ofNat.inj h
    subst this; rfl
  · cases h
  · cases h
theorem rf_nil {v : Value} {ps : List MemPlace} (h : rf v = some (.nil, ps)) : v = .pointer none := by
  unfold rf at h
  split at h
  · cases h
  · rfl
  · cases h
/-- The map's own bound is how many it has. -/
theorem ownsMap_tight {H : Type} {P : Program} {k : TypeId} {R : Value → Option (DataW H × List MemPlace)} {w : World} {b n : Nat} {D : DataW H} (h : w.ownsMap P k R b n D) : w.ownsMap P k R b (Maps.size D) D := by
  obtain ⟨es, clock, hb, F, _, rfl⟩ := h
  exact ⟨es, clock, hb, F, by simp [Maps.size, length_sorted], rfl⟩
end Go.Dk
