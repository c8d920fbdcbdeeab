/-
  What is done with a disk, plainly.
-/
import Derived.Test.YtajclcbclbppiaaDskPl
namespace Go.Dk
/-- A change: what it is behind it; early: it is done ahead of the disk's going down. -/
def chg (S S1 : St) (early : Bool) : St × Int :=
  match S.fail with
  | none => (S1, 0)
  | some (l, ks) => if l = 0 then ((if early then S1 else S).crash ks, 61) else ({ S1 with fail := some (l - 1, ks) }, 0)
def create (S : St) (n : Int) : St × Int :=
  if S.down then (S, 61) else if n < 0 then (S, 2) else
    match get S.fs n with
    | some _ => (S, 62)
    | none => if 100 ≤ S.fs.length then (S, 60) else chg S { S with fs := ins ⟨n, [], 0⟩ S.fs } false
def append (S : St) (n : Int) (s : List UInt8) : St × Int :=
  if S.down then (S, 61) else
    match get S.fs n with
    | none => (S, 4)
    | some f => if S.cap - tot S.fs < s.length then (S, 60) else chg S { S with fs := upd ⟨f.n, f.b ++ s, f.s⟩ S.fs } true
def sync (S : St) (n : Int) : St × Int :=
  if S.down then (S, 61) else
    match get S.fs n with
    | none => (S, 4)
    | some f => chg S { S with fs := upd ⟨f.n, f.b, f.b.length⟩ S.fs } false
def truncate (S : St) (n size : Int) : St × Int :=
  if S.down then (S, 61) else
    match get S.fs n with
    | none => (S, 4)
    | some f => if size < 0 ∨ (f.b.length : Int) < size then (S, 2) else chg S { S with fs := upd ⟨f.n, f.b.take size.toNat, min f.s size.toNat⟩ S.fs } false
def delete (S : St) (n : Int) : St × Int :=
  if S.down then (S, 61) else
    match get S.fs n with
    | none => (S, 4)
    | some _ => chg S { S with fs := del n S.fs } false
def read (S : St) (n at_ size : Int) : List UInt8 × Int :=
  if S.down then ([], 61) else
    match get S.fs n with
    | none => ([], 4)
    | some f => if at_ < 0 ∨ size < 0 ∨ (f.b.length : Int) < size ∨ (f.b.length : Int) - size < at_ then ([], 2) else ((f.b.drop at_.toNat).take size.toNat, 0)
def size (S : St) (n : Int) : Int × Int :=
  if S.down then (0, 61) else
    match get S.fs n with
    | none => (0, 4)
    | some f => (f.b.length, 0)
def crash (S : St) (ks : List Int) : St × Int := if S.down then (S, 61) else (S.crash ks, 0)
def start (S : St) : St × Int := if S.down then ({ S with down := false, starts := IntKind.i64.wrap (S.starts + 1) }, 0) else (S, 2)
def fail (S : St) (n : Int) (ks : List Int) : St × Int := if S.down then (S, 61) else if n < 0 then (S, 2) else ({ S with fail := some (n, ks) }, 0)
/-! ### well it stays -/
theorem Ok.withFail {S : St} (h : Ok S) {x : Option (Int × List Int)} (hx : ∀ l ks, x = some (l, ks) → 0 ≤ l ∧ l ≤ 9223372036854775807 ∧ ks.length ≤ 16777216) : Ok { S with fail := x } :=
  ⟨h.cap0, h.cap1, h.rise, h.tot, h.sure, h.names, h.many, hx⟩
theorem Ok.withDown {S : St} (h : Ok S) (d : Bool) (s : Int) : Ok { S with down := d, starts := s } := ⟨h.cap0, h.cap1, h.rise, h.tot, h.sure, h.names, h.many, h.fail⟩
theorem Ok.ins {S : St} (h : Ok S) (n : Int) (h0 : 0 ≤ n) (h1 : n ≤ 9223372036854775807) (hg : get S.fs n = none) (hl : S.fs.length < 100) : Ok { S with fs := ins ⟨n, [], 0⟩ S.fs } where
  cap0 := h.cap0
  cap1 := h.cap1
  rise := rise_ins h.rise (fun g hg' => get_none hg g hg')
  tot := by have := h.tot; show (Dk.tot (Dk.ins _ _) : Int) ≤ S.cap; rw [tot_ins]; simpa using this
  sure := fun f hf => by
    rcases mem_ins.1 hf with rfl | hf
    · exact Nat.le_refl _
    · exact h.sure f hf
  names := fun f hf => by
    rcases mem_ins.1 hf with rfl | hf
    · exact ⟨h0, h1⟩
    · exact h.names f hf
  many := by show (Dk.ins _ _).length ≤ 100; rw [length_ins]; omega
  fail := h.fail
theorem Ok.upd {S : St} (h : Ok S) {f f' : Fl} (hf : f ∈ S.fs) (hn : f'.n = f.n) (hs : f'.s ≤ f'.b.length) (ht : (Dk.tot S.fs : Int) + f'.b.length ≤ S.cap + f.b.length) : Ok { S with fs := upd f' S.fs } where
  cap0 := h.cap0
  cap1 := h.cap1
  rise := rise_upd h.rise
  tot := by
    have := tot_upd (f := f') h.rise hf hn.symm
    show (Dk.tot (Dk.upd _ _) : Int) ≤ S.cap
    omega
  sure := fun g hg => by
    rcases mem_upd hg with ⟨rfl, _⟩ | ⟨hg, _⟩
    · exact hs
    · exact h.sure g hg
  names := fun g hg => by
    rcases mem_upd hg with ⟨rfl, _⟩ | ⟨hg, _⟩
    · rw [hn]; exact h.names f hf
    · exact h.names g hg
  many := by show (Dk.upd _ _).length ≤ 100; rw [length_upd]; exact h.many
  fail := h.fail
theorem Ok.del {S : St} (h : Ok S) (n : Int) : Ok { S with fs := del n S.fs } where
  cap0 := h.cap0
  cap1 := h.cap1
  rise := rise_del h.rise
  tot := by have := tot_del n S.fs; have := h.tot; show (Dk.tot (Dk.del _ _) : Int) ≤ S.cap; omega
  sure := fun f hf => h.sure f (mem_del.1 hf).1
  names := fun f hf => h.names f (mem_del.1 hf).1
  many := Nat.le_trans (length_del n S.fs) h.many
  fail := h.fail
end Go.Dk
