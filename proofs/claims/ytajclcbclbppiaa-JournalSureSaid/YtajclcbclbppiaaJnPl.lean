/-
  The journal, plainly: steps on a disk, a file laid, a journal opened, an entry appended, a snapshot laid.
-/
import Derived.Test.YtajclcbclbppiaaDskMo
import Derived.Test.YtajclcbclbppiaaJRecRd
namespace Go.Jn
open Go.Dk Go.Rc
/-- Steps, up to the first error. -/
def runs : List (St → St × Int) → St → St × Int
  | [], S => (S, 0)
  | f :: r, S => if (f S).2 = 0 then runs r (f S).1 else f S
theorem runs_nil (S : St) : runs [] S = (S, 0) := rfl
theorem runs_cons (f : St → St × Int) (r : List (St → St × Int)) (S : St) : runs (f :: r) S = if (f S).2 = 0 then runs r (f S).1 else f S := rfl
theorem runs_ok {f : St → St × Int} {r : List (St → St × Int)} {S : St} (h : (f S).2 = 0) : runs (f :: r) S = runs r (f S).1 := if_pos h
theorem runs_no {f : St → St × Int} {r : List (St → St × Int)} {S : St} (h : (f S).2 ≠ 0) : runs (f :: r) S = f S := if_neg h
/-- A file with one record. -/
def lays (n : Int) (r : List UInt8) : List (St → St × Int) := [fun S => create S n, fun S => append S n r, fun S => sync S n]
/-- A journal: its file, what it has, the disk's starts when it was opened; is it over? -/
structure Jo where
  n : Int
  size : Int
  many : Int
  starts : Int
  dead : Bool
/-- The payloads of a text's records. -/
def pays (s : List UInt8) : List (List UInt8) := (itsAt s 0).map (·.1)
/-- The last file that has a record, of the first so many. -/
def pick : List Fl → Option Fl
  | [] => none
  | f :: r => match pick r with
    | some g => some g
    | none => if itsAt f.b 0 = [] then none else some f
/-- What mends a disk. -/
def mends (l : List Int) (n e z : Int) : List (St → St × Int) :=
  (if e < z then [fun S => truncate S n e] else []) ++ [fun S => sync S n] ++ (l.filter (fun k => decide (k ≠ n))).map (fun k S => delete S k)
/-- A journal where none is. -/
def fresh (S : St) : St × Int := runs ((if S.fs = [] then [] else [fun S => delete S 0]) ++ lays 0 (recL [])) S
/-- What an Open answers. -/
structure Op where
  S : St
  j : Option Jo
  snap : List UInt8
  l : List (List UInt8)
  e : Int
def open_ (S : St) : Op :=
  if S.down then ⟨S, none, [], [], 61⟩ else
    match pick S.fs with
    | some f =>
      let x := runs (mends (S.fs.map (·.n)) f.n (endOf (itsAt f.b 0)) f.b.length) S
      if x.2 = 0 then ⟨x.1, some ⟨f.n, endOf (itsAt f.b 0), (itsAt f.b 0).length - 1, x.1.starts, false⟩, (pays f.b).headD [], (pays f.b).tail, 0⟩ else ⟨x.1, none, [], [], x.2⟩
    | none =>
      if 1 < S.fs.length ∨ S.fs.length = 1 ∧ (S.fs.map (·.n)).headD 0 ≠ 0 then ⟨S, none, [], [], 63⟩ else
        let x := fresh S
        if x.2 = 0 then ⟨x.1, some ⟨0, 8, 0, x.1.starts, false⟩, [], [], 0⟩ else ⟨x.1, none, [], [], x.2⟩
/-- Is it over? -/
def over (S : St) (J : Jo) : Bool := J.dead || S.down || decide (S.starts ≠ J.starts)
def told (J : Jo) (e : Int) : Jo := { J with dead := J.dead || decide (e = 61) }
def appendJ (S : St) (J : Jo) (x : List UInt8) : St × Jo × Int :=
  if over S J then (S, { J with dead := true }, 61) else if 65536 < x.length then (S, J, 3) else if S.cap - tot S.fs - (x.length + 8) < 70000 then (S, J, 60) else
    let y := runs [fun S => append S J.n (recL x), fun S => sync S J.n] S
    (y.1, told (if y.2 = 0 then { J with size := J.size + (x.length + 8), many := J.many + 1 } else J) y.2, y.2)
def compactJ (S : St) (J : Jo) (x : List UInt8) : St × Jo × Int :=
  if over S J then (S, { J with dead := true }, 61) else if 65536 < x.length then (S, J, 3) else if S.cap - tot S.fs < x.length + 8 then (S, J, 60) else
    let y := runs (lays (J.n + 1) (recL x)) S
    if y.2 ≠ 0 then (y.1, told J y.2, y.2) else
      let z := delete y.1 J.n
      (z.1, told { J with n := J.n + 1, size := x.length + 8, many := 0 } z.2, z.2)
end Go.Jn
