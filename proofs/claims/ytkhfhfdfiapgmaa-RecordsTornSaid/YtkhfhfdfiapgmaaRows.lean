/-
  No cell of these rows narrows 'for every input' (looked for: loops, veiled, ifaces, maps, wideKeys, modest, calm, conditions, laid).
  DERIVED. THE GIVEN ROWS OF THIS SEAT. 6 by the template 'for every input the law returns true; each argument reads behind the call as it read before'; 0 by the template 'total and deterministic' (their statements: YtkhfhfdfiapgmaaTotals.lean).
  GIVEN WITH THE SEED: the statements are not yours to turn. If you find one false, say at which input.
  Laid BY PROGRAM, IN A SANDBOX (cutbox-rows.mjs): the forced cells as the released guide's own fill.sh prints them over the translation dc612b12d7d02bfc… (all of the seat's roots in one cut). By AI agents, Wed Nov 11 2026. No macro, syntax, notation, axiom, sorry.
-/
import Derived.Test.YtkhfhfdfiapgmaaChecked
import GoSem.Claim
import GoSem.ClaimJoined
import GoSem.ClaimMapViews
import Derived.JoinedTies
import Derived.KernelRfl
namespace Go.Proofs.Ytkhfhfdfiapgmaa
/- THE CELL 'sum', in the pinned program and in every row, IS THE sha256 OF THE DUMP (.gsa) THAT YtkhfhfdfiapgmaaProg.lean LOADS. Nothing in Lean hashes anything: it is a label: what it is worth is what the hold of that sum in a sandbox is worth. -/
noncomputable def Try.pinned : Pinned := { name := "ytkhfhfdfiapgmaa", sum := "dc612b12d7d02bfc4c6d34f255a502afe99b650fb7f190219d4e3378a028bcab", checked := Try.checked }
namespace Rows
def none {H : Type} : Left H := { results := [], args := [] }

/-- 'consignorlaw07.RecordsTell': WHATEVER THE INPUT: true; the input reads as it did. -/
def recordsTellSpec : ChangeSpec := { name := "recordsTell", fn := fun _ => fun
  | [d1, d2] => { results := [.lit (.bool true)], args := [d1, d2] }
  | _ => none }
def recordsTellRow : OpenClaim := { program := "ytkhfhfdfiapgmaa", sum := "dc612b12d7d02bfc4c6d34f255a502afe99b650fb7f190219d4e3378a028bcab", func := "consignor/consignorlaw07.RecordsTell", spec := "recordsTell", unfollowed := true, recurses := true, apart := false }
def RecordsTellSaid : Prop := recordsTellRow.holds Try.pinned (OpenSpec.ofChange recordsTellSpec)

/-- ITS FALSE NEIGHBOUR: 'it returns false'. Refute it at one input. -/
def recordsTellWrong : ChangeSpec := { name := "recordsTell", fn := fun _ => fun
  | [d1, d2] => { results := [.lit (.bool false)], args := [d1, d2] }
  | _ => none }
def RecordsTellWrongFalsely : Prop := recordsTellRow.holds Try.pinned (OpenSpec.ofChange recordsTellWrong)

/-- 'consignorlaw07.RecordsRow': WHATEVER THE INPUT: true; the input reads as it did. -/
def recordsRowSpec : ChangeSpec := { name := "recordsRow", fn := fun _ => fun
  | [d1, d2, d3] => { results := [.lit (.bool true)], args := [d1, d2, d3] }
  | _ => none }
def recordsRowRow : OpenClaim := { program := "ytkhfhfdfiapgmaa", sum := "dc612b12d7d02bfc4c6d34f255a502afe99b650fb7f190219d4e3378a028bcab", func := "consignor/consignorlaw07.RecordsRow", spec := "recordsRow", unfollowed := true, recurses := true, apart := false }
def RecordsRowSaid : Prop := recordsRowRow.holds Try.pinned (OpenSpec.ofChange recordsRowSpec)

/-- ITS FALSE NEIGHBOUR: 'it returns false'. Refute it at one input. -/
def recordsRowWrong : ChangeSpec := { name := "recordsRow", fn := fun _ => fun
  | [d1, d2, d3] => { results := [.lit (.bool false)], args := [d1, d2, d3] }
  | _ => none }
def RecordsRowWrongFalsely : Prop := recordsRowRow.holds Try.pinned (OpenSpec.ofChange recordsRowWrong)

/-- 'consignorlaw07.RecordsLong': WHATEVER THE INPUT: true; the input reads as it did. -/
def recordsLongSpec : ChangeSpec := { name := "recordsLong", fn := fun _ => fun
  | [d] => { results := [.lit (.bool true)], args := [d] }
  | _ => none }
def recordsLongRow : OpenClaim := { program := "ytkhfhfdfiapgmaa", sum := "dc612b12d7d02bfc4c6d34f255a502afe99b650fb7f190219d4e3378a028bcab", func := "consignor/consignorlaw07.RecordsLong", spec := "recordsLong", unfollowed := true, recurses := true, apart := false }
def RecordsLongSaid : Prop := recordsLongRow.holds Try.pinned (OpenSpec.ofChange recordsLongSpec)

/-- ITS FALSE NEIGHBOUR: 'it returns false'. Refute it at one input. -/
def recordsLongWrong : ChangeSpec := { name := "recordsLong", fn := fun _ => fun
  | [d] => { results := [.lit (.bool false)], args := [d] }
  | _ => none }
def RecordsLongWrongFalsely : Prop := recordsLongRow.holds Try.pinned (OpenSpec.ofChange recordsLongWrong)

/-- 'consignorlaw07.RecordsTorn': WHATEVER THE INPUT: true; the input reads as it did. -/
def recordsTornSpec : ChangeSpec := { name := "recordsTorn", fn := fun _ => fun
  | [d1, d2] => { results := [.lit (.bool true)], args := [d1, d2] }
  | _ => none }
def recordsTornRow : OpenClaim := { program := "ytkhfhfdfiapgmaa", sum := "dc612b12d7d02bfc4c6d34f255a502afe99b650fb7f190219d4e3378a028bcab", func := "consignor/consignorlaw07.RecordsTorn", spec := "recordsTorn", unfollowed := true, recurses := true, apart := false }
def RecordsTornSaid : Prop := recordsTornRow.holds Try.pinned (OpenSpec.ofChange recordsTornSpec)

/-- ITS FALSE NEIGHBOUR: 'it returns false'. Refute it at one input. -/
def recordsTornWrong : ChangeSpec := { name := "recordsTorn", fn := fun _ => fun
  | [d1, d2] => { results := [.lit (.bool false)], args := [d1, d2] }
  | _ => none }
def RecordsTornWrongFalsely : Prop := recordsTornRow.holds Try.pinned (OpenSpec.ofChange recordsTornWrong)

/-- 'consignorlaw07.RecordsBack': WHATEVER THE INPUT: true; the input reads as it did. -/
def recordsBackSpec : ChangeSpec := { name := "recordsBack", fn := fun _ => fun
  | [d1, d2, d3] => { results := [.lit (.bool true)], args := [d1, d2, d3] }
  | _ => none }
def recordsBackRow : OpenClaim := { program := "ytkhfhfdfiapgmaa", sum := "dc612b12d7d02bfc4c6d34f255a502afe99b650fb7f190219d4e3378a028bcab", func := "consignor/consignorlaw07.RecordsBack", spec := "recordsBack", unfollowed := true, recurses := true, apart := false }
def RecordsBackSaid : Prop := recordsBackRow.holds Try.pinned (OpenSpec.ofChange recordsBackSpec)

/-- ITS FALSE NEIGHBOUR: 'it returns false'. Refute it at one input. -/
def recordsBackWrong : ChangeSpec := { name := "recordsBack", fn := fun _ => fun
  | [d1, d2, d3] => { results := [.lit (.bool false)], args := [d1, d2, d3] }
  | _ => none }
def RecordsBackWrongFalsely : Prop := recordsBackRow.holds Try.pinned (OpenSpec.ofChange recordsBackWrong)

/-- 'consignorlaw07.RecordsTurned': WHATEVER THE INPUT: true; the input reads as it did. -/
def recordsTurnedSpec : ChangeSpec := { name := "recordsTurned", fn := fun _ => fun
  | [d1, d2, d3] => { results := [.lit (.bool true)], args := [d1, d2, d3] }
  | _ => none }
def recordsTurnedRow : OpenClaim := { program := "ytkhfhfdfiapgmaa", sum := "dc612b12d7d02bfc4c6d34f255a502afe99b650fb7f190219d4e3378a028bcab", func := "consignor/consignorlaw07.RecordsTurned", spec := "recordsTurned", unfollowed := true, recurses := true, apart := false }
def RecordsTurnedSaid : Prop := recordsTurnedRow.holds Try.pinned (OpenSpec.ofChange recordsTurnedSpec)

/-- ITS FALSE NEIGHBOUR: 'it returns false'. Refute it at one input. -/
def recordsTurnedWrong : ChangeSpec := { name := "recordsTurned", fn := fun _ => fun
  | [d1, d2, d3] => { results := [.lit (.bool false)], args := [d1, d2, d3] }
  | _ => none }
def RecordsTurnedWrongFalsely : Prop := recordsTurnedRow.holds Try.pinned (OpenSpec.ofChange recordsTurnedWrong)

/- THE SECOND FORM. 'bulk': how many values and letters a reading holds, each counted each time it is reached (what is shared counts as often as it is met; a slice's spare places count too). A statement '..UptoSaid' is the law's where the arguments, and the package variables that the reading takes, are together of bulk at most 1048576: NARROWER than '..Said'. Prove '..Said' where nothing that the law and all that it calls make is longer than what came in: it says more and counts as full. Else prove '..UptoSaid'. A law counts once. -/
mutual
def uptoBulk {H : Type} : DataW H → Nat
  | .lit (.string bytes) => bytes.length + 1
  | .lit _ => 1
  | .nil => 1
  | .ptr d => uptoBulk d + 1
  | .slice elems spare => uptoBulkAll elems + uptoBulkAll spare + 1
  | .agg parts => uptoBulkAll parts + 1
  | .iface _ d => uptoBulk d + 1
  | .map entries => uptoBulkEntries entries + 1
  | .held _ => 1
def uptoBulkAll {H : Type} : List (DataW H) → Nat
  | [] => 0
  | d :: r => uptoBulk d + uptoBulkAll r
def uptoBulkEntries {H : Type} : List (Lit × DataW H) → Nat
  | [] => 0
  | x :: r => uptoBulkEntry x + uptoBulkEntries r
def uptoBulkEntry {H : Type} : Lit × DataW H → Nat
  | (.string bytes, d) => bytes.length + uptoBulk d + 1
  | (_, d) => uptoBulk d + 1
 end
def uptoSmall : (H : Type) → List (DataW H) → Bool := fun _ ds => decide (uptoBulkAll ds ≤ 1048576)
def OpenSpec.upto (s : _root_.Go.ChangeSpec) : _root_.Go.OpenSpec := { _root_.Go.OpenSpec.ofChange s with cond := some uptoSmall }

/-- 'consignorlaw07.RecordsTell', WHERE WHAT IT READS IS OF BULK AT MOST 1048576: true; the input reads as it did. -/
def recordsTellUptoRow : OpenClaim := { program := "ytkhfhfdfiapgmaa", sum := "dc612b12d7d02bfc4c6d34f255a502afe99b650fb7f190219d4e3378a028bcab", func := "consignor/consignorlaw07.RecordsTell", spec := "recordsTell", unfollowed := true, recurses := true, apart := false, narrowed := true }
def RecordsTellUptoSaid : Prop := recordsTellUptoRow.holds Try.pinned (OpenSpec.upto recordsTellSpec)

/-- 'consignorlaw07.RecordsRow', WHERE WHAT IT READS IS OF BULK AT MOST 1048576: true; the input reads as it did. -/
def recordsRowUptoRow : OpenClaim := { program := "ytkhfhfdfiapgmaa", sum := "dc612b12d7d02bfc4c6d34f255a502afe99b650fb7f190219d4e3378a028bcab", func := "consignor/consignorlaw07.RecordsRow", spec := "recordsRow", unfollowed := true, recurses := true, apart := false, narrowed := true }
def RecordsRowUptoSaid : Prop := recordsRowUptoRow.holds Try.pinned (OpenSpec.upto recordsRowSpec)

/-- 'consignorlaw07.RecordsLong', WHERE WHAT IT READS IS OF BULK AT MOST 1048576: true; the input reads as it did. -/
def recordsLongUptoRow : OpenClaim := { program := "ytkhfhfdfiapgmaa", sum := "dc612b12d7d02bfc4c6d34f255a502afe99b650fb7f190219d4e3378a028bcab", func := "consignor/consignorlaw07.RecordsLong", spec := "recordsLong", unfollowed := true, recurses := true, apart := false, narrowed := true }
def RecordsLongUptoSaid : Prop := recordsLongUptoRow.holds Try.pinned (OpenSpec.upto recordsLongSpec)

/-- 'consignorlaw07.RecordsTorn', WHERE WHAT IT READS IS OF BULK AT MOST 1048576: true; the input reads as it did. -/
def recordsTornUptoRow : OpenClaim := { program := "ytkhfhfdfiapgmaa", sum := "dc612b12d7d02bfc4c6d34f255a502afe99b650fb7f190219d4e3378a028bcab", func := "consignor/consignorlaw07.RecordsTorn", spec := "recordsTorn", unfollowed := true, recurses := true, apart := false, narrowed := true }
def RecordsTornUptoSaid : Prop := recordsTornUptoRow.holds Try.pinned (OpenSpec.upto recordsTornSpec)

/-- 'consignorlaw07.RecordsBack', WHERE WHAT IT READS IS OF BULK AT MOST 1048576: true; the input reads as it did. -/
def recordsBackUptoRow : OpenClaim := { program := "ytkhfhfdfiapgmaa", sum := "dc612b12d7d02bfc4c6d34f255a502afe99b650fb7f190219d4e3378a028bcab", func := "consignor/consignorlaw07.RecordsBack", spec := "recordsBack", unfollowed := true, recurses := true, apart := false, narrowed := true }
def RecordsBackUptoSaid : Prop := recordsBackUptoRow.holds Try.pinned (OpenSpec.upto recordsBackSpec)

/-- 'consignorlaw07.RecordsTurned', WHERE WHAT IT READS IS OF BULK AT MOST 1048576: true; the input reads as it did. -/
def recordsTurnedUptoRow : OpenClaim := { program := "ytkhfhfdfiapgmaa", sum := "dc612b12d7d02bfc4c6d34f255a502afe99b650fb7f190219d4e3378a028bcab", func := "consignor/consignorlaw07.RecordsTurned", spec := "recordsTurned", unfollowed := true, recurses := true, apart := false, narrowed := true }
def RecordsTurnedUptoSaid : Prop := recordsTurnedUptoRow.holds Try.pinned (OpenSpec.upto recordsTurnedSpec)

end Rows
end Go.Proofs.Ytkhfhfdfiapgmaa
