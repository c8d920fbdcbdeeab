/-
  No cell of these rows narrows 'for every input' (looked for: loops, veiled, ifaces, maps, wideKeys, modest, calm, conditions, laid).
  DERIVED. THE GIVEN ROWS OF THIS SEAT. 11 by the template 'for every input the law returns true; each argument reads behind the call as it read before'; 0 by the template 'total and deterministic' (their statements: YtfnhbelaminhiaaTotals.lean).
  GIVEN WITH THE SEED: the statements are not yours to turn. If you find one false, say at which input.
  Laid BY PROGRAM, IN A SANDBOX (cutbox-rows.mjs): the forced cells as the released guide's own fill.sh prints them over the translation 767eaf982778fbc1… (all of the seat's roots in one cut). By AI agents, Wed Nov 11 2026. No macro, syntax, notation, axiom, sorry.
-/
import Derived.Test.YtfnhbelaminhiaaChecked
import GoSem.Claim
import GoSem.ClaimJoined
import GoSem.ClaimMapViews
import Derived.JoinedTies
import Derived.KernelRfl
namespace Go.Proofs.Ytfnhbelaminhiaa
/- THE CELL 'sum', in the pinned program and in every row, IS THE sha256 OF THE DUMP (.gsa) THAT YtfnhbelaminhiaaProg.lean LOADS. Nothing in Lean hashes anything: it is a label: what it is worth is what the hold of that sum in a sandbox is worth. -/
noncomputable def Try.pinned : Pinned := { name := "ytfnhbelaminhiaa", sum := "767eaf982778fbc1f59f7466ce0c8593cf2dcee3835f0c801d5f15610fe3d4de", checked := Try.checked }
namespace Rows
def none {H : Type} : Left H := { results := [], args := [] }

/-- 'consignorlaw02.BitsForm': WHATEVER THE INPUT: true; the input reads as it did. -/
def bitsFormSpec : ChangeSpec := { name := "bitsForm", fn := fun _ => fun
  | [d] => { results := [.lit (.bool true)], args := [d] }
  | _ => none }
def bitsFormRow : OpenClaim := { program := "ytfnhbelaminhiaa", sum := "767eaf982778fbc1f59f7466ce0c8593cf2dcee3835f0c801d5f15610fe3d4de", func := "consignor/consignorlaw02.BitsForm", spec := "bitsForm", apart := false }
def BitsFormSaid : Prop := bitsFormRow.holds Try.pinned (OpenSpec.ofChange bitsFormSpec)

/-- ITS FALSE NEIGHBOUR: 'it returns false'. Refute it at one input. -/
def bitsFormWrong : ChangeSpec := { name := "bitsForm", fn := fun _ => fun
  | [d] => { results := [.lit (.bool false)], args := [d] }
  | _ => none }
def BitsFormWrongFalsely : Prop := bitsFormRow.holds Try.pinned (OpenSpec.ofChange bitsFormWrong)

/-- 'consignorlaw02.BitsSign': WHATEVER THE INPUT: true; the input reads as it did. -/
def bitsSignSpec : ChangeSpec := { name := "bitsSign", fn := fun _ => fun
  | [d1, d2] => { results := [.lit (.bool true)], args := [d1, d2] }
  | _ => none }
def bitsSignRow : OpenClaim := { program := "ytfnhbelaminhiaa", sum := "767eaf982778fbc1f59f7466ce0c8593cf2dcee3835f0c801d5f15610fe3d4de", func := "consignor/consignorlaw02.BitsSign", spec := "bitsSign", apart := false }
def BitsSignSaid : Prop := bitsSignRow.holds Try.pinned (OpenSpec.ofChange bitsSignSpec)

/-- ITS FALSE NEIGHBOUR: 'it returns false'. Refute it at one input. -/
def bitsSignWrong : ChangeSpec := { name := "bitsSign", fn := fun _ => fun
  | [d1, d2] => { results := [.lit (.bool false)], args := [d1, d2] }
  | _ => none }
def BitsSignWrongFalsely : Prop := bitsSignRow.holds Try.pinned (OpenSpec.ofChange bitsSignWrong)

/-- 'consignorlaw02.BitsRead': WHATEVER THE INPUT: true; the input reads as it did. -/
def bitsReadSpec : ChangeSpec := { name := "bitsRead", fn := fun _ => fun
  | [d] => { results := [.lit (.bool true)], args := [d] }
  | _ => none }
def bitsReadRow : OpenClaim := { program := "ytfnhbelaminhiaa", sum := "767eaf982778fbc1f59f7466ce0c8593cf2dcee3835f0c801d5f15610fe3d4de", func := "consignor/consignorlaw02.BitsRead", spec := "bitsRead", recurses := true, apart := false }
def BitsReadSaid : Prop := bitsReadRow.holds Try.pinned (OpenSpec.ofChange bitsReadSpec)

/-- ITS FALSE NEIGHBOUR: 'it returns false'. Refute it at one input. -/
def bitsReadWrong : ChangeSpec := { name := "bitsRead", fn := fun _ => fun
  | [d] => { results := [.lit (.bool false)], args := [d] }
  | _ => none }
def BitsReadWrongFalsely : Prop := bitsReadRow.holds Try.pinned (OpenSpec.ofChange bitsReadWrong)

/-- 'consignorlaw02.BitsTell': WHATEVER THE INPUT: true; the input reads as it did. -/
def bitsTellSpec : ChangeSpec := { name := "bitsTell", fn := fun _ => fun
  | [d1, d2, d3] => { results := [.lit (.bool true)], args := [d1, d2, d3] }
  | _ => none }
def bitsTellRow : OpenClaim := { program := "ytfnhbelaminhiaa", sum := "767eaf982778fbc1f59f7466ce0c8593cf2dcee3835f0c801d5f15610fe3d4de", func := "consignor/consignorlaw02.BitsTell", spec := "bitsTell", recurses := true, apart := false }
def BitsTellSaid : Prop := bitsTellRow.holds Try.pinned (OpenSpec.ofChange bitsTellSpec)

/-- ITS FALSE NEIGHBOUR: 'it returns false'. Refute it at one input. -/
def bitsTellWrong : ChangeSpec := { name := "bitsTell", fn := fun _ => fun
  | [d1, d2, d3] => { results := [.lit (.bool false)], args := [d1, d2, d3] }
  | _ => none }
def BitsTellWrongFalsely : Prop := bitsTellRow.holds Try.pinned (OpenSpec.ofChange bitsTellWrong)

/-- 'consignorlaw02.BitsBack': WHATEVER THE INPUT: true; the input reads as it did. -/
def bitsBackSpec : ChangeSpec := { name := "bitsBack", fn := fun _ => fun
  | [d1, d2, d3] => { results := [.lit (.bool true)], args := [d1, d2, d3] }
  | _ => none }
def bitsBackRow : OpenClaim := { program := "ytfnhbelaminhiaa", sum := "767eaf982778fbc1f59f7466ce0c8593cf2dcee3835f0c801d5f15610fe3d4de", func := "consignor/consignorlaw02.BitsBack", spec := "bitsBack", apart := false }
def BitsBackSaid : Prop := bitsBackRow.holds Try.pinned (OpenSpec.ofChange bitsBackSpec)

/-- ITS FALSE NEIGHBOUR: 'it returns false'. Refute it at one input. -/
def bitsBackWrong : ChangeSpec := { name := "bitsBack", fn := fun _ => fun
  | [d1, d2, d3] => { results := [.lit (.bool false)], args := [d1, d2, d3] }
  | _ => none }
def BitsBackWrongFalsely : Prop := bitsBackRow.holds Try.pinned (OpenSpec.ofChange bitsBackWrong)

/-- 'consignorlaw03.SumsFronts': WHATEVER THE INPUT: true; the input reads as it did. -/
def sumsFrontsSpec : ChangeSpec := { name := "sumsFronts", fn := fun _ => fun
  | [d] => { results := [.lit (.bool true)], args := [d] }
  | _ => none }
def sumsFrontsRow : OpenClaim := { program := "ytfnhbelaminhiaa", sum := "767eaf982778fbc1f59f7466ce0c8593cf2dcee3835f0c801d5f15610fe3d4de", func := "consignor/consignorlaw03.SumsFronts", spec := "sumsFronts", apart := false }
def SumsFrontsSaid : Prop := sumsFrontsRow.holds Try.pinned (OpenSpec.ofChange sumsFrontsSpec)

/-- ITS FALSE NEIGHBOUR: 'it returns false'. Refute it at one input. -/
def sumsFrontsWrong : ChangeSpec := { name := "sumsFronts", fn := fun _ => fun
  | [d] => { results := [.lit (.bool false)], args := [d] }
  | _ => none }
def SumsFrontsWrongFalsely : Prop := sumsFrontsRow.holds Try.pinned (OpenSpec.ofChange sumsFrontsWrong)

/-- 'consignorlaw03.SumsOpens': WHATEVER THE INPUT: true; the input reads as it did. -/
def sumsOpensSpec : ChangeSpec := { name := "sumsOpens", fn := fun _ => fun
  | [d1, d2, d3] => { results := [.lit (.bool true)], args := [d1, d2, d3] }
  | _ => none }
def sumsOpensRow : OpenClaim := { program := "ytfnhbelaminhiaa", sum := "767eaf982778fbc1f59f7466ce0c8593cf2dcee3835f0c801d5f15610fe3d4de", func := "consignor/consignorlaw03.SumsOpens", spec := "sumsOpens", apart := false }
def SumsOpensSaid : Prop := sumsOpensRow.holds Try.pinned (OpenSpec.ofChange sumsOpensSpec)

/-- ITS FALSE NEIGHBOUR: 'it returns false'. Refute it at one input. -/
def sumsOpensWrong : ChangeSpec := { name := "sumsOpens", fn := fun _ => fun
  | [d1, d2, d3] => { results := [.lit (.bool false)], args := [d1, d2, d3] }
  | _ => none }
def SumsOpensWrongFalsely : Prop := sumsOpensRow.holds Try.pinned (OpenSpec.ofChange sumsOpensWrong)

/-- 'consignorlaw03.SumsRuns': WHATEVER THE INPUT: true; the input reads as it did. -/
def sumsRunsSpec : ChangeSpec := { name := "sumsRuns", fn := fun _ => fun
  | [d1, d2, d3] => { results := [.lit (.bool true)], args := [d1, d2, d3] }
  | _ => none }
def sumsRunsRow : OpenClaim := { program := "ytfnhbelaminhiaa", sum := "767eaf982778fbc1f59f7466ce0c8593cf2dcee3835f0c801d5f15610fe3d4de", func := "consignor/consignorlaw03.SumsRuns", spec := "sumsRuns", apart := false }
def SumsRunsSaid : Prop := sumsRunsRow.holds Try.pinned (OpenSpec.ofChange sumsRunsSpec)

/-- ITS FALSE NEIGHBOUR: 'it returns false'. Refute it at one input. -/
def sumsRunsWrong : ChangeSpec := { name := "sumsRuns", fn := fun _ => fun
  | [d1, d2, d3] => { results := [.lit (.bool false)], args := [d1, d2, d3] }
  | _ => none }
def SumsRunsWrongFalsely : Prop := sumsRunsRow.holds Try.pinned (OpenSpec.ofChange sumsRunsWrong)

/-- 'consignorlaw03.SumsBits': WHATEVER THE INPUT: true; the input reads as it did. -/
def sumsBitsSpec : ChangeSpec := { name := "sumsBits", fn := fun _ => fun
  | [d1, d2] => { results := [.lit (.bool true)], args := [d1, d2] }
  | _ => none }
def sumsBitsRow : OpenClaim := { program := "ytfnhbelaminhiaa", sum := "767eaf982778fbc1f59f7466ce0c8593cf2dcee3835f0c801d5f15610fe3d4de", func := "consignor/consignorlaw03.SumsBits", spec := "sumsBits", apart := false }
def SumsBitsSaid : Prop := sumsBitsRow.holds Try.pinned (OpenSpec.ofChange sumsBitsSpec)

/-- ITS FALSE NEIGHBOUR: 'it returns false'. Refute it at one input. -/
def sumsBitsWrong : ChangeSpec := { name := "sumsBits", fn := fun _ => fun
  | [d1, d2] => { results := [.lit (.bool false)], args := [d1, d2] }
  | _ => none }
def SumsBitsWrongFalsely : Prop := sumsBitsRow.holds Try.pinned (OpenSpec.ofChange sumsBitsWrong)

/-- 'consignorlaw03.SumsSwaps': WHATEVER THE INPUT: true; the input reads as it did. -/
def sumsSwapsSpec : ChangeSpec := { name := "sumsSwaps", fn := fun _ => fun
  | [d1, d2, d3] => { results := [.lit (.bool true)], args := [d1, d2, d3] }
  | _ => none }
def sumsSwapsRow : OpenClaim := { program := "ytfnhbelaminhiaa", sum := "767eaf982778fbc1f59f7466ce0c8593cf2dcee3835f0c801d5f15610fe3d4de", func := "consignor/consignorlaw03.SumsSwaps", spec := "sumsSwaps", apart := false }
def SumsSwapsSaid : Prop := sumsSwapsRow.holds Try.pinned (OpenSpec.ofChange sumsSwapsSpec)

/-- ITS FALSE NEIGHBOUR: 'it returns false'. Refute it at one input. -/
def sumsSwapsWrong : ChangeSpec := { name := "sumsSwaps", fn := fun _ => fun
  | [d1, d2, d3] => { results := [.lit (.bool false)], args := [d1, d2, d3] }
  | _ => none }
def SumsSwapsWrongFalsely : Prop := sumsSwapsRow.holds Try.pinned (OpenSpec.ofChange sumsSwapsWrong)

/-- 'consignorlaw03.SumsAgainst': WHATEVER THE INPUT: true; the input reads as it did. -/
def sumsAgainstSpec : ChangeSpec := { name := "sumsAgainst", fn := fun _ => fun
  | [d1, d2] => { results := [.lit (.bool true)], args := [d1, d2] }
  | _ => none }
def sumsAgainstRow : OpenClaim := { program := "ytfnhbelaminhiaa", sum := "767eaf982778fbc1f59f7466ce0c8593cf2dcee3835f0c801d5f15610fe3d4de", func := "consignor/consignorlaw03.SumsAgainst", spec := "sumsAgainst", apart := false }
def SumsAgainstSaid : Prop := sumsAgainstRow.holds Try.pinned (OpenSpec.ofChange sumsAgainstSpec)

/-- ITS FALSE NEIGHBOUR: 'it returns false'. Refute it at one input. -/
def sumsAgainstWrong : ChangeSpec := { name := "sumsAgainst", fn := fun _ => fun
  | [d1, d2] => { results := [.lit (.bool false)], args := [d1, d2] }
  | _ => none }
def SumsAgainstWrongFalsely : Prop := sumsAgainstRow.holds Try.pinned (OpenSpec.ofChange sumsAgainstWrong)

/- THE SECOND FORM. 'bulk': how many values and letters a reading holds, each counted each time it is reached (what is shared counts as often as it is met; a slice's spare places count too). A statement '..UptoSaid' is the law's where the arguments, and the package variables that the reading takes, are together of bulk at most 1048576: NARROWER than '..Said'. Prove '..Said' where nothing that the law and all that it calls make is longer than what came in: it says more and counts as full. Else prove '..UptoSaid'. A law counts once. -/
mutual
def uptoBulk {H : Type} : DataW H → Nat
  | .lit (.string bytes) => bytes.length + 1
  | .lit _ => 1
  | .nil => 1
  | .ptr d => uptoBulk d + 1
  | .slice elems spare => uptoBulkAll elems + uptoBulkAll spare + 1
  | .agg parts => uptoBulkAll parts + 1
  | .iface _ d => uptoBulk d + 1
  | .map entries => uptoBulkEntries entries + 1
  | .held _ => 1
def uptoBulkAll {H : Type} : List (DataW H) → Nat
  | [] => 0
  | d :: r => uptoBulk d + uptoBulkAll r
def uptoBulkEntries {H : Type} : List (Lit × DataW H) → Nat
  | [] => 0
  | x :: r => uptoBulkEntry x + uptoBulkEntries r
def uptoBulkEntry {H : Type} : Lit × DataW H → Nat
  | (.string bytes, d) => bytes.length + uptoBulk d + 1
  | (_, d) => uptoBulk d + 1
 end
def uptoSmall : (H : Type) → List (DataW H) → Bool := fun _ ds => decide (uptoBulkAll ds ≤ 1048576)
def OpenSpec.upto (s : _root_.Go.ChangeSpec) : _root_.Go.OpenSpec := { _root_.Go.OpenSpec.ofChange s with cond := some uptoSmall }

/-- 'consignorlaw02.BitsForm', WHERE WHAT IT READS IS OF BULK AT MOST 1048576: true; the input reads as it did. -/
def bitsFormUptoRow : OpenClaim := { program := "ytfnhbelaminhiaa", sum := "767eaf982778fbc1f59f7466ce0c8593cf2dcee3835f0c801d5f15610fe3d4de", func := "consignor/consignorlaw02.BitsForm", spec := "bitsForm", apart := false, narrowed := true }
def BitsFormUptoSaid : Prop := bitsFormUptoRow.holds Try.pinned (OpenSpec.upto bitsFormSpec)

/-- 'consignorlaw02.BitsSign', WHERE WHAT IT READS IS OF BULK AT MOST 1048576: true; the input reads as it did. -/
def bitsSignUptoRow : OpenClaim := { program := "ytfnhbelaminhiaa", sum := "767eaf982778fbc1f59f7466ce0c8593cf2dcee3835f0c801d5f15610fe3d4de", func := "consignor/consignorlaw02.BitsSign", spec := "bitsSign", apart := false, narrowed := true }
def BitsSignUptoSaid : Prop := bitsSignUptoRow.holds Try.pinned (OpenSpec.upto bitsSignSpec)

/-- 'consignorlaw02.BitsRead', WHERE WHAT IT READS IS OF BULK AT MOST 1048576: true; the input reads as it did. -/
def bitsReadUptoRow : OpenClaim := { program := "ytfnhbelaminhiaa", sum := "767eaf982778fbc1f59f7466ce0c8593cf2dcee3835f0c801d5f15610fe3d4de", func := "consignor/consignorlaw02.BitsRead", spec := "bitsRead", recurses := true, apart := false, narrowed := true }
def BitsReadUptoSaid : Prop := bitsReadUptoRow.holds Try.pinned (OpenSpec.upto bitsReadSpec)

/-- 'consignorlaw02.BitsTell', WHERE WHAT IT READS IS OF BULK AT MOST 1048576: true; the input reads as it did. -/
def bitsTellUptoRow : OpenClaim := { program := "ytfnhbelaminhiaa", sum := "767eaf982778fbc1f59f7466ce0c8593cf2dcee3835f0c801d5f15610fe3d4de", func := "consignor/consignorlaw02.BitsTell", spec := "bitsTell", recurses := true, apart := false, narrowed := true }
def BitsTellUptoSaid : Prop := bitsTellUptoRow.holds Try.pinned (OpenSpec.upto bitsTellSpec)

/-- 'consignorlaw02.BitsBack', WHERE WHAT IT READS IS OF BULK AT MOST 1048576: true; the input reads as it did. -/
def bitsBackUptoRow : OpenClaim := { program := "ytfnhbelaminhiaa", sum := "767eaf982778fbc1f59f7466ce0c8593cf2dcee3835f0c801d5f15610fe3d4de", func := "consignor/consignorlaw02.BitsBack", spec := "bitsBack", apart := false, narrowed := true }
def BitsBackUptoSaid : Prop := bitsBackUptoRow.holds Try.pinned (OpenSpec.upto bitsBackSpec)

/-- 'consignorlaw03.SumsFronts', WHERE WHAT IT READS IS OF BULK AT MOST 1048576: true; the input reads as it did. -/
def sumsFrontsUptoRow : OpenClaim := { program := "ytfnhbelaminhiaa", sum := "767eaf982778fbc1f59f7466ce0c8593cf2dcee3835f0c801d5f15610fe3d4de", func := "consignor/consignorlaw03.SumsFronts", spec := "sumsFronts", apart := false, narrowed := true }
def SumsFrontsUptoSaid : Prop := sumsFrontsUptoRow.holds Try.pinned (OpenSpec.upto sumsFrontsSpec)

/-- 'consignorlaw03.SumsOpens', WHERE WHAT IT READS IS OF BULK AT MOST 1048576: true; the input reads as it did. -/
def sumsOpensUptoRow : OpenClaim := { program := "ytfnhbelaminhiaa", sum := "767eaf982778fbc1f59f7466ce0c8593cf2dcee3835f0c801d5f15610fe3d4de", func := "consignor/consignorlaw03.SumsOpens", spec := "sumsOpens", apart := false, narrowed := true }
def SumsOpensUptoSaid : Prop := sumsOpensUptoRow.holds Try.pinned (OpenSpec.upto sumsOpensSpec)

/-- 'consignorlaw03.SumsRuns', WHERE WHAT IT READS IS OF BULK AT MOST 1048576: true; the input reads as it did. -/
def sumsRunsUptoRow : OpenClaim := { program := "ytfnhbelaminhiaa", sum := "767eaf982778fbc1f59f7466ce0c8593cf2dcee3835f0c801d5f15610fe3d4de", func := "consignor/consignorlaw03.SumsRuns", spec := "sumsRuns", apart := false, narrowed := true }
def SumsRunsUptoSaid : Prop := sumsRunsUptoRow.holds Try.pinned (OpenSpec.upto sumsRunsSpec)

/-- 'consignorlaw03.SumsBits', WHERE WHAT IT READS IS OF BULK AT MOST 1048576: true; the input reads as it did. -/
def sumsBitsUptoRow : OpenClaim := { program := "ytfnhbelaminhiaa", sum := "767eaf982778fbc1f59f7466ce0c8593cf2dcee3835f0c801d5f15610fe3d4de", func := "consignor/consignorlaw03.SumsBits", spec := "sumsBits", apart := false, narrowed := true }
def SumsBitsUptoSaid : Prop := sumsBitsUptoRow.holds Try.pinned (OpenSpec.upto sumsBitsSpec)

/-- 'consignorlaw03.SumsSwaps', WHERE WHAT IT READS IS OF BULK AT MOST 1048576: true; the input reads as it did. -/
def sumsSwapsUptoRow : OpenClaim := { program := "ytfnhbelaminhiaa", sum := "767eaf982778fbc1f59f7466ce0c8593cf2dcee3835f0c801d5f15610fe3d4de", func := "consignor/consignorlaw03.SumsSwaps", spec := "sumsSwaps", apart := false, narrowed := true }
def SumsSwapsUptoSaid : Prop := sumsSwapsUptoRow.holds Try.pinned (OpenSpec.upto sumsSwapsSpec)

/-- 'consignorlaw03.SumsAgainst', WHERE WHAT IT READS IS OF BULK AT MOST 1048576: true; the input reads as it did. -/
def sumsAgainstUptoRow : OpenClaim := { program := "ytfnhbelaminhiaa", sum := "767eaf982778fbc1f59f7466ce0c8593cf2dcee3835f0c801d5f15610fe3d4de", func := "consignor/consignorlaw03.SumsAgainst", spec := "sumsAgainst", apart := false, narrowed := true }
def SumsAgainstUptoSaid : Prop := sumsAgainstUptoRow.holds Try.pinned (OpenSpec.upto sumsAgainstSpec)

end Rows
end Go.Proofs.Ytfnhbelaminhiaa
