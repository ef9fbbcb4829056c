/-
  No cell of these rows narrows 'for every input' (looked for: loops, veiled, ifaces, maps, wideKeys, modest, calm, conditions, laid).
  DERIVED. THE GIVEN ROWS OF THIS SEAT. 6 by the template 'for every input the law returns true; each argument reads behind the call as it read before'; 0 by the template 'total and deterministic' (their statements: YtecokglofocgiaaTotals.lean).
  GIVEN WITH THE SEED: the statements are not yours to turn. If you find one false, say at which input.
  Laid BY PROGRAM, IN A SANDBOX (cutbox-rows.mjs): the forced cells as the released guide's own fill.sh prints them over the translation df4a445215bbfd60… (all of the seat's roots in one cut). By AI agents, Wed Nov 11 2026. No macro, syntax, notation, axiom, sorry.
-/
import Derived.Test.YtecokglofocgiaaChecked
import GoSem.Claim
import GoSem.ClaimJoined
import GoSem.ClaimMapViews
import Derived.JoinedTies
import Derived.KernelRfl
namespace Go.Proofs.Ytecokglofocgiaa
/- THE CELL 'sum', in the pinned program and in every row, IS THE sha256 OF THE DUMP (.gsa) THAT YtecokglofocgiaaProg.lean LOADS. Nothing in Lean hashes anything: it is a label: what it is worth is what the hold of that sum in a sandbox is worth. -/
noncomputable def Try.pinned : Pinned := { name := "ytecokglofocgiaa", sum := "df4a445215bbfd60c573bb36d31ee29504f9c6c4baa85f18936b124ba9182241", checked := Try.checked }
namespace Rows
def none {H : Type} : Left H := { results := [], args := [] }

/-- 'pointcodelaw03.SumsExtend': WHATEVER THE INPUT: true; the input reads as it did. -/
def sumsExtendSpec : ChangeSpec := { name := "sumsExtend", fn := fun _ => fun
  | [d1, d2, d3] => { results := [.lit (.bool true)], args := [d1, d2, d3] }
  | _ => none }
def sumsExtendRow : OpenClaim := { program := "ytecokglofocgiaa", sum := "df4a445215bbfd60c573bb36d31ee29504f9c6c4baa85f18936b124ba9182241", func := "pointcode/pointcodelaw03.SumsExtend", spec := "sumsExtend", apart := false }
def SumsExtendSaid : Prop := sumsExtendRow.holds Try.pinned (OpenSpec.ofChange sumsExtendSpec)

/-- ITS FALSE NEIGHBOUR: 'it returns false'. Refute it at one input. -/
def sumsExtendWrong : ChangeSpec := { name := "sumsExtend", fn := fun _ => fun
  | [d1, d2, d3] => { results := [.lit (.bool false)], args := [d1, d2, d3] }
  | _ => none }
def SumsExtendWrongFalsely : Prop := sumsExtendRow.holds Try.pinned (OpenSpec.ofChange sumsExtendWrong)

/-- 'pointcodelaw03.SumsBack': WHATEVER THE INPUT: true; the input reads as it did. -/
def sumsBackSpec : ChangeSpec := { name := "sumsBack", fn := fun _ => fun
  | [d] => { results := [.lit (.bool true)], args := [d] }
  | _ => none }
def sumsBackRow : OpenClaim := { program := "ytecokglofocgiaa", sum := "df4a445215bbfd60c573bb36d31ee29504f9c6c4baa85f18936b124ba9182241", func := "pointcode/pointcodelaw03.SumsBack", spec := "sumsBack", apart := false }
def SumsBackSaid : Prop := sumsBackRow.holds Try.pinned (OpenSpec.ofChange sumsBackSpec)

/-- ITS FALSE NEIGHBOUR: 'it returns false'. Refute it at one input. -/
def sumsBackWrong : ChangeSpec := { name := "sumsBack", fn := fun _ => fun
  | [d] => { results := [.lit (.bool false)], args := [d] }
  | _ => none }
def SumsBackWrongFalsely : Prop := sumsBackRow.holds Try.pinned (OpenSpec.ofChange sumsBackWrong)

/-- 'pointcodelaw03.SumsCheck': WHATEVER THE INPUT: true; the input reads as it did. -/
def sumsCheckSpec : ChangeSpec := { name := "sumsCheck", fn := fun _ => fun
  | [d] => { results := [.lit (.bool true)], args := [d] }
  | _ => none }
def sumsCheckRow : OpenClaim := { program := "ytecokglofocgiaa", sum := "df4a445215bbfd60c573bb36d31ee29504f9c6c4baa85f18936b124ba9182241", func := "pointcode/pointcodelaw03.SumsCheck", spec := "sumsCheck", apart := false }
def SumsCheckSaid : Prop := sumsCheckRow.holds Try.pinned (OpenSpec.ofChange sumsCheckSpec)

/-- ITS FALSE NEIGHBOUR: 'it returns false'. Refute it at one input. -/
def sumsCheckWrong : ChangeSpec := { name := "sumsCheck", fn := fun _ => fun
  | [d] => { results := [.lit (.bool false)], args := [d] }
  | _ => none }
def SumsCheckWrongFalsely : Prop := sumsCheckRow.holds Try.pinned (OpenSpec.ofChange sumsCheckWrong)

/-- 'pointcodelaw03.SumsLinear': WHATEVER THE INPUT: true; the input reads as it did. -/
def sumsLinearSpec : ChangeSpec := { name := "sumsLinear", fn := fun _ => fun
  | [d1, d2, d3] => { results := [.lit (.bool true)], args := [d1, d2, d3] }
  | _ => none }
def sumsLinearRow : OpenClaim := { program := "ytecokglofocgiaa", sum := "df4a445215bbfd60c573bb36d31ee29504f9c6c4baa85f18936b124ba9182241", func := "pointcode/pointcodelaw03.SumsLinear", spec := "sumsLinear", unfollowed := true, recurses := true, apart := false }
def SumsLinearSaid : Prop := sumsLinearRow.holds Try.pinned (OpenSpec.ofChange sumsLinearSpec)

/-- ITS FALSE NEIGHBOUR: 'it returns false'. Refute it at one input. -/
def sumsLinearWrong : ChangeSpec := { name := "sumsLinear", fn := fun _ => fun
  | [d1, d2, d3] => { results := [.lit (.bool false)], args := [d1, d2, d3] }
  | _ => none }
def SumsLinearWrongFalsely : Prop := sumsLinearRow.holds Try.pinned (OpenSpec.ofChange sumsLinearWrong)

/-- 'pointcodelaw03.SumsBursts': WHATEVER THE INPUT: true; the input reads as it did. -/
def sumsBurstsSpec : ChangeSpec := { name := "sumsBursts", fn := fun _ => fun
  | [d1, d2, d3] => { results := [.lit (.bool true)], args := [d1, d2, d3] }
  | _ => none }
def sumsBurstsRow : OpenClaim := { program := "ytecokglofocgiaa", sum := "df4a445215bbfd60c573bb36d31ee29504f9c6c4baa85f18936b124ba9182241", func := "pointcode/pointcodelaw03.SumsBursts", spec := "sumsBursts", apart := false }
def SumsBurstsSaid : Prop := sumsBurstsRow.holds Try.pinned (OpenSpec.ofChange sumsBurstsSpec)

/-- ITS FALSE NEIGHBOUR: 'it returns false'. Refute it at one input. -/
def sumsBurstsWrong : ChangeSpec := { name := "sumsBursts", fn := fun _ => fun
  | [d1, d2, d3] => { results := [.lit (.bool false)], args := [d1, d2, d3] }
  | _ => none }
def SumsBurstsWrongFalsely : Prop := sumsBurstsRow.holds Try.pinned (OpenSpec.ofChange sumsBurstsWrong)

/-- 'pointcodelaw03.SumsFew': WHATEVER THE INPUT: true; the input reads as it did. -/
def sumsFewSpec : ChangeSpec := { name := "sumsFew", fn := fun _ => fun
  | [d1, d2] => { results := [.lit (.bool true)], args := [d1, d2] }
  | _ => none }
def sumsFewRow : OpenClaim := { program := "ytecokglofocgiaa", sum := "df4a445215bbfd60c573bb36d31ee29504f9c6c4baa85f18936b124ba9182241", func := "pointcode/pointcodelaw03.SumsFew", spec := "sumsFew", apart := false }
def SumsFewSaid : Prop := sumsFewRow.holds Try.pinned (OpenSpec.ofChange sumsFewSpec)

/-- ITS FALSE NEIGHBOUR: 'it returns false'. Refute it at one input. -/
def sumsFewWrong : ChangeSpec := { name := "sumsFew", fn := fun _ => fun
  | [d1, d2] => { results := [.lit (.bool false)], args := [d1, d2] }
  | _ => none }
def SumsFewWrongFalsely : Prop := sumsFewRow.holds Try.pinned (OpenSpec.ofChange sumsFewWrong)

/- THE SECOND FORM. 'bulk': how many values and letters a reading holds, each counted each time it is reached (what is shared counts as often as it is met; a slice's spare places count too). A statement '..UptoSaid' is the law's where the arguments, and the package variables that the reading takes, are together of bulk at most 1048576: NARROWER than '..Said'. Prove '..Said' where nothing that the law and all that it calls make is longer than what came in: it says more and counts as full. Else prove '..UptoSaid'. A law counts once. -/
mutual
def uptoBulk {H : Type} : DataW H → Nat
  | .lit (.string bytes) => bytes.length + 1
  | .lit _ => 1
  | .nil => 1
  | .ptr d => uptoBulk d + 1
  | .slice elems spare => uptoBulkAll elems + uptoBulkAll spare + 1
  | .agg parts => uptoBulkAll parts + 1
  | .iface _ d => uptoBulk d + 1
  | .map entries => uptoBulkEntries entries + 1
  | .held _ => 1
def uptoBulkAll {H : Type} : List (DataW H) → Nat
  | [] => 0
  | d :: r => uptoBulk d + uptoBulkAll r
def uptoBulkEntries {H : Type} : List (Lit × DataW H) → Nat
  | [] => 0
  | x :: r => uptoBulkEntry x + uptoBulkEntries r
def uptoBulkEntry {H : Type} : Lit × DataW H → Nat
  | (.string bytes, d) => bytes.length + uptoBulk d + 1
  | (_, d) => uptoBulk d + 1
 end
def uptoSmall : (H : Type) → List (DataW H) → Bool := fun _ ds => decide (uptoBulkAll ds ≤ 1048576)
def OpenSpec.upto (s : _root_.Go.ChangeSpec) : _root_.Go.OpenSpec := { _root_.Go.OpenSpec.ofChange s with cond := some uptoSmall }

/-- 'pointcodelaw03.SumsExtend', WHERE WHAT IT READS IS OF BULK AT MOST 1048576: true; the input reads as it did. -/
def sumsExtendUptoRow : OpenClaim := { program := "ytecokglofocgiaa", sum := "df4a445215bbfd60c573bb36d31ee29504f9c6c4baa85f18936b124ba9182241", func := "pointcode/pointcodelaw03.SumsExtend", spec := "sumsExtend", apart := false, narrowed := true }
def SumsExtendUptoSaid : Prop := sumsExtendUptoRow.holds Try.pinned (OpenSpec.upto sumsExtendSpec)

/-- 'pointcodelaw03.SumsBack', WHERE WHAT IT READS IS OF BULK AT MOST 1048576: true; the input reads as it did. -/
def sumsBackUptoRow : OpenClaim := { program := "ytecokglofocgiaa", sum := "df4a445215bbfd60c573bb36d31ee29504f9c6c4baa85f18936b124ba9182241", func := "pointcode/pointcodelaw03.SumsBack", spec := "sumsBack", apart := false, narrowed := true }
def SumsBackUptoSaid : Prop := sumsBackUptoRow.holds Try.pinned (OpenSpec.upto sumsBackSpec)

/-- 'pointcodelaw03.SumsCheck', WHERE WHAT IT READS IS OF BULK AT MOST 1048576: true; the input reads as it did. -/
def sumsCheckUptoRow : OpenClaim := { program := "ytecokglofocgiaa", sum := "df4a445215bbfd60c573bb36d31ee29504f9c6c4baa85f18936b124ba9182241", func := "pointcode/pointcodelaw03.SumsCheck", spec := "sumsCheck", apart := false, narrowed := true }
def SumsCheckUptoSaid : Prop := sumsCheckUptoRow.holds Try.pinned (OpenSpec.upto sumsCheckSpec)

/-- 'pointcodelaw03.SumsLinear', WHERE WHAT IT READS IS OF BULK AT MOST 1048576: true; the input reads as it did. -/
def sumsLinearUptoRow : OpenClaim := { program := "ytecokglofocgiaa", sum := "df4a445215bbfd60c573bb36d31ee29504f9c6c4baa85f18936b124ba9182241", func := "pointcode/pointcodelaw03.SumsLinear", spec := "sumsLinear", unfollowed := true, recurses := true, apart := false, narrowed := true }
def SumsLinearUptoSaid : Prop := sumsLinearUptoRow.holds Try.pinned (OpenSpec.upto sumsLinearSpec)

/-- 'pointcodelaw03.SumsBursts', WHERE WHAT IT READS IS OF BULK AT MOST 1048576: true; the input reads as it did. -/
def sumsBurstsUptoRow : OpenClaim := { program := "ytecokglofocgiaa", sum := "df4a445215bbfd60c573bb36d31ee29504f9c6c4baa85f18936b124ba9182241", func := "pointcode/pointcodelaw03.SumsBursts", spec := "sumsBursts", apart := false, narrowed := true }
def SumsBurstsUptoSaid : Prop := sumsBurstsUptoRow.holds Try.pinned (OpenSpec.upto sumsBurstsSpec)

/-- 'pointcodelaw03.SumsFew', WHERE WHAT IT READS IS OF BULK AT MOST 1048576: true; the input reads as it did. -/
def sumsFewUptoRow : OpenClaim := { program := "ytecokglofocgiaa", sum := "df4a445215bbfd60c573bb36d31ee29504f9c6c4baa85f18936b124ba9182241", func := "pointcode/pointcodelaw03.SumsFew", spec := "sumsFew", apart := false, narrowed := true }
def SumsFewUptoSaid : Prop := sumsFewUptoRow.holds Try.pinned (OpenSpec.upto sumsFewSpec)

end Rows
end Go.Proofs.Ytecokglofocgiaa
