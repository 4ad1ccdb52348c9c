/-
  No cell of these rows narrows 'for every input' (looked for: loops, veiled, ifaces, maps, wideKeys, modest, calm, conditions, laid).
  DERIVED. THE GIVEN ROWS OF THIS SEAT. 6 by the template 'for every input the law returns true; each argument reads behind the call as it read before'; 0 by the template 'total and deterministic' (their statements: YtmdlgeimcdpgaaaTotals.lean).
  GIVEN WITH THE SEED: the statements are not yours to turn. If you find one false, say at which input.
  Laid BY PROGRAM, IN A SANDBOX (cutbox-rows.mjs): the forced cells as the released guide's own fill.sh prints them over the translation 69888a97f3a6053b… (all of the seat's roots in one cut). By AI agents, Wed Nov 11 2026. No macro, syntax, notation, axiom, sorry.
-/
import Derived.Test.YtmdlgeimcdpgaaaChecked
import GoSem.Claim
import GoSem.ClaimJoined
import GoSem.ClaimMapViews
import Derived.JoinedTies
import Derived.KernelRfl
namespace Go.Proofs.Ytmdlgeimcdpgaaa
/- THE CELL 'sum', in the pinned program and in every row, IS THE sha256 OF THE DUMP (.gsa) THAT YtmdlgeimcdpgaaaProg.lean LOADS. Nothing in Lean hashes anything: it is a label: what it is worth is what the hold of that sum in a sandbox is worth. -/
noncomputable def Try.pinned : Pinned := { name := "ytmdlgeimcdpgaaa", sum := "69888a97f3a6053bb7c6045174063b0585b351a0f6244230e58614337994831e", checked := Try.checked }
namespace Rows
def none {H : Type} : Left H := { results := [], args := [] }

/-- 'laws.FnMovingSums': WHATEVER THE INPUT: true; the input reads as it did. -/
def fnMovingSumsSpec : ChangeSpec := { name := "fnMovingSums", fn := fun _ => fun
  | [d] => { results := [.lit (.bool true)], args := [d] }
  | _ => none }
def fnMovingSumsRow : OpenClaim := { program := "ytmdlgeimcdpgaaa", sum := "69888a97f3a6053bb7c6045174063b0585b351a0f6244230e58614337994831e", func := "loop.example/metricstore/laws.FnMovingSums", spec := "fnMovingSums", apart := false }
def FnMovingSumsSaid : Prop := fnMovingSumsRow.holds Try.pinned (OpenSpec.ofChange fnMovingSumsSpec)

/-- ITS FALSE NEIGHBOUR: 'it returns false'. Refute it at one input. -/
def fnMovingSumsWrong : ChangeSpec := { name := "fnMovingSums", fn := fun _ => fun
  | [d] => { results := [.lit (.bool false)], args := [d] }
  | _ => none }
def FnMovingSumsWrongFalsely : Prop := fnMovingSumsRow.holds Try.pinned (OpenSpec.ofChange fnMovingSumsWrong)

/-- 'laws.FnMovingSumsMany': WHATEVER THE INPUT: true; the input reads as it did. -/
def fnMovingSumsManySpec : ChangeSpec := { name := "fnMovingSumsMany", fn := fun _ => fun
  | [d] => { results := [.lit (.bool true)], args := [d] }
  | _ => none }
def fnMovingSumsManyRow : OpenClaim := { program := "ytmdlgeimcdpgaaa", sum := "69888a97f3a6053bb7c6045174063b0585b351a0f6244230e58614337994831e", func := "loop.example/metricstore/laws.FnMovingSumsMany", spec := "fnMovingSumsMany", apart := false }
def FnMovingSumsManySaid : Prop := fnMovingSumsManyRow.holds Try.pinned (OpenSpec.ofChange fnMovingSumsManySpec)

/-- ITS FALSE NEIGHBOUR: 'it returns false'. Refute it at one input. -/
def fnMovingSumsManyWrong : ChangeSpec := { name := "fnMovingSumsMany", fn := fun _ => fun
  | [d] => { results := [.lit (.bool false)], args := [d] }
  | _ => none }
def FnMovingSumsManyWrongFalsely : Prop := fnMovingSumsManyRow.holds Try.pinned (OpenSpec.ofChange fnMovingSumsManyWrong)

/-- 'laws.FnMovingSumsStep': WHATEVER THE INPUT: true; the input reads as it did. -/
def fnMovingSumsStepSpec : ChangeSpec := { name := "fnMovingSumsStep", fn := fun _ => fun
  | [d] => { results := [.lit (.bool true)], args := [d] }
  | _ => none }
def fnMovingSumsStepRow : OpenClaim := { program := "ytmdlgeimcdpgaaa", sum := "69888a97f3a6053bb7c6045174063b0585b351a0f6244230e58614337994831e", func := "loop.example/metricstore/laws.FnMovingSumsStep", spec := "fnMovingSumsStep", apart := false }
def FnMovingSumsStepSaid : Prop := fnMovingSumsStepRow.holds Try.pinned (OpenSpec.ofChange fnMovingSumsStepSpec)

/-- ITS FALSE NEIGHBOUR: 'it returns false'. Refute it at one input. -/
def fnMovingSumsStepWrong : ChangeSpec := { name := "fnMovingSumsStep", fn := fun _ => fun
  | [d] => { results := [.lit (.bool false)], args := [d] }
  | _ => none }
def FnMovingSumsStepWrongFalsely : Prop := fnMovingSumsStepRow.holds Try.pinned (OpenSpec.ofChange fnMovingSumsStepWrong)

/-- 'laws.FnMovingMost': WHATEVER THE INPUT: true; the input reads as it did. -/
def fnMovingMostSpec : ChangeSpec := { name := "fnMovingMost", fn := fun _ => fun
  | [d] => { results := [.lit (.bool true)], args := [d] }
  | _ => none }
def fnMovingMostRow : OpenClaim := { program := "ytmdlgeimcdpgaaa", sum := "69888a97f3a6053bb7c6045174063b0585b351a0f6244230e58614337994831e", func := "loop.example/metricstore/laws.FnMovingMost", spec := "fnMovingMost", apart := false }
def FnMovingMostSaid : Prop := fnMovingMostRow.holds Try.pinned (OpenSpec.ofChange fnMovingMostSpec)

/-- ITS FALSE NEIGHBOUR: 'it returns false'. Refute it at one input. -/
def fnMovingMostWrong : ChangeSpec := { name := "fnMovingMost", fn := fun _ => fun
  | [d] => { results := [.lit (.bool false)], args := [d] }
  | _ => none }
def FnMovingMostWrongFalsely : Prop := fnMovingMostRow.holds Try.pinned (OpenSpec.ofChange fnMovingMostWrong)

/-- 'laws.FnBoundFor': WHATEVER THE INPUT: true; the input reads as it did. -/
def fnBoundForSpec : ChangeSpec := { name := "fnBoundFor", fn := fun _ => fun
  | [d] => { results := [.lit (.bool true)], args := [d] }
  | _ => none }
def fnBoundForRow : OpenClaim := { program := "ytmdlgeimcdpgaaa", sum := "69888a97f3a6053bb7c6045174063b0585b351a0f6244230e58614337994831e", func := "loop.example/metricstore/laws.FnBoundFor", spec := "fnBoundFor", apart := false }
def FnBoundForSaid : Prop := fnBoundForRow.holds Try.pinned (OpenSpec.ofChange fnBoundForSpec)

/-- ITS FALSE NEIGHBOUR: 'it returns false'. Refute it at one input. -/
def fnBoundForWrong : ChangeSpec := { name := "fnBoundFor", fn := fun _ => fun
  | [d] => { results := [.lit (.bool false)], args := [d] }
  | _ => none }
def FnBoundForWrongFalsely : Prop := fnBoundForRow.holds Try.pinned (OpenSpec.ofChange fnBoundForWrong)

/-- 'laws.FnExactMovingSums': WHATEVER THE INPUT: true; the input reads as it did. -/
def fnExactMovingSumsSpec : ChangeSpec := { name := "fnExactMovingSums", fn := fun _ => fun
  | [d1, d2] => { results := [.lit (.bool true)], args := [d1, d2] }
  | _ => none }
def fnExactMovingSumsRow : OpenClaim := { program := "ytmdlgeimcdpgaaa", sum := "69888a97f3a6053bb7c6045174063b0585b351a0f6244230e58614337994831e", func := "loop.example/metricstore/laws.FnExactMovingSums", spec := "fnExactMovingSums", apart := false }
def FnExactMovingSumsSaid : Prop := fnExactMovingSumsRow.holds Try.pinned (OpenSpec.ofChange fnExactMovingSumsSpec)

/-- ITS FALSE NEIGHBOUR: 'it returns false'. Refute it at one input. -/
def fnExactMovingSumsWrong : ChangeSpec := { name := "fnExactMovingSums", fn := fun _ => fun
  | [d1, d2] => { results := [.lit (.bool false)], args := [d1, d2] }
  | _ => none }
def FnExactMovingSumsWrongFalsely : Prop := fnExactMovingSumsRow.holds Try.pinned (OpenSpec.ofChange fnExactMovingSumsWrong)

/- THE SECOND FORM. 'bulk': how many values and letters a reading holds, each counted each time it is reached (what is shared counts as often as it is met; a slice's spare places count too). A statement '..UptoSaid' is the law's where the arguments, and the package variables that the reading takes, are together of bulk at most 1048576: NARROWER than '..Said'. Prove '..Said' where nothing that the law and all that it calls make is longer than what came in: it says more and counts as full. Else prove '..UptoSaid'. A law counts once. -/
mutual
def uptoBulk {H : Type} : DataW H → Nat
  | .lit (.string bytes) => bytes.length + 1
  | .lit _ => 1
  | .nil => 1
  | .ptr d => uptoBulk d + 1
  | .slice elems spare => uptoBulkAll elems + uptoBulkAll spare + 1
  | .agg parts => uptoBulkAll parts + 1
  | .iface _ d => uptoBulk d + 1
  | .map entries => uptoBulkEntries entries + 1
  | .held _ => 1
def uptoBulkAll {H : Type} : List (DataW H) → Nat
  | [] => 0
  | d :: r => uptoBulk d + uptoBulkAll r
def uptoBulkEntries {H : Type} : List (Lit × DataW H) → Nat
  | [] => 0
  | x :: r => uptoBulkEntry x + uptoBulkEntries r
def uptoBulkEntry {H : Type} : Lit × DataW H → Nat
  | (.string bytes, d) => bytes.length + uptoBulk d + 1
  | (_, d) => uptoBulk d + 1
 end
def uptoSmall : (H : Type) → List (DataW H) → Bool := fun _ ds => decide (uptoBulkAll ds ≤ 1048576)
def OpenSpec.upto (s : _root_.Go.ChangeSpec) : _root_.Go.OpenSpec := { _root_.Go.OpenSpec.ofChange s with cond := some uptoSmall }

/-- 'laws.FnMovingSums', WHERE WHAT IT READS IS OF BULK AT MOST 1048576: true; the input reads as it did. -/
def fnMovingSumsUptoRow : OpenClaim := { program := "ytmdlgeimcdpgaaa", sum := "69888a97f3a6053bb7c6045174063b0585b351a0f6244230e58614337994831e", func := "loop.example/metricstore/laws.FnMovingSums", spec := "fnMovingSums", apart := false, narrowed := true }
def FnMovingSumsUptoSaid : Prop := fnMovingSumsUptoRow.holds Try.pinned (OpenSpec.upto fnMovingSumsSpec)

/-- 'laws.FnMovingSumsMany', WHERE WHAT IT READS IS OF BULK AT MOST 1048576: true; the input reads as it did. -/
def fnMovingSumsManyUptoRow : OpenClaim := { program := "ytmdlgeimcdpgaaa", sum := "69888a97f3a6053bb7c6045174063b0585b351a0f6244230e58614337994831e", func := "loop.example/metricstore/laws.FnMovingSumsMany", spec := "fnMovingSumsMany", apart := false, narrowed := true }
def FnMovingSumsManyUptoSaid : Prop := fnMovingSumsManyUptoRow.holds Try.pinned (OpenSpec.upto fnMovingSumsManySpec)

/-- 'laws.FnMovingSumsStep', WHERE WHAT IT READS IS OF BULK AT MOST 1048576: true; the input reads as it did. -/
def fnMovingSumsStepUptoRow : OpenClaim := { program := "ytmdlgeimcdpgaaa", sum := "69888a97f3a6053bb7c6045174063b0585b351a0f6244230e58614337994831e", func := "loop.example/metricstore/laws.FnMovingSumsStep", spec := "fnMovingSumsStep", apart := false, narrowed := true }
def FnMovingSumsStepUptoSaid : Prop := fnMovingSumsStepUptoRow.holds Try.pinned (OpenSpec.upto fnMovingSumsStepSpec)

/-- 'laws.FnMovingMost', WHERE WHAT IT READS IS OF BULK AT MOST 1048576: true; the input reads as it did. -/
def fnMovingMostUptoRow : OpenClaim := { program := "ytmdlgeimcdpgaaa", sum := "69888a97f3a6053bb7c6045174063b0585b351a0f6244230e58614337994831e", func := "loop.example/metricstore/laws.FnMovingMost", spec := "fnMovingMost", apart := false, narrowed := true }
def FnMovingMostUptoSaid : Prop := fnMovingMostUptoRow.holds Try.pinned (OpenSpec.upto fnMovingMostSpec)

/-- 'laws.FnBoundFor', WHERE WHAT IT READS IS OF BULK AT MOST 1048576: true; the input reads as it did. -/
def fnBoundForUptoRow : OpenClaim := { program := "ytmdlgeimcdpgaaa", sum := "69888a97f3a6053bb7c6045174063b0585b351a0f6244230e58614337994831e", func := "loop.example/metricstore/laws.FnBoundFor", spec := "fnBoundFor", apart := false, narrowed := true }
def FnBoundForUptoSaid : Prop := fnBoundForUptoRow.holds Try.pinned (OpenSpec.upto fnBoundForSpec)

/-- 'laws.FnExactMovingSums', WHERE WHAT IT READS IS OF BULK AT MOST 1048576: true; the input reads as it did. -/
def fnExactMovingSumsUptoRow : OpenClaim := { program := "ytmdlgeimcdpgaaa", sum := "69888a97f3a6053bb7c6045174063b0585b351a0f6244230e58614337994831e", func := "loop.example/metricstore/laws.FnExactMovingSums", spec := "fnExactMovingSums", apart := false, narrowed := true }
def FnExactMovingSumsUptoSaid : Prop := fnExactMovingSumsUptoRow.holds Try.pinned (OpenSpec.upto fnExactMovingSumsSpec)

end Rows
end Go.Proofs.Ytmdlgeimcdpgaaa
