/-
  No cell of these rows narrows 'for every input' (looked for: loops, veiled, ifaces, maps, wideKeys, modest, calm, conditions, laid).
  DERIVED. THE GIVEN ROWS OF THIS SEAT. 11 by the template 'for every input the law returns true; each argument reads behind the call as it read before'; 0 by the template 'total and deterministic' (their statements: YtgakfhilconceaaTotals.lean).
  GIVEN WITH THE SEED: the statements are not yours to turn. If you find one false, say at which input.
  Laid BY PROGRAM, IN A SANDBOX (cutbox-rows.mjs): the forced cells as the released guide's own fill.sh prints them over the translation d8660e9d8654b782… (all of the seat's roots in one cut). By AI agents, Wed Nov 11 2026. No macro, syntax, notation, axiom, sorry.
-/
import Derived.Test.YtgakfhilconceaaChecked
import GoSem.Claim
import GoSem.ClaimJoined
import GoSem.ClaimMapViews
import Derived.JoinedTies
import Derived.KernelRfl
namespace Go.Proofs.Ytgakfhilconceaa
/- THE CELL 'sum', in the pinned program and in every row, IS THE sha256 OF THE DUMP (.gsa) THAT YtgakfhilconceaaProg.lean LOADS. Nothing in Lean hashes anything: it is a label: what it is worth is what the hold of that sum in a sandbox is worth. -/
noncomputable def Try.pinned : Pinned := { name := "ytgakfhilconceaa", sum := "d8660e9d8654b782ce1d97572bf691678c02b093014d3c7c659841067beee0d4", checked := Try.checked }
namespace Rows
def none {H : Type} : Left H := { results := [], args := [] }

/-- 'laws.FnSmoothValues': WHATEVER THE INPUT: true; the input reads as it did. -/
def fnSmoothValuesSpec : ChangeSpec := { name := "fnSmoothValues", fn := fun _ => fun
  | [d] => { results := [.lit (.bool true)], args := [d] }
  | _ => none }
def fnSmoothValuesRow : OpenClaim := { program := "ytgakfhilconceaa", sum := "d8660e9d8654b782ce1d97572bf691678c02b093014d3c7c659841067beee0d4", func := "loop.example/metricstore/laws.FnSmoothValues", spec := "fnSmoothValues", apart := false }
def FnSmoothValuesSaid : Prop := fnSmoothValuesRow.holds Try.pinned (OpenSpec.ofChange fnSmoothValuesSpec)

/-- ITS FALSE NEIGHBOUR: 'it returns false'. Refute it at one input. -/
def fnSmoothValuesWrong : ChangeSpec := { name := "fnSmoothValues", fn := fun _ => fun
  | [d] => { results := [.lit (.bool false)], args := [d] }
  | _ => none }
def FnSmoothValuesWrongFalsely : Prop := fnSmoothValuesRow.holds Try.pinned (OpenSpec.ofChange fnSmoothValuesWrong)

/-- 'laws.FnSmoothValuesBetween': WHATEVER THE INPUT: true; the input reads as it did. -/
def fnSmoothValuesBetweenSpec : ChangeSpec := { name := "fnSmoothValuesBetween", fn := fun _ => fun
  | [d] => { results := [.lit (.bool true)], args := [d] }
  | _ => none }
def fnSmoothValuesBetweenRow : OpenClaim := { program := "ytgakfhilconceaa", sum := "d8660e9d8654b782ce1d97572bf691678c02b093014d3c7c659841067beee0d4", func := "loop.example/metricstore/laws.FnSmoothValuesBetween", spec := "fnSmoothValuesBetween", apart := false }
def FnSmoothValuesBetweenSaid : Prop := fnSmoothValuesBetweenRow.holds Try.pinned (OpenSpec.ofChange fnSmoothValuesBetweenSpec)

/-- ITS FALSE NEIGHBOUR: 'it returns false'. Refute it at one input. -/
def fnSmoothValuesBetweenWrong : ChangeSpec := { name := "fnSmoothValuesBetween", fn := fun _ => fun
  | [d] => { results := [.lit (.bool false)], args := [d] }
  | _ => none }
def FnSmoothValuesBetweenWrongFalsely : Prop := fnSmoothValuesBetweenRow.holds Try.pinned (OpenSpec.ofChange fnSmoothValuesBetweenWrong)

/-- 'laws.FnSmoothValuesEqual': WHATEVER THE INPUT: true; the input reads as it did. -/
def fnSmoothValuesEqualSpec : ChangeSpec := { name := "fnSmoothValuesEqual", fn := fun _ => fun
  | [d] => { results := [.lit (.bool true)], args := [d] }
  | _ => none }
def fnSmoothValuesEqualRow : OpenClaim := { program := "ytgakfhilconceaa", sum := "d8660e9d8654b782ce1d97572bf691678c02b093014d3c7c659841067beee0d4", func := "loop.example/metricstore/laws.FnSmoothValuesEqual", spec := "fnSmoothValuesEqual", apart := false }
def FnSmoothValuesEqualSaid : Prop := fnSmoothValuesEqualRow.holds Try.pinned (OpenSpec.ofChange fnSmoothValuesEqualSpec)

/-- ITS FALSE NEIGHBOUR: 'it returns false'. Refute it at one input. -/
def fnSmoothValuesEqualWrong : ChangeSpec := { name := "fnSmoothValuesEqual", fn := fun _ => fun
  | [d] => { results := [.lit (.bool false)], args := [d] }
  | _ => none }
def FnSmoothValuesEqualWrongFalsely : Prop := fnSmoothValuesEqualRow.holds Try.pinned (OpenSpec.ofChange fnSmoothValuesEqualWrong)

/-- 'laws.FnExactMovingMost': WHATEVER THE INPUT: true; the input reads as it did. -/
def fnExactMovingMostSpec : ChangeSpec := { name := "fnExactMovingMost", fn := fun _ => fun
  | [d1, d2] => { results := [.lit (.bool true)], args := [d1, d2] }
  | _ => none }
def fnExactMovingMostRow : OpenClaim := { program := "ytgakfhilconceaa", sum := "d8660e9d8654b782ce1d97572bf691678c02b093014d3c7c659841067beee0d4", func := "loop.example/metricstore/laws.FnExactMovingMost", spec := "fnExactMovingMost", apart := false }
def FnExactMovingMostSaid : Prop := fnExactMovingMostRow.holds Try.pinned (OpenSpec.ofChange fnExactMovingMostSpec)

/-- ITS FALSE NEIGHBOUR: 'it returns false'. Refute it at one input. -/
def fnExactMovingMostWrong : ChangeSpec := { name := "fnExactMovingMost", fn := fun _ => fun
  | [d1, d2] => { results := [.lit (.bool false)], args := [d1, d2] }
  | _ => none }
def FnExactMovingMostWrongFalsely : Prop := fnExactMovingMostRow.holds Try.pinned (OpenSpec.ofChange fnExactMovingMostWrong)

/-- 'laws.FnExactSmoothValues': WHATEVER THE INPUT: true; the input reads as it did. -/
def fnExactSmoothValuesSpec : ChangeSpec := { name := "fnExactSmoothValues", fn := fun _ => fun
  | [d1, d2] => { results := [.lit (.bool true)], args := [d1, d2] }
  | _ => none }
def fnExactSmoothValuesRow : OpenClaim := { program := "ytgakfhilconceaa", sum := "d8660e9d8654b782ce1d97572bf691678c02b093014d3c7c659841067beee0d4", func := "loop.example/metricstore/laws.FnExactSmoothValues", spec := "fnExactSmoothValues", apart := false }
def FnExactSmoothValuesSaid : Prop := fnExactSmoothValuesRow.holds Try.pinned (OpenSpec.ofChange fnExactSmoothValuesSpec)

/-- ITS FALSE NEIGHBOUR: 'it returns false'. Refute it at one input. -/
def fnExactSmoothValuesWrong : ChangeSpec := { name := "fnExactSmoothValues", fn := fun _ => fun
  | [d1, d2] => { results := [.lit (.bool false)], args := [d1, d2] }
  | _ => none }
def FnExactSmoothValuesWrongFalsely : Prop := fnExactSmoothValuesRow.holds Try.pinned (OpenSpec.ofChange fnExactSmoothValuesWrong)

/-- 'laws.FnExactCountsUnder': WHATEVER THE INPUT: true; the input reads as it did. -/
def fnExactCountsUnderSpec : ChangeSpec := { name := "fnExactCountsUnder", fn := fun _ => fun
  | [d1, d2] => { results := [.lit (.bool true)], args := [d1, d2] }
  | _ => none }
def fnExactCountsUnderRow : OpenClaim := { program := "ytgakfhilconceaa", sum := "d8660e9d8654b782ce1d97572bf691678c02b093014d3c7c659841067beee0d4", func := "loop.example/metricstore/laws.FnExactCountsUnder", spec := "fnExactCountsUnder", apart := false }
def FnExactCountsUnderSaid : Prop := fnExactCountsUnderRow.holds Try.pinned (OpenSpec.ofChange fnExactCountsUnderSpec)

/-- ITS FALSE NEIGHBOUR: 'it returns false'. Refute it at one input. -/
def fnExactCountsUnderWrong : ChangeSpec := { name := "fnExactCountsUnder", fn := fun _ => fun
  | [d1, d2] => { results := [.lit (.bool false)], args := [d1, d2] }
  | _ => none }
def FnExactCountsUnderWrongFalsely : Prop := fnExactCountsUnderRow.holds Try.pinned (OpenSpec.ofChange fnExactCountsUnderWrong)

/-- 'laws.FnCountsUnder': WHATEVER THE INPUT: true; the input reads as it did. -/
def fnCountsUnderSpec : ChangeSpec := { name := "fnCountsUnder", fn := fun _ => fun
  | [d] => { results := [.lit (.bool true)], args := [d] }
  | _ => none }
def fnCountsUnderRow : OpenClaim := { program := "ytgakfhilconceaa", sum := "d8660e9d8654b782ce1d97572bf691678c02b093014d3c7c659841067beee0d4", func := "loop.example/metricstore/laws.FnCountsUnder", spec := "fnCountsUnder", apart := false }
def FnCountsUnderSaid : Prop := fnCountsUnderRow.holds Try.pinned (OpenSpec.ofChange fnCountsUnderSpec)

/-- ITS FALSE NEIGHBOUR: 'it returns false'. Refute it at one input. -/
def fnCountsUnderWrong : ChangeSpec := { name := "fnCountsUnder", fn := fun _ => fun
  | [d] => { results := [.lit (.bool false)], args := [d] }
  | _ => none }
def FnCountsUnderWrongFalsely : Prop := fnCountsUnderRow.holds Try.pinned (OpenSpec.ofChange fnCountsUnderWrong)

/-- 'laws.FnCountsUnderParts': WHATEVER THE INPUT: true; the input reads as it did. -/
def fnCountsUnderPartsSpec : ChangeSpec := { name := "fnCountsUnderParts", fn := fun _ => fun
  | [d] => { results := [.lit (.bool true)], args := [d] }
  | _ => none }
def fnCountsUnderPartsRow : OpenClaim := { program := "ytgakfhilconceaa", sum := "d8660e9d8654b782ce1d97572bf691678c02b093014d3c7c659841067beee0d4", func := "loop.example/metricstore/laws.FnCountsUnderParts", spec := "fnCountsUnderParts", apart := false }
def FnCountsUnderPartsSaid : Prop := fnCountsUnderPartsRow.holds Try.pinned (OpenSpec.ofChange fnCountsUnderPartsSpec)

/-- ITS FALSE NEIGHBOUR: 'it returns false'. Refute it at one input. -/
def fnCountsUnderPartsWrong : ChangeSpec := { name := "fnCountsUnderParts", fn := fun _ => fun
  | [d] => { results := [.lit (.bool false)], args := [d] }
  | _ => none }
def FnCountsUnderPartsWrongFalsely : Prop := fnCountsUnderPartsRow.holds Try.pinned (OpenSpec.ofChange fnCountsUnderPartsWrong)

/-- 'laws.FnBoundForQuantile': WHATEVER THE INPUT: true; the input reads as it did. -/
def fnBoundForQuantileSpec : ChangeSpec := { name := "fnBoundForQuantile", fn := fun _ => fun
  | [d] => { results := [.lit (.bool true)], args := [d] }
  | _ => none }
def fnBoundForQuantileRow : OpenClaim := { program := "ytgakfhilconceaa", sum := "d8660e9d8654b782ce1d97572bf691678c02b093014d3c7c659841067beee0d4", func := "loop.example/metricstore/laws.FnBoundForQuantile", spec := "fnBoundForQuantile", apart := false }
def FnBoundForQuantileSaid : Prop := fnBoundForQuantileRow.holds Try.pinned (OpenSpec.ofChange fnBoundForQuantileSpec)

/-- ITS FALSE NEIGHBOUR: 'it returns false'. Refute it at one input. -/
def fnBoundForQuantileWrong : ChangeSpec := { name := "fnBoundForQuantile", fn := fun _ => fun
  | [d] => { results := [.lit (.bool false)], args := [d] }
  | _ => none }
def FnBoundForQuantileWrongFalsely : Prop := fnBoundForQuantileRow.holds Try.pinned (OpenSpec.ofChange fnBoundForQuantileWrong)

/-- 'laws.FnMovingMostAll': WHATEVER THE INPUT: true; the input reads as it did. -/
def fnMovingMostAllSpec : ChangeSpec := { name := "fnMovingMostAll", fn := fun _ => fun
  | [d] => { results := [.lit (.bool true)], args := [d] }
  | _ => none }
def fnMovingMostAllRow : OpenClaim := { program := "ytgakfhilconceaa", sum := "d8660e9d8654b782ce1d97572bf691678c02b093014d3c7c659841067beee0d4", func := "loop.example/metricstore/laws.FnMovingMostAll", spec := "fnMovingMostAll", unfollowed := true, recurses := true, apart := false }
def FnMovingMostAllSaid : Prop := fnMovingMostAllRow.holds Try.pinned (OpenSpec.ofChange fnMovingMostAllSpec)

/-- ITS FALSE NEIGHBOUR: 'it returns false'. Refute it at one input. -/
def fnMovingMostAllWrong : ChangeSpec := { name := "fnMovingMostAll", fn := fun _ => fun
  | [d] => { results := [.lit (.bool false)], args := [d] }
  | _ => none }
def FnMovingMostAllWrongFalsely : Prop := fnMovingMostAllRow.holds Try.pinned (OpenSpec.ofChange fnMovingMostAllWrong)

/-- 'laws.FnCountsUnderMost': WHATEVER THE INPUT: true; the input reads as it did. -/
def fnCountsUnderMostSpec : ChangeSpec := { name := "fnCountsUnderMost", fn := fun _ => fun
  | [d] => { results := [.lit (.bool true)], args := [d] }
  | _ => none }
def fnCountsUnderMostRow : OpenClaim := { program := "ytgakfhilconceaa", sum := "d8660e9d8654b782ce1d97572bf691678c02b093014d3c7c659841067beee0d4", func := "loop.example/metricstore/laws.FnCountsUnderMost", spec := "fnCountsUnderMost", unfollowed := true, recurses := true, apart := false }
def FnCountsUnderMostSaid : Prop := fnCountsUnderMostRow.holds Try.pinned (OpenSpec.ofChange fnCountsUnderMostSpec)

/-- ITS FALSE NEIGHBOUR: 'it returns false'. Refute it at one input. -/
def fnCountsUnderMostWrong : ChangeSpec := { name := "fnCountsUnderMost", fn := fun _ => fun
  | [d] => { results := [.lit (.bool false)], args := [d] }
  | _ => none }
def FnCountsUnderMostWrongFalsely : Prop := fnCountsUnderMostRow.holds Try.pinned (OpenSpec.ofChange fnCountsUnderMostWrong)

/- THE SECOND FORM. 'bulk': how many values and letters a reading holds, each counted each time it is reached (what is shared counts as often as it is met; a slice's spare places count too). A statement '..UptoSaid' is the law's where the arguments, and the package variables that the reading takes, are together of bulk at most 1048576: NARROWER than '..Said'. Prove '..Said' where nothing that the law and all that it calls make is longer than what came in: it says more and counts as full. Else prove '..UptoSaid'. A law counts once. -/
mutual
def uptoBulk {H : Type} : DataW H → Nat
  | .lit (.string bytes) => bytes.length + 1
  | .lit _ => 1
  | .nil => 1
  | .ptr d => uptoBulk d + 1
  | .slice elems spare => uptoBulkAll elems + uptoBulkAll spare + 1
  | .agg parts => uptoBulkAll parts + 1
  | .iface _ d => uptoBulk d + 1
  | .map entries => uptoBulkEntries entries + 1
  | .held _ => 1
def uptoBulkAll {H : Type} : List (DataW H) → Nat
  | [] => 0
  | d :: r => uptoBulk d + uptoBulkAll r
def uptoBulkEntries {H : Type} : List (Lit × DataW H) → Nat
  | [] => 0
  | x :: r => uptoBulkEntry x + uptoBulkEntries r
def uptoBulkEntry {H : Type} : Lit × DataW H → Nat
  | (.string bytes, d) => bytes.length + uptoBulk d + 1
  | (_, d) => uptoBulk d + 1
 end
def uptoSmall : (H : Type) → List (DataW H) → Bool := fun _ ds => decide (uptoBulkAll ds ≤ 1048576)
def OpenSpec.upto (s : _root_.Go.ChangeSpec) : _root_.Go.OpenSpec := { _root_.Go.OpenSpec.ofChange s with cond := some uptoSmall }

/-- 'laws.FnSmoothValues', WHERE WHAT IT READS IS OF BULK AT MOST 1048576: true; the input reads as it did. -/
def fnSmoothValuesUptoRow : OpenClaim := { program := "ytgakfhilconceaa", sum := "d8660e9d8654b782ce1d97572bf691678c02b093014d3c7c659841067beee0d4", func := "loop.example/metricstore/laws.FnSmoothValues", spec := "fnSmoothValues", apart := false, narrowed := true }
def FnSmoothValuesUptoSaid : Prop := fnSmoothValuesUptoRow.holds Try.pinned (OpenSpec.upto fnSmoothValuesSpec)

/-- 'laws.FnSmoothValuesBetween', WHERE WHAT IT READS IS OF BULK AT MOST 1048576: true; the input reads as it did. -/
def fnSmoothValuesBetweenUptoRow : OpenClaim := { program := "ytgakfhilconceaa", sum := "d8660e9d8654b782ce1d97572bf691678c02b093014d3c7c659841067beee0d4", func := "loop.example/metricstore/laws.FnSmoothValuesBetween", spec := "fnSmoothValuesBetween", apart := false, narrowed := true }
def FnSmoothValuesBetweenUptoSaid : Prop := fnSmoothValuesBetweenUptoRow.holds Try.pinned (OpenSpec.upto fnSmoothValuesBetweenSpec)

/-- 'laws.FnSmoothValuesEqual', WHERE WHAT IT READS IS OF BULK AT MOST 1048576: true; the input reads as it did. -/
def fnSmoothValuesEqualUptoRow : OpenClaim := { program := "ytgakfhilconceaa", sum := "d8660e9d8654b782ce1d97572bf691678c02b093014d3c7c659841067beee0d4", func := "loop.example/metricstore/laws.FnSmoothValuesEqual", spec := "fnSmoothValuesEqual", apart := false, narrowed := true }
def FnSmoothValuesEqualUptoSaid : Prop := fnSmoothValuesEqualUptoRow.holds Try.pinned (OpenSpec.upto fnSmoothValuesEqualSpec)

/-- 'laws.FnExactMovingMost', WHERE WHAT IT READS IS OF BULK AT MOST 1048576: true; the input reads as it did. -/
def fnExactMovingMostUptoRow : OpenClaim := { program := "ytgakfhilconceaa", sum := "d8660e9d8654b782ce1d97572bf691678c02b093014d3c7c659841067beee0d4", func := "loop.example/metricstore/laws.FnExactMovingMost", spec := "fnExactMovingMost", apart := false, narrowed := true }
def FnExactMovingMostUptoSaid : Prop := fnExactMovingMostUptoRow.holds Try.pinned (OpenSpec.upto fnExactMovingMostSpec)

/-- 'laws.FnExactSmoothValues', WHERE WHAT IT READS IS OF BULK AT MOST 1048576: true; the input reads as it did. -/
def fnExactSmoothValuesUptoRow : OpenClaim := { program := "ytgakfhilconceaa", sum := "d8660e9d8654b782ce1d97572bf691678c02b093014d3c7c659841067beee0d4", func := "loop.example/metricstore/laws.FnExactSmoothValues", spec := "fnExactSmoothValues", apart := false, narrowed := true }
def FnExactSmoothValuesUptoSaid : Prop := fnExactSmoothValuesUptoRow.holds Try.pinned (OpenSpec.upto fnExactSmoothValuesSpec)

/-- 'laws.FnExactCountsUnder', WHERE WHAT IT READS IS OF BULK AT MOST 1048576: true; the input reads as it did. -/
def fnExactCountsUnderUptoRow : OpenClaim := { program := "ytgakfhilconceaa", sum := "d8660e9d8654b782ce1d97572bf691678c02b093014d3c7c659841067beee0d4", func := "loop.example/metricstore/laws.FnExactCountsUnder", spec := "fnExactCountsUnder", apart := false, narrowed := true }
def FnExactCountsUnderUptoSaid : Prop := fnExactCountsUnderUptoRow.holds Try.pinned (OpenSpec.upto fnExactCountsUnderSpec)

/-- 'laws.FnCountsUnder', WHERE WHAT IT READS IS OF BULK AT MOST 1048576: true; the input reads as it did. -/
def fnCountsUnderUptoRow : OpenClaim := { program := "ytgakfhilconceaa", sum := "d8660e9d8654b782ce1d97572bf691678c02b093014d3c7c659841067beee0d4", func := "loop.example/metricstore/laws.FnCountsUnder", spec := "fnCountsUnder", apart := false, narrowed := true }
def FnCountsUnderUptoSaid : Prop := fnCountsUnderUptoRow.holds Try.pinned (OpenSpec.upto fnCountsUnderSpec)

/-- 'laws.FnCountsUnderParts', WHERE WHAT IT READS IS OF BULK AT MOST 1048576: true; the input reads as it did. -/
def fnCountsUnderPartsUptoRow : OpenClaim := { program := "ytgakfhilconceaa", sum := "d8660e9d8654b782ce1d97572bf691678c02b093014d3c7c659841067beee0d4", func := "loop.example/metricstore/laws.FnCountsUnderParts", spec := "fnCountsUnderParts", apart := false, narrowed := true }
def FnCountsUnderPartsUptoSaid : Prop := fnCountsUnderPartsUptoRow.holds Try.pinned (OpenSpec.upto fnCountsUnderPartsSpec)

/-- 'laws.FnBoundForQuantile', WHERE WHAT IT READS IS OF BULK AT MOST 1048576: true; the input reads as it did. -/
def fnBoundForQuantileUptoRow : OpenClaim := { program := "ytgakfhilconceaa", sum := "d8660e9d8654b782ce1d97572bf691678c02b093014d3c7c659841067beee0d4", func := "loop.example/metricstore/laws.FnBoundForQuantile", spec := "fnBoundForQuantile", apart := false, narrowed := true }
def FnBoundForQuantileUptoSaid : Prop := fnBoundForQuantileUptoRow.holds Try.pinned (OpenSpec.upto fnBoundForQuantileSpec)

/-- 'laws.FnMovingMostAll', WHERE WHAT IT READS IS OF BULK AT MOST 1048576: true; the input reads as it did. -/
def fnMovingMostAllUptoRow : OpenClaim := { program := "ytgakfhilconceaa", sum := "d8660e9d8654b782ce1d97572bf691678c02b093014d3c7c659841067beee0d4", func := "loop.example/metricstore/laws.FnMovingMostAll", spec := "fnMovingMostAll", unfollowed := true, recurses := true, apart := false, narrowed := true }
def FnMovingMostAllUptoSaid : Prop := fnMovingMostAllUptoRow.holds Try.pinned (OpenSpec.upto fnMovingMostAllSpec)

/-- 'laws.FnCountsUnderMost', WHERE WHAT IT READS IS OF BULK AT MOST 1048576: true; the input reads as it did. -/
def fnCountsUnderMostUptoRow : OpenClaim := { program := "ytgakfhilconceaa", sum := "d8660e9d8654b782ce1d97572bf691678c02b093014d3c7c659841067beee0d4", func := "loop.example/metricstore/laws.FnCountsUnderMost", spec := "fnCountsUnderMost", unfollowed := true, recurses := true, apart := false, narrowed := true }
def FnCountsUnderMostUptoSaid : Prop := fnCountsUnderMostUptoRow.holds Try.pinned (OpenSpec.upto fnCountsUnderMostSpec)

end Rows
end Go.Proofs.Ytgakfhilconceaa
