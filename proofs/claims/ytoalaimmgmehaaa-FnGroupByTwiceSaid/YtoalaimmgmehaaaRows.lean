/-
  No cell of these rows narrows 'for every input' (looked for: loops, veiled, ifaces, maps, wideKeys, modest, calm, conditions, laid).
  DERIVED. THE GIVEN ROWS OF THIS SEAT. 10 by the template 'for every input the law returns true; each argument reads behind the call as it read before'; 0 by the template 'total and deterministic' (their statements: YtoalaimmgmehaaaTotals.lean).
  GIVEN WITH THE SEED: the statements are not yours to turn. If you find one false, say at which input.
  Laid BY PROGRAM, IN A SANDBOX (cutbox-rows.mjs): the forced cells as the released guide's own fill.sh prints them over the translation d5446309f79f389d… (all of the seat's roots in one cut). By AI agents, Wed Nov 11 2026. No macro, syntax, notation, axiom, sorry.
-/
import Derived.Test.YtoalaimmgmehaaaChecked
import GoSem.Claim
import GoSem.ClaimJoined
import GoSem.ClaimMapViews
import Derived.JoinedTies
import Derived.KernelRfl
namespace Go.Proofs.Ytoalaimmgmehaaa
/- THE CELL 'sum', in the pinned program and in every row, IS THE sha256 OF THE DUMP (.gsa) THAT YtoalaimmgmehaaaProg.lean LOADS. Nothing in Lean hashes anything: it is a label: what it is worth is what the hold of that sum in a sandbox is worth. -/
noncomputable def Try.pinned : Pinned := { name := "ytoalaimmgmehaaa", sum := "d5446309f79f389d297c19fa5c73262844ae1507a43014d9ed87ba86f66d7557", checked := Try.checked }
namespace Rows
def none {H : Type} : Left H := { results := [], args := [] }

/-- 'laws.FnLabelsText': WHATEVER THE INPUT: true; the input reads as it did. -/
def fnLabelsTextSpec : ChangeSpec := { name := "fnLabelsText", fn := fun _ => fun
  | [d] => { results := [.lit (.bool true)], args := [d] }
  | _ => none }
def fnLabelsTextRow : OpenClaim := { program := "ytoalaimmgmehaaa", sum := "d5446309f79f389d297c19fa5c73262844ae1507a43014d9ed87ba86f66d7557", func := "loop.example/metricstore/laws.FnLabelsText", spec := "fnLabelsText", inPlace := ["internal/abi.NoEscape", "internal/bytealg.MakeNoZero"], apart := false }
def FnLabelsTextSaid : Prop := fnLabelsTextRow.holds Try.pinned (OpenSpec.ofChange fnLabelsTextSpec)

/-- ITS FALSE NEIGHBOUR: 'it returns false'. Refute it at one input. -/
def fnLabelsTextWrong : ChangeSpec := { name := "fnLabelsText", fn := fun _ => fun
  | [d] => { results := [.lit (.bool false)], args := [d] }
  | _ => none }
def FnLabelsTextWrongFalsely : Prop := fnLabelsTextRow.holds Try.pinned (OpenSpec.ofChange fnLabelsTextWrong)

/-- 'laws.FnExactFormatLabels': WHATEVER THE INPUT: true; the input reads as it did. -/
def fnExactFormatLabelsSpec : ChangeSpec := { name := "fnExactFormatLabels", fn := fun _ => fun
  | [d] => { results := [.lit (.bool true)], args := [d] }
  | _ => none }
def fnExactFormatLabelsRow : OpenClaim := { program := "ytoalaimmgmehaaa", sum := "d5446309f79f389d297c19fa5c73262844ae1507a43014d9ed87ba86f66d7557", func := "loop.example/metricstore/laws.FnExactFormatLabels", spec := "fnExactFormatLabels", inPlace := ["internal/abi.NoEscape", "internal/bytealg.MakeNoZero"], apart := false }
def FnExactFormatLabelsSaid : Prop := fnExactFormatLabelsRow.holds Try.pinned (OpenSpec.ofChange fnExactFormatLabelsSpec)

/-- ITS FALSE NEIGHBOUR: 'it returns false'. Refute it at one input. -/
def fnExactFormatLabelsWrong : ChangeSpec := { name := "fnExactFormatLabels", fn := fun _ => fun
  | [d] => { results := [.lit (.bool false)], args := [d] }
  | _ => none }
def FnExactFormatLabelsWrongFalsely : Prop := fnExactFormatLabelsRow.holds Try.pinned (OpenSpec.ofChange fnExactFormatLabelsWrong)

/-- 'laws.FnExactParseLabels': WHATEVER THE INPUT: true; the input reads as it did. -/
def fnExactParseLabelsSpec : ChangeSpec := { name := "fnExactParseLabels", fn := fun _ => fun
  | [d] => { results := [.lit (.bool true)], args := [d] }
  | _ => none }
def fnExactParseLabelsRow : OpenClaim := { program := "ytoalaimmgmehaaa", sum := "d5446309f79f389d297c19fa5c73262844ae1507a43014d9ed87ba86f66d7557", func := "loop.example/metricstore/laws.FnExactParseLabels", spec := "fnExactParseLabels", inPlace := ["internal/bytealg.IndexByteString", "internal/bytealg.IndexString"], named := ["internal/bytealg.MaxLen"], apart := false }
def FnExactParseLabelsSaid : Prop := fnExactParseLabelsRow.holds Try.pinned (OpenSpec.ofChange fnExactParseLabelsSpec)

/-- ITS FALSE NEIGHBOUR: 'it returns false'. Refute it at one input. -/
def fnExactParseLabelsWrong : ChangeSpec := { name := "fnExactParseLabels", fn := fun _ => fun
  | [d] => { results := [.lit (.bool false)], args := [d] }
  | _ => none }
def FnExactParseLabelsWrongFalsely : Prop := fnExactParseLabelsRow.holds Try.pinned (OpenSpec.ofChange fnExactParseLabelsWrong)

/-- 'laws.FnLabelsRoundTrip': WHATEVER THE INPUT: true; the input reads as it did. -/
def fnLabelsRoundTripSpec : ChangeSpec := { name := "fnLabelsRoundTrip", fn := fun _ => fun
  | [d] => { results := [.lit (.bool true)], args := [d] }
  | _ => none }
def fnLabelsRoundTripRow : OpenClaim := { program := "ytoalaimmgmehaaa", sum := "d5446309f79f389d297c19fa5c73262844ae1507a43014d9ed87ba86f66d7557", func := "loop.example/metricstore/laws.FnLabelsRoundTrip", spec := "fnLabelsRoundTrip", inPlace := ["internal/abi.NoEscape", "internal/bytealg.MakeNoZero", "internal/bytealg.IndexByteString", "internal/bytealg.IndexString"], named := ["internal/bytealg.MaxLen"], apart := false }
def FnLabelsRoundTripSaid : Prop := fnLabelsRoundTripRow.holds Try.pinned (OpenSpec.ofChange fnLabelsRoundTripSpec)

/-- ITS FALSE NEIGHBOUR: 'it returns false'. Refute it at one input. -/
def fnLabelsRoundTripWrong : ChangeSpec := { name := "fnLabelsRoundTrip", fn := fun _ => fun
  | [d] => { results := [.lit (.bool false)], args := [d] }
  | _ => none }
def FnLabelsRoundTripWrongFalsely : Prop := fnLabelsRoundTripRow.holds Try.pinned (OpenSpec.ofChange fnLabelsRoundTripWrong)

/-- 'laws.FnLabelsCanonical': WHATEVER THE INPUT: true; the input reads as it did. -/
def fnLabelsCanonicalSpec : ChangeSpec := { name := "fnLabelsCanonical", fn := fun _ => fun
  | [d] => { results := [.lit (.bool true)], args := [d] }
  | _ => none }
def fnLabelsCanonicalRow : OpenClaim := { program := "ytoalaimmgmehaaa", sum := "d5446309f79f389d297c19fa5c73262844ae1507a43014d9ed87ba86f66d7557", func := "loop.example/metricstore/laws.FnLabelsCanonical", spec := "fnLabelsCanonical", inPlace := ["internal/bytealg.IndexByteString", "internal/bytealg.IndexString", "internal/abi.NoEscape", "internal/bytealg.MakeNoZero"], named := ["internal/bytealg.MaxLen"], apart := false }
def FnLabelsCanonicalSaid : Prop := fnLabelsCanonicalRow.holds Try.pinned (OpenSpec.ofChange fnLabelsCanonicalSpec)

/-- ITS FALSE NEIGHBOUR: 'it returns false'. Refute it at one input. -/
def fnLabelsCanonicalWrong : ChangeSpec := { name := "fnLabelsCanonical", fn := fun _ => fun
  | [d] => { results := [.lit (.bool false)], args := [d] }
  | _ => none }
def FnLabelsCanonicalWrongFalsely : Prop := fnLabelsCanonicalRow.holds Try.pinned (OpenSpec.ofChange fnLabelsCanonicalWrong)

/-- 'laws.FnGroupBy': WHATEVER THE INPUT: true; the input reads as it did. -/
def fnGroupBySpec : ChangeSpec := { name := "fnGroupBy", fn := fun _ => fun
  | [d] => { results := [.lit (.bool true)], args := [d] }
  | _ => none }
def fnGroupByRow : OpenClaim := { program := "ytoalaimmgmehaaa", sum := "d5446309f79f389d297c19fa5c73262844ae1507a43014d9ed87ba86f66d7557", func := "loop.example/metricstore/laws.FnGroupBy", spec := "fnGroupBy", inPlace := ["internal/abi.NoEscape", "internal/bytealg.MakeNoZero"], unfollowed := true, recurses := true, apart := false }
def FnGroupBySaid : Prop := fnGroupByRow.holds Try.pinned (OpenSpec.ofChange fnGroupBySpec)

/-- ITS FALSE NEIGHBOUR: 'it returns false'. Refute it at one input. -/
def fnGroupByWrong : ChangeSpec := { name := "fnGroupBy", fn := fun _ => fun
  | [d] => { results := [.lit (.bool false)], args := [d] }
  | _ => none }
def FnGroupByWrongFalsely : Prop := fnGroupByRow.holds Try.pinned (OpenSpec.ofChange fnGroupByWrong)

/-- 'laws.FnGroupByBounds': WHATEVER THE INPUT: true; the input reads as it did. -/
def fnGroupByBoundsSpec : ChangeSpec := { name := "fnGroupByBounds", fn := fun _ => fun
  | [d] => { results := [.lit (.bool true)], args := [d] }
  | _ => none }
def fnGroupByBoundsRow : OpenClaim := { program := "ytoalaimmgmehaaa", sum := "d5446309f79f389d297c19fa5c73262844ae1507a43014d9ed87ba86f66d7557", func := "loop.example/metricstore/laws.FnGroupByBounds", spec := "fnGroupByBounds", inPlace := ["internal/abi.NoEscape", "internal/bytealg.MakeNoZero"], unfollowed := true, recurses := true, apart := false }
def FnGroupByBoundsSaid : Prop := fnGroupByBoundsRow.holds Try.pinned (OpenSpec.ofChange fnGroupByBoundsSpec)

/-- ITS FALSE NEIGHBOUR: 'it returns false'. Refute it at one input. -/
def fnGroupByBoundsWrong : ChangeSpec := { name := "fnGroupByBounds", fn := fun _ => fun
  | [d] => { results := [.lit (.bool false)], args := [d] }
  | _ => none }
def FnGroupByBoundsWrongFalsely : Prop := fnGroupByBoundsRow.holds Try.pinned (OpenSpec.ofChange fnGroupByBoundsWrong)

/-- 'laws.FnGroupByNone': WHATEVER THE INPUT: true; the input reads as it did. -/
def fnGroupByNoneSpec : ChangeSpec := { name := "fnGroupByNone", fn := fun _ => fun
  | [d] => { results := [.lit (.bool true)], args := [d] }
  | _ => none }
def fnGroupByNoneRow : OpenClaim := { program := "ytoalaimmgmehaaa", sum := "d5446309f79f389d297c19fa5c73262844ae1507a43014d9ed87ba86f66d7557", func := "loop.example/metricstore/laws.FnGroupByNone", spec := "fnGroupByNone", inPlace := ["internal/abi.NoEscape", "internal/bytealg.MakeNoZero"], unfollowed := true, recurses := true, apart := false }
def FnGroupByNoneSaid : Prop := fnGroupByNoneRow.holds Try.pinned (OpenSpec.ofChange fnGroupByNoneSpec)

/-- ITS FALSE NEIGHBOUR: 'it returns false'. Refute it at one input. -/
def fnGroupByNoneWrong : ChangeSpec := { name := "fnGroupByNone", fn := fun _ => fun
  | [d] => { results := [.lit (.bool false)], args := [d] }
  | _ => none }
def FnGroupByNoneWrongFalsely : Prop := fnGroupByNoneRow.holds Try.pinned (OpenSpec.ofChange fnGroupByNoneWrong)

/-- 'laws.FnGroupByTwice': WHATEVER THE INPUT: true; the input reads as it did. -/
def fnGroupByTwiceSpec : ChangeSpec := { name := "fnGroupByTwice", fn := fun _ => fun
  | [d] => { results := [.lit (.bool true)], args := [d] }
  | _ => none }
def fnGroupByTwiceRow : OpenClaim := { program := "ytoalaimmgmehaaa", sum := "d5446309f79f389d297c19fa5c73262844ae1507a43014d9ed87ba86f66d7557", func := "loop.example/metricstore/laws.FnGroupByTwice", spec := "fnGroupByTwice", inPlace := ["internal/abi.NoEscape", "internal/bytealg.MakeNoZero"], unfollowed := true, recurses := true, apart := false }
def FnGroupByTwiceSaid : Prop := fnGroupByTwiceRow.holds Try.pinned (OpenSpec.ofChange fnGroupByTwiceSpec)

/-- ITS FALSE NEIGHBOUR: 'it returns false'. Refute it at one input. -/
def fnGroupByTwiceWrong : ChangeSpec := { name := "fnGroupByTwice", fn := fun _ => fun
  | [d] => { results := [.lit (.bool false)], args := [d] }
  | _ => none }
def FnGroupByTwiceWrongFalsely : Prop := fnGroupByTwiceRow.holds Try.pinned (OpenSpec.ofChange fnGroupByTwiceWrong)

/-- 'laws.FnExactGroupBy': WHATEVER THE INPUT: true; the input reads as it did. -/
def fnExactGroupBySpec : ChangeSpec := { name := "fnExactGroupBy", fn := fun _ => fun
  | [d1, d2, d3] => { results := [.lit (.bool true)], args := [d1, d2, d3] }
  | _ => none }
def fnExactGroupByRow : OpenClaim := { program := "ytoalaimmgmehaaa", sum := "d5446309f79f389d297c19fa5c73262844ae1507a43014d9ed87ba86f66d7557", func := "loop.example/metricstore/laws.FnExactGroupBy", spec := "fnExactGroupBy", inPlace := ["internal/abi.NoEscape", "internal/bytealg.MakeNoZero"], unfollowed := true, recurses := true, apart := false }
def FnExactGroupBySaid : Prop := fnExactGroupByRow.holds Try.pinned (OpenSpec.ofChange fnExactGroupBySpec)

/-- ITS FALSE NEIGHBOUR: 'it returns false'. Refute it at one input. -/
def fnExactGroupByWrong : ChangeSpec := { name := "fnExactGroupBy", fn := fun _ => fun
  | [d1, d2, d3] => { results := [.lit (.bool false)], args := [d1, d2, d3] }
  | _ => none }
def FnExactGroupByWrongFalsely : Prop := fnExactGroupByRow.holds Try.pinned (OpenSpec.ofChange fnExactGroupByWrong)

/- THE SECOND FORM. 'bulk': how many values and letters a reading holds, each counted each time it is reached (what is shared counts as often as it is met; a slice's spare places count too). A statement '..UptoSaid' is the law's where the arguments, and the package variables that the reading takes, are together of bulk at most 1048576: NARROWER than '..Said'. Prove '..Said' where nothing that the law and all that it calls make is longer than what came in: it says more and counts as full. Else prove '..UptoSaid'. A law counts once. -/
mutual
def uptoBulk {H : Type} : DataW H → Nat
  | .lit (.string bytes) => bytes.length + 1
  | .lit _ => 1
  | .nil => 1
  | .ptr d => uptoBulk d + 1
  | .slice elems spare => uptoBulkAll elems + uptoBulkAll spare + 1
  | .agg parts => uptoBulkAll parts + 1
  | .iface _ d => uptoBulk d + 1
  | .map entries => uptoBulkEntries entries + 1
  | .held _ => 1
def uptoBulkAll {H : Type} : List (DataW H) → Nat
  | [] => 0
  | d :: r => uptoBulk d + uptoBulkAll r
def uptoBulkEntries {H : Type} : List (Lit × DataW H) → Nat
  | [] => 0
  | x :: r => uptoBulkEntry x + uptoBulkEntries r
def uptoBulkEntry {H : Type} : Lit × DataW H → Nat
  | (.string bytes, d) => bytes.length + uptoBulk d + 1
  | (_, d) => uptoBulk d + 1
 end
def uptoSmall : (H : Type) → List (DataW H) → Bool := fun _ ds => decide (uptoBulkAll ds ≤ 1048576)
def OpenSpec.upto (s : _root_.Go.ChangeSpec) : _root_.Go.OpenSpec := { _root_.Go.OpenSpec.ofChange s with cond := some uptoSmall }

/-- 'laws.FnLabelsText', WHERE WHAT IT READS IS OF BULK AT MOST 1048576: true; the input reads as it did. -/
def fnLabelsTextUptoRow : OpenClaim := { program := "ytoalaimmgmehaaa", sum := "d5446309f79f389d297c19fa5c73262844ae1507a43014d9ed87ba86f66d7557", func := "loop.example/metricstore/laws.FnLabelsText", spec := "fnLabelsText", inPlace := ["internal/abi.NoEscape", "internal/bytealg.MakeNoZero"], apart := false, narrowed := true }
def FnLabelsTextUptoSaid : Prop := fnLabelsTextUptoRow.holds Try.pinned (OpenSpec.upto fnLabelsTextSpec)

/-- 'laws.FnExactFormatLabels', WHERE WHAT IT READS IS OF BULK AT MOST 1048576: true; the input reads as it did. -/
def fnExactFormatLabelsUptoRow : OpenClaim := { program := "ytoalaimmgmehaaa", sum := "d5446309f79f389d297c19fa5c73262844ae1507a43014d9ed87ba86f66d7557", func := "loop.example/metricstore/laws.FnExactFormatLabels", spec := "fnExactFormatLabels", inPlace := ["internal/abi.NoEscape", "internal/bytealg.MakeNoZero"], apart := false, narrowed := true }
def FnExactFormatLabelsUptoSaid : Prop := fnExactFormatLabelsUptoRow.holds Try.pinned (OpenSpec.upto fnExactFormatLabelsSpec)

/-- 'laws.FnExactParseLabels', WHERE WHAT IT READS IS OF BULK AT MOST 1048576: true; the input reads as it did. -/
def fnExactParseLabelsUptoRow : OpenClaim := { program := "ytoalaimmgmehaaa", sum := "d5446309f79f389d297c19fa5c73262844ae1507a43014d9ed87ba86f66d7557", func := "loop.example/metricstore/laws.FnExactParseLabels", spec := "fnExactParseLabels", inPlace := ["internal/bytealg.IndexByteString", "internal/bytealg.IndexString"], named := ["internal/bytealg.MaxLen"], apart := false, narrowed := true }
def FnExactParseLabelsUptoSaid : Prop := fnExactParseLabelsUptoRow.holds Try.pinned (OpenSpec.upto fnExactParseLabelsSpec)

/-- 'laws.FnLabelsRoundTrip', WHERE WHAT IT READS IS OF BULK AT MOST 1048576: true; the input reads as it did. -/
def fnLabelsRoundTripUptoRow : OpenClaim := { program := "ytoalaimmgmehaaa", sum := "d5446309f79f389d297c19fa5c73262844ae1507a43014d9ed87ba86f66d7557", func := "loop.example/metricstore/laws.FnLabelsRoundTrip", spec := "fnLabelsRoundTrip", inPlace := ["internal/abi.NoEscape", "internal/bytealg.MakeNoZero", "internal/bytealg.IndexByteString", "internal/bytealg.IndexString"], named := ["internal/bytealg.MaxLen"], apart := false, narrowed := true }
def FnLabelsRoundTripUptoSaid : Prop := fnLabelsRoundTripUptoRow.holds Try.pinned (OpenSpec.upto fnLabelsRoundTripSpec)

/-- 'laws.FnLabelsCanonical', WHERE WHAT IT READS IS OF BULK AT MOST 1048576: true; the input reads as it did. -/
def fnLabelsCanonicalUptoRow : OpenClaim := { program := "ytoalaimmgmehaaa", sum := "d5446309f79f389d297c19fa5c73262844ae1507a43014d9ed87ba86f66d7557", func := "loop.example/metricstore/laws.FnLabelsCanonical", spec := "fnLabelsCanonical", inPlace := ["internal/bytealg.IndexByteString", "internal/bytealg.IndexString", "internal/abi.NoEscape", "internal/bytealg.MakeNoZero"], named := ["internal/bytealg.MaxLen"], apart := false, narrowed := true }
def FnLabelsCanonicalUptoSaid : Prop := fnLabelsCanonicalUptoRow.holds Try.pinned (OpenSpec.upto fnLabelsCanonicalSpec)

/-- 'laws.FnGroupBy', WHERE WHAT IT READS IS OF BULK AT MOST 1048576: true; the input reads as it did. -/
def fnGroupByUptoRow : OpenClaim := { program := "ytoalaimmgmehaaa", sum := "d5446309f79f389d297c19fa5c73262844ae1507a43014d9ed87ba86f66d7557", func := "loop.example/metricstore/laws.FnGroupBy", spec := "fnGroupBy", inPlace := ["internal/abi.NoEscape", "internal/bytealg.MakeNoZero"], unfollowed := true, recurses := true, apart := false, narrowed := true }
def FnGroupByUptoSaid : Prop := fnGroupByUptoRow.holds Try.pinned (OpenSpec.upto fnGroupBySpec)

/-- 'laws.FnGroupByBounds', WHERE WHAT IT READS IS OF BULK AT MOST 1048576: true; the input reads as it did. -/
def fnGroupByBoundsUptoRow : OpenClaim := { program := "ytoalaimmgmehaaa", sum := "d5446309f79f389d297c19fa5c73262844ae1507a43014d9ed87ba86f66d7557", func := "loop.example/metricstore/laws.FnGroupByBounds", spec := "fnGroupByBounds", inPlace := ["internal/abi.NoEscape", "internal/bytealg.MakeNoZero"], unfollowed := true, recurses := true, apart := false, narrowed := true }
def FnGroupByBoundsUptoSaid : Prop := fnGroupByBoundsUptoRow.holds Try.pinned (OpenSpec.upto fnGroupByBoundsSpec)

/-- 'laws.FnGroupByNone', WHERE WHAT IT READS IS OF BULK AT MOST 1048576: true; the input reads as it did. -/
def fnGroupByNoneUptoRow : OpenClaim := { program := "ytoalaimmgmehaaa", sum := "d5446309f79f389d297c19fa5c73262844ae1507a43014d9ed87ba86f66d7557", func := "loop.example/metricstore/laws.FnGroupByNone", spec := "fnGroupByNone", inPlace := ["internal/abi.NoEscape", "internal/bytealg.MakeNoZero"], unfollowed := true, recurses := true, apart := false, narrowed := true }
def FnGroupByNoneUptoSaid : Prop := fnGroupByNoneUptoRow.holds Try.pinned (OpenSpec.upto fnGroupByNoneSpec)

/-- 'laws.FnGroupByTwice', WHERE WHAT IT READS IS OF BULK AT MOST 1048576: true; the input reads as it did. -/
def fnGroupByTwiceUptoRow : OpenClaim := { program := "ytoalaimmgmehaaa", sum := "d5446309f79f389d297c19fa5c73262844ae1507a43014d9ed87ba86f66d7557", func := "loop.example/metricstore/laws.FnGroupByTwice", spec := "fnGroupByTwice", inPlace := ["internal/abi.NoEscape", "internal/bytealg.MakeNoZero"], unfollowed := true, recurses := true, apart := false, narrowed := true }
def FnGroupByTwiceUptoSaid : Prop := fnGroupByTwiceUptoRow.holds Try.pinned (OpenSpec.upto fnGroupByTwiceSpec)

/-- 'laws.FnExactGroupBy', WHERE WHAT IT READS IS OF BULK AT MOST 1048576: true; the input reads as it did. -/
def fnExactGroupByUptoRow : OpenClaim := { program := "ytoalaimmgmehaaa", sum := "d5446309f79f389d297c19fa5c73262844ae1507a43014d9ed87ba86f66d7557", func := "loop.example/metricstore/laws.FnExactGroupBy", spec := "fnExactGroupBy", inPlace := ["internal/abi.NoEscape", "internal/bytealg.MakeNoZero"], unfollowed := true, recurses := true, apart := false, narrowed := true }
def FnExactGroupByUptoSaid : Prop := fnExactGroupByUptoRow.holds Try.pinned (OpenSpec.upto fnExactGroupBySpec)

end Rows
end Go.Proofs.Ytoalaimmgmehaaa
