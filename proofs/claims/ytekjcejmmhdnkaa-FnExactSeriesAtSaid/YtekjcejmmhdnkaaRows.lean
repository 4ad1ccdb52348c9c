/-
  No cell of these rows narrows 'for every input' (looked for: loops, veiled, ifaces, maps, wideKeys, modest, calm, conditions, laid).
  DERIVED. THE GIVEN ROWS OF THIS SEAT. 12 by the template 'for every input the law returns true; each argument reads behind the call as it read before'; 0 by the template 'total and deterministic' (their statements: YtekjcejmmhdnkaaTotals.lean).
  GIVEN WITH THE SEED: the statements are not yours to turn. If you find one false, say at which input.
  Laid BY PROGRAM, IN A SANDBOX (cutbox-rows.mjs): the forced cells as the released guide's own fill.sh prints them over the translation 0df1faf761d220fa… (all of the seat's roots in one cut). By AI agents, Wed Nov 11 2026. No macro, syntax, notation, axiom, sorry.
-/
import Derived.Test.YtekjcejmmhdnkaaChecked
import GoSem.Claim
import GoSem.ClaimJoined
import GoSem.ClaimMapViews
import Derived.JoinedTies
import Derived.KernelRfl
namespace Go.Proofs.Ytekjcejmmhdnkaa
/- THE CELL 'sum', in the pinned program and in every row, IS THE sha256 OF THE DUMP (.gsa) THAT YtekjcejmmhdnkaaProg.lean LOADS. Nothing in Lean hashes anything: it is a label: what it is worth is what the hold of that sum in a sandbox is worth. -/
noncomputable def Try.pinned : Pinned := { name := "ytekjcejmmhdnkaa", sum := "0df1faf761d220fab3ce503e88f3d336abfca0037f7712edea5ec5f13d7cb0ee", checked := Try.checked }
namespace Rows
def none {H : Type} : Left H := { results := [], args := [] }

/-- 'laws.FnExactMergeSeries': WHATEVER THE INPUT: true; the input reads as it did. -/
def fnExactMergeSeriesSpec : ChangeSpec := { name := "fnExactMergeSeries", fn := fun _ => fun
  | [d1, d2] => { results := [.lit (.bool true)], args := [d1, d2] }
  | _ => none }
def fnExactMergeSeriesRow : OpenClaim := { program := "ytekjcejmmhdnkaa", sum := "0df1faf761d220fab3ce503e88f3d336abfca0037f7712edea5ec5f13d7cb0ee", func := "loop.example/metricstore/laws.FnExactMergeSeries", spec := "fnExactMergeSeries", apart := false }
def FnExactMergeSeriesSaid : Prop := fnExactMergeSeriesRow.holds Try.pinned (OpenSpec.ofChange fnExactMergeSeriesSpec)

/-- ITS FALSE NEIGHBOUR: 'it returns false'. Refute it at one input. -/
def fnExactMergeSeriesWrong : ChangeSpec := { name := "fnExactMergeSeries", fn := fun _ => fun
  | [d1, d2] => { results := [.lit (.bool false)], args := [d1, d2] }
  | _ => none }
def FnExactMergeSeriesWrongFalsely : Prop := fnExactMergeSeriesRow.holds Try.pinned (OpenSpec.ofChange fnExactMergeSeriesWrong)

/-- 'laws.FnMergeSeriesSame': WHATEVER THE INPUT: true; the input reads as it did. -/
def fnMergeSeriesSameSpec : ChangeSpec := { name := "fnMergeSeriesSame", fn := fun _ => fun
  | [d] => { results := [.lit (.bool true)], args := [d] }
  | _ => none }
def fnMergeSeriesSameRow : OpenClaim := { program := "ytekjcejmmhdnkaa", sum := "0df1faf761d220fab3ce503e88f3d336abfca0037f7712edea5ec5f13d7cb0ee", func := "loop.example/metricstore/laws.FnMergeSeriesSame", spec := "fnMergeSeriesSame", apart := false }
def FnMergeSeriesSameSaid : Prop := fnMergeSeriesSameRow.holds Try.pinned (OpenSpec.ofChange fnMergeSeriesSameSpec)

/-- ITS FALSE NEIGHBOUR: 'it returns false'. Refute it at one input. -/
def fnMergeSeriesSameWrong : ChangeSpec := { name := "fnMergeSeriesSame", fn := fun _ => fun
  | [d] => { results := [.lit (.bool false)], args := [d] }
  | _ => none }
def FnMergeSeriesSameWrongFalsely : Prop := fnMergeSeriesSameRow.holds Try.pinned (OpenSpec.ofChange fnMergeSeriesSameWrong)

/-- 'laws.FnMergeSeriesRange': WHATEVER THE INPUT: true; the input reads as it did. -/
def fnMergeSeriesRangeSpec : ChangeSpec := { name := "fnMergeSeriesRange", fn := fun _ => fun
  | [d] => { results := [.lit (.bool true)], args := [d] }
  | _ => none }
def fnMergeSeriesRangeRow : OpenClaim := { program := "ytekjcejmmhdnkaa", sum := "0df1faf761d220fab3ce503e88f3d336abfca0037f7712edea5ec5f13d7cb0ee", func := "loop.example/metricstore/laws.FnMergeSeriesRange", spec := "fnMergeSeriesRange", unfollowed := true, recurses := true, apart := false }
def FnMergeSeriesRangeSaid : Prop := fnMergeSeriesRangeRow.holds Try.pinned (OpenSpec.ofChange fnMergeSeriesRangeSpec)

/-- ITS FALSE NEIGHBOUR: 'it returns false'. Refute it at one input. -/
def fnMergeSeriesRangeWrong : ChangeSpec := { name := "fnMergeSeriesRange", fn := fun _ => fun
  | [d] => { results := [.lit (.bool false)], args := [d] }
  | _ => none }
def FnMergeSeriesRangeWrongFalsely : Prop := fnMergeSeriesRangeRow.holds Try.pinned (OpenSpec.ofChange fnMergeSeriesRangeWrong)

/-- 'laws.FnMergeSeries': WHATEVER THE INPUT: true; the input reads as it did. -/
def fnMergeSeriesSpec : ChangeSpec := { name := "fnMergeSeries", fn := fun _ => fun
  | [d] => { results := [.lit (.bool true)], args := [d] }
  | _ => none }
def fnMergeSeriesRow : OpenClaim := { program := "ytekjcejmmhdnkaa", sum := "0df1faf761d220fab3ce503e88f3d336abfca0037f7712edea5ec5f13d7cb0ee", func := "loop.example/metricstore/laws.FnMergeSeries", spec := "fnMergeSeries", unfollowed := true, recurses := true, apart := false }
def FnMergeSeriesSaid : Prop := fnMergeSeriesRow.holds Try.pinned (OpenSpec.ofChange fnMergeSeriesSpec)

/-- ITS FALSE NEIGHBOUR: 'it returns false'. Refute it at one input. -/
def fnMergeSeriesWrong : ChangeSpec := { name := "fnMergeSeries", fn := fun _ => fun
  | [d] => { results := [.lit (.bool false)], args := [d] }
  | _ => none }
def FnMergeSeriesWrongFalsely : Prop := fnMergeSeriesRow.holds Try.pinned (OpenSpec.ofChange fnMergeSeriesWrong)

/-- 'laws.FnExactPutPoint': WHATEVER THE INPUT: true; the input reads as it did. -/
def fnExactPutPointSpec : ChangeSpec := { name := "fnExactPutPoint", fn := fun _ => fun
  | [d1, d2] => { results := [.lit (.bool true)], args := [d1, d2] }
  | _ => none }
def fnExactPutPointRow : OpenClaim := { program := "ytekjcejmmhdnkaa", sum := "0df1faf761d220fab3ce503e88f3d336abfca0037f7712edea5ec5f13d7cb0ee", func := "loop.example/metricstore/laws.FnExactPutPoint", spec := "fnExactPutPoint", unfollowed := true, recurses := true, apart := false }
def FnExactPutPointSaid : Prop := fnExactPutPointRow.holds Try.pinned (OpenSpec.ofChange fnExactPutPointSpec)

/-- ITS FALSE NEIGHBOUR: 'it returns false'. Refute it at one input. -/
def fnExactPutPointWrong : ChangeSpec := { name := "fnExactPutPoint", fn := fun _ => fun
  | [d1, d2] => { results := [.lit (.bool false)], args := [d1, d2] }
  | _ => none }
def FnExactPutPointWrongFalsely : Prop := fnExactPutPointRow.holds Try.pinned (OpenSpec.ofChange fnExactPutPointWrong)

/-- 'laws.FnPutPointOrder': WHATEVER THE INPUT: true; the input reads as it did. -/
def fnPutPointOrderSpec : ChangeSpec := { name := "fnPutPointOrder", fn := fun _ => fun
  | [d] => { results := [.lit (.bool true)], args := [d] }
  | _ => none }
def fnPutPointOrderRow : OpenClaim := { program := "ytekjcejmmhdnkaa", sum := "0df1faf761d220fab3ce503e88f3d336abfca0037f7712edea5ec5f13d7cb0ee", func := "loop.example/metricstore/laws.FnPutPointOrder", spec := "fnPutPointOrder", unfollowed := true, recurses := true, apart := false }
def FnPutPointOrderSaid : Prop := fnPutPointOrderRow.holds Try.pinned (OpenSpec.ofChange fnPutPointOrderSpec)

/-- ITS FALSE NEIGHBOUR: 'it returns false'. Refute it at one input. -/
def fnPutPointOrderWrong : ChangeSpec := { name := "fnPutPointOrder", fn := fun _ => fun
  | [d] => { results := [.lit (.bool false)], args := [d] }
  | _ => none }
def FnPutPointOrderWrongFalsely : Prop := fnPutPointOrderRow.holds Try.pinned (OpenSpec.ofChange fnPutPointOrderWrong)

/-- 'laws.FnPutPointTwice': WHATEVER THE INPUT: true; the input reads as it did. -/
def fnPutPointTwiceSpec : ChangeSpec := { name := "fnPutPointTwice", fn := fun _ => fun
  | [d] => { results := [.lit (.bool true)], args := [d] }
  | _ => none }
def fnPutPointTwiceRow : OpenClaim := { program := "ytekjcejmmhdnkaa", sum := "0df1faf761d220fab3ce503e88f3d336abfca0037f7712edea5ec5f13d7cb0ee", func := "loop.example/metricstore/laws.FnPutPointTwice", spec := "fnPutPointTwice", unfollowed := true, recurses := true, apart := false }
def FnPutPointTwiceSaid : Prop := fnPutPointTwiceRow.holds Try.pinned (OpenSpec.ofChange fnPutPointTwiceSpec)

/-- ITS FALSE NEIGHBOUR: 'it returns false'. Refute it at one input. -/
def fnPutPointTwiceWrong : ChangeSpec := { name := "fnPutPointTwice", fn := fun _ => fun
  | [d] => { results := [.lit (.bool false)], args := [d] }
  | _ => none }
def FnPutPointTwiceWrongFalsely : Prop := fnPutPointTwiceRow.holds Try.pinned (OpenSpec.ofChange fnPutPointTwiceWrong)

/-- 'laws.FnPutPoint': WHATEVER THE INPUT: true; the input reads as it did. -/
def fnPutPointSpec : ChangeSpec := { name := "fnPutPoint", fn := fun _ => fun
  | [d] => { results := [.lit (.bool true)], args := [d] }
  | _ => none }
def fnPutPointRow : OpenClaim := { program := "ytekjcejmmhdnkaa", sum := "0df1faf761d220fab3ce503e88f3d336abfca0037f7712edea5ec5f13d7cb0ee", func := "loop.example/metricstore/laws.FnPutPoint", spec := "fnPutPoint", unfollowed := true, recurses := true, apart := false }
def FnPutPointSaid : Prop := fnPutPointRow.holds Try.pinned (OpenSpec.ofChange fnPutPointSpec)

/-- ITS FALSE NEIGHBOUR: 'it returns false'. Refute it at one input. -/
def fnPutPointWrong : ChangeSpec := { name := "fnPutPoint", fn := fun _ => fun
  | [d] => { results := [.lit (.bool false)], args := [d] }
  | _ => none }
def FnPutPointWrongFalsely : Prop := fnPutPointRow.holds Try.pinned (OpenSpec.ofChange fnPutPointWrong)

/-- 'laws.FnResetsNone': WHATEVER THE INPUT: true; the input reads as it did. -/
def fnResetsNoneSpec : ChangeSpec := { name := "fnResetsNone", fn := fun _ => fun
  | [d] => { results := [.lit (.bool true)], args := [d] }
  | _ => none }
def fnResetsNoneRow : OpenClaim := { program := "ytekjcejmmhdnkaa", sum := "0df1faf761d220fab3ce503e88f3d336abfca0037f7712edea5ec5f13d7cb0ee", func := "loop.example/metricstore/laws.FnResetsNone", spec := "fnResetsNone", unfollowed := true, recurses := true, apart := false }
def FnResetsNoneSaid : Prop := fnResetsNoneRow.holds Try.pinned (OpenSpec.ofChange fnResetsNoneSpec)

/-- ITS FALSE NEIGHBOUR: 'it returns false'. Refute it at one input. -/
def fnResetsNoneWrong : ChangeSpec := { name := "fnResetsNone", fn := fun _ => fun
  | [d] => { results := [.lit (.bool false)], args := [d] }
  | _ => none }
def FnResetsNoneWrongFalsely : Prop := fnResetsNoneRow.holds Try.pinned (OpenSpec.ofChange fnResetsNoneWrong)

/-- 'laws.FnSeriesAtEnd': WHATEVER THE INPUT: true; the input reads as it did. -/
def fnSeriesAtEndSpec : ChangeSpec := { name := "fnSeriesAtEnd", fn := fun _ => fun
  | [d] => { results := [.lit (.bool true)], args := [d] }
  | _ => none }
def fnSeriesAtEndRow : OpenClaim := { program := "ytekjcejmmhdnkaa", sum := "0df1faf761d220fab3ce503e88f3d336abfca0037f7712edea5ec5f13d7cb0ee", func := "loop.example/metricstore/laws.FnSeriesAtEnd", spec := "fnSeriesAtEnd", unfollowed := true, recurses := true, apart := false }
def FnSeriesAtEndSaid : Prop := fnSeriesAtEndRow.holds Try.pinned (OpenSpec.ofChange fnSeriesAtEndSpec)

/-- ITS FALSE NEIGHBOUR: 'it returns false'. Refute it at one input. -/
def fnSeriesAtEndWrong : ChangeSpec := { name := "fnSeriesAtEnd", fn := fun _ => fun
  | [d] => { results := [.lit (.bool false)], args := [d] }
  | _ => none }
def FnSeriesAtEndWrongFalsely : Prop := fnSeriesAtEndRow.holds Try.pinned (OpenSpec.ofChange fnSeriesAtEndWrong)

/-- 'laws.FnSeriesAt': WHATEVER THE INPUT: true; the input reads as it did. -/
def fnSeriesAtSpec : ChangeSpec := { name := "fnSeriesAt", fn := fun _ => fun
  | [d] => { results := [.lit (.bool true)], args := [d] }
  | _ => none }
def fnSeriesAtRow : OpenClaim := { program := "ytekjcejmmhdnkaa", sum := "0df1faf761d220fab3ce503e88f3d336abfca0037f7712edea5ec5f13d7cb0ee", func := "loop.example/metricstore/laws.FnSeriesAt", spec := "fnSeriesAt", unfollowed := true, recurses := true, apart := false }
def FnSeriesAtSaid : Prop := fnSeriesAtRow.holds Try.pinned (OpenSpec.ofChange fnSeriesAtSpec)

/-- ITS FALSE NEIGHBOUR: 'it returns false'. Refute it at one input. -/
def fnSeriesAtWrong : ChangeSpec := { name := "fnSeriesAt", fn := fun _ => fun
  | [d] => { results := [.lit (.bool false)], args := [d] }
  | _ => none }
def FnSeriesAtWrongFalsely : Prop := fnSeriesAtRow.holds Try.pinned (OpenSpec.ofChange fnSeriesAtWrong)

/-- 'laws.FnExactSeriesAt': WHATEVER THE INPUT: true; the input reads as it did. -/
def fnExactSeriesAtSpec : ChangeSpec := { name := "fnExactSeriesAt", fn := fun _ => fun
  | [d1, d2] => { results := [.lit (.bool true)], args := [d1, d2] }
  | _ => none }
def fnExactSeriesAtRow : OpenClaim := { program := "ytekjcejmmhdnkaa", sum := "0df1faf761d220fab3ce503e88f3d336abfca0037f7712edea5ec5f13d7cb0ee", func := "loop.example/metricstore/laws.FnExactSeriesAt", spec := "fnExactSeriesAt", unfollowed := true, recurses := true, apart := false }
def FnExactSeriesAtSaid : Prop := fnExactSeriesAtRow.holds Try.pinned (OpenSpec.ofChange fnExactSeriesAtSpec)

/-- ITS FALSE NEIGHBOUR: 'it returns false'. Refute it at one input. -/
def fnExactSeriesAtWrong : ChangeSpec := { name := "fnExactSeriesAt", fn := fun _ => fun
  | [d1, d2] => { results := [.lit (.bool false)], args := [d1, d2] }
  | _ => none }
def FnExactSeriesAtWrongFalsely : Prop := fnExactSeriesAtRow.holds Try.pinned (OpenSpec.ofChange fnExactSeriesAtWrong)

/- THE SECOND FORM. 'bulk': how many values and letters a reading holds, each counted each time it is reached (what is shared counts as often as it is met; a slice's spare places count too). A statement '..UptoSaid' is the law's where the arguments, and the package variables that the reading takes, are together of bulk at most 1048576: NARROWER than '..Said'. Prove '..Said' where nothing that the law and all that it calls make is longer than what came in: it says more and counts as full. Else prove '..UptoSaid'. A law counts once. -/
mutual
def uptoBulk {H : Type} : DataW H → Nat
  | .lit (.string bytes) => bytes.length + 1
  | .lit _ => 1
  | .nil => 1
  | .ptr d => uptoBulk d + 1
  | .slice elems spare => uptoBulkAll elems + uptoBulkAll spare + 1
  | .agg parts => uptoBulkAll parts + 1
  | .iface _ d => uptoBulk d + 1
  | .map entries => uptoBulkEntries entries + 1
  | .held _ => 1
def uptoBulkAll {H : Type} : List (DataW H) → Nat
  | [] => 0
  | d :: r => uptoBulk d + uptoBulkAll r
def uptoBulkEntries {H : Type} : List (Lit × DataW H) → Nat
  | [] => 0
  | x :: r => uptoBulkEntry x + uptoBulkEntries r
def uptoBulkEntry {H : Type} : Lit × DataW H → Nat
  | (.string bytes, d) => bytes.length + uptoBulk d + 1
  | (_, d) => uptoBulk d + 1
 end
def uptoSmall : (H : Type) → List (DataW H) → Bool := fun _ ds => decide (uptoBulkAll ds ≤ 1048576)
def OpenSpec.upto (s : _root_.Go.ChangeSpec) : _root_.Go.OpenSpec := { _root_.Go.OpenSpec.ofChange s with cond := some uptoSmall }

/-- 'laws.FnExactMergeSeries', WHERE WHAT IT READS IS OF BULK AT MOST 1048576: true; the input reads as it did. -/
def fnExactMergeSeriesUptoRow : OpenClaim := { program := "ytekjcejmmhdnkaa", sum := "0df1faf761d220fab3ce503e88f3d336abfca0037f7712edea5ec5f13d7cb0ee", func := "loop.example/metricstore/laws.FnExactMergeSeries", spec := "fnExactMergeSeries", apart := false, narrowed := true }
def FnExactMergeSeriesUptoSaid : Prop := fnExactMergeSeriesUptoRow.holds Try.pinned (OpenSpec.upto fnExactMergeSeriesSpec)

/-- 'laws.FnMergeSeriesSame', WHERE WHAT IT READS IS OF BULK AT MOST 1048576: true; the input reads as it did. -/
def fnMergeSeriesSameUptoRow : OpenClaim := { program := "ytekjcejmmhdnkaa", sum := "0df1faf761d220fab3ce503e88f3d336abfca0037f7712edea5ec5f13d7cb0ee", func := "loop.example/metricstore/laws.FnMergeSeriesSame", spec := "fnMergeSeriesSame", apart := false, narrowed := true }
def FnMergeSeriesSameUptoSaid : Prop := fnMergeSeriesSameUptoRow.holds Try.pinned (OpenSpec.upto fnMergeSeriesSameSpec)

/-- 'laws.FnMergeSeriesRange', WHERE WHAT IT READS IS OF BULK AT MOST 1048576: true; the input reads as it did. -/
def fnMergeSeriesRangeUptoRow : OpenClaim := { program := "ytekjcejmmhdnkaa", sum := "0df1faf761d220fab3ce503e88f3d336abfca0037f7712edea5ec5f13d7cb0ee", func := "loop.example/metricstore/laws.FnMergeSeriesRange", spec := "fnMergeSeriesRange", unfollowed := true, recurses := true, apart := false, narrowed := true }
def FnMergeSeriesRangeUptoSaid : Prop := fnMergeSeriesRangeUptoRow.holds Try.pinned (OpenSpec.upto fnMergeSeriesRangeSpec)

/-- 'laws.FnMergeSeries', WHERE WHAT IT READS IS OF BULK AT MOST 1048576: true; the input reads as it did. -/
def fnMergeSeriesUptoRow : OpenClaim := { program := "ytekjcejmmhdnkaa", sum := "0df1faf761d220fab3ce503e88f3d336abfca0037f7712edea5ec5f13d7cb0ee", func := "loop.example/metricstore/laws.FnMergeSeries", spec := "fnMergeSeries", unfollowed := true, recurses := true, apart := false, narrowed := true }
def FnMergeSeriesUptoSaid : Prop := fnMergeSeriesUptoRow.holds Try.pinned (OpenSpec.upto fnMergeSeriesSpec)

/-- 'laws.FnExactPutPoint', WHERE WHAT IT READS IS OF BULK AT MOST 1048576: true; the input reads as it did. -/
def fnExactPutPointUptoRow : OpenClaim := { program := "ytekjcejmmhdnkaa", sum := "0df1faf761d220fab3ce503e88f3d336abfca0037f7712edea5ec5f13d7cb0ee", func := "loop.example/metricstore/laws.FnExactPutPoint", spec := "fnExactPutPoint", unfollowed := true, recurses := true, apart := false, narrowed := true }
def FnExactPutPointUptoSaid : Prop := fnExactPutPointUptoRow.holds Try.pinned (OpenSpec.upto fnExactPutPointSpec)

/-- 'laws.FnPutPointOrder', WHERE WHAT IT READS IS OF BULK AT MOST 1048576: true; the input reads as it did. -/
def fnPutPointOrderUptoRow : OpenClaim := { program := "ytekjcejmmhdnkaa", sum := "0df1faf761d220fab3ce503e88f3d336abfca0037f7712edea5ec5f13d7cb0ee", func := "loop.example/metricstore/laws.FnPutPointOrder", spec := "fnPutPointOrder", unfollowed := true, recurses := true, apart := false, narrowed := true }
def FnPutPointOrderUptoSaid : Prop := fnPutPointOrderUptoRow.holds Try.pinned (OpenSpec.upto fnPutPointOrderSpec)

/-- 'laws.FnPutPointTwice', WHERE WHAT IT READS IS OF BULK AT MOST 1048576: true; the input reads as it did. -/
def fnPutPointTwiceUptoRow : OpenClaim := { program := "ytekjcejmmhdnkaa", sum := "0df1faf761d220fab3ce503e88f3d336abfca0037f7712edea5ec5f13d7cb0ee", func := "loop.example/metricstore/laws.FnPutPointTwice", spec := "fnPutPointTwice", unfollowed := true, recurses := true, apart := false, narrowed := true }
def FnPutPointTwiceUptoSaid : Prop := fnPutPointTwiceUptoRow.holds Try.pinned (OpenSpec.upto fnPutPointTwiceSpec)

/-- 'laws.FnPutPoint', WHERE WHAT IT READS IS OF BULK AT MOST 1048576: true; the input reads as it did. -/
def fnPutPointUptoRow : OpenClaim := { program := "ytekjcejmmhdnkaa", sum := "0df1faf761d220fab3ce503e88f3d336abfca0037f7712edea5ec5f13d7cb0ee", func := "loop.example/metricstore/laws.FnPutPoint", spec := "fnPutPoint", unfollowed := true, recurses := true, apart := false, narrowed := true }
def FnPutPointUptoSaid : Prop := fnPutPointUptoRow.holds Try.pinned (OpenSpec.upto fnPutPointSpec)

/-- 'laws.FnResetsNone', WHERE WHAT IT READS IS OF BULK AT MOST 1048576: true; the input reads as it did. -/
def fnResetsNoneUptoRow : OpenClaim := { program := "ytekjcejmmhdnkaa", sum := "0df1faf761d220fab3ce503e88f3d336abfca0037f7712edea5ec5f13d7cb0ee", func := "loop.example/metricstore/laws.FnResetsNone", spec := "fnResetsNone", unfollowed := true, recurses := true, apart := false, narrowed := true }
def FnResetsNoneUptoSaid : Prop := fnResetsNoneUptoRow.holds Try.pinned (OpenSpec.upto fnResetsNoneSpec)

/-- 'laws.FnSeriesAtEnd', WHERE WHAT IT READS IS OF BULK AT MOST 1048576: true; the input reads as it did. -/
def fnSeriesAtEndUptoRow : OpenClaim := { program := "ytekjcejmmhdnkaa", sum := "0df1faf761d220fab3ce503e88f3d336abfca0037f7712edea5ec5f13d7cb0ee", func := "loop.example/metricstore/laws.FnSeriesAtEnd", spec := "fnSeriesAtEnd", unfollowed := true, recurses := true, apart := false, narrowed := true }
def FnSeriesAtEndUptoSaid : Prop := fnSeriesAtEndUptoRow.holds Try.pinned (OpenSpec.upto fnSeriesAtEndSpec)

/-- 'laws.FnSeriesAt', WHERE WHAT IT READS IS OF BULK AT MOST 1048576: true; the input reads as it did. -/
def fnSeriesAtUptoRow : OpenClaim := { program := "ytekjcejmmhdnkaa", sum := "0df1faf761d220fab3ce503e88f3d336abfca0037f7712edea5ec5f13d7cb0ee", func := "loop.example/metricstore/laws.FnSeriesAt", spec := "fnSeriesAt", unfollowed := true, recurses := true, apart := false, narrowed := true }
def FnSeriesAtUptoSaid : Prop := fnSeriesAtUptoRow.holds Try.pinned (OpenSpec.upto fnSeriesAtSpec)

/-- 'laws.FnExactSeriesAt', WHERE WHAT IT READS IS OF BULK AT MOST 1048576: true; the input reads as it did. -/
def fnExactSeriesAtUptoRow : OpenClaim := { program := "ytekjcejmmhdnkaa", sum := "0df1faf761d220fab3ce503e88f3d336abfca0037f7712edea5ec5f13d7cb0ee", func := "loop.example/metricstore/laws.FnExactSeriesAt", spec := "fnExactSeriesAt", unfollowed := true, recurses := true, apart := false, narrowed := true }
def FnExactSeriesAtUptoSaid : Prop := fnExactSeriesAtUptoRow.holds Try.pinned (OpenSpec.upto fnExactSeriesAtSpec)

end Rows
end Go.Proofs.Ytekjcejmmhdnkaa
