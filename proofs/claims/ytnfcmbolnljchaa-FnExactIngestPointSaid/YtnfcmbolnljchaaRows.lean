/-
  No cell of these rows narrows 'for every input' (looked for: loops, veiled, ifaces, maps, wideKeys, modest, calm, conditions, laid).
  DERIVED. THE GIVEN ROWS OF THIS SEAT. 9 by the template 'for every input the law returns true; each argument reads behind the call as it read before'; 0 by the template 'total and deterministic' (their statements: YtnfcmbolnljchaaTotals.lean).
  GIVEN WITH THE SEED: the statements are not yours to turn. If you find one false, say at which input.
  Laid BY PROGRAM, IN A SANDBOX (cutbox-rows.mjs): the forced cells as the released guide's own fill.sh prints them over the translation 4fd41e98052ebfd0… (all of the seat's roots in one cut). By AI agents, Wed Nov 11 2026. No macro, syntax, notation, axiom, sorry.
-/
import Derived.Test.YtnfcmbolnljchaaChecked
import GoSem.Claim
import GoSem.ClaimJoined
import GoSem.ClaimMapViews
import Derived.JoinedTies
import Derived.KernelRfl
namespace Go.Proofs.Ytnfcmbolnljchaa
/- THE CELL 'sum', in the pinned program and in every row, IS THE sha256 OF THE DUMP (.gsa) THAT YtnfcmbolnljchaaProg.lean LOADS. Nothing in Lean hashes anything: it is a label: what it is worth is what the hold of that sum in a sandbox is worth. -/
noncomputable def Try.pinned : Pinned := { name := "ytnfcmbolnljchaa", sum := "4fd41e98052ebfd0d48a14723881c9701a3594cf1f4fd3b4a3172e22217ea9a4", checked := Try.checked }
namespace Rows
def none {H : Type} : Left H := { results := [], args := [] }

/-- 'laws.FnValidHead': WHATEVER THE INPUT: true; the input reads as it did. -/
def fnValidHeadSpec : ChangeSpec := { name := "fnValidHead", fn := fun _ => fun
  | [d] => { results := [.lit (.bool true)], args := [d] }
  | _ => none }
def fnValidHeadRow : OpenClaim := { program := "ytnfcmbolnljchaa", sum := "4fd41e98052ebfd0d48a14723881c9701a3594cf1f4fd3b4a3172e22217ea9a4", func := "loop.example/metricstore/laws.FnValidHead", spec := "fnValidHead", apart := false }
def FnValidHeadSaid : Prop := fnValidHeadRow.holds Try.pinned (OpenSpec.ofChange fnValidHeadSpec)

/-- ITS FALSE NEIGHBOUR: 'it returns false'. Refute it at one input. -/
def fnValidHeadWrong : ChangeSpec := { name := "fnValidHead", fn := fun _ => fun
  | [d] => { results := [.lit (.bool false)], args := [d] }
  | _ => none }
def FnValidHeadWrongFalsely : Prop := fnValidHeadRow.holds Try.pinned (OpenSpec.ofChange fnValidHeadWrong)

/-- 'laws.FnAllPoints': WHATEVER THE INPUT: true; the input reads as it did. -/
def fnAllPointsSpec : ChangeSpec := { name := "fnAllPoints", fn := fun _ => fun
  | [d] => { results := [.lit (.bool true)], args := [d] }
  | _ => none }
def fnAllPointsRow : OpenClaim := { program := "ytnfcmbolnljchaa", sum := "4fd41e98052ebfd0d48a14723881c9701a3594cf1f4fd3b4a3172e22217ea9a4", func := "loop.example/metricstore/laws.FnAllPoints", spec := "fnAllPoints", apart := false }
def FnAllPointsSaid : Prop := fnAllPointsRow.holds Try.pinned (OpenSpec.ofChange fnAllPointsSpec)

/-- ITS FALSE NEIGHBOUR: 'it returns false'. Refute it at one input. -/
def fnAllPointsWrong : ChangeSpec := { name := "fnAllPoints", fn := fun _ => fun
  | [d] => { results := [.lit (.bool false)], args := [d] }
  | _ => none }
def FnAllPointsWrongFalsely : Prop := fnAllPointsRow.holds Try.pinned (OpenSpec.ofChange fnAllPointsWrong)

/-- 'laws.FnCloseHead': WHATEVER THE INPUT: true; the input reads as it did. -/
def fnCloseHeadSpec : ChangeSpec := { name := "fnCloseHead", fn := fun _ => fun
  | [d] => { results := [.lit (.bool true)], args := [d] }
  | _ => none }
def fnCloseHeadRow : OpenClaim := { program := "ytnfcmbolnljchaa", sum := "4fd41e98052ebfd0d48a14723881c9701a3594cf1f4fd3b4a3172e22217ea9a4", func := "loop.example/metricstore/laws.FnCloseHead", spec := "fnCloseHead", apart := false }
def FnCloseHeadSaid : Prop := fnCloseHeadRow.holds Try.pinned (OpenSpec.ofChange fnCloseHeadSpec)

/-- ITS FALSE NEIGHBOUR: 'it returns false'. Refute it at one input. -/
def fnCloseHeadWrong : ChangeSpec := { name := "fnCloseHead", fn := fun _ => fun
  | [d] => { results := [.lit (.bool false)], args := [d] }
  | _ => none }
def FnCloseHeadWrongFalsely : Prop := fnCloseHeadRow.holds Try.pinned (OpenSpec.ofChange fnCloseHeadWrong)

/-- 'laws.FnIngestPointOrder': WHATEVER THE INPUT: true; the input reads as it did. -/
def fnIngestPointOrderSpec : ChangeSpec := { name := "fnIngestPointOrder", fn := fun _ => fun
  | [d] => { results := [.lit (.bool true)], args := [d] }
  | _ => none }
def fnIngestPointOrderRow : OpenClaim := { program := "ytnfcmbolnljchaa", sum := "4fd41e98052ebfd0d48a14723881c9701a3594cf1f4fd3b4a3172e22217ea9a4", func := "loop.example/metricstore/laws.FnIngestPointOrder", spec := "fnIngestPointOrder", unfollowed := true, recurses := true, apart := false }
def FnIngestPointOrderSaid : Prop := fnIngestPointOrderRow.holds Try.pinned (OpenSpec.ofChange fnIngestPointOrderSpec)

/-- ITS FALSE NEIGHBOUR: 'it returns false'. Refute it at one input. -/
def fnIngestPointOrderWrong : ChangeSpec := { name := "fnIngestPointOrder", fn := fun _ => fun
  | [d] => { results := [.lit (.bool false)], args := [d] }
  | _ => none }
def FnIngestPointOrderWrongFalsely : Prop := fnIngestPointOrderRow.holds Try.pinned (OpenSpec.ofChange fnIngestPointOrderWrong)

/-- 'laws.FnIngestPointTwice': WHATEVER THE INPUT: true; the input reads as it did. -/
def fnIngestPointTwiceSpec : ChangeSpec := { name := "fnIngestPointTwice", fn := fun _ => fun
  | [d] => { results := [.lit (.bool true)], args := [d] }
  | _ => none }
def fnIngestPointTwiceRow : OpenClaim := { program := "ytnfcmbolnljchaa", sum := "4fd41e98052ebfd0d48a14723881c9701a3594cf1f4fd3b4a3172e22217ea9a4", func := "loop.example/metricstore/laws.FnIngestPointTwice", spec := "fnIngestPointTwice", unfollowed := true, recurses := true, apart := false }
def FnIngestPointTwiceSaid : Prop := fnIngestPointTwiceRow.holds Try.pinned (OpenSpec.ofChange fnIngestPointTwiceSpec)

/-- ITS FALSE NEIGHBOUR: 'it returns false'. Refute it at one input. -/
def fnIngestPointTwiceWrong : ChangeSpec := { name := "fnIngestPointTwice", fn := fun _ => fun
  | [d] => { results := [.lit (.bool false)], args := [d] }
  | _ => none }
def FnIngestPointTwiceWrongFalsely : Prop := fnIngestPointTwiceRow.holds Try.pinned (OpenSpec.ofChange fnIngestPointTwiceWrong)

/-- 'laws.FnExactIngestPoint': WHATEVER THE INPUT: true; the input reads as it did. -/
def fnExactIngestPointSpec : ChangeSpec := { name := "fnExactIngestPoint", fn := fun _ => fun
  | [d1, d2] => { results := [.lit (.bool true)], args := [d1, d2] }
  | _ => none }
def fnExactIngestPointRow : OpenClaim := { program := "ytnfcmbolnljchaa", sum := "4fd41e98052ebfd0d48a14723881c9701a3594cf1f4fd3b4a3172e22217ea9a4", func := "loop.example/metricstore/laws.FnExactIngestPoint", spec := "fnExactIngestPoint", unfollowed := true, recurses := true, apart := false }
def FnExactIngestPointSaid : Prop := fnExactIngestPointRow.holds Try.pinned (OpenSpec.ofChange fnExactIngestPointSpec)

/-- ITS FALSE NEIGHBOUR: 'it returns false'. Refute it at one input. -/
def fnExactIngestPointWrong : ChangeSpec := { name := "fnExactIngestPoint", fn := fun _ => fun
  | [d1, d2] => { results := [.lit (.bool false)], args := [d1, d2] }
  | _ => none }
def FnExactIngestPointWrongFalsely : Prop := fnExactIngestPointRow.holds Try.pinned (OpenSpec.ofChange fnExactIngestPointWrong)

/-- 'laws.FnIngestPoint': WHATEVER THE INPUT: true; the input reads as it did. -/
def fnIngestPointSpec : ChangeSpec := { name := "fnIngestPoint", fn := fun _ => fun
  | [d] => { results := [.lit (.bool true)], args := [d] }
  | _ => none }
def fnIngestPointRow : OpenClaim := { program := "ytnfcmbolnljchaa", sum := "4fd41e98052ebfd0d48a14723881c9701a3594cf1f4fd3b4a3172e22217ea9a4", func := "loop.example/metricstore/laws.FnIngestPoint", spec := "fnIngestPoint", unfollowed := true, recurses := true, apart := false }
def FnIngestPointSaid : Prop := fnIngestPointRow.holds Try.pinned (OpenSpec.ofChange fnIngestPointSpec)

/-- ITS FALSE NEIGHBOUR: 'it returns false'. Refute it at one input. -/
def fnIngestPointWrong : ChangeSpec := { name := "fnIngestPoint", fn := fun _ => fun
  | [d] => { results := [.lit (.bool false)], args := [d] }
  | _ => none }
def FnIngestPointWrongFalsely : Prop := fnIngestPointRow.holds Try.pinned (OpenSpec.ofChange fnIngestPointWrong)

/-- 'laws.FnIngestPointOld': WHATEVER THE INPUT: true; the input reads as it did. -/
def fnIngestPointOldSpec : ChangeSpec := { name := "fnIngestPointOld", fn := fun _ => fun
  | [d] => { results := [.lit (.bool true)], args := [d] }
  | _ => none }
def fnIngestPointOldRow : OpenClaim := { program := "ytnfcmbolnljchaa", sum := "4fd41e98052ebfd0d48a14723881c9701a3594cf1f4fd3b4a3172e22217ea9a4", func := "loop.example/metricstore/laws.FnIngestPointOld", spec := "fnIngestPointOld", unfollowed := true, recurses := true, apart := false }
def FnIngestPointOldSaid : Prop := fnIngestPointOldRow.holds Try.pinned (OpenSpec.ofChange fnIngestPointOldSpec)

/-- ITS FALSE NEIGHBOUR: 'it returns false'. Refute it at one input. -/
def fnIngestPointOldWrong : ChangeSpec := { name := "fnIngestPointOld", fn := fun _ => fun
  | [d] => { results := [.lit (.bool false)], args := [d] }
  | _ => none }
def FnIngestPointOldWrongFalsely : Prop := fnIngestPointOldRow.holds Try.pinned (OpenSpec.ofChange fnIngestPointOldWrong)

/-- 'laws.FnCloseHeadIngest': WHATEVER THE INPUT: true; the input reads as it did. -/
def fnCloseHeadIngestSpec : ChangeSpec := { name := "fnCloseHeadIngest", fn := fun _ => fun
  | [d] => { results := [.lit (.bool true)], args := [d] }
  | _ => none }
def fnCloseHeadIngestRow : OpenClaim := { program := "ytnfcmbolnljchaa", sum := "4fd41e98052ebfd0d48a14723881c9701a3594cf1f4fd3b4a3172e22217ea9a4", func := "loop.example/metricstore/laws.FnCloseHeadIngest", spec := "fnCloseHeadIngest", unfollowed := true, recurses := true, apart := false }
def FnCloseHeadIngestSaid : Prop := fnCloseHeadIngestRow.holds Try.pinned (OpenSpec.ofChange fnCloseHeadIngestSpec)

/-- ITS FALSE NEIGHBOUR: 'it returns false'. Refute it at one input. -/
def fnCloseHeadIngestWrong : ChangeSpec := { name := "fnCloseHeadIngest", fn := fun _ => fun
  | [d] => { results := [.lit (.bool false)], args := [d] }
  | _ => none }
def FnCloseHeadIngestWrongFalsely : Prop := fnCloseHeadIngestRow.holds Try.pinned (OpenSpec.ofChange fnCloseHeadIngestWrong)

/- THE SECOND FORM. 'bulk': how many values and letters a reading holds, each counted each time it is reached (what is shared counts as often as it is met; a slice's spare places count too). A statement '..UptoSaid' is the law's where the arguments, and the package variables that the reading takes, are together of bulk at most 1048576: NARROWER than '..Said'. Prove '..Said' where nothing that the law and all that it calls make is longer than what came in: it says more and counts as full. Else prove '..UptoSaid'. A law counts once. -/
mutual
def uptoBulk {H : Type} : DataW H → Nat
  | .lit (.string bytes) => bytes.length + 1
  | .lit _ => 1
  | .nil => 1
  | .ptr d => uptoBulk d + 1
  | .slice elems spare => uptoBulkAll elems + uptoBulkAll spare + 1
  | .agg parts => uptoBulkAll parts + 1
  | .iface _ d => uptoBulk d + 1
  | .map entries => uptoBulkEntries entries + 1
  | .held _ => 1
def uptoBulkAll {H : Type} : List (DataW H) → Nat
  | [] => 0
  | d :: r => uptoBulk d + uptoBulkAll r
def uptoBulkEntries {H : Type} : List (Lit × DataW H) → Nat
  | [] => 0
  | x :: r => uptoBulkEntry x + uptoBulkEntries r
def uptoBulkEntry {H : Type} : Lit × DataW H → Nat
  | (.string bytes, d) => bytes.length + uptoBulk d + 1
  | (_, d) => uptoBulk d + 1
 end
def uptoSmall : (H : Type) → List (DataW H) → Bool := fun _ ds => decide (uptoBulkAll ds ≤ 1048576)
def OpenSpec.upto (s : _root_.Go.ChangeSpec) : _root_.Go.OpenSpec := { _root_.Go.OpenSpec.ofChange s with cond := some uptoSmall }

/-- 'laws.FnValidHead', WHERE WHAT IT READS IS OF BULK AT MOST 1048576: true; the input reads as it did. -/
def fnValidHeadUptoRow : OpenClaim := { program := "ytnfcmbolnljchaa", sum := "4fd41e98052ebfd0d48a14723881c9701a3594cf1f4fd3b4a3172e22217ea9a4", func := "loop.example/metricstore/laws.FnValidHead", spec := "fnValidHead", apart := false, narrowed := true }
def FnValidHeadUptoSaid : Prop := fnValidHeadUptoRow.holds Try.pinned (OpenSpec.upto fnValidHeadSpec)

/-- 'laws.FnAllPoints', WHERE WHAT IT READS IS OF BULK AT MOST 1048576: true; the input reads as it did. -/
def fnAllPointsUptoRow : OpenClaim := { program := "ytnfcmbolnljchaa", sum := "4fd41e98052ebfd0d48a14723881c9701a3594cf1f4fd3b4a3172e22217ea9a4", func := "loop.example/metricstore/laws.FnAllPoints", spec := "fnAllPoints", apart := false, narrowed := true }
def FnAllPointsUptoSaid : Prop := fnAllPointsUptoRow.holds Try.pinned (OpenSpec.upto fnAllPointsSpec)

/-- 'laws.FnCloseHead', WHERE WHAT IT READS IS OF BULK AT MOST 1048576: true; the input reads as it did. -/
def fnCloseHeadUptoRow : OpenClaim := { program := "ytnfcmbolnljchaa", sum := "4fd41e98052ebfd0d48a14723881c9701a3594cf1f4fd3b4a3172e22217ea9a4", func := "loop.example/metricstore/laws.FnCloseHead", spec := "fnCloseHead", apart := false, narrowed := true }
def FnCloseHeadUptoSaid : Prop := fnCloseHeadUptoRow.holds Try.pinned (OpenSpec.upto fnCloseHeadSpec)

/-- 'laws.FnIngestPointOrder', WHERE WHAT IT READS IS OF BULK AT MOST 1048576: true; the input reads as it did. -/
def fnIngestPointOrderUptoRow : OpenClaim := { program := "ytnfcmbolnljchaa", sum := "4fd41e98052ebfd0d48a14723881c9701a3594cf1f4fd3b4a3172e22217ea9a4", func := "loop.example/metricstore/laws.FnIngestPointOrder", spec := "fnIngestPointOrder", unfollowed := true, recurses := true, apart := false, narrowed := true }
def FnIngestPointOrderUptoSaid : Prop := fnIngestPointOrderUptoRow.holds Try.pinned (OpenSpec.upto fnIngestPointOrderSpec)

/-- 'laws.FnIngestPointTwice', WHERE WHAT IT READS IS OF BULK AT MOST 1048576: true; the input reads as it did. -/
def fnIngestPointTwiceUptoRow : OpenClaim := { program := "ytnfcmbolnljchaa", sum := "4fd41e98052ebfd0d48a14723881c9701a3594cf1f4fd3b4a3172e22217ea9a4", func := "loop.example/metricstore/laws.FnIngestPointTwice", spec := "fnIngestPointTwice", unfollowed := true, recurses := true, apart := false, narrowed := true }
def FnIngestPointTwiceUptoSaid : Prop := fnIngestPointTwiceUptoRow.holds Try.pinned (OpenSpec.upto fnIngestPointTwiceSpec)

/-- 'laws.FnExactIngestPoint', WHERE WHAT IT READS IS OF BULK AT MOST 1048576: true; the input reads as it did. -/
def fnExactIngestPointUptoRow : OpenClaim := { program := "ytnfcmbolnljchaa", sum := "4fd41e98052ebfd0d48a14723881c9701a3594cf1f4fd3b4a3172e22217ea9a4", func := "loop.example/metricstore/laws.FnExactIngestPoint", spec := "fnExactIngestPoint", unfollowed := true, recurses := true, apart := false, narrowed := true }
def FnExactIngestPointUptoSaid : Prop := fnExactIngestPointUptoRow.holds Try.pinned (OpenSpec.upto fnExactIngestPointSpec)

/-- 'laws.FnIngestPoint', WHERE WHAT IT READS IS OF BULK AT MOST 1048576: true; the input reads as it did. -/
def fnIngestPointUptoRow : OpenClaim := { program := "ytnfcmbolnljchaa", sum := "4fd41e98052ebfd0d48a14723881c9701a3594cf1f4fd3b4a3172e22217ea9a4", func := "loop.example/metricstore/laws.FnIngestPoint", spec := "fnIngestPoint", unfollowed := true, recurses := true, apart := false, narrowed := true }
def FnIngestPointUptoSaid : Prop := fnIngestPointUptoRow.holds Try.pinned (OpenSpec.upto fnIngestPointSpec)

/-- 'laws.FnIngestPointOld', WHERE WHAT IT READS IS OF BULK AT MOST 1048576: true; the input reads as it did. -/
def fnIngestPointOldUptoRow : OpenClaim := { program := "ytnfcmbolnljchaa", sum := "4fd41e98052ebfd0d48a14723881c9701a3594cf1f4fd3b4a3172e22217ea9a4", func := "loop.example/metricstore/laws.FnIngestPointOld", spec := "fnIngestPointOld", unfollowed := true, recurses := true, apart := false, narrowed := true }
def FnIngestPointOldUptoSaid : Prop := fnIngestPointOldUptoRow.holds Try.pinned (OpenSpec.upto fnIngestPointOldSpec)

/-- 'laws.FnCloseHeadIngest', WHERE WHAT IT READS IS OF BULK AT MOST 1048576: true; the input reads as it did. -/
def fnCloseHeadIngestUptoRow : OpenClaim := { program := "ytnfcmbolnljchaa", sum := "4fd41e98052ebfd0d48a14723881c9701a3594cf1f4fd3b4a3172e22217ea9a4", func := "loop.example/metricstore/laws.FnCloseHeadIngest", spec := "fnCloseHeadIngest", unfollowed := true, recurses := true, apart := false, narrowed := true }
def FnCloseHeadIngestUptoSaid : Prop := fnCloseHeadIngestUptoRow.holds Try.pinned (OpenSpec.upto fnCloseHeadIngestSpec)

end Rows
end Go.Proofs.Ytnfcmbolnljchaa
