/-
  No cell of these rows narrows 'for every input' (looked for: loops, veiled, ifaces, maps, wideKeys, modest, calm, conditions, laid).
  DERIVED. THE GIVEN ROWS OF THIS SEAT. 4 by the template 'for every input the law returns true; each argument reads behind the call as it read before'; 0 by the template 'total and deterministic' (their statements: YtjhokokkablcpaaTotals.lean).
  GIVEN WITH THE SEED: the statements are not yours to turn. If you find one false, say at which input.
  Laid BY PROGRAM, IN A SANDBOX (cutbox-rows.mjs): the forced cells as the released guide's own fill.sh prints them over the translation 99a350c1b28b5d3c… (all of the seat's roots in one cut). By AI agents, Wed Nov 11 2026. No macro, syntax, notation, axiom, sorry.
-/
import Derived.Test.YtjhokokkablcpaaChecked
import GoSem.Claim
import GoSem.ClaimJoined
import GoSem.ClaimMapViews
import Derived.JoinedTies
import Derived.KernelRfl
namespace Go.Proofs.Ytjhokokkablcpaa
/- THE CELL 'sum', in the pinned program and in every row, IS THE sha256 OF THE DUMP (.gsa) THAT YtjhokokkablcpaaProg.lean LOADS. Nothing in Lean hashes anything: it is a label: what it is worth is what the hold of that sum in a sandbox is worth. -/
noncomputable def Try.pinned : Pinned := { name := "ytjhokokkablcpaa", sum := "99a350c1b28b5d3c5937320a664eeb791777eaac0210c454d4c48f7dd1ae2058", checked := Try.checked }
namespace Rows
def none {H : Type} : Left H := { results := [], args := [] }

/-- 'laws.FnExactReplayJournal': WHATEVER THE INPUT: true; the input reads as it did. -/
def fnExactReplayJournalSpec : ChangeSpec := { name := "fnExactReplayJournal", fn := fun _ => fun
  | [d1, d2] => { results := [.lit (.bool true)], args := [d1, d2] }
  | _ => none }
def fnExactReplayJournalRow : OpenClaim := { program := "ytjhokokkablcpaa", sum := "99a350c1b28b5d3c5937320a664eeb791777eaac0210c454d4c48f7dd1ae2058", func := "loop.example/metricstore/laws.FnExactReplayJournal", spec := "fnExactReplayJournal", unfollowed := true, recurses := true, apart := false }
def FnExactReplayJournalSaid : Prop := fnExactReplayJournalRow.holds Try.pinned (OpenSpec.ofChange fnExactReplayJournalSpec)

/-- ITS FALSE NEIGHBOUR: 'it returns false'. Refute it at one input. -/
def fnExactReplayJournalWrong : ChangeSpec := { name := "fnExactReplayJournal", fn := fun _ => fun
  | [d1, d2] => { results := [.lit (.bool false)], args := [d1, d2] }
  | _ => none }
def FnExactReplayJournalWrongFalsely : Prop := fnExactReplayJournalRow.holds Try.pinned (OpenSpec.ofChange fnExactReplayJournalWrong)

/-- 'laws.FnReplayJournal': WHATEVER THE INPUT: true; the input reads as it did. -/
def fnReplayJournalSpec : ChangeSpec := { name := "fnReplayJournal", fn := fun _ => fun
  | [d] => { results := [.lit (.bool true)], args := [d] }
  | _ => none }
def fnReplayJournalRow : OpenClaim := { program := "ytjhokokkablcpaa", sum := "99a350c1b28b5d3c5937320a664eeb791777eaac0210c454d4c48f7dd1ae2058", func := "loop.example/metricstore/laws.FnReplayJournal", spec := "fnReplayJournal", unfollowed := true, recurses := true, apart := false }
def FnReplayJournalSaid : Prop := fnReplayJournalRow.holds Try.pinned (OpenSpec.ofChange fnReplayJournalSpec)

/-- ITS FALSE NEIGHBOUR: 'it returns false'. Refute it at one input. -/
def fnReplayJournalWrong : ChangeSpec := { name := "fnReplayJournal", fn := fun _ => fun
  | [d] => { results := [.lit (.bool false)], args := [d] }
  | _ => none }
def FnReplayJournalWrongFalsely : Prop := fnReplayJournalRow.holds Try.pinned (OpenSpec.ofChange fnReplayJournalWrong)

/-- 'laws.FnReplayJournalStep': WHATEVER THE INPUT: true; the input reads as it did. -/
def fnReplayJournalStepSpec : ChangeSpec := { name := "fnReplayJournalStep", fn := fun _ => fun
  | [d] => { results := [.lit (.bool true)], args := [d] }
  | _ => none }
def fnReplayJournalStepRow : OpenClaim := { program := "ytjhokokkablcpaa", sum := "99a350c1b28b5d3c5937320a664eeb791777eaac0210c454d4c48f7dd1ae2058", func := "loop.example/metricstore/laws.FnReplayJournalStep", spec := "fnReplayJournalStep", unfollowed := true, recurses := true, apart := false }
def FnReplayJournalStepSaid : Prop := fnReplayJournalStepRow.holds Try.pinned (OpenSpec.ofChange fnReplayJournalStepSpec)

/-- ITS FALSE NEIGHBOUR: 'it returns false'. Refute it at one input. -/
def fnReplayJournalStepWrong : ChangeSpec := { name := "fnReplayJournalStep", fn := fun _ => fun
  | [d] => { results := [.lit (.bool false)], args := [d] }
  | _ => none }
def FnReplayJournalStepWrongFalsely : Prop := fnReplayJournalStepRow.holds Try.pinned (OpenSpec.ofChange fnReplayJournalStepWrong)

/-- 'laws.FnReplayJournalOther': WHATEVER THE INPUT: true; the input reads as it did. -/
def fnReplayJournalOtherSpec : ChangeSpec := { name := "fnReplayJournalOther", fn := fun _ => fun
  | [d] => { results := [.lit (.bool true)], args := [d] }
  | _ => none }
def fnReplayJournalOtherRow : OpenClaim := { program := "ytjhokokkablcpaa", sum := "99a350c1b28b5d3c5937320a664eeb791777eaac0210c454d4c48f7dd1ae2058", func := "loop.example/metricstore/laws.FnReplayJournalOther", spec := "fnReplayJournalOther", unfollowed := true, recurses := true, apart := false }
def FnReplayJournalOtherSaid : Prop := fnReplayJournalOtherRow.holds Try.pinned (OpenSpec.ofChange fnReplayJournalOtherSpec)

/-- ITS FALSE NEIGHBOUR: 'it returns false'. Refute it at one input. -/
def fnReplayJournalOtherWrong : ChangeSpec := { name := "fnReplayJournalOther", fn := fun _ => fun
  | [d] => { results := [.lit (.bool false)], args := [d] }
  | _ => none }
def FnReplayJournalOtherWrongFalsely : Prop := fnReplayJournalOtherRow.holds Try.pinned (OpenSpec.ofChange fnReplayJournalOtherWrong)

/- THE SECOND FORM. 'bulk': how many values and letters a reading holds, each counted each time it is reached (what is shared counts as often as it is met; a slice's spare places count too). A statement '..UptoSaid' is the law's where the arguments, and the package variables that the reading takes, are together of bulk at most 1048576: NARROWER than '..Said'. Prove '..Said' where nothing that the law and all that it calls make is longer than what came in: it says more and counts as full. Else prove '..UptoSaid'. A law counts once. -/
mutual
def uptoBulk {H : Type} : DataW H → Nat
  | .lit (.string bytes) => bytes.length + 1
  | .lit _ => 1
  | .nil => 1
  | .ptr d => uptoBulk d + 1
  | .slice elems spare => uptoBulkAll elems + uptoBulkAll spare + 1
  | .agg parts => uptoBulkAll parts + 1
  | .iface _ d => uptoBulk d + 1
  | .map entries => uptoBulkEntries entries + 1
  | .held _ => 1
def uptoBulkAll {H : Type} : List (DataW H) → Nat
  | [] => 0
  | d :: r => uptoBulk d + uptoBulkAll r
def uptoBulkEntries {H : Type} : List (Lit × DataW H) → Nat
  | [] => 0
  | x :: r => uptoBulkEntry x + uptoBulkEntries r
def uptoBulkEntry {H : Type} : Lit × DataW H → Nat
  | (.string bytes, d) => bytes.length + uptoBulk d + 1
  | (_, d) => uptoBulk d + 1
 end
def uptoSmall : (H : Type) → List (DataW H) → Bool := fun _ ds => decide (uptoBulkAll ds ≤ 1048576)
def OpenSpec.upto (s : _root_.Go.ChangeSpec) : _root_.Go.OpenSpec := { _root_.Go.OpenSpec.ofChange s with cond := some uptoSmall }

/-- 'laws.FnExactReplayJournal', WHERE WHAT IT READS IS OF BULK AT MOST 1048576: true; the input reads as it did. -/
def fnExactReplayJournalUptoRow : OpenClaim := { program := "ytjhokokkablcpaa", sum := "99a350c1b28b5d3c5937320a664eeb791777eaac0210c454d4c48f7dd1ae2058", func := "loop.example/metricstore/laws.FnExactReplayJournal", spec := "fnExactReplayJournal", unfollowed := true, recurses := true, apart := false, narrowed := true }
def FnExactReplayJournalUptoSaid : Prop := fnExactReplayJournalUptoRow.holds Try.pinned (OpenSpec.upto fnExactReplayJournalSpec)

/-- 'laws.FnReplayJournal', WHERE WHAT IT READS IS OF BULK AT MOST 1048576: true; the input reads as it did. -/
def fnReplayJournalUptoRow : OpenClaim := { program := "ytjhokokkablcpaa", sum := "99a350c1b28b5d3c5937320a664eeb791777eaac0210c454d4c48f7dd1ae2058", func := "loop.example/metricstore/laws.FnReplayJournal", spec := "fnReplayJournal", unfollowed := true, recurses := true, apart := false, narrowed := true }
def FnReplayJournalUptoSaid : Prop := fnReplayJournalUptoRow.holds Try.pinned (OpenSpec.upto fnReplayJournalSpec)

/-- 'laws.FnReplayJournalStep', WHERE WHAT IT READS IS OF BULK AT MOST 1048576: true; the input reads as it did. -/
def fnReplayJournalStepUptoRow : OpenClaim := { program := "ytjhokokkablcpaa", sum := "99a350c1b28b5d3c5937320a664eeb791777eaac0210c454d4c48f7dd1ae2058", func := "loop.example/metricstore/laws.FnReplayJournalStep", spec := "fnReplayJournalStep", unfollowed := true, recurses := true, apart := false, narrowed := true }
def FnReplayJournalStepUptoSaid : Prop := fnReplayJournalStepUptoRow.holds Try.pinned (OpenSpec.upto fnReplayJournalStepSpec)

/-- 'laws.FnReplayJournalOther', WHERE WHAT IT READS IS OF BULK AT MOST 1048576: true; the input reads as it did. -/
def fnReplayJournalOtherUptoRow : OpenClaim := { program := "ytjhokokkablcpaa", sum := "99a350c1b28b5d3c5937320a664eeb791777eaac0210c454d4c48f7dd1ae2058", func := "loop.example/metricstore/laws.FnReplayJournalOther", spec := "fnReplayJournalOther", unfollowed := true, recurses := true, apart := false, narrowed := true }
def FnReplayJournalOtherUptoSaid : Prop := fnReplayJournalOtherUptoRow.holds Try.pinned (OpenSpec.upto fnReplayJournalOtherSpec)

end Rows
end Go.Proofs.Ytjhokokkablcpaa
