/-
  What the listed package variables hold: bytealg.MaxLen some number, strconv's powers of ten, strconv.ErrSyntax some error or nil.
-/
import Derived.WalkKit
namespace Go.Proofs.YtllgddednlfhfaaDoor
/-- A package variable's block, and what is known of it. -/
structure GC where
  b : Nat
  ok : Obj → Prop
def pow10L : List Int := [1, 10, 100, 1000, 10000, 100000, 1000000, 10000000, 100000000, 1000000000, 10000000000, 100000000000, 1000000000000, 10000000000000, 100000000000000, 1000000000000000, 10000000000000000, 100000000000000000, 1000000000000000000, 10000000000000000000]
def pow10 : Array Value := (pow10L.map fun z => Value.int .u64 z).toArray
def okMax (o : Obj) : Prop := ∃ cs t fr m, o = .cells cs t fr ∧ cs[0]? = some (.int .i64 m)
def okPow (o : Obj) : Prop := ∃ t fr, o = .cells pow10 t fr
def okErr (o : Obj) : Prop := ∃ cs t fr ev, o = .cells cs t fr ∧ cs[0]? = some ev ∧ (ev = .nilIface ∨ ∃ te pe, ev = .iface te pe)
def globs : List GC := [⟨0, okMax⟩, ⟨1, okPow⟩, ⟨2, okErr⟩]
end Go.Proofs.YtllgddednlfhfaaDoor
