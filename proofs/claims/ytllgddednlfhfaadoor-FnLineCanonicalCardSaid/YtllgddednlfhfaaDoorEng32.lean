/-
  Own bytes as a string.
-/
import Derived.Test.YtllgddednlfhfaaDoorEng27
namespace Go.Proofs.YtllgddednlfhfaaDoor
open Go.RowKit
set_option linter.unusedVariables false
section
variable {P : Program} {d u : Nat} {x : Operand} {ty : TypeId} {pos : String} {af : Array Edge} {gd : Option (Nat × Bool)}
theorem opx_bstr_own {src dst e e' wd bytes : Nat} {zs : List Value} [hT : SlT P src e wd bytes zs] [hS : StrT P dst] (he : P.underlying e = some (.int .u8)) {bs : List UInt8} :
    OpX P ⟨some d, .convert src dst x, ty, pos, af, gd⟩ [(x, .own u)] [(u, .row 1 e' (byRs bs))] [] [(d, .str bs)] [] :=
  opx_bstr [(u, .row 1 e' (byRs bs))] he (av := .own u) fun O h => .inr ⟨_, h.1⟩
end
end Go.Proofs.YtllgddednlfhfaaDoor
