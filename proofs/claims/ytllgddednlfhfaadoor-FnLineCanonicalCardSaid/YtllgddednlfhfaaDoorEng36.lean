/-
  The shelf's contracts that lean on what package variables hold.
-/
import Derived.Test.YtllgddednlfhfaaDoorEng29
namespace Go.Proofs.YtllgddednlfhfaaDoor
open Go.RowKit
set_option linter.unusedVariables false
set_option linter.unusedSimpArgs false
theorem con_of_belowG {P : Program} {f : FuncId} {args : List AR} {v : Value} (hv : v.oneCell' = true) (hok : fnOk P f = true)
    (H : ∀ (w : World) (ρ : Nat → Value) (Z : Nat → Prop) (vs : List Value), DRL ρ Z w args vs → (∀ g, Z g → g < w.heap.size) → Gl Z w → Calls P f vs.toArray w fun e w' => e = .returned v ∧ Below w.heap.size w w') :
    Con P f args [] (fun rs all => rs = [.one (.c (.raw v))] ∧ all = []) :=
  ⟨hok, fun w ρ Z vs he => (H w ρ Z vs he.args he.zlt he.gl).mono fun e w' ⟨h1, h2⟩ =>
    ⟨[.one (.c (.raw v))], [], [v], ρ, Z, ⟨rfl, rfl⟩, Nat.le_refl _, h1, by
      exact ⟨⟨.raw _ hv, trivial⟩, fun i => trivial, fun i hi => rfl, fun i j g hi => by simp [obAt, OB.live] at hi, fun i g hi => by simp [obAt, OB.live] at hi, fun g hg => hg, fun g hg => .inl hg,
        fun g hg => Nat.lt_of_lt_of_le (he.zlt g hg) h2.size, ⟨rfl, rfl⟩, h2.os, h2.tape, h2.output, h2.size, fun g hg _ => h2.block g hg⟩⟩⟩
section
variable {P : Program} {d : Nat} {x y : Operand} {t ty : TypeId} {pos : String} {af : Array Edge} {gd : Option (Nat × Bool)}
theorem opx_negE {m r : Int} (he : -m = r) (h : InR r) : OpX P ⟨some d, .unOp .neg t x, ty, pos, af, gd⟩ [(x, .i m)] [] [] [(d, .i r)] [] := by
  subst he; exact opx_neg h
end
end Go.Proofs.YtllgddednlfhfaaDoor
