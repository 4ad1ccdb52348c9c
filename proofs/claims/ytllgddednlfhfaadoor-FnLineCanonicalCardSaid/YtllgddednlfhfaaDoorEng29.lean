/-
  The place of a byte in a string; contracts of the shelf as ours.
-/
import Derived.Test.YtllgddednlfhfaaDoorEng19
import Derived.Lib.Bytealg
import Derived.Laws.Externs
namespace Go.Proofs.YtllgddednlfhfaaDoor
open Go.RowKit
set_option linter.unusedVariables false
set_option linter.unusedSimpArgs false
section
variable {P : Program} {d : Nat} {x y : Operand} {ty : TypeId} {pos : String} {af : Array Edge}
theorem opx_idxByte {f : FuncId} {fn : Func} {ats : Array TypeId} (hf : P.funcs[f]? = some fn) (h1 : (fn.name == "runtime.NumGoroutine") = false) (h2 : fn.body.isNone = true) (h3 : Extern.findNext fn = none)
    (h4 : Extern.find fn = some Extern.BytealgIndexByte.indexByte) {s : List UInt8} {b : UInt8} {r : Int} (hr : Lib.indexByte s b = r) :
    OpX P ⟨some d, .call { callee := .value (.func f), args := #[x, y], argTypes := ats }, ty, pos, af, none⟩ [(x, .str s), (y, .raw (.int .u8 b.toNat))] [] [] [(d, .i r)] [] :=
  opx_val rfl fun cx S O V a w ρ Z hg hR hO => by
    have h5 := da_raw (hg.ag hR.1)
    have h6 := da_raw (hg.ag hR.2.1)
    refine ⟨.int .i64 r, ?_, da_mk rfl, by simp [AV.tags, AR.tags, A1.tag]⟩
    have e : (#[] ++ (#[x, y] : Array Operand).map a.eval ++ #[] : Array Value) = #[.string ⟨s.toArray⟩, .int .u8 b.toNat] := by simp [h5, h6]
    have e2 : ((b.toNat : Int).toNat).toUInt8 = b := by simp
    rw [execOp_call_go, run_callFunc_extern hf h1 h2 h3 h4, e, Lib.run_indexByteString, e2]
    subst hr
    rfl
end
theorem idx_f {c : UInt8} : ∀ {s : List UInt8}, c ∉ s → Lib.indexByte s c = -1
  | [], _ => rfl
  | a :: s, h => by
    have h1 : (a == c) = false := by simp only [beq_eq_false_iff_ne]; rintro rfl; exact h (.head _)
    have h2 := idx_f (c := c) (s := s) (fun hm => h (.tail _ hm))
    simp [Lib.indexByte, h1, h2]
theorem idx_t {c : UInt8} : ∀ {x r : List UInt8}, c ∉ x → Lib.indexByte (x ++ c :: r) c = (x.length : Int)
  | [], r, _ => by simp [Lib.indexByte]
  | a :: x, r, h => by
    have h1 : (a == c) = false := by simp only [beq_eq_false_iff_ne]; rintro rfl; exact h (.head _)
    have h2 := idx_t (c := c) (x := x) (r := r) (fun hm => h (.tail _ hm))
    have h3 : ((x.length : Int) == -1) = false := by simp only [beq_eq_false_iff_ne]; omega
    simp [Lib.indexByte, h1, h2, h3]
/-- What the shelf says of a function that writes nothing of ours is a contract. -/
theorem con_of_below {P : Program} {f : FuncId} {args : List AR} {v : Value} (hv : v.oneCell' = true) (hok : fnOk P f = true)
    (H : ∀ (w : World) (ρ : Nat → Value) (Z : Nat → Prop) (vs : List Value), DRL ρ Z w args vs → (∀ g, Z g → g < w.heap.size) → Calls P f vs.toArray w fun e w' => e = .returned v ∧ Below w.heap.size w w') :
    Con P f args [] (fun rs all => rs = [.one (.c (.raw v))] ∧ all = []) :=
  ⟨hok, fun w ρ Z vs he => (H w ρ Z vs he.args he.zlt).mono fun e w' ⟨h1, h2⟩ =>
    ⟨[.one (.c (.raw v))], [], [v], ρ, Z, ⟨rfl, rfl⟩, Nat.le_refl _, h1, by
      exact ⟨⟨.raw _ hv, trivial⟩, fun i => trivial, fun i hi => rfl, fun i j g hi => by simp [obAt, OB.live] at hi, fun i g hi => by simp [obAt, OB.live] at hi, fun g hg => hg, fun g hg => .inl hg,
        fun g hg => Nat.lt_of_lt_of_le (he.zlt g hg) h2.size, ⟨rfl, rfl⟩, h2.os, h2.tape, h2.output, h2.size, fun g hg _ => h2.block g hg⟩⟩⟩
end Go.Proofs.YtllgddednlfhfaaDoor
