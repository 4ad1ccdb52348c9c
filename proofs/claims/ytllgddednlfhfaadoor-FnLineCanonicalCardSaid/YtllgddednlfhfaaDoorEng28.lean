/-
  Openings of bytes.
-/
import Derived.Test.YtllgddednlfhfaaDoorEng19
namespace Go.Proofs.YtllgddednlfhfaaDoor
open Go.ChangeShapes Go.WideShapes Go.ChangeAt Go.RowKit
set_option linter.unusedVariables false
set_option linter.unusedSimpArgs false
section
variable {P : Program} {H : Type} {enc : TypeId × Value → H} {W : World}
theorem open_bys {d : Nat} {t e : TypeId} (ht : P.underlying t = some (.slice e)) (hp : plainT P d t = true) (he : P.underlying e = some (.int .u8)) (hc : P.cellsOf e = 1) {base : Nat} {v : Value} {dd : DataW H} {p : List MemPlace}
    (hval : Value.okWide P W .any base t v) (h : DataW.Trod enc P W 0 (fun _ => true) true t v dd p) : ∃ bs : List UInt8, DC (Zw W) W (.sl 1 (byRs bs)) v ∧ bs.length ≤ maxLen := by
  obtain ⟨a, len, cap, rfl⟩ := okWide_slice ht hval
  obtain ⟨c, h1, h2⟩ := open_one hp rfl h
  obtain ⟨rows, h3, h4, h5⟩ := shp_sl h1 ht
  cases h3
  obtain ⟨bs, rfl⟩ := rows_of (f := byR) (fun r hr => shp_u8 (h5 r hr) he)
  rw [hc] at h2
  exact ⟨bs, h2, by simpa using h4⟩
end
end Go.Proofs.YtllgddednlfhfaaDoor
