/-
  Openings of labels.
-/
import Derived.Test.YtllgddednlfhfaaDoorEng28
namespace Go.Proofs.YtllgddednlfhfaaDoor
open Go.ChangeShapes Go.WideShapes Go.ChangeAt Go.RowKit
set_option linter.unusedVariables false
set_option linter.unusedSimpArgs false
section
variable {P : Program} {H : Type} {enc : TypeId × Value → H} {W : World}
theorem lbR_inj {x y : Str × Str} (h : lbR x = lbR y) : x = y := by
  have h1 : x.1 = y.1 := by injection h with a b; injection a with a; injection a with a; injection a with a; exact Array.toList_inj.2 a
  have h2 : x.2 = y.2 := by injection h with a b; injection b with a b; injection a with a; injection a with a; injection a with a; exact Array.toList_inj.2 a
  exact Prod.ext h1 h2
theorem open_lbs {d : Nat} {t e : TypeId} (ht : P.underlying t = some (.slice e)) (hp : plainT P d t = true) (he : isLb P e = true) (hc : P.cellsOf e = 2) {base : Nat} {v : Value} {dd : DataW H} {p : List MemPlace}
    (hval : Value.okWide P W .any base t v) (h : DataW.Trod enc P W 0 (fun _ => true) true t v dd p) :
    ∃ ls : List (Str × Str), DC (Zw W) W (.sl 2 (lbRs ls)) v ∧ ls.length ≤ maxLen ∧ ∀ x ∈ ls, x.1.length ≤ maxLen ∧ x.2.length ≤ maxLen := by
  obtain ⟨a, len, cap, rfl⟩ := okWide_slice ht hval
  obtain ⟨c, h1, h2⟩ := open_one hp rfl h
  obtain ⟨rows, h3, h4, h5⟩ := shp_sl h1 ht
  cases h3
  obtain ⟨ls, rfl⟩ := rows_of (f := lbR) (fun r hr => let ⟨p, h, _⟩ := shp_lb (h5 r hr) he; ⟨p, h⟩)
  rw [hc] at h2
  refine ⟨ls, h2, by simpa using h4, fun x hx => ?_⟩
  obtain ⟨q, h6, h7⟩ := shp_lb (h5 (lbR x) (List.mem_map.2 ⟨x, hx, rfl⟩)) he
  rw [lbR_inj h6]
  exact h7
theorem open_str {t : TypeId} (ht : P.underlying t = some .string) {base : Nat} {v : Value} {dd : DataW H} {p : List MemPlace}
    (hval : Value.okWide P W .any base t v) (h : DataW.Trod enc P W 0 (fun _ => true) true t v dd p) : ∃ s : Str, DC (Zw W) W (cS s) v ∧ s.length ≤ maxLen := by
  obtain ⟨s, rfl⟩ := okWide_string ht hval
  obtain ⟨fuel, hf⟩ := h
  obtain ⟨s', h1, _, hs⟩ := DataW.trod_string ht hf
  simp [Value.cells] at h1
  subst h1
  obtain ⟨⟨s⟩⟩ := s
  exact ⟨s, .raw _ rfl, hs⟩
end
end Go.Proofs.YtllgddednlfhfaaDoor
