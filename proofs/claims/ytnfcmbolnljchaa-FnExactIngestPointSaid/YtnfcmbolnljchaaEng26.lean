/-
  Openings of structs of two numbers and two slices of points.
-/
import Derived.Test.YtnfcmbolnljchaaEng23
namespace Go.Proofs.Ytnfcmbolnljchaa
open Go.ChangeShapes Go.WideShapes Go.ChangeAt Go.RowKit
set_option linter.unusedVariables false
set_option linter.unusedSimpArgs false
section
variable {P : Program} {H : Type} {enc : TypeId × Value → H} {W : World}
def isHd (P : Program) (t : TypeId) : Bool := match P.underlying t with | some (.struct fs) => (match fs.toList with | [f, g, h, k] => isI64 P f.type && (isI64 P g.type && (isSlP P h.type && isSlP P k.type)) | _ => false) | _ => false
theorem shp_hd {t : TypeId} {cvs : List CV} (h : Shp P t cvs) (ht : isHd P t = true) : ∃ (w n : Int) (o c : List (Int × Int)), cvs = [cI w, cI n, .sl 2 (ptRs o), .sl 2 (ptRs c)] ∧ o.length ≤ maxLen ∧ c.length ≤ maxLen := by
  unfold isHd at ht
  split at ht
  · rename_i fs hu
    have h1 := shp_st h hu
    split at ht
    · rename_i f g k j he
      rw [he] at h1
      simp only [Bool.and_eq_true] at ht
      obtain ⟨xs, ys, rfl, h2, h3⟩ := shpL_cons h1
      obtain ⟨xs', ys', rfl, h4, h5⟩ := shpL_cons h3
      obtain ⟨xs2, ys2, rfl, h6, h7⟩ := shpL_cons h5
      obtain ⟨xs3, ys3, rfl, h8, h9⟩ := shpL_cons h7
      obtain ⟨a, rfl⟩ := shp_i h2 (isI64_of ht.1)
      obtain ⟨b, rfl⟩ := shp_i h4 (isI64_of ht.2.1)
      obtain ⟨c, rfl, hc⟩ := shp_slP h6 ht.2.2.1
      obtain ⟨d, rfl, hd⟩ := shp_slP h8 ht.2.2.2
      rw [shpL_nil h9]
      exact ⟨a, b, c, d, rfl, hc, hd⟩
    · cases ht
  · cases ht
theorem open_hd {d : Nat} {t : TypeId} (hp : plainT P d t = true) (hs : isStc P t = true) (he : isHd P t = true) {base : Nat} {v : Value} {dd : DataW H} {p : List MemPlace}
    (hval : Value.okWide P W .any base t v) (h : DataW.Trod enc P W 0 (fun _ => true) true t v dd p) (ρ : Nat → Value) :
    ∃ (w n : Int) (o c : List (Int × Int)), DR ρ (Zw W) W (.agg [.c (cI w), .c (cI n), .c (.sl 2 (ptRs o)), .c (.sl 2 (ptRs c))]) v ∧ o.length ≤ maxLen ∧ c.length ≤ maxLen := by
  obtain ⟨cs, rfl⟩ := okWide_agg hs hval
  obtain ⟨cvs, h1, h2⟩ := open_agg hp h ρ
  obtain ⟨w, n, o, c, rfl, h3, h4⟩ := shp_hd h1 he
  exact ⟨w, n, o, c, h2, h3, h4⟩
end
end Go.Proofs.Ytnfcmbolnljchaa
