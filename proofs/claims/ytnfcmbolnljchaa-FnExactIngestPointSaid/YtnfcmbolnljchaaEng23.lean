/-
  Openings of structs that hold slices.
-/
import Derived.Test.YtnfcmbolnljchaaEng19
namespace Go.Proofs.Ytnfcmbolnljchaa
open Go.ChangeShapes Go.WideShapes Go.ChangeAt Go.RowKit
set_option linter.unusedVariables false
set_option linter.unusedSimpArgs false
section
variable {P : Program} {H : Type} {enc : TypeId × Value → H} {W : World}
def isSlP (P : Program) (t : TypeId) : Bool := match P.underlying t with | some (.slice e) => isPt P e && Nat.beq (P.cellsOf e) 2 | _ => false
def isSlN (P : Program) (t : TypeId) : Bool := match P.underlying t with | some (.slice e) => isI64 P e && Nat.beq (P.cellsOf e) 1 | _ => false
theorem shp_slP {t : TypeId} {cvs : List CV} (h : Shp P t cvs) (ht : isSlP P t = true) : ∃ ps : List (Int × Int), cvs = [.sl 2 (ptRs ps)] ∧ ps.length ≤ maxLen := by
  unfold isSlP at ht
  split at ht
  · rename_i e hu
    simp only [Bool.and_eq_true] at ht
    obtain ⟨rows, rfl, h4, h5⟩ := shp_sl h hu
    obtain ⟨ps, rfl⟩ := rows_of (f := ptR) (fun r hr => shp_pt (h5 r hr) ht.1)
    rw [Nat.eq_of_beq_eq_true ht.2]
    exact ⟨ps, rfl, by simpa using h4⟩
  · cases ht
theorem shp_slN {t : TypeId} {cvs : List CV} (h : Shp P t cvs) (ht : isSlN P t = true) : ∃ ns : List Int, cvs = [.sl 1 (inRs ns)] ∧ ns.length ≤ maxLen := by
  unfold isSlN at ht
  split at ht
  · rename_i e hu
    simp only [Bool.and_eq_true] at ht
    obtain ⟨rows, rfl, h4, h5⟩ := shp_sl h hu
    obtain ⟨ns, rfl⟩ := rows_of (f := inR) (fun r hr => shp_i (h5 r hr) (isI64_of ht.1))
    rw [Nat.eq_of_beq_eq_true ht.2]
    exact ⟨ns, rfl, by simpa using h4⟩
  · cases ht
/-- a struct of points, a number and numbers -/
def isVer (P : Program) (t : TypeId) : Bool := match P.underlying t with | some (.struct fs) => (match fs.toList with | [f, g, h] => isSlP P f.type && (isI64 P g.type && isSlN P h.type) | _ => false) | _ => false
theorem shp_ver {t : TypeId} {cvs : List CV} (h : Shp P t cvs) (ht : isVer P t = true) : ∃ (ps : List (Int × Int)) (fr : Int) (pins : List Int), cvs = [.sl 2 (ptRs ps), cI fr, .sl 1 (inRs pins)] ∧ ps.length ≤ maxLen ∧ pins.length ≤ maxLen := by
  unfold isVer at ht
  split at ht
  · rename_i fs hu
    have h1 := shp_st h hu
    split at ht
    · rename_i f g k he
      rw [he] at h1
      simp only [Bool.and_eq_true] at ht
      obtain ⟨xs, ys, rfl, h2, h3⟩ := shpL_cons h1
      obtain ⟨xs', ys', rfl, h4, h5⟩ := shpL_cons h3
      obtain ⟨xs2, ys2, rfl, h6, h7⟩ := shpL_cons h5
      obtain ⟨a, rfl, ha⟩ := shp_slP h2 ht.1
      obtain ⟨b, rfl⟩ := shp_i h4 (isI64_of ht.2.1)
      obtain ⟨c, rfl, hc⟩ := shp_slN h6 ht.2.2
      rw [shpL_nil h7]
      exact ⟨a, b, c, rfl, ha, hc⟩
    · cases ht
  · cases ht
theorem open_ver {d : Nat} {t : TypeId} (hp : plainT P d t = true) (hs : isStc P t = true) (he : isVer P t = true) {base : Nat} {v : Value} {dd : DataW H} {p : List MemPlace}
    (hval : Value.okWide P W .any base t v) (h : DataW.Trod enc P W 0 (fun _ => true) true t v dd p) (ρ : Nat → Value) :
    ∃ (ps : List (Int × Int)) (fr : Int) (pins : List Int), DR ρ (Zw W) W (.agg [.c (.sl 2 (ptRs ps)), .c (cI fr), .c (.sl 1 (inRs pins))]) v ∧ ps.length ≤ maxLen ∧ pins.length ≤ maxLen := by
  obtain ⟨cs, rfl⟩ := okWide_agg hs hval
  obtain ⟨cvs, h1, h2⟩ := open_agg hp h ρ
  obtain ⟨ps, fr, pins, rfl, h3, h4⟩ := shp_ver h1 he
  exact ⟨ps, fr, pins, h2, h3, h4⟩
end
end Go.Proofs.Ytnfcmbolnljchaa
