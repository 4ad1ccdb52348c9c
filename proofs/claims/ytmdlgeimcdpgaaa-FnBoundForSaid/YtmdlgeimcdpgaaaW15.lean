/-
  Counts under bounds: the laws.
-/
import Derived.Test.YtmdlgeimcdpgaaaW14
namespace Go.Proofs.Ytmdlgeimcdpgaaa
open Go.RowKit
set_option linter.unusedVariables false
set_option linter.unusedSimpArgs false
attribute [local irreducible] AL AW OpX Le AD

theorem cuR_no {ps : List Pt} {bs : List Int} (h : ¬ cuB ps bs = true) : cuR ps bs = [] := by rw [cuR, if_neg h]
theorem cuR_yes {ps : List Pt} {bs : List Int} (h : cuB ps bs = true) : cuR ps bs = cnts ps bs := by rw [cuR, if_pos h]
theorem cuR_len {ps : List Pt} {bs : List Int} : (cuR ps bs).length ≤ bs.length := by
  unfold cuR; split
  · rw [cnts_len]; exact Nat.le_refl _
  · exact Nat.zero_le _
theorem vbB_asc {bs : List Int} (h : vbB bs = true) {k : Nat} {x y : Int} (hy : bs[k]? = some y) (hx : bs[k + 1]? = some x) : y + 1 ≤ x := by
  rw [vbB, Bool.and_eq_true, Bool.and_eq_true] at h
  exact ascB_iff.1 h.2.2 k y x hy hx
theorem vbB_one {b : Int} (h : -1000 ≤ b ∧ b ≤ 1000) : vbB [b] = true := by
  have : allB (-1000) 1000 [b] = true := by simp [allB]; exact h
  rw [vbB, this]; rfl
theorem cuB_to {ps : List Pt} {bs : List Int} (h : VS ps) (hb : vbB bs = true) : cuB ps bs = true := by rw [cuB, vsB_t h, hb]; rfl
end Go.Proofs.Ytmdlgeimcdpgaaa
