/-
  Moving sums: the walks.
-/
import Derived.Test.YtekjcejmmhdnkaaW2
import Derived.Test.YtekjcejmmhdnkaaW1
namespace Go.Proofs.Ytekjcejmmhdnkaa
open Go.RowKit
set_option linter.unusedVariables false
set_option linter.unusedSimpArgs false
attribute [local irreducible] AL AW OpX Le AD

/-- The sum of the first k values. -/
def pre (ps : List (Int × Int)) (k : Nat) : Int := ((ps.take k).map (·.2)).sum
theorem pre_zero {ps : List (Int × Int)} : pre ps 0 = 0 := rfl
theorem pre_succ {ps : List (Int × Int)} {k : Nat} {p : Int × Int} (h : ps[k]? = some p) : pre ps (k + 1) = pre ps k + p.2 := by
  unfold pre
  rw [List.take_add_one, h]
  simp
theorem VS_val {ps : List (Int × Int)} (h : VS ps) {k : Nat} {p : Int × Int} (hk : ps[k]? = some p) : okPt p := (h.2 k p hk).1
theorem pre_bound {ps : List (Int × Int)} (h : VS ps) : ∀ k, k ≤ ps.length → -1000 * (k : Int) ≤ pre ps k ∧ pre ps k ≤ 1000 * (k : Int)
  | 0, _ => by simp [pre_zero]
  | k + 1, hk => by
    obtain ⟨p, hp⟩ : ∃ p, ps[k]? = some p := ⟨_, List.getElem?_eq_getElem (by omega)⟩
    have h1 := pre_bound h k (by omega)
    have h2 := VS_val h hp
    rw [pre_succ hp]
    obtain ⟨_, _, _, _⟩ := h2
    omega
def msum (ps : List (Int × Int)) (w k : Nat) : Int := pre ps (k + 1) - pre ps (k + 1 - w)
def msumsTo (ps : List (Int × Int)) (w k : Nat) : List Int := (List.range k).map (msum ps w)
theorem msumsTo_succ {ps : List (Int × Int)} {w k : Nat} : msumsTo ps w (k + 1) = msumsTo ps w k ++ [msum ps w k] := by simp [msumsTo, List.range_succ]
theorem msumsTo_len {ps : List (Int × Int)} {w k : Nat} : (msumsTo ps w k).length = k := by simp [msumsTo]
noncomputable def msums (ps : List (Int × Int)) (w : Int) : List Int := if vwB ps w = true then msumsTo ps w.toNat ps.length else []

/-! as values -/
theorem msums_len {ps : List (Int × Int)} {w : Int} : (msums ps w).length ≤ ps.length := by
  unfold msums
  split
  · rw [msumsTo_len]; exact Nat.le_refl _
  · exact Nat.zero_le _
theorem msums_ok {ps : List (Int × Int)} {w : Int} (h : (msums ps w).length ≠ 0) : VS ps ∧ 1 ≤ w ∧ w ≤ 16 ∧ (msums ps w).length = ps.length := by
  by_cases hv : vwB ps w = true
  · obtain ⟨hv1, hv2⟩ : vsB ps = true ∧ (1 ≤ w ∧ w ≤ 16) := by simpa [vwB] using hv
    exact ⟨vsB_iff.1 hv1, hv2.1, hv2.2, by rw [msums, if_pos hv, msumsTo_len]⟩
  · rw [msums, if_neg hv] at h; exact absurd rfl h
theorem msums_at {ps : List (Int × Int)} (h : VS ps) {w k : Nat} (hw : 1 ≤ w ∧ w ≤ 16) (hk : k < ps.length) : (msums ps (w : Int))[k]? = some (msum ps w k) := by
  have hv : vwB ps (w : Int) = true := by
    have h1 := vsB_iff.2 h
    simp [vwB, h1]; omega
  rw [msums, if_pos hv]
  simp [msumsTo, hk]
theorem msum_one {ps : List (Int × Int)} {k : Nat} {p : Int × Int} (h : ps[k]? = some p) : msum ps 1 k = p.2 := by
  unfold msum; rw [pre_succ h, show k + 1 - 1 = k from rfl]; omega
theorem msum_all {ps : List (Int × Int)} {w k : Nat} (h : k < w) : msum ps w k = pre ps (k + 1) := by
  unfold msum; rw [show k + 1 - w = 0 by omega, pre_zero]; omega

end Go.Proofs.Ytekjcejmmhdnkaa
