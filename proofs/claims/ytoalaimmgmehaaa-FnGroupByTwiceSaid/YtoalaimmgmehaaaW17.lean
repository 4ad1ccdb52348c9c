/-
  The tools of the exact statements: sizes, copies, marks.
-/
import Derived.Test.YtoalaimmgmehaaaDat3
namespace Go.Proofs.Ytoalaimmgmehaaa
open Go.RowKit
set_option linter.unusedVariables false
set_option linter.unusedSimpArgs false
attribute [local irreducible] AL AW OpX Le AD

def szR (left : Int) (n : Nat) : Int := if left - (n : Int) < 0 then -1 else left - (n : Int)
theorem take_set {α : Type} {ps : List α} {z : α} {n k : Nat} {p : α} (hp : ps[k]? = some p) (hn : ps.length = n) : (ps.take k ++ List.replicate (n - k) z).set k p = ps.take (k + 1) ++ List.replicate (n - (k + 1)) z := by
  obtain ⟨hk, rfl⟩ := List.getElem?_eq_some_iff.1 hp
  have hl : (ps.take k).length = k := by simp; omega
  rw [List.set_append_right _ _ (by omega), hl, Nat.sub_self, show n - k = (n - (k + 1)) + 1 by omega, List.replicate_succ, List.set_cons_zero, List.take_succ_eq_append_getElem hk, List.append_assoc]; rfl
/-- Marks. -/
def mkP (k : Int) (n : Nat) : List (Int × Int) := (List.range n).map fun i : Nat => (k + 2 * (i : Int), k + 2 * (i : Int) + 1)
theorem mkP_len {k : Int} {n : Nat} : (mkP k n).length = n := by simp [mkP]
theorem mkP_at {k : Int} {n j : Nat} (h : j < n) : (mkP k n)[j]? = some (k + 2 * (j : Int), k + 2 * (j : Int) + 1) := by simp [mkP, h]
theorem mkP_succ {k : Int} {n : Nat} : mkP k (n + 1) = mkP k n ++ [(k + 2 * (n : Int), k + 2 * (n : Int) + 1)] := by simp [mkP, List.range_succ]
theorem mkP_set {k : Int} {ps : List (Int × Int)} {j : Nat} {p : Int × Int} (hp : ps[j]? = some p) : (mkP k j ++ ps.drop j).set j (k + 2 * (j : Int), k + 2 * (j : Int) + 1) = mkP k (j + 1) ++ ps.drop (j + 1) := by
  obtain ⟨hj, rfl⟩ := List.getElem?_eq_some_iff.1 hp
  rw [List.set_append_right _ _ (by rw [mkP_len]; omega), mkP_len, Nat.sub_self, List.drop_eq_getElem_cons hj, List.set_cons_zero, mkP_succ, List.append_assoc]; rfl
end Go.Proofs.Ytoalaimmgmehaaa
