/-
  The tools of the exact statements: sizes, copies, marks.
-/
import Derived.Test.YtllgddednlfhfaaDoorDat3
namespace Go.Proofs.YtllgddednlfhfaaDoor
open Go.RowKit
set_option linter.unusedVariables false
set_option linter.unusedSimpArgs false
attribute [local irreducible] AL AW OpX Le AD

def szR (left : Int) (n : Nat) : Int := if left - (n : Int) < 0 then -1 else left - (n : Int)
theorem c_toPoint (t v : Int) : Con Tryd.prog 12 [ptA t v] [] (fun rs all => rs = [ptA t v] ∧ all = []) := by
  refine con_of_aw (vars := [.cell 2 29]) [(0, .r (ptA t v))] [] 0 Tryd.func12 (by kernel_rfl) rfl Tryd.ntmps12 rfl (by decide) rfl rfl rfl rfl rfl ?_; intro B M w0 ρ0 Z0
  repeat' (first | (refine is_al ?_; (first | (refine is_load ?_; (first | refine al_v (opx_ld_box rfl) ⟨rfl, trivial⟩ ⟨rfl, trivial⟩ rfl ?_ | refine al_v opx_ld2_box ⟨rfl, trivial⟩ ⟨rfl, trivial⟩ rfl ?_)) | (refine is_fa ?_; refine al_v opx_fa_ref ⟨rfl, trivial⟩ trivial rfl ?_) | (refine is_st ?_; (first | refine al_s (opx_st1_box (by rfl)) ⟨rfl, rfl, trivial⟩ ⟨rfl, trivial⟩ ?_ | refine al_s (opx_sts_box (by rfl) (by rfl)) ⟨rfl, rfl, trivial⟩ ⟨rfl, trivial⟩ ?_)) | refine al_n opx_alloc trivial trivial rfl ?_ | refine al_n opx_boxs ⟨rfl, trivial⟩ trivial rfl ?_ | refine al_nil ?_)) | (refine is_aw ?_; (first | refine aw_seq ?_ | refine aw_region ?_ | refine aw_ret ?_)))
  exact ret_struct trivial rfl rfl (by kernel_rfl) rfl rfl ⟨rfl, rfl⟩
theorem take_set {α : Type} {ps : List α} {z : α} {n k : Nat} {p : α} (hp : ps[k]? = some p) (hn : ps.length = n) : (ps.take k ++ List.replicate (n - k) z).set k p = ps.take (k + 1) ++ List.replicate (n - (k + 1)) z := by
  obtain ⟨hk, rfl⟩ := List.getElem?_eq_some_iff.1 hp
  have hl : (ps.take k).length = k := by simp; omega
  rw [List.set_append_right _ _ (by omega), hl, Nat.sub_self, show n - k = (n - (k + 1)) + 1 by omega, List.replicate_succ, List.set_cons_zero, List.take_succ_eq_append_getElem hk, List.append_assoc]; rfl
theorem c_eqPoint (a b c d : Int) : Con Tryd.prog 19 [ptA a b, ptA c d] [] (fun rs all => rs = [rB (decide (a = c ∧ b = d))] ∧ all = []) := by
  refine con_of_aw (vars := [.tmp 4]) [(0, .r (ptA a b)), (1, .r (ptA c d))] [] 0 Tryd.func19 (by kernel_rfl) rfl Tryd.ntmps19 rfl (by decide) rfl rfl rfl rfl rfl ?_; intro B M w0 ρ0 Z0
  by_cases h1 : a = c
  · have n1 : (!decide (a = c)) = false := by rw [decide_eq_true h1]; rfl
    by_cases h2 : b = d
    · have n2 : (!decide (b = d)) = false := by rw [decide_eq_true h2]; rfl
      repeat' (first | (refine is_al ?_; (first | (refine is_bin ?_; refine al_v opx_neq ⟨rfl, rfl, trivial⟩ trivial rfl ?_) | (refine is_load ?_; refine al_v (opx_ld_box rfl) ⟨rfl, trivial⟩ ⟨rfl, trivial⟩ rfl ?_) | (refine is_fa ?_; refine al_v opx_fa_ref ⟨rfl, trivial⟩ trivial rfl ?_) | (refine is_assign ?_; refine al_v (opx_assign (.raw _)) ⟨rfl, trivial⟩ trivial rfl ?_) | refine al_n opx_boxs ⟨rfl, trivial⟩ trivial rfl ?_ | refine al_nil ?_)) | (refine is_aw ?_; (first | refine aw_seq ?_ | refine aw_region ?_ | refine aw_skip ?_ | refine aw_ret ?_ | (refine is_cond ?_; refine aw_cond_f rfl (by assumption) ?_))))
      exact ret_raw trivial rfl ⟨congrArg (fun b => [rB b]) ((decide_eq_true ⟨h1, h2⟩).symm), rfl⟩
    · have n2 : (!decide (b = d)) = true := by rw [decide_eq_false h2]; rfl
      repeat' (first | (refine is_al ?_; (first | (refine is_bin ?_; refine al_v opx_neq ⟨rfl, rfl, trivial⟩ trivial rfl ?_) | (refine is_load ?_; refine al_v (opx_ld_box rfl) ⟨rfl, trivial⟩ ⟨rfl, trivial⟩ rfl ?_) | (refine is_fa ?_; refine al_v opx_fa_ref ⟨rfl, trivial⟩ trivial rfl ?_) | (refine is_assign ?_; refine al_v (opx_assign (.raw _)) ⟨rfl, trivial⟩ trivial rfl ?_) | refine al_n opx_boxs ⟨rfl, trivial⟩ trivial rfl ?_ | refine al_nil ?_)) | (refine is_aw ?_; (first | refine aw_seq ?_ | refine aw_region ?_ | refine aw_skip ?_ | refine aw_ret ?_ | (refine is_cond ?_; (first | refine aw_cond_t rfl (by assumption) ?_ | refine aw_cond_f rfl (by assumption) ?_)))) | refine thn_r ?_)
      exact ret_raw trivial rfl ⟨congrArg (fun b => [rB b]) ((decide_eq_false (fun h => h2 h.2)).symm), rfl⟩
  · have n1 : (!decide (a = c)) = true := by rw [decide_eq_false h1]; rfl
    repeat' (first | (refine is_al ?_; (first | (refine is_bin ?_; refine al_v opx_neq ⟨rfl, rfl, trivial⟩ trivial rfl ?_) | (refine is_load ?_; refine al_v (opx_ld_box rfl) ⟨rfl, trivial⟩ ⟨rfl, trivial⟩ rfl ?_) | (refine is_fa ?_; refine al_v opx_fa_ref ⟨rfl, trivial⟩ trivial rfl ?_) | (refine is_assign ?_; refine al_v (opx_assign (.raw _)) ⟨rfl, trivial⟩ trivial rfl ?_) | refine al_n opx_boxs ⟨rfl, trivial⟩ trivial rfl ?_ | refine al_nil ?_)) | (refine is_aw ?_; (first | refine aw_seq ?_ | refine aw_region ?_ | refine aw_ret ?_ | (refine is_cond ?_; refine aw_cond_t rfl (by assumption) ?_))) | refine thn_r ?_)
    exact ret_raw trivial rfl ⟨congrArg (fun b => [rB b]) ((decide_eq_false (fun h => h1 h.1)).symm), rfl⟩
/-- Marks. -/
def mkP (k : Int) (n : Nat) : List (Int × Int) := (List.range n).map fun i : Nat => (k + 2 * (i : Int), k + 2 * (i : Int) + 1)
theorem mkP_len {k : Int} {n : Nat} : (mkP k n).length = n := by simp [mkP]
theorem mkP_at {k : Int} {n j : Nat} (h : j < n) : (mkP k n)[j]? = some (k + 2 * (j : Int), k + 2 * (j : Int) + 1) := by simp [mkP, h]
theorem mkP_succ {k : Int} {n : Nat} : mkP k (n + 1) = mkP k n ++ [(k + 2 * (n : Int), k + 2 * (n : Int) + 1)] := by simp [mkP, List.range_succ]
theorem mkP_set {k : Int} {ps : List (Int × Int)} {j : Nat} {p : Int × Int} (hp : ps[j]? = some p) : (mkP k j ++ ps.drop j).set j (k + 2 * (j : Int), k + 2 * (j : Int) + 1) = mkP k (j + 1) ++ ps.drop (j + 1) := by
  obtain ⟨hj, rfl⟩ := List.getElem?_eq_some_iff.1 hp
  rw [List.set_append_right _ _ (by rw [mkP_len]; omega), mkP_len, Nat.sub_self, List.drop_eq_getElem_cons hj, List.set_cons_zero, mkP_succ, List.append_assoc]; rfl
end Go.Proofs.YtllgddednlfhfaaDoor
