/-
  The checks of a series: the walks.
-/
import Derived.Test.YtoalaimmgmehaaaDat3
namespace Go.Proofs.Ytoalaimmgmehaaa
open Go.RowKit
set_option linter.unusedVariables false
set_option linter.unusedSimpArgs false
attribute [local irreducible] AL AW OpX Le AD

theorem c_inRange (x lo hi : Int) : Con Try.prog 63 [rI x, rI lo, rI hi] [] (fun rs all => rs = [rB (decide (lo ≤ x ∧ x ≤ hi))] ∧ all = []) := by
  refine con_of_aw (vars := [.tmp 6]) [(0, .r (rI x)), (1, .r (rI lo)), (2, .r (rI hi))] [] 0 Try.func63 (by kernel_rfl) rfl Try.ntmps63 rfl (by decide) rfl rfl rfl rfl rfl ?_
  intro B M w0 ρ0 Z0
  repeat' (first | (refine is_al ?_; (first | (refine is_gd ?_; (first | refine al_on rfl rfl rfl (by assumption) ?_ | refine al_off rfl rfl rfl (by assumption) rfl ?_ | (refine al_g rfl rfl rfl rfl ?_ ?_ <;> ((intro hgd; try exact absurd hgd (by decide)); (try (have hz := hgd; simp only [decide_eq_true_eq, decide_eq_false_iff_not, Bool.not_eq_true', Bool.not_eq_false', Bool.not_true, Bool.not_false, beq_iff_eq, Int.not_le, Int.not_lt] at hz)); (try (exfalso; omega)))))) | (refine is_move ?_; refine al_v (opx_move (.raw _)) ⟨rfl, trivial⟩ trivial rfl ?_) | (refine is_bin ?_; refine al_v opx_leq ⟨rfl, rfl, trivial⟩ trivial rfl ?_) | (refine is_assign ?_; refine al_v (opx_assign (.raw _)) ⟨rfl, trivial⟩ trivial rfl ?_) | (refine is_pick ?_; (first | refine al_v (opx_pick_t (.raw _) (by assumption)) ⟨rfl, rfl, trivial⟩ trivial rfl ?_ | refine al_v (opx_pick_f (.raw _) (by assumption)) ⟨rfl, rfl, trivial⟩ trivial rfl ?_)) | refine al_nil ?_)) | (refine is_aw ?_; (first | refine aw_seq ?_ | refine aw_region ?_ | refine aw_ret ?_)))
  all_goals exact ret_raw trivial rfl ⟨(congrArg (fun b => [rB b]) (by rw [Bool.eq_iff_iff]; simp only [decide_eq_true_eq, Bool.false_eq_true, Bool.and_eq_true, Bool.or_eq_true, Bool.not_eq_true', decide_eq_false_iff_not, false_iff, true_iff, iff_false, iff_true]; omega)), rfl⟩

/-! ### windows -/
noncomputable def vwB (ps : List (Int × Int)) (w : Int) : Bool := vsB ps && decide (1 ≤ w ∧ w ≤ 16)
end Go.Proofs.Ytoalaimmgmehaaa
