/-
  Counts under bounds: the walks, the laws.
-/
import Derived.Test.YtekjcejmmhdnkaaW6
import Derived.Test.YtekjcejmmhdnkaaW3
import Derived.Test.YtekjcejmmhdnkaaPW
namespace Go.Proofs.Ytekjcejmmhdnkaa
open Go.RowKit
set_option linter.unusedVariables false
set_option linter.unusedSimpArgs false
attribute [local irreducible] AL AW OpX Le AD

noncomputable def cuB (ps : List Pt) (bs : List Int) : Bool := vsB ps && vbB bs
noncomputable def cuR (ps : List Pt) (bs : List Int) : List Int := if cuB ps bs = true then cnts ps bs else []
theorem cuB_of {ps : List Pt} {bs : List Int} (h : cuB ps bs = true) : VS ps ∧ vbB bs = true := by
  rw [cuB, Bool.and_eq_true] at h
  exact ⟨vsB_iff.1 h.1, h.2⟩
theorem vbB_len {bs : List Int} (h : vbB bs = true) : bs.length ≤ 8 := by
  rw [vbB, Bool.and_eq_true] at h
  simpa using h.1
theorem c_toInt (b : Bool) : Con Try.prog 60 [rB b] [] (fun rs all => rs = [rI (if b = true then 1 else 0)] ∧ all = []) := by
  refine con_of_aw (vars := [.tmp 2]) [(0, .r (rB b))] [] 0 Try.func60 (by kernel_rfl) rfl Try.ntmps60 rfl (by decide) rfl rfl rfl rfl rfl ?_
  intro B M w0 ρ0 Z0
  cases b
  · repeat' (first | (refine is_al ?_; (first | (refine is_move ?_; refine al_v (opx_move (.raw _)) ⟨rfl, trivial⟩ trivial rfl ?_) | (refine is_assign ?_; refine al_v (opx_assign (.raw _)) ⟨rfl, trivial⟩ trivial rfl ?_) | refine al_nil ?_)) | (refine is_aw ?_; (first | refine aw_seq ?_ | refine aw_region ?_ | refine aw_skip ?_ | refine aw_ret ?_ | (refine is_cond ?_; refine aw_cond_f rfl rfl ?_))))
    exact ret_raw trivial rfl ⟨rfl, rfl⟩
  · repeat' (first | (refine is_al ?_; (first | (refine is_move ?_; refine al_v (opx_move (.raw _)) ⟨rfl, trivial⟩ trivial rfl ?_) | (refine is_assign ?_; refine al_v (opx_assign (.raw _)) ⟨rfl, trivial⟩ trivial rfl ?_) | refine al_nil ?_)) | (refine is_aw ?_; (first | refine aw_seq ?_ | refine aw_region ?_ | refine aw_ret ?_ | (refine is_cond ?_; refine aw_cond_t rfl rfl ?_))) | refine thn_r ?_)
    exact ret_raw trivial rfl ⟨rfl, rfl⟩
/-! ### draws -/
theorem c_copyInts (ns : List Int) (hL : ns.length ≤ 1000000000) : Con Try.prog 80 [slI ns] [] (fun rs all => rs = [.one (.own 0)] ∧ all = [.row 1 3 (inRs ns)]) := by
  have hlen := inRs_len (ns := ns)
  refine con_of_aw (vars := [.tmp 2]) [(0, .r (slI ns))] [] 0 Try.func80 (by kernel_rfl) rfl Try.ntmps80 rfl (by decide) rfl rfl rfl rfl rfl ?_
  intro B M w0 ρ0 Z0
  repeat' (first | (refine is_al ?_; (first | (refine is_move ?_; refine al_v (opx_move (.sl _ _)) ⟨rfl, trivial⟩ trivial rfl ?_) | (refine is_assign ?_; (first | refine al_v (opx_assign (.raw _)) ⟨rfl, trivial⟩ trivial rfl ?_ | refine al_v (opx_assign (.own _)) ⟨rfl, trivial⟩ trivial rfl ?_)) | (refine is_bi ?_; refine al_appeIv rfl rfl rfl rfl rfl (by omega) ?_) | (refine is_bs ?_; refine al_n opx_lit0 trivial trivial rfl ?_) | refine al_nil ?_)) | (refine is_aw ?_; (first | refine aw_seq ?_ | refine aw_region ?_ | refine aw_ret ?_)))
  exact ret_row trivial rfl rfl ⟨rfl, rfl⟩
/-- Numbers that are drawn. -/
abbrev NumP (p d : Int) (N : Nat) (rows : List (List CV)) (q : Int) : Prop := ∃ ns : List Int, rows = inRs ns ∧ p ≤ q ∧ q ≤ p + d ∧ ns.length ≤ N
theorem c_spoil (bs : List UInt8) (p : Int) (ns : List Int) (z : Int) (N : Nat) (hb : bs.length ≤ 1048576) (hp : 0 ≤ p ∧ p ≤ 1099511620000) (hL : ns.length ≤ N) (hN : N ≤ 1000) :
    Con Try.prog 81 [rdA, slI ns, rI z] [rdO bs p] (RdR bs 1 3 (NumP p 10 (N + 1))) := by
  refine con_of_aw (vars := [.tmp 6]) [(0, .ref 0 0), (1, .r (slI ns)), (2, .r (rI z))] [(0, rdO bs p)] 1 Try.func81 (by kernel_rfl) rfl Try.ntmps81 rfl (by decide) rfl rfl rfl rfl rfl ?_
  intro B M w0 ρ0 Z0
  have hlen := inRs_len (ns := ns)
  repeat' (first | (refine is_al ?_; (first | (refine is_move ?_; (first | refine al_v (opx_move (.raw _)) ⟨rfl, trivial⟩ trivial rfl ?_ | refine al_v (opx_move (.sl _ _)) ⟨rfl, trivial⟩ trivial rfl ?_ | refine al_v (opx_move (.own _)) ⟨rfl, trivial⟩ trivial rfl ?_ | refine al_v (opx_move (.ref _ _)) ⟨rfl, trivial⟩ trivial rfl ?_)) | (refine is_bin ?_; (first | refine al_v opx_eql ⟨rfl, rfl, trivial⟩ trivial rfl ?_ | refine al_v opx_gtr ⟨rfl, rfl, trivial⟩ trivial rfl ?_)) | (refine is_assign ?_; (first | refine al_v (opx_assign (.raw _)) ⟨rfl, trivial⟩ trivial rfl ?_ | refine al_v (opx_assign (.own _)) ⟨rfl, trivial⟩ trivial rfl ?_)) | (refine is_bi ?_; refine al_v opx_len_own ⟨rfl, trivial⟩ ⟨rfl, trivial⟩ rfl ?_) | (refine is_call ?_; (first | refine al_callr2 (by (repeat (first | exact .nil | refine .one rfl rfl ?_ | refine .froz rfl rfl ?_ | refine .rnil rfl ?_ | refine .agg rfl (by (repeat (first | exact .nil | refine .cons (.same rfl) ?_ | refine .cons (.froz rfl) ?_ | refine .cons (.rnil) ?_)); (first | done | fail)) ?_)); (first | done | fail)) rfl (c_copyInts _ (by omega)) ?_ | (refine al_rdv 0 rfl rfl (by (repeat (first | exact .nil | refine .one rfl rfl ?_ | refine .tag rfl ?_ | refine .froz rfl rfl ?_ | refine .rnil rfl ?_ | refine .agg rfl (by (repeat (first | exact .nil | refine .cons (.same rfl) ?_ | refine .cons (.froz rfl) ?_ | refine .cons (.rnil) ?_)); (first | done | fail)) ?_)); (first | done | fail)) rfl (c_pick _ _ _ hb (by omega) (by omega)) ?_; rintro r q ⟨rfl, ha1, ha2, ha3⟩) | (refine al_rdv 0 rfl rfl (by (repeat (first | exact .nil | refine .one rfl rfl ?_ | refine .tag rfl ?_ | refine .froz rfl rfl ?_ | refine .rnil rfl ?_ | refine .agg rfl (by (repeat (first | exact .nil | refine .cons (.same rfl) ?_ | refine .cons (.froz rfl) ?_ | refine .cons (.rnil) ?_)); (first | done | fail)) ?_)); (first | done | fail)) rfl (c_one _ _ _ hb (by omega) (by simp)) ?_; rintro r2 q2 ⟨rfl, hr2⟩))) | (refine is_st ?_; refine al_stI rfl rfl rfl (by assumption) ?_) | (refine is_bs ?_; refine al_pushI ⟨rfl, trivial⟩ rfl rfl rfl rfl rfl (by omega) ?_) | refine al_nil ?_ | refine al_litI [-1, z, 0, 1] (by (repeat (first | exact .nil _ | refine .cons rfl ?_)); (first | done | fail)) rfl rfl rfl ?_ | refine al_n (opx_cutL_own (l := 1) (rows' := inRs (ns.drop 1)) inRs_tl rfl (by omega)) ⟨rfl, rfl, trivial⟩ ⟨rfl, trivial⟩ rfl ?_ | refine al_iaIA rfl rfl rfl (by omega) rfl (fun x hx hx1 hx2 => ?_))) | (refine is_ad ?_; (first | refine al_litI [-1, z, 0, 1] (by (repeat (first | exact .nil _ | refine .cons rfl ?_)); (first | done | fail)) rfl rfl rfl ?_ | refine al_n (opx_cutL_own (l := 1) (rows' := inRs (ns.drop 1)) inRs_tl rfl (by omega)) ⟨rfl, rfl, trivial⟩ ⟨rfl, trivial⟩ rfl ?_ | refine al_iaIA rfl rfl rfl (by omega) rfl (fun x hx hx1 hx2 => ?_))) | (refine is_aw ?_; (first | refine aw_seq ?_ | refine aw_region ?_ | refine aw_skip ?_ | refine aw_block ?_ | refine aw_ret ?_ | (refine is_cond ?_; (refine aw_cond rfl ?_ ?_ <;> ((intro hgd; try exact absurd hgd (by decide)); (try (have hz := hgd; simp only [decide_eq_true_eq, decide_eq_false_iff_not, Bool.not_eq_true', Bool.not_eq_false', Bool.not_true, Bool.not_false, beq_iff_eq, Int.not_le, Int.not_lt] at hz)); (try (exfalso; omega))))))))
  all_goals exact retm_row trivial rfl rfl rfl rfl rfl ⟨_, _, rfl, rfl, _, rfl, by omega, by omega, by first | omega | (simp; omega) | simp⟩
end Go.Proofs.Ytekjcejmmhdnkaa
