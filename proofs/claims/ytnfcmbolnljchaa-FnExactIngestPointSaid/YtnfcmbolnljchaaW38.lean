/-
  The exact statement on points that come: the walks.
-/
import Derived.Test.YtnfcmbolnljchaaW33
import Derived.Test.YtnfcmbolnljchaaW17
import Derived.Test.YtnfcmbolnljchaaEng25
namespace Go.Proofs.Ytnfcmbolnljchaa
open Go.RowKit
set_option linter.unusedVariables false
set_option linter.unusedSimpArgs false
attribute [local irreducible] AL AW OpX Le AD

theorem hdR_ge {left : Int} {n : Nat} (h : ¬ szR left n < 0) : (n : Int) ≤ left ∧ szR left n = left - (n : Int) := by
  unfold szR at h ⊢
  split at h
  · omega
  · rename_i h1; rw [if_neg h1]; omega
theorem hdR_in {left : Int} {n : Nat} (hl : -1 ≤ left ∧ left ≤ 1048576) : -1 ≤ szR left n ∧ szR left n ≤ 1048576 := by
  unfold szR; split <;> omega
def szH (left : Int) (a b : Nat) : Int := if szR left a < 0 then -1 else if szR (szR left a) b < 0 then -1 else szR (szR left a) b
theorem c_szHead (w n : Int) (o c : List Pt) (left : Int) (hl : -1 ≤ left ∧ left ≤ 1048576) (hL : o.length ≤ 9223372036854775807) (hL2 : c.length ≤ 9223372036854775807) :
    Con Try.prog 27 [hdA w n o c, rI left] [] (fun rs all => rs = [rI (szH left o.length c.length)] ∧ all = []) := by
  have s1 := hdR_in (left := left) (n := o.length) hl
  have s2 := hdR_in (left := szR left o.length) (n := c.length) s1
  refine con_of_aw (vars := [.tmp 4]) [(0, .r (hdA w n o c)), (1, .r (rI left))] [] 0 Try.func27 (by kernel_rfl) rfl Try.ntmps27 rfl (by decide) rfl rfl rfl rfl rfl ?_
  intro B M w0 ρ0 Z0
  by_cases h1 : szR left o.length < 0
  · have d1 : decide (szR left o.length < 0) = true := decide_eq_true h1
    have e : szH left o.length c.length = -1 := by rw [szH, if_pos h1]
    rw [e]
    repeat' (first | (refine is_al ?_; (first | (refine is_move ?_; refine al_v (opx_move (.raw _)) ⟨rfl, trivial⟩ trivial rfl ?_) | (refine is_bin ?_; refine al_v opx_lss ⟨rfl, rfl, trivial⟩ trivial rfl ?_) | (refine is_load ?_; refine al_v (opx_ld_box rfl) ⟨rfl, trivial⟩ ⟨rfl, trivial⟩ rfl ?_) | (refine is_fa ?_; refine al_v opx_fa_ref ⟨rfl, trivial⟩ trivial rfl ?_) | (refine is_assign ?_; refine al_v (opx_assign (.raw _)) ⟨rfl, trivial⟩ trivial rfl ?_) | (refine is_call ?_; (first | refine al_callv2 (by (repeat (first | exact .nil | refine .one rfl rfl ?_ | refine .froz rfl rfl ?_ | refine .row rfl rfl ?_ | refine .rnil rfl ?_ | refine .agg rfl (by (repeat (first | exact .nil | refine .cons (.same rfl) ?_ | refine .cons (.froz rfl) ?_ | refine .cons (.rnil) ?_ | refine .cons (.row rfl rfl) ?_)); (first | done | fail)) ?_)); (first | done | fail)) rfl (c_szPointS _ _ (by omega) (by omega)) rfl ?_ | refine al_callv2 (by (repeat (first | exact .nil | refine .one rfl rfl ?_ | refine .froz rfl rfl ?_ | refine .row rfl rfl ?_ | refine .rnil rfl ?_ | refine .agg rfl (by (repeat (first | exact .nil | refine .cons (.same rfl) ?_ | refine .cons (.froz rfl) ?_ | refine .cons (.rnil) ?_ | refine .cons (.row rfl rfl) ?_)); (first | done | fail)) ?_)); (first | done | fail)) rfl (c_szPointS _ _ (by omega) (by omega)) rfl ?_)) | refine al_n opx_boxs ⟨rfl, trivial⟩ trivial rfl ?_ | refine al_nil ?_)) | (refine is_aw ?_; (first | refine aw_seq ?_ | refine aw_region ?_ | refine aw_ret ?_ | (refine is_cond ?_; refine aw_cond_t rfl (by assumption) ?_))) | refine thn_r ?_)
    exact ret_raw trivial rfl ⟨rfl, rfl⟩
  have d1 : decide (szR left o.length < 0) = false := decide_eq_false h1
  by_cases h2 : szR (szR left o.length) c.length < 0
  · have d2 : decide (szR (szR left o.length) c.length < 0) = true := decide_eq_true h2
    have e : szH left o.length c.length = -1 := by rw [szH, if_neg h1, if_pos h2]
    rw [e]
    repeat' (first | (refine is_al ?_; (first | (refine is_move ?_; refine al_v (opx_move (.raw _)) ⟨rfl, trivial⟩ trivial rfl ?_) | (refine is_bin ?_; refine al_v opx_lss ⟨rfl, rfl, trivial⟩ trivial rfl ?_) | (refine is_load ?_; refine al_v (opx_ld_box rfl) ⟨rfl, trivial⟩ ⟨rfl, trivial⟩ rfl ?_) | (refine is_fa ?_; refine al_v opx_fa_ref ⟨rfl, trivial⟩ trivial rfl ?_) | (refine is_assign ?_; refine al_v (opx_assign (.raw _)) ⟨rfl, trivial⟩ trivial rfl ?_) | (refine is_call ?_; refine al_callv2 (by (repeat (first | exact .nil | refine .one rfl rfl ?_ | refine .froz rfl rfl ?_ | refine .row rfl rfl ?_ | refine .rnil rfl ?_ | refine .agg rfl (by (repeat (first | exact .nil | refine .cons (.same rfl) ?_ | refine .cons (.froz rfl) ?_ | refine .cons (.rnil) ?_ | refine .cons (.row rfl rfl) ?_)); (first | done | fail)) ?_)); (first | done | fail)) rfl (c_szPointS _ _ (by omega) (by omega)) rfl ?_) | refine al_n opx_boxs ⟨rfl, trivial⟩ trivial rfl ?_ | refine al_nil ?_)) | (refine is_aw ?_; (first | refine aw_seq ?_ | refine aw_region ?_ | refine aw_skip ?_ | refine aw_ret ?_ | (refine is_cond ?_; (first | refine aw_cond_t rfl (by assumption) ?_ | refine aw_cond_f rfl (by assumption) ?_)))) | refine thn_r ?_)
    exact ret_raw trivial rfl ⟨rfl, rfl⟩
  have d2 : decide (szR (szR left o.length) c.length < 0) = false := decide_eq_false h2
  have e : szH left o.length c.length = szR (szR left o.length) c.length := by rw [szH, if_neg h1, if_neg h2]
  rw [e]
  repeat' (first | (refine is_al ?_; (first | (refine is_move ?_; refine al_v (opx_move (.raw _)) ⟨rfl, trivial⟩ trivial rfl ?_) | (refine is_bin ?_; refine al_v opx_lss ⟨rfl, rfl, trivial⟩ trivial rfl ?_) | (refine is_load ?_; refine al_v (opx_ld_box rfl) ⟨rfl, trivial⟩ ⟨rfl, trivial⟩ rfl ?_) | (refine is_fa ?_; refine al_v opx_fa_ref ⟨rfl, trivial⟩ trivial rfl ?_) | (refine is_assign ?_; refine al_v (opx_assign (.raw _)) ⟨rfl, trivial⟩ trivial rfl ?_) | (refine is_call ?_; refine al_callv2 (by (repeat (first | exact .nil | refine .one rfl rfl ?_ | refine .froz rfl rfl ?_ | refine .row rfl rfl ?_ | refine .rnil rfl ?_ | refine .agg rfl (by (repeat (first | exact .nil | refine .cons (.same rfl) ?_ | refine .cons (.froz rfl) ?_ | refine .cons (.rnil) ?_ | refine .cons (.row rfl rfl) ?_)); (first | done | fail)) ?_)); (first | done | fail)) rfl (c_szPointS _ _ (by omega) (by omega)) rfl ?_) | refine al_n opx_boxs ⟨rfl, trivial⟩ trivial rfl ?_ | refine al_nil ?_)) | (refine is_aw ?_; (first | refine aw_seq ?_ | refine aw_region ?_ | refine aw_skip ?_ | refine aw_ret ?_ | (refine is_cond ?_; refine aw_cond_f rfl (by assumption) ?_))))
  exact ret_raw trivial rfl ⟨rfl, rfl⟩
theorem c_toHead (w n : Int) (o c : List Pt) (hL : o.length ≤ 2000000) (hL2 : c.length ≤ 2000000) :
    Con Try.prog 28 [hdA w n o c] [] (fun rs all => rs = [.agg [.c (cI w), .c (cI n), .own 0, .own 1]] ∧ all = [.row 2 33 (ptRs o), .row 2 33 (ptRs c)]) := by
  refine con_of_aw (vars := [.cell 2 25]) [(0, .r (hdA w n o c))] [] 0 Try.func28 (by kernel_rfl) rfl Try.ntmps28 rfl (by decide) rfl rfl rfl rfl rfl ?_
  intro B M w0 ρ0 Z0
  repeat' (first | (refine is_al ?_; (first | (refine is_load ?_; (first | refine al_v (opx_ld_box rfl) ⟨rfl, trivial⟩ ⟨rfl, trivial⟩ rfl ?_ | refine al_v opx_ld4_box ⟨rfl, trivial⟩ ⟨rfl, trivial⟩ rfl ?_)) | (refine is_fa ?_; refine al_v opx_fa_ref ⟨rfl, trivial⟩ trivial rfl ?_) | (refine is_call ?_; refine al_callr2 (by (repeat (first | exact .nil | refine .one rfl rfl ?_ | refine .froz rfl rfl ?_ | refine .rnil rfl ?_ | refine .agg rfl (by (repeat (first | exact .nil | refine .cons (.same rfl) ?_ | refine .cons (.froz rfl) ?_ | refine .cons (.rnil) ?_)); (first | done | fail)) ?_)); (first | done | fail)) rfl (c_toPointS _ (by omega)) ?_) | (refine is_st ?_; (first | refine al_s (opx_st1_box (by rfl)) ⟨rfl, rfl, trivial⟩ ⟨rfl, trivial⟩ ?_ | refine al_s (opx_sts_box (by rfl) (by rfl)) ⟨rfl, rfl, trivial⟩ ⟨rfl, trivial⟩ ?_)) | refine al_n opx_alloc trivial trivial rfl ?_ | refine al_n opx_boxs ⟨rfl, trivial⟩ trivial rfl ?_ | refine al_nil ?_)) | (refine is_aw ?_; (first | refine aw_seq ?_ | refine aw_region ?_ | refine aw_ret ?_)))
  exact ret_cell4 trivial rfl rfl (by kernel_rfl) rfl rfl rfl ⟨rfl, rfl⟩
theorem c_toHead' (w n : Int) (o c : List Pt) (hL : o.length ≤ 2000000) (hL2 : c.length ≤ 2000000) :
    Con Try.prog 28 [hdA w n o c] [] (fun rs all => rs = [hdA w n o c] ∧ all = []) :=
  (c_toHead w n o c hL hL2).frozA fun rs all ⟨h1, h2⟩ => by subst h1 h2; exact ⟨⟨rfl, rfl⟩, rfl⟩
theorem c_eqHead (w n : Int) (o c : List Pt) (hL : o.length < 4611686018427387904) (hL2 : c.length < 4611686018427387904) :
    Con Try.prog 30 [hdA w n o c, hdA w n o c] [] (fun rs all => rs = [rB true] ∧ all = []) := by
  refine con_of_aw (vars := [.tmp 4]) [(0, .r (hdA w n o c)), (1, .r (hdA w n o c))] [] 0 Try.func30 (by kernel_rfl) rfl Try.ntmps30 rfl (by decide) rfl rfl rfl rfl rfl ?_
  intro B M w0 ρ0 Z0
  have d1 : (!decide (w = w)) = false := neD _
  have d2 : (!decide (n = n)) = false := neD _
  have d3 : (!decide (o = o)) = false := neD _
  have d4 : (!decide (c = c)) = false := neD _
  repeat' (first | (refine is_al ?_; (first | (refine is_bin ?_; refine al_v opx_neq ⟨rfl, rfl, trivial⟩ trivial rfl ?_) | (refine is_load ?_; refine al_v (opx_ld_box rfl) ⟨rfl, trivial⟩ ⟨rfl, trivial⟩ rfl ?_) | (refine is_fa ?_; refine al_v opx_fa_ref ⟨rfl, trivial⟩ trivial rfl ?_) | (refine is_assign ?_; refine al_v (opx_assign (.raw _)) ⟨rfl, trivial⟩ trivial rfl ?_) | (refine is_call ?_; (first | refine al_callv2 (by (repeat (first | exact .nil | refine .one rfl rfl ?_ | refine .froz rfl rfl ?_ | refine .row rfl rfl ?_ | refine .rnil rfl ?_ | refine .agg rfl (by (repeat (first | exact .nil | refine .cons (.same rfl) ?_ | refine .cons (.froz rfl) ?_ | refine .cons (.rnil) ?_ | refine .cons (.row rfl rfl) ?_)); (first | done | fail)) ?_)); (first | done | fail)) rfl (c_eqPointS _ _ hL) rfl ?_ | refine al_callv2 (by (repeat (first | exact .nil | refine .one rfl rfl ?_ | refine .froz rfl rfl ?_ | refine .row rfl rfl ?_ | refine .rnil rfl ?_ | refine .agg rfl (by (repeat (first | exact .nil | refine .cons (.same rfl) ?_ | refine .cons (.froz rfl) ?_ | refine .cons (.rnil) ?_ | refine .cons (.row rfl rfl) ?_)); (first | done | fail)) ?_)); (first | done | fail)) rfl (c_eqPointS _ _ hL2) rfl ?_)) | refine al_v opx_not ⟨rfl, trivial⟩ trivial rfl ?_ | refine al_n opx_boxs ⟨rfl, trivial⟩ trivial rfl ?_ | refine al_nil ?_)) | (refine is_aw ?_; (first | refine aw_seq ?_ | refine aw_region ?_ | refine aw_skip ?_ | refine aw_ret ?_ | (refine is_cond ?_; refine aw_cond_f rfl (by assumption) ?_))))
  exact ret_raw trivial rfl ⟨congrArg (fun b => [rB b]) (rfl), rfl⟩
abbrev mkH (k : Int) (a b : Nat) : Int := k + 2 * (a : Int) + 2 * (b : Int)
theorem c_markHead (w n : Int) (o c : List Pt) (k : Int) (hk : 0 ≤ k ∧ k ≤ 1000000000) (hL : o.length ≤ 100000000) (hL2 : c.length ≤ 100000000) :
    Con Try.prog 31 [.agg [.c (cI w), .c (cI n), .own 0, .own 1], rI k] [.row 2 33 (ptRs o), .row 2 33 (ptRs c)]
      (fun rs all => rs = [.one (.c (.raw (.int .i64 (mkH k o.length c.length))))] ∧ all = [.row 2 33 (ptRs (mkP k o.length)), .row 2 33 (ptRs (mkP (k + 2 * (o.length : Int)) c.length))]) := by
  refine con_of_aw (vars := [.tmp 4]) [(0, .agg [.c (cI w), .c (cI n), .own 0, .own 1]), (1, .r (rI k))] [(0, .row 2 33 (ptRs o)), (1, .row 2 33 (ptRs c))] 2 Try.func31 (by kernel_rfl) rfl Try.ntmps31 rfl (by decide) rfl rfl rfl rfl rfl ?_
  intro B M w0 ρ0 Z0
  repeat' (first | (refine is_al ?_; (first | (refine is_move ?_; refine al_v (opx_move (.raw _)) ⟨rfl, trivial⟩ trivial rfl ?_) | (refine is_load ?_; refine al_v (opx_ld_box rfl) ⟨rfl, trivial⟩ ⟨rfl, trivial⟩ rfl ?_) | (refine is_fa ?_; refine al_v opx_fa_ref ⟨rfl, trivial⟩ trivial rfl ?_) | (refine is_assign ?_; refine al_v (opx_assign (.raw _)) ⟨rfl, trivial⟩ trivial rfl ?_) | (refine is_call ?_; (first | refine al_mark 0 rfl rfl (by (repeat (first | exact .nil | refine .one rfl rfl ?_ | refine .tag rfl ?_ | refine .froz rfl rfl ?_ | refine .rnil rfl ?_ | refine .agg rfl (by (repeat (first | exact .nil | refine .cons (.same rfl) ?_ | refine .cons (.froz rfl) ?_ | refine .cons (.rnil) ?_)); (first | done | fail)) ?_)); (first | done | fail)) rfl (c_markPointS _ _ (by omega) (by omega)) ?_ | refine al_mark 1 rfl rfl (by (repeat (first | exact .nil | refine .one rfl rfl ?_ | refine .tag rfl ?_ | refine .froz rfl rfl ?_ | refine .rnil rfl ?_ | refine .agg rfl (by (repeat (first | exact .nil | refine .cons (.same rfl) ?_ | refine .cons (.froz rfl) ?_ | refine .cons (.rnil) ?_)); (first | done | fail)) ?_)); (first | done | fail)) rfl (c_markPointS _ _ (by omega) (by omega)) ?_)) | refine al_n opx_boxs ⟨rfl, trivial⟩ trivial rfl ?_ | refine al_nil ?_)) | (refine is_aw ?_; (first | refine aw_seq ?_ | refine aw_region ?_ | refine aw_ret ?_)))
  exact retm2_raw trivial rfl rfl rfl ⟨rfl, rfl⟩
theorem c_heldHead (w n : Int) (a b : Nat) (k : Int) (hk : 0 ≤ k ∧ k ≤ 1000000000) (hL : a ≤ 100000000) (hL2 : b ≤ 100000000) :
    Con Try.prog 32 [hdA w n (mkP k a) (mkP (k + 2 * (a : Int)) b), rI k] [] (fun rs all => rs = [rI (mkH k a b)] ∧ all = []) := by
  refine con_of_aw (vars := [.tmp 4]) [(0, .r (hdA w n (mkP k a) (mkP (k + 2 * (a : Int)) b))), (1, .r (rI k))] [] 0 Try.func32 (by kernel_rfl) rfl Try.ntmps32 rfl (by decide) rfl rfl rfl rfl rfl ?_
  intro B M w0 ρ0 Z0
  have d1 : decide (k + 2 * (a : Int) < 0) = false := decide_eq_false (by omega)
  have d2 : decide (mkH k a b < 0) = false := decide_eq_false (by unfold mkH; omega)
  repeat' (first | (refine is_al ?_; (first | (refine is_move ?_; refine al_v (opx_move (.raw _)) ⟨rfl, trivial⟩ trivial rfl ?_) | (refine is_bin ?_; refine al_v opx_lss ⟨rfl, rfl, trivial⟩ trivial rfl ?_) | (refine is_load ?_; refine al_v (opx_ld_box rfl) ⟨rfl, trivial⟩ ⟨rfl, trivial⟩ rfl ?_) | (refine is_fa ?_; refine al_v opx_fa_ref ⟨rfl, trivial⟩ trivial rfl ?_) | (refine is_assign ?_; refine al_v (opx_assign (.raw _)) ⟨rfl, trivial⟩ trivial rfl ?_) | (refine is_call ?_; refine al_callv2 (by (repeat (first | exact .nil | refine .one rfl rfl ?_ | refine .froz rfl rfl ?_ | refine .row rfl rfl ?_ | refine .rnil rfl ?_ | refine .agg rfl (by (repeat (first | exact .nil | refine .cons (.same rfl) ?_ | refine .cons (.froz rfl) ?_ | refine .cons (.rnil) ?_ | refine .cons (.row rfl rfl) ?_)); (first | done | fail)) ?_)); (first | done | fail)) rfl (c_heldPointS _ _ (by omega) (by omega)) rfl ?_) | refine al_n opx_boxs ⟨rfl, trivial⟩ trivial rfl ?_ | refine al_nil ?_)) | (refine is_aw ?_; (first | refine aw_seq ?_ | refine aw_region ?_ | refine aw_skip ?_ | refine aw_ret ?_ | (refine is_cond ?_; refine aw_cond_f rfl (by assumption) ?_))))
  exact ret_raw trivial rfl ⟨rfl, rfl⟩
theorem ig_len {w n : Int} {o c : List Pt} {p : Pt} : (igO (ingB w n o c p) w n o c p).length ≤ 16 ∧ (igC (ingB w n o c p) w n o c p).length ≤ 16 := by
  cases h : ingB w n o c p
  · exact ⟨Nat.zero_le _, Nat.zero_le _⟩
  · exact (ingB_of h).2
theorem c_fnExactIngestPoint (w n : Int) (o c : List Pt) (t v : Int) (hLa : o.length ≤ 9223372036854775807) (hLb : c.length ≤ 9223372036854775807) : Con Try.prog 8 [hdA w n o c, ptA t v] [] (fun rs all => rs = [rB true] ∧ all = []) := by
  refine con_of_aw (vars := [.tmp 4]) [(0, .r (hdA w n o c)), (1, .r (ptA t v))] [] 0 Try.func8 (by kernel_rfl) rfl Try.ntmps8 rfl (by decide) rfl rfl rfl rfl rfl ?_
  intro B M w0 ρ0 Z0
  by_cases h1 : szH 1048576 o.length c.length < 0
  · have d1 : decide (szH 1048576 o.length c.length < 0) = true := decide_eq_true h1
    repeat' (first | (refine is_al ?_; (first | (refine is_move ?_; refine al_v (opx_move (.raw _)) ⟨rfl, trivial⟩ trivial rfl ?_) | (refine is_bin ?_; refine al_v opx_lss ⟨rfl, rfl, trivial⟩ trivial rfl ?_) | (refine is_load ?_; refine al_v opx_ld4_box ⟨rfl, trivial⟩ ⟨rfl, trivial⟩ rfl ?_) | (refine is_assign ?_; refine al_v (opx_assign (.raw _)) ⟨rfl, trivial⟩ trivial rfl ?_) | (refine is_call ?_; refine al_callv2 (by (repeat (first | exact .nil | refine .one rfl rfl ?_ | refine .froz rfl rfl ?_ | refine .row rfl rfl ?_ | refine .rnil rfl ?_ | refine .agg rfl (by (repeat (first | exact .nil | refine .cons (.same rfl) ?_ | refine .cons (.froz rfl) ?_ | refine .cons (.rnil) ?_ | refine .cons (.row rfl rfl) ?_)); (first | done | fail)) ?_)); (first | done | fail)) rfl (c_szHead _ _ _ _ _ (by omega) (by omega) (by omega)) rfl ?_) | refine al_n opx_boxs ⟨rfl, trivial⟩ trivial rfl ?_ | refine al_nil ?_)) | (refine is_aw ?_; (first | refine aw_seq ?_ | refine aw_region ?_ | refine aw_ret ?_ | (refine is_cond ?_; refine aw_cond_t rfl (by assumption) ?_))) | refine thn_r ?_)
    exact ret_raw trivial rfl ⟨congrArg (fun b => [rB b]) (rfl), rfl⟩
  have d1 : decide (szH 1048576 o.length c.length < 0) = false := decide_eq_false h1
  obtain ⟨g1, g2⟩ : (o.length : Int) ≤ 1048576 ∧ (c.length : Int) ≤ 1048576 := by
    unfold szH at h1
    split at h1
    · omega
    · rename_i z1
      split at h1
      · omega
      · rename_i z2
        obtain ⟨a1, a2⟩ := hdR_ge z1
        obtain ⟨b1, b2⟩ := hdR_ge z2
        omega
  obtain ⟨l1, l2⟩ := ig_len (w := w) (n := n) (o := o) (c := c) (p := (t, v))
  have cI1 := c_IngestPoint w n o c t v
  have cI2 := c_IngestPoint' w n o c t v
  have cS := c_sIngestPoint w n o c t v (by omega) (by omega)
  dsimp only [igV, igA] at cI1 cI2 cS
  generalize igO (ingB w n o c (t, v)) w n o c (t, v) = OO at l1 cI1 cI2 cS
  generalize igC (ingB w n o c (t, v)) w n o c (t, v) = CC at l2 cI1 cI2 cS
  generalize iSel (ingB w n o c (t, v)) w 0 = WW at cI1 cI2 cS
  generalize iSel (ingB w n o c (t, v)) (max n t) 0 = NN at cI1 cI2 cS
  generalize ingB w n o c (t, v) = BB at cI1 cI2 cS
  have hB := neBB BB
  have n1 : (!true) = false := rfl
  have hm1 : decide (mkH 1 o.length c.length < 0) = false := decide_eq_false (by unfold mkH; omega)
  have hm2 : decide (mkH 1 OO.length CC.length < 0) = false := decide_eq_false (by unfold mkH; omega)
  have hm3 : (!decide (mkH 1 OO.length CC.length = mkH 1 OO.length CC.length)) = false := neD _
  repeat' (first | (refine is_al ?_; (first | (refine is_gd ?_; refine al_on rfl rfl rfl (by assumption) ?_) | (refine is_move ?_; refine al_v (opx_move (.raw _)) ⟨rfl, trivial⟩ trivial rfl ?_) | (refine is_bin ?_; (first | refine al_v opx_neq ⟨rfl, rfl, trivial⟩ trivial rfl ?_ | refine al_v opx_lss ⟨rfl, rfl, trivial⟩ trivial rfl ?_ | refine al_v opx_bneq ⟨rfl, rfl, trivial⟩ trivial rfl ?_)) | (refine is_load ?_; refine al_v opx_ld4_box ⟨rfl, trivial⟩ ⟨rfl, trivial⟩ rfl ?_) | (refine is_assign ?_; refine al_v (opx_assign (.raw _)) ⟨rfl, trivial⟩ trivial rfl ?_) | (refine is_pick ?_; refine al_v (opx_pick_f (.raw _) rfl) ⟨rfl, rfl, trivial⟩ trivial rfl ?_) | (refine is_call ?_; (first | refine al_callv2 (by (repeat (first | exact .nil | refine .one rfl rfl ?_ | refine .froz rfl rfl ?_ | refine .row rfl rfl ?_ | refine .rnil rfl ?_ | refine .agg rfl (by (repeat (first | exact .nil | refine .cons (.same rfl) ?_ | refine .cons (.froz rfl) ?_ | refine .cons (.rnil) ?_ | refine .cons (.row rfl rfl) ?_)); (first | done | fail)) ?_)); (first | done | fail)) rfl (c_szHead _ _ _ _ _ (by omega) (by omega) (by omega)) rfl ?_ | refine al_call4 (by (repeat (first | exact .nil | refine .one rfl rfl ?_ | refine .froz rfl rfl ?_ | refine .rnil rfl ?_ | refine .agg rfl (by (repeat (first | exact .nil | refine .cons (.same rfl) ?_ | refine .cons (.froz rfl) ?_ | refine .cons (.rnil) ?_)); (first | done | fail)) ?_)); (first | done | fail)) rfl (c_toHead _ _ _ _ (by omega) (by omega)) ?_ | refine al_callv2 (by (repeat (first | exact .nil | refine .one rfl rfl ?_ | refine .froz rfl rfl ?_ | refine .row rfl rfl ?_ | refine .rnil rfl ?_ | refine .agg rfl (by (repeat (first | exact .nil | refine .cons (.same rfl) ?_ | refine .cons (.froz rfl) ?_ | refine .cons (.rnil) ?_ | refine .cons (.row rfl rfl) ?_)); (first | done | fail)) ?_)); (first | done | fail)) rfl (c_eqHead _ _ _ _ (by omega) (by omega)) rfl ?_ | refine al_mark2 3 4 rfl rfl rfl rfl rfl (by (repeat (first | exact .nil | refine .one rfl rfl ?_ | refine .tag rfl ?_ | refine .froz rfl rfl ?_ | refine .rnil rfl ?_ | refine .agg rfl (by (repeat (first | exact .nil | refine .cons (.same rfl) ?_ | refine .cons (.froz rfl) ?_ | refine .cons (.rnil) ?_)); (first | done | fail)) ?_)); (first | done | fail)) rfl (c_markHead _ _ _ _ _ (by omega) (by omega) (by omega)) ?_ | refine al_mark2 6 7 rfl rfl rfl rfl rfl (by (repeat (first | exact .nil | refine .one rfl rfl ?_ | refine .tag rfl ?_ | refine .froz rfl rfl ?_ | refine .rnil rfl ?_ | refine .agg rfl (by (repeat (first | exact .nil | refine .cons (.same rfl) ?_ | refine .cons (.froz rfl) ?_ | refine .cons (.rnil) ?_)); (first | done | fail)) ?_)); (first | done | fail)) rfl (c_markHead _ _ _ _ _ (by omega) (by omega) (by omega)) ?_ | refine al_callv2 (by (repeat (first | exact .nil | refine .one rfl rfl ?_ | refine .froz rfl rfl ?_ | refine .row rfl rfl ?_ | refine .rnil rfl ?_ | refine .agg rfl (by (repeat (first | exact .nil | refine .cons (.same rfl) ?_ | refine .cons (.froz rfl) ?_ | refine .cons (.rnil) ?_ | refine .cons (.row rfl rfl) ?_)); (first | done | fail)) ?_)); (first | done | fail)) rfl (c_heldHead _ _ _ _ _ (by omega) (by omega) (by omega)) rfl ?_)) | (refine is_st ?_; refine al_s (opx_sts_box (by rfl) (by rfl)) ⟨rfl, rfl, trivial⟩ ⟨rfl, trivial⟩ ?_) | refine al_v opx_not ⟨rfl, trivial⟩ trivial rfl ?_ | refine al_n opx_alloc trivial trivial rfl ?_ | refine al_n opx_boxs ⟨rfl, trivial⟩ trivial rfl ?_ | refine al_nil ?_)) | (refine is_ad ?_; (first | (refine isd_move ?_; refine ad_v (opx_move (.tup _)) ⟨rfl, trivial⟩ trivial rfl ?_) | (refine isd_load ?_; (first | refine ad_v opx_ld2_box ⟨rfl, trivial⟩ ⟨rfl, trivial⟩ rfl ?_ | refine ad_v opx_ld4_box ⟨rfl, trivial⟩ ⟨rfl, trivial⟩ rfl ?_)) | (refine isd_assign ?_; refine ad_v (opx_assign (.raw _)) ⟨rfl, trivial⟩ trivial rfl ?_) | (refine isd_call ?_; (first | refine ad_callv2 (by (repeat (first | exact .nil | refine .one rfl rfl ?_ | refine .froz rfl rfl ?_ | refine .row rfl rfl ?_ | refine .rnil rfl ?_ | refine .agg rfl (by (repeat (first | exact .nil | refine .cons (.same rfl) ?_ | refine .cons (.froz rfl) ?_ | refine .cons (.rnil) ?_ | refine .cons (.row rfl rfl) ?_)); (first | done | fail)) ?_)); (first | done | fail)) rfl (c_eqHead _ _ _ _ (by omega) (by omega)) rfl ?_ | refine ad_callF2 (by (repeat (first | exact .nil | refine .one rfl rfl ?_ | refine .froz rfl rfl ?_ | refine .rnil rfl ?_)); (first | done | fail)) rfl (c_toHead' _ _ _ _ (by omega) (by omega)) rfl ?_ | refine ad_callF2 (by (repeat (first | exact .nil | refine .one rfl rfl ?_ | refine .froz rfl rfl ?_ | refine .rnil rfl ?_)); (first | done | fail)) rfl (c_toPoint _ _) rfl ?_ | refine ad_callF2 (by (repeat (first | exact .nil | refine .one rfl rfl ?_ | refine .froz rfl rfl ?_ | refine .rnil rfl ?_)); (first | done | fail)) rfl (cS) rfl ?_ | refine ad_call4b (by (repeat (first | exact .nil | refine .one rfl rfl ?_ | refine .froz rfl rfl ?_ | refine .row rfl rfl ?_ | refine .rnil rfl ?_ | refine .agg rfl (by (repeat (first | exact .nil | refine .cons (.same rfl) ?_ | refine .cons (.froz rfl) ?_ | refine .cons (.rnil) ?_ | refine .cons (.row rfl rfl) ?_)); (first | done | fail)) ?_)); (first | done | fail)) rfl (cI1) (by first | assumption | exact ptRs_flat | exact inRs_flat | exact byRs_flat | exact lbRs_flat | exact stRs_flat | exact rcRs_flat | simp [flatRows, CV.flat]) (by first | assumption | exact ptRs_flat | exact inRs_flat | exact byRs_flat | exact lbRs_flat | exact stRs_flat | exact rcRs_flat | simp [flatRows, CV.flat]) ?_)) | (refine isd_st ?_; refine ad_s (opx_sts_box (by rfl) (by rfl)) ⟨rfl, rfl, trivial⟩ ⟨rfl, trivial⟩ ?_) | refine ad_v opx_not ⟨rfl, trivial⟩ trivial rfl ?_ | refine ad_v (opx_extract _ rfl) ⟨rfl, trivial⟩ trivial rfl ?_ | refine ad_n opx_alloc trivial trivial rfl ?_ | refine ad_nil (by kernel_rfl) ?_)) | (refine is_aw ?_; (first | refine aw_seq ?_ | refine aw_region ?_ | refine aw_skip ?_ | refine aw_ret ?_ | (refine is_cond ?_; (first | refine aw_cond_f rfl rfl ?_ | refine aw_cond_f rfl (by assumption) ?_)) | refine aw_draw mixed ?_)))
  exact ret_raw trivial rfl ⟨congrArg (fun b => [rB b]) (rfl), rfl⟩
end Go.Proofs.Ytnfcmbolnljchaa
