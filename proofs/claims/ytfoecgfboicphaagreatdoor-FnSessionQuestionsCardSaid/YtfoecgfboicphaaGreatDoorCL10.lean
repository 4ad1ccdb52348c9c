/- Texts: W1 Eng27 -/
import Derived.Test.YtfoecgfboicphaaGreatDoorCL9
import Derived.Test.YtfoecgfboicphaaGreatDoorCL8
import Derived.Lib.SlBytesRow
/-
  The checks of a series: the walks.
-/
namespace Go.Proofs.YtfoecgfboicphaaGreatDoor
open Go.RowKit
set_option linter.unusedVariables false
set_option linter.unusedSimpArgs false
attribute [local irreducible] AL AW OpX Le AD

theorem c_validPoint (t v : Int) : Con Tryz.prog 48 [ptA t v] [] (fun rs all => rs = [rB (decide (0 ≤ t ∧ t ≤ 1000 ∧ -1000 ≤ v ∧ v ≤ 1000))] ∧ all = []) := by
  refine con_of_aw (vars := [.tmp 2]) [(0, .r (ptA t v))] [] 0 Tryz.func48 (by kernel_rfl) rfl Tryz.ntmps48 rfl (by decide) rfl rfl rfl rfl rfl ?_; intro B M w0 ρ0 Z0
  repeat' (first | (refine is_al ?_; (first | (refine is_gd ?_; (first | refine al_on rfl rfl rfl (by assumption) ?_ | refine al_off rfl rfl rfl (by assumption) rfl ?_ | (refine al_g rfl rfl rfl rfl ?_ ?_ <;> ((intro hgd; try exact absurd hgd (by decide)); (try (have hz := hgd; simp only [decide_eq_true_eq, decide_eq_false_iff_not, Bool.not_eq_true', Bool.not_eq_false', Bool.not_true, Bool.not_false, beq_iff_eq, Int.not_le, Int.not_lt] at hz)); (try (exfalso; omega)))))) | (refine is_move ?_; refine al_v (opx_move (.raw _)) ⟨rfl, trivial⟩ trivial rfl ?_) | (refine is_bin ?_; (first | refine al_v opx_leq ⟨rfl, rfl, trivial⟩ trivial rfl ?_ | refine al_v opx_geq ⟨rfl, rfl, trivial⟩ trivial rfl ?_)) | (refine is_load ?_; refine al_v (opx_ld_box rfl) ⟨rfl, trivial⟩ ⟨rfl, trivial⟩ rfl ?_) | (refine is_fa ?_; refine al_v opx_fa_ref ⟨rfl, trivial⟩ trivial rfl ?_) | (refine is_assign ?_; refine al_v (opx_assign (.raw _)) ⟨rfl, trivial⟩ trivial rfl ?_) | (refine is_pick ?_; (first | refine al_v (opx_pick_f (.raw _) rfl) ⟨rfl, rfl, trivial⟩ trivial rfl ?_ | refine al_v (opx_pick_t (.raw _) (by assumption)) ⟨rfl, rfl, trivial⟩ trivial rfl ?_ | refine al_v (opx_pick_f (.raw _) (by assumption)) ⟨rfl, rfl, trivial⟩ trivial rfl ?_)) | refine al_n opx_boxs ⟨rfl, trivial⟩ trivial rfl ?_ | refine al_nil ?_)) | (refine is_aw ?_; (first | refine aw_seq ?_ | refine aw_region ?_ | refine aw_ret ?_)))
  all_goals exact ret_raw trivial rfl ⟨(congrArg (fun b => [rB b]) (by rw [Bool.eq_iff_iff]; simp only [decide_eq_true_eq, Bool.false_eq_true, Bool.and_eq_true, Bool.or_eq_true, Bool.not_eq_true', decide_eq_false_iff_not, false_iff, true_iff, iff_false, iff_true]; omega)), rfl⟩

theorem c_inRange (x lo hi : Int) : Con Tryz.prog 100 [rI x, rI lo, rI hi] [] (fun rs all => rs = [rB (decide (lo ≤ x ∧ x ≤ hi))] ∧ all = []) := by
  refine con_of_aw (vars := [.tmp 6]) [(0, .r (rI x)), (1, .r (rI lo)), (2, .r (rI hi))] [] 0 Tryz.func100 (by kernel_rfl) rfl Tryz.ntmps100 rfl (by decide) rfl rfl rfl rfl rfl ?_; intro B M w0 ρ0 Z0
  repeat' (first | (refine is_al ?_; (first | (refine is_gd ?_; (first | refine al_on rfl rfl rfl (by assumption) ?_ | refine al_off rfl rfl rfl (by assumption) rfl ?_ | (refine al_g rfl rfl rfl rfl ?_ ?_ <;> ((intro hgd; try exact absurd hgd (by decide)); (try (have hz := hgd; simp only [decide_eq_true_eq, decide_eq_false_iff_not, Bool.not_eq_true', Bool.not_eq_false', Bool.not_true, Bool.not_false, beq_iff_eq, Int.not_le, Int.not_lt] at hz)); (try (exfalso; omega)))))) | (refine is_move ?_; refine al_v (opx_move (.raw _)) ⟨rfl, trivial⟩ trivial rfl ?_) | (refine is_bin ?_; refine al_v opx_leq ⟨rfl, rfl, trivial⟩ trivial rfl ?_) | (refine is_assign ?_; refine al_v (opx_assign (.raw _)) ⟨rfl, trivial⟩ trivial rfl ?_) | (refine is_pick ?_; (first | refine al_v (opx_pick_t (.raw _) (by assumption)) ⟨rfl, rfl, trivial⟩ trivial rfl ?_ | refine al_v (opx_pick_f (.raw _) (by assumption)) ⟨rfl, rfl, trivial⟩ trivial rfl ?_)) | refine al_nil ?_)) | (refine is_aw ?_; (first | refine aw_seq ?_ | refine aw_region ?_ | refine aw_ret ?_)))
  all_goals exact ret_raw trivial rfl ⟨(congrArg (fun b => [rB b]) (by rw [Bool.eq_iff_iff]; simp only [decide_eq_true_eq, Bool.false_eq_true, Bool.and_eq_true, Bool.or_eq_true, Bool.not_eq_true', decide_eq_false_iff_not, false_iff, true_iff, iff_false, iff_true]; omega)), rfl⟩

theorem c_sValidPoint (t v : Int) : Con Tryz.prog 92 [ptA t v] [] (fun rs all => rs = [rB (decide (0 ≤ t ∧ t ≤ 1000 ∧ -1000 ≤ v ∧ v ≤ 1000))] ∧ all = []) := by
  refine con_of_aw (vars := [.tmp 2]) [(0, .r (ptA t v))] [] 0 Tryz.func92 (by kernel_rfl) rfl Tryz.ntmps92 rfl (by decide) rfl rfl rfl rfl rfl ?_; intro B M w0 ρ0 Z0
  repeat' (first | (refine is_al ?_; (first | (refine is_gd ?_; (first | refine al_on rfl rfl rfl (by assumption) ?_ | refine al_off rfl rfl rfl (by assumption) rfl ?_ | (refine al_g rfl rfl rfl rfl ?_ ?_ <;> ((intro hgd; try exact absurd hgd (by decide)); (try (have hz := hgd; simp only [decide_eq_true_eq, decide_eq_false_iff_not, Bool.not_eq_true', Bool.not_eq_false', Bool.not_true, Bool.not_false, beq_iff_eq, Int.not_le, Int.not_lt] at hz)); (try (exfalso; omega)))))) | (refine is_move ?_; refine al_v (opx_move (.raw _)) ⟨rfl, trivial⟩ trivial rfl ?_) | (refine is_load ?_; refine al_v (opx_ld_box rfl) ⟨rfl, trivial⟩ ⟨rfl, trivial⟩ rfl ?_) | (refine is_fa ?_; refine al_v opx_fa_ref ⟨rfl, trivial⟩ trivial rfl ?_) | (refine is_assign ?_; refine al_v (opx_assign (.raw _)) ⟨rfl, trivial⟩ trivial rfl ?_) | (refine is_pick ?_; (first | refine al_v (opx_pick_t (.raw _) (by assumption)) ⟨rfl, rfl, trivial⟩ trivial rfl ?_ | refine al_v (opx_pick_f (.raw _) (by assumption)) ⟨rfl, rfl, trivial⟩ trivial rfl ?_)) | (refine is_call ?_; refine al_callv2 (by (repeat (first | exact .nil | refine .one rfl rfl ?_ | refine .froz rfl rfl ?_ | refine .row rfl rfl ?_ | refine .rnil rfl ?_ | refine .agg rfl (by (repeat (first | exact .nil | refine .cons (.same rfl) ?_ | refine .cons (.froz rfl) ?_ | refine .cons (.rnil) ?_ | refine .cons (.row rfl rfl) ?_)); (first | done | fail)) ?_)); (first | done | fail)) rfl (c_inRange _ _ _) rfl ?_) | refine al_n opx_boxs ⟨rfl, trivial⟩ trivial rfl ?_ | refine al_nil ?_)) | (refine is_aw ?_; (first | refine aw_seq ?_ | refine aw_region ?_ | refine aw_ret ?_)))
  all_goals exact ret_raw trivial rfl ⟨(congrArg (fun b => [rB b]) (by rw [Bool.eq_iff_iff]; simp only [decide_eq_true_eq, Bool.false_eq_true, Bool.and_eq_true, Bool.or_eq_true, Bool.not_eq_true', decide_eq_false_iff_not, false_iff, true_iff, iff_false, iff_true]; omega)), rfl⟩

theorem c_validSeries (ps : List (Int × Int)) : Con Tryz.prog 53 [slP ps] [] (fun rs all => rs = [rB (vsB ps)] ∧ all = []) := by
  have hlen := ptRs_len (ps := ps)
  refine con_of_aw (vars := [.tmp 2]) [(0, .r (slP ps))] [] 0 Tryz.func53 (by kernel_rfl) rfl Tryz.ntmps53 rfl (by decide) rfl rfl rfl rfl rfl ?_; intro B M w0 ρ0 Z0
  repeat' (first | (refine is_al ?_; (first | (refine is_move ?_; (first | refine al_v (opx_move (.raw _)) ⟨rfl, trivial⟩ trivial rfl ?_ | refine al_v (opx_move (.sl _ _)) ⟨rfl, trivial⟩ trivial rfl ?_)) | (refine is_bin ?_; refine al_v opx_gtr ⟨rfl, rfl, trivial⟩ trivial rfl ?_) | (refine is_assign ?_; refine al_v (opx_assign (.raw _)) ⟨rfl, trivial⟩ trivial rfl ?_) | (refine is_bi ?_; refine al_v opx_len_sl ⟨rfl, trivial⟩ trivial rfl ?_) | refine al_nil ?_)) | (refine is_aw ?_; (first | refine aw_seq ?_ | refine aw_region ?_ | refine aw_skip ?_ | refine aw_block ?_ | refine aw_ret ?_ | (refine is_cond ?_; (refine aw_cond rfl ?_ ?_ <;> ((intro hgd; try exact absurd hgd (by decide)); (try (have hz := hgd; simp only [decide_eq_true_eq, decide_eq_false_iff_not, Bool.not_eq_true', Bool.not_eq_false', Bool.not_true, Bool.not_false, beq_iff_eq, Int.not_le, Int.not_lt] at hz)); (try (exfalso; omega))))))) | refine thn_r ?_)
  · exact ret_raw trivial rfl ⟨congrArg (fun b => [rB b]) ((vsB_long (by omega)).symm), rfl⟩
  refine aw_loop (γ := Nat) (fun k => [(0, .r (slP ps)), (2, .b false), (8, .r (slP ps)), (9, .i ((ptRs ps).length : Int)), (10, .i (k : Int))]) (fun _ => []) (fun _ => 0)
    (fun k => k ≤ ps.length ∧ ∀ j, j < k → okAt ps j) (fun k => ps.length - k) 0 ⟨Nat.zero_le _, fun j hj => by omega⟩ (le_mk [] rfl rfl rfl rfl ⟨rfl, rfl, rfl, rfl, rfl, trivial⟩ trivial) ?_
  rintro k ⟨hk, hok⟩
  rcases Nat.lt_or_ge k ps.length with hlt | hge
  · have hc : decide ((k : Int) < ((ptRs ps).length : Int)) = true := decide_eq_true (by omega)
    obtain ⟨p, hp⟩ : ∃ p, ps[k]? = some p := ⟨_, List.getElem?_eq_getElem hlt⟩
    have hpr := ptRs_at hp
    rcases k with _ | k
    · have hc0 : decide (((0 : Nat) : Int) > 0) = false := rfl
      repeat' (first | (refine is_al ?_; (first | (refine is_move ?_; refine al_v (opx_move (.raw _)) ⟨rfl, trivial⟩ trivial rfl ?_) | (refine is_bin ?_; (first | refine al_v opx_lss ⟨rfl, rfl, trivial⟩ trivial rfl ?_ | refine al_v (opx_add (by unfold InR; omega)) ⟨rfl, rfl, trivial⟩ trivial rfl ?_)) | (refine is_load ?_; refine al_v opx_ld2_imm ⟨rfl, trivial⟩ trivial rfl ?_) | (refine is_assign ?_; refine al_v (opx_assign (.raw _)) ⟨rfl, trivial⟩ trivial rfl ?_) | (refine is_ia ?_; refine al_v (opx_ia_sl2 hpr (by omega)) ⟨rfl, rfl, trivial⟩ trivial rfl ?_) | (refine is_st ?_; refine al_s (opx_sts_box (by rfl) (by rfl)) ⟨rfl, rfl, trivial⟩ ⟨rfl, trivial⟩ ?_) | refine al_n opx_alloc trivial trivial rfl ?_ | refine al_nil ?_)) | (refine is_ad ?_; (first | (refine isd_gd ?_; (first | refine ad_off rfl rfl (by assumption) rfl ?_ | refine ad_off2 rfl rfl rfl ?_ | (refine isd_move ?_; refine ad_on rfl rfl (by assumption) (opx_move (.raw _)) ⟨rfl, trivial⟩ trivial rfl ?_) | (refine isd_bin ?_; refine ad_on rfl rfl (by assumption) opx_gtr ⟨rfl, rfl, trivial⟩ trivial rfl ?_) | (refine isd_pick ?_; refine ad_on rfl rfl (by assumption) (opx_pick_f (.raw _) rfl) ⟨rfl, rfl, trivial⟩ trivial rfl ?_) | (refine ad_split rfl rfl rfl ?_ ?_ <;> ((intro hgd; try exact absurd hgd (by decide)); (try (have hz := hgd; simp only [decide_eq_true_eq, decide_eq_false_iff_not, Bool.not_eq_true', Bool.not_eq_false', Bool.not_true, Bool.not_false, beq_iff_eq, Int.not_le, Int.not_lt] at hz)); (try (exfalso; omega)))))) | (refine isd_move ?_; refine ad_v (opx_move (.raw _)) ⟨rfl, trivial⟩ trivial rfl ?_) | (refine isd_load ?_; refine ad_v opx_ld2_box ⟨rfl, trivial⟩ ⟨rfl, trivial⟩ rfl ?_) | (refine isd_pick ?_; (first | refine ad_v (opx_pick_t (.raw _) (by assumption)) ⟨rfl, rfl, trivial⟩ trivial rfl ?_ | refine ad_v (opx_pick_f (.raw _) (by assumption)) ⟨rfl, rfl, trivial⟩ trivial rfl ?_)) | (refine isd_call ?_; refine ad_callv2 (by (repeat (first | exact .nil | refine .one rfl rfl ?_ | refine .froz rfl rfl ?_ | refine .row rfl rfl ?_ | refine .rnil rfl ?_ | refine .agg rfl (by (repeat (first | exact .nil | refine .cons (.same rfl) ?_ | refine .cons (.froz rfl) ?_ | refine .cons (.rnil) ?_ | refine .cons (.row rfl rfl) ?_)); (first | done | fail)) ?_)); (first | done | fail)) rfl (c_validPoint _ _) rfl ?_) | refine ad_v opx_not ⟨rfl, trivial⟩ trivial rfl ?_ | refine ad_nil (by kernel_rfl) ?_)) | (refine is_aw ?_; (first | refine aw_seq ?_ | refine aw_region ?_ | refine aw_skip ?_ | refine aw_block ?_ | refine aw_ret ?_ | (refine is_cond ?_; (first | refine aw_cond_t rfl rfl ?_ | refine aw_cond_f rfl rfl ?_ | refine aw_cond_t rfl (by assumption) ?_)) | refine aw_draw mixed ?_)) | refine thn_n ?_ | refine thn_r ?_ | refine inb_r ?_)
      · exact ⟨1, ⟨hlt, fun j hj => by rw [show j = 0 by omega]; exact okAt_0 hp (by assumption)⟩, by omega, le_mk [] rfl rfl rfl rfl ⟨rfl, rfl, rfl, rfl, rfl, trivial⟩ trivial⟩
      · exact ret_raw trivial rfl ⟨congrArg (fun b => [rB b]) ((vsB_bad hp (by assumption)).symm), rfl⟩
    · obtain ⟨q, hq⟩ : ∃ q, ps[k]? = some q := ⟨_, List.getElem?_eq_getElem (by omega)⟩
      have hqr := ptRs_at hq
      have hc1 : decide (0 < ((k + 1 : Nat) : Int)) = true := decide_eq_true (by omega)
      repeat' (first | (refine is_al ?_; (first | (refine is_move ?_; refine al_v (opx_move (.raw _)) ⟨rfl, trivial⟩ trivial rfl ?_) | (refine is_bin ?_; (first | refine al_v opx_lss ⟨rfl, rfl, trivial⟩ trivial rfl ?_ | refine al_v (opx_add (by unfold InR; omega)) ⟨rfl, rfl, trivial⟩ trivial rfl ?_)) | (refine is_load ?_; refine al_v opx_ld2_imm ⟨rfl, trivial⟩ trivial rfl ?_) | (refine is_assign ?_; refine al_v (opx_assign (.raw _)) ⟨rfl, trivial⟩ trivial rfl ?_) | (refine is_ia ?_; refine al_v (opx_ia_sl2 hpr (by omega)) ⟨rfl, rfl, trivial⟩ trivial rfl ?_) | (refine is_st ?_; refine al_s (opx_sts_box (by rfl) (by rfl)) ⟨rfl, rfl, trivial⟩ ⟨rfl, trivial⟩ ?_) | refine al_n opx_alloc trivial trivial rfl ?_ | refine al_nil ?_)) | (refine is_ad ?_; (first | (refine isd_gd ?_; (first | refine ad_off rfl rfl (by assumption) rfl ?_ | refine ad_off2 rfl rfl rfl ?_ | (refine isd_move ?_; (first | refine ad_on rfl rfl (by assumption) (opx_move (.raw _)) ⟨rfl, trivial⟩ trivial rfl ?_ | refine ad_on rfl rfl (by assumption) (opx_move (.sl _ _)) ⟨rfl, trivial⟩ trivial rfl ?_)) | (refine isd_bin ?_; (first | refine ad_on rfl rfl (by assumption) opx_leq ⟨rfl, rfl, trivial⟩ trivial rfl ?_ | refine ad_on rfl rfl (by assumption) opx_gtr ⟨rfl, rfl, trivial⟩ trivial rfl ?_ | refine ad_on rfl rfl (by assumption) (opx_sub (by unfold InR; omega)) ⟨rfl, rfl, trivial⟩ trivial rfl ?_)) | (refine isd_load ?_; (first | refine ad_on rfl rfl (by assumption) opx_ld_imm ⟨rfl, trivial⟩ trivial rfl ?_ | refine ad_on rfl rfl (by assumption) (opx_ld_box rfl) ⟨rfl, trivial⟩ ⟨rfl, trivial⟩ rfl ?_)) | (refine isd_fa ?_; (first | refine ad_on rfl rfl (by assumption) opx_fa_ref ⟨rfl, trivial⟩ trivial rfl ?_ | refine ad_on rfl rfl (by assumption) opx_fa_imm0 ⟨rfl, trivial⟩ trivial rfl ?_)) | (refine isd_pick ?_; refine ad_on rfl rfl (by assumption) (opx_pick_t (.raw _) (by assumption)) ⟨rfl, rfl, trivial⟩ trivial rfl ?_) | (refine isd_ia ?_; refine ad_on rfl rfl (by assumption) (opx_ia_sl2 hqr (by omega)) ⟨rfl, rfl, trivial⟩ trivial rfl ?_) | (refine ad_split rfl rfl rfl ?_ ?_ <;> ((intro hgd; try exact absurd hgd (by decide)); (try (have hz := hgd; simp only [decide_eq_true_eq, decide_eq_false_iff_not, Bool.not_eq_true', Bool.not_eq_false', Bool.not_true, Bool.not_false, beq_iff_eq, Int.not_le, Int.not_lt] at hz)); (try (exfalso; omega)))))) | (refine isd_move ?_; refine ad_v (opx_move (.raw _)) ⟨rfl, trivial⟩ trivial rfl ?_) | (refine isd_load ?_; refine ad_v opx_ld2_box ⟨rfl, trivial⟩ ⟨rfl, trivial⟩ rfl ?_) | (refine isd_pick ?_; (first | refine ad_v (opx_pick_t (.raw _) (by assumption)) ⟨rfl, rfl, trivial⟩ trivial rfl ?_ | refine ad_v (opx_pick_f (.raw _) (by assumption)) ⟨rfl, rfl, trivial⟩ trivial rfl ?_)) | (refine isd_call ?_; refine ad_callv2 (by (repeat (first | exact .nil | refine .one rfl rfl ?_ | refine .froz rfl rfl ?_ | refine .row rfl rfl ?_ | refine .rnil rfl ?_ | refine .agg rfl (by (repeat (first | exact .nil | refine .cons (.same rfl) ?_ | refine .cons (.froz rfl) ?_ | refine .cons (.rnil) ?_ | refine .cons (.row rfl rfl) ?_)); (first | done | fail)) ?_)); (first | done | fail)) rfl (c_validPoint _ _) rfl ?_) | refine ad_v opx_not ⟨rfl, trivial⟩ trivial rfl ?_ | refine ad_nil (by kernel_rfl) ?_)) | (refine is_aw ?_; (first | refine aw_seq ?_ | refine aw_region ?_ | refine aw_skip ?_ | refine aw_block ?_ | refine aw_ret ?_ | (refine is_cond ?_; (first | refine aw_cond_t rfl rfl ?_ | refine aw_cond_t rfl (by assumption) ?_ | (refine aw_cond rfl ?_ ?_ <;> ((intro hgd; try exact absurd hgd (by decide)); (try (have hz := hgd; simp only [decide_eq_true_eq, decide_eq_false_iff_not, Bool.not_eq_true', Bool.not_eq_false', Bool.not_true, Bool.not_false, beq_iff_eq, Int.not_le, Int.not_lt] at hz)); (try (exfalso; omega)))))) | refine aw_draw mixed ?_)) | refine thn_n ?_ | refine thn_r ?_ | refine inb_r ?_)
      · exact ret_raw trivial rfl ⟨congrArg (fun b => [rB b]) ((vsB_ord hp hq (by assumption)).symm), rfl⟩
      · exact ⟨k + 1 + 1, ⟨hlt, fun j hj => by
          rcases Nat.lt_or_ge j (k + 1) with h | h
          · exact hok j h
          · rw [show j = k + 1 by omega]; exact okAt_s hp hq (by assumption) (by assumption)⟩, by omega, le_mk [] rfl rfl rfl rfl ⟨rfl, rfl, rfl, rfl, rfl, trivial⟩ trivial⟩
      · exact ret_raw trivial rfl ⟨congrArg (fun b => [rB b]) ((vsB_bad hp (by assumption)).symm), rfl⟩
  · have hc : decide ((k : Int) < ((ptRs ps).length : Int)) = false := decide_eq_false (by omega)
    repeat' (first | (refine is_al ?_; (first | (refine is_bin ?_; refine al_v opx_lss ⟨rfl, rfl, trivial⟩ trivial rfl ?_) | (refine is_assign ?_; refine al_v (opx_assign (.raw _)) ⟨rfl, trivial⟩ trivial rfl ?_) | refine al_nil ?_)) | (refine is_aw ?_; (first | refine aw_seq ?_ | refine aw_region ?_ | refine aw_ret ?_ | refine aw_exit ?_ | (refine is_cond ?_; refine aw_cond_f rfl (by assumption) ?_))))
    exact ret_raw trivial rfl ⟨congrArg (fun b => [rB b]) ((VS_of (by omega) fun j hj => hok j (by omega)).symm), rfl⟩

theorem c_sValidSeries (ps : List (Int × Int)) (hL : ps.length < 4611686018427387904) : Con Tryz.prog 97 [slP ps] [] (fun rs all => rs = [rB (vsB ps)] ∧ all = []) := by
  have hlen := ptRs_len (ps := ps)
  refine con_of_aw (vars := [.tmp 2]) [(0, .r (slP ps))] [] 0 Tryz.func97 (by kernel_rfl) rfl Tryz.ntmps97 rfl (by decide) rfl rfl rfl rfl rfl ?_; intro B M w0 ρ0 Z0
  repeat' (first | (refine is_al ?_; (first | (refine is_assign ?_; refine al_v (opx_assign (.raw _)) ⟨rfl, trivial⟩ trivial rfl ?_) | refine al_nil ?_)) | (refine is_aw ?_; (first | refine aw_seq ?_ | refine aw_region ?_ | refine aw_block ?_)))
  refine aw_loop (γ := Nat) (fun k => [(0, .r (slP ps)), (2, .b false), (3, .i (k : Int))]) (fun _ => []) (fun _ => 0)
    (fun k => k ≤ ps.length ∧ ∀ j, j < k → okAt ps j) (fun k => ps.length - k) 0 ⟨Nat.zero_le _, fun j hj => by omega⟩ (le_mk [] rfl rfl rfl rfl ⟨rfl, rfl, rfl, trivial⟩ trivial) ?_
  rintro k ⟨hk, hok⟩
  rcases Nat.lt_or_ge k ps.length with hlt | hge
  · have hc : decide ((k : Int) < ((ptRs ps).length : Int)) = true := decide_eq_true (by omega)
    obtain ⟨p, hp⟩ : ∃ p, ps[k]? = some p := ⟨_, List.getElem?_eq_getElem hlt⟩
    have hpr := ptRs_at hp
    rcases k with _ | k
    · have hc0 : decide (((0 : Nat) : Int) > 0) = false := rfl
      repeat' (first | (refine is_al ?_; (first | (refine is_move ?_; (first | refine al_v (opx_move (.raw _)) ⟨rfl, trivial⟩ trivial rfl ?_ | refine al_v (opx_move (.sl _ _)) ⟨rfl, trivial⟩ trivial rfl ?_)) | (refine is_bin ?_; (first | refine al_v opx_lss ⟨rfl, rfl, trivial⟩ trivial rfl ?_ | refine al_v (opx_add (by unfold InR; omega)) ⟨rfl, rfl, trivial⟩ trivial rfl ?_)) | (refine is_assign ?_; refine al_v (opx_assign (.raw _)) ⟨rfl, trivial⟩ trivial rfl ?_) | (refine is_bi ?_; refine al_v opx_len_sl ⟨rfl, trivial⟩ trivial rfl ?_) | refine al_nil ?_)) | (refine is_ad ?_; (first | (refine isd_gd ?_; (first | refine ad_off rfl rfl (by assumption) rfl ?_ | refine ad_off2 rfl rfl rfl ?_ | (refine isd_move ?_; refine ad_on rfl rfl (by assumption) (opx_move (.raw _)) ⟨rfl, trivial⟩ trivial rfl ?_) | (refine isd_bin ?_; refine ad_on rfl rfl (by assumption) opx_gtr ⟨rfl, rfl, trivial⟩ trivial rfl ?_) | (refine isd_pick ?_; refine ad_on rfl rfl (by assumption) (opx_pick_f (.raw _) rfl) ⟨rfl, rfl, trivial⟩ trivial rfl ?_) | (refine ad_split rfl rfl rfl ?_ ?_ <;> ((intro hgd; try exact absurd hgd (by decide)); (try (have hz := hgd; simp only [decide_eq_true_eq, decide_eq_false_iff_not, Bool.not_eq_true', Bool.not_eq_false', Bool.not_true, Bool.not_false, beq_iff_eq, Int.not_le, Int.not_lt] at hz)); (try (exfalso; omega)))))) | (refine isd_move ?_; (first | refine ad_v (opx_move (.raw _)) ⟨rfl, trivial⟩ trivial rfl ?_ | refine ad_v (opx_move (.sl _ _)) ⟨rfl, trivial⟩ trivial rfl ?_)) | (refine isd_load ?_; refine ad_v opx_ld2_imm ⟨rfl, trivial⟩ trivial rfl ?_) | (refine isd_pick ?_; (first | refine ad_v (opx_pick_t (.raw _) (by assumption)) ⟨rfl, rfl, trivial⟩ trivial rfl ?_ | refine ad_v (opx_pick_f (.raw _) (by assumption)) ⟨rfl, rfl, trivial⟩ trivial rfl ?_)) | (refine isd_ia ?_; refine ad_v (opx_ia_sl2 hpr (by omega)) ⟨rfl, rfl, trivial⟩ trivial rfl ?_) | (refine isd_call ?_; refine ad_callv2 (by (repeat (first | exact .nil | refine .one rfl rfl ?_ | refine .froz rfl rfl ?_ | refine .row rfl rfl ?_ | refine .rnil rfl ?_ | refine .agg rfl (by (repeat (first | exact .nil | refine .cons (.same rfl) ?_ | refine .cons (.froz rfl) ?_ | refine .cons (.rnil) ?_ | refine .cons (.row rfl rfl) ?_)); (first | done | fail)) ?_)); (first | done | fail)) rfl (c_sValidPoint _ _) rfl ?_) | refine ad_v opx_not ⟨rfl, trivial⟩ trivial rfl ?_ | refine ad_nil (by kernel_rfl) ?_)) | (refine is_aw ?_; (first | refine aw_seq ?_ | refine aw_region ?_ | refine aw_skip ?_ | refine aw_block ?_ | refine aw_ret ?_ | (refine is_cond ?_; (first | refine aw_cond_t rfl rfl ?_ | refine aw_cond_f rfl rfl ?_ | refine aw_cond_t rfl (by assumption) ?_)) | refine aw_draw mixed ?_)) | refine thn_n ?_ | refine thn_r ?_ | refine inb_r ?_)
      · exact ⟨1, ⟨hlt, fun j hj => by rw [show j = 0 by omega]; exact okAt_0 hp (by assumption)⟩, by omega, le_mk [] rfl rfl rfl rfl ⟨rfl, rfl, rfl, trivial⟩ trivial⟩
      · exact ret_raw trivial rfl ⟨congrArg (fun b => [rB b]) ((vsB_bad hp (by assumption)).symm), rfl⟩
    · obtain ⟨q, hq⟩ : ∃ q, ps[k]? = some q := ⟨_, List.getElem?_eq_getElem (by omega)⟩
      have hqr := ptRs_at hq
      have hc1 : decide (0 < ((k + 1 : Nat) : Int)) = true := decide_eq_true (by omega)
      repeat' (first | (refine is_al ?_; (first | (refine is_move ?_; (first | refine al_v (opx_move (.raw _)) ⟨rfl, trivial⟩ trivial rfl ?_ | refine al_v (opx_move (.sl _ _)) ⟨rfl, trivial⟩ trivial rfl ?_)) | (refine is_bin ?_; (first | refine al_v opx_lss ⟨rfl, rfl, trivial⟩ trivial rfl ?_ | refine al_v (opx_add (by unfold InR; omega)) ⟨rfl, rfl, trivial⟩ trivial rfl ?_)) | (refine is_assign ?_; refine al_v (opx_assign (.raw _)) ⟨rfl, trivial⟩ trivial rfl ?_) | (refine is_bi ?_; refine al_v opx_len_sl ⟨rfl, trivial⟩ trivial rfl ?_) | refine al_nil ?_)) | (refine is_ad ?_; (first | (refine isd_gd ?_; (first | refine ad_off rfl rfl (by assumption) rfl ?_ | refine ad_off2 rfl rfl rfl ?_ | (refine isd_move ?_; (first | refine ad_on rfl rfl (by assumption) (opx_move (.raw _)) ⟨rfl, trivial⟩ trivial rfl ?_ | refine ad_on rfl rfl (by assumption) (opx_move (.sl _ _)) ⟨rfl, trivial⟩ trivial rfl ?_)) | (refine isd_bin ?_; (first | refine ad_on rfl rfl (by assumption) opx_leq ⟨rfl, rfl, trivial⟩ trivial rfl ?_ | refine ad_on rfl rfl (by assumption) opx_gtr ⟨rfl, rfl, trivial⟩ trivial rfl ?_ | refine ad_on rfl rfl (by assumption) (opx_sub (by unfold InR; omega)) ⟨rfl, rfl, trivial⟩ trivial rfl ?_)) | (refine isd_load ?_; refine ad_on rfl rfl (by assumption) opx_ld_imm ⟨rfl, trivial⟩ trivial rfl ?_) | (refine isd_fa ?_; refine ad_on rfl rfl (by assumption) opx_fa_imm0 ⟨rfl, trivial⟩ trivial rfl ?_) | (refine isd_pick ?_; refine ad_on rfl rfl (by assumption) (opx_pick_t (.raw _) (by assumption)) ⟨rfl, rfl, trivial⟩ trivial rfl ?_) | (refine isd_ia ?_; (first | refine ad_on rfl rfl (by assumption) (opx_ia_sl2 hpr (by omega)) ⟨rfl, rfl, trivial⟩ trivial rfl ?_ | refine ad_on rfl rfl (by assumption) (opx_ia_sl2 hqr (by omega)) ⟨rfl, rfl, trivial⟩ trivial rfl ?_)) | (refine ad_split rfl rfl rfl ?_ ?_ <;> ((intro hgd; try exact absurd hgd (by decide)); (try (have hz := hgd; simp only [decide_eq_true_eq, decide_eq_false_iff_not, Bool.not_eq_true', Bool.not_eq_false', Bool.not_true, Bool.not_false, beq_iff_eq, Int.not_le, Int.not_lt] at hz)); (try (exfalso; omega)))))) | (refine isd_move ?_; (first | refine ad_v (opx_move (.raw _)) ⟨rfl, trivial⟩ trivial rfl ?_ | refine ad_v (opx_move (.sl _ _)) ⟨rfl, trivial⟩ trivial rfl ?_)) | (refine isd_load ?_; refine ad_v opx_ld2_imm ⟨rfl, trivial⟩ trivial rfl ?_) | (refine isd_pick ?_; (first | refine ad_v (opx_pick_t (.raw _) (by assumption)) ⟨rfl, rfl, trivial⟩ trivial rfl ?_ | refine ad_v (opx_pick_f (.raw _) (by assumption)) ⟨rfl, rfl, trivial⟩ trivial rfl ?_)) | (refine isd_ia ?_; refine ad_v (opx_ia_sl2 hpr (by omega)) ⟨rfl, rfl, trivial⟩ trivial rfl ?_) | (refine isd_call ?_; refine ad_callv2 (by (repeat (first | exact .nil | refine .one rfl rfl ?_ | refine .froz rfl rfl ?_ | refine .row rfl rfl ?_ | refine .rnil rfl ?_ | refine .agg rfl (by (repeat (first | exact .nil | refine .cons (.same rfl) ?_ | refine .cons (.froz rfl) ?_ | refine .cons (.rnil) ?_ | refine .cons (.row rfl rfl) ?_)); (first | done | fail)) ?_)); (first | done | fail)) rfl (c_sValidPoint _ _) rfl ?_) | refine ad_v opx_not ⟨rfl, trivial⟩ trivial rfl ?_ | refine ad_nil (by kernel_rfl) ?_)) | (refine is_aw ?_; (first | refine aw_seq ?_ | refine aw_region ?_ | refine aw_skip ?_ | refine aw_block ?_ | refine aw_ret ?_ | (refine is_cond ?_; (first | refine aw_cond_t rfl rfl ?_ | refine aw_cond_t rfl (by assumption) ?_ | (refine aw_cond rfl ?_ ?_ <;> ((intro hgd; try exact absurd hgd (by decide)); (try (have hz := hgd; simp only [decide_eq_true_eq, decide_eq_false_iff_not, Bool.not_eq_true', Bool.not_eq_false', Bool.not_true, Bool.not_false, beq_iff_eq, Int.not_le, Int.not_lt] at hz)); (try (exfalso; omega)))))) | refine aw_draw mixed ?_)) | refine thn_n ?_ | refine thn_r ?_ | refine inb_r ?_)
      · exact ret_raw trivial rfl ⟨congrArg (fun b => [rB b]) ((vsB_ord hp hq (by assumption)).symm), rfl⟩
      · exact ⟨k + 1 + 1, ⟨hlt, fun j hj => by
          rcases Nat.lt_or_ge j (k + 1) with h | h
          · exact hok j h
          · rw [show j = k + 1 by omega]; exact okAt_s hp hq (by assumption) (by assumption)⟩, by omega, le_mk [] rfl rfl rfl rfl ⟨rfl, rfl, rfl, trivial⟩ trivial⟩
      · exact ret_raw trivial rfl ⟨congrArg (fun b => [rB b]) ((vsB_bad hp (by assumption)).symm), rfl⟩
  · have hc : decide ((k : Int) < ((ptRs ps).length : Int)) = false := decide_eq_false (by omega)
    repeat' (first | (refine is_al ?_; (first | (refine is_move ?_; (first | refine al_v (opx_move (.raw _)) ⟨rfl, trivial⟩ trivial rfl ?_ | refine al_v (opx_move (.sl _ _)) ⟨rfl, trivial⟩ trivial rfl ?_)) | (refine is_bin ?_; (first | refine al_v opx_lss ⟨rfl, rfl, trivial⟩ trivial rfl ?_ | refine al_v opx_leq ⟨rfl, rfl, trivial⟩ trivial rfl ?_)) | (refine is_assign ?_; refine al_v (opx_assign (.raw _)) ⟨rfl, trivial⟩ trivial rfl ?_) | (refine is_bi ?_; refine al_v opx_len_sl ⟨rfl, trivial⟩ trivial rfl ?_) | refine al_nil ?_)) | (refine is_aw ?_; (first | refine aw_seq ?_ | refine aw_region ?_ | refine aw_ret ?_ | refine aw_exit ?_ | (refine is_cond ?_; refine aw_cond_f rfl (by assumption) ?_))))
    rcases Nat.lt_or_ge 16 ps.length with h | h
    · exact ret_raw trivial rfl ⟨congrArg (fun b => [rB b]) ((decide_eq_false (by omega)).trans (vsB_long h).symm), rfl⟩
    · exact ret_raw trivial rfl ⟨congrArg (fun b => [rB b]) ((decide_eq_true (by omega)).trans (VS_of h fun j hj => hok j (by omega)).symm), rfl⟩

end Go.Proofs.YtfoecgfboicphaaGreatDoor
/-
  Slices against nil; bytes as a string; remainders and conversions of bytes.
-/
namespace Go.Proofs.YtfoecgfboicphaaGreatDoor
open Go.RowKit
set_option linter.unusedVariables false
set_option linter.unusedSimpArgs false
section
variable {P : Program}
variable {d : Nat} {x y z : Operand} {t t' ty : TypeId} {pos : String} {af : Array Edge} {gd : Option (Nat × Bool)}
/-- 'byte(n)' -/
theorem opx_byte {src dst : TypeId} [h : CvT P src dst .u8] {n : Int} {k : Nat} (hn : n = (k : Int)) (hk : k < 256) : OpX P ⟨some d, .convert src dst x, ty, pos, af, gd⟩ [(x, .i n)] [] [] [(d, .raw (.int .u8 (UInt8.ofNat k).toNat))] [] :=
  opx_conv (by
    subst hn
    have : (UInt8.ofNat k).toNat = k := by rw [UInt8.toNat_ofNat']; omega
    rw [this]
    exact IntWalk.u8_in _ (by omega))
/-- 'int(c)' of what is a byte -/
theorem opx_intOf {src dst : TypeId} [h : CvT P src dst .i64] {q : IntKind} {n : Int} (hn : 0 ≤ n ∧ n ≤ 9223372036854775807) : OpX P ⟨some d, .convert src dst x, ty, pos, af, gd⟩ [(x, .raw (.int q n))] [] [] [(d, .i n)] [] :=
  opx_conv (wrap_in ⟨by omega, hn.2⟩)
theorem byRs_cells {Z : Nat → Prop} {w : World} : ∀ {bs : List UInt8} {us : List Value}, DL Z w (byRs bs).flatten us → us = bs.map fun b => Value.int .u8 b.toNat
  | [], [], _ => rfl
  | [], _ :: _, h => h.elim
  | b :: bs, u :: us, h => by
    have h1 : DC Z w (.raw (.int .u8 b.toNat)) u := h.1
    have h2 := byRs_cells (bs := bs) (us := us) h.2
    cases h1
    rw [h2]; rfl
  | _ :: _, [], h => h.elim
theorem opx_bstr (RO : List (Nat × OB)) {src dst e wd bytes : Nat} {zs : List Value} [hT : SlT P src e wd bytes zs] [hS : StrT P dst] (he : P.underlying e = some (.int .u8)) {av : AV} {bs : List UInt8} (h : ∀ O, OgL O RO → SlV O av 1 (byRs bs)) :
    OpX P ⟨some d, .convert src dst x, ty, pos, af, gd⟩ [(x, av)] RO [] [(d, .str bs)] [] :=
  opx_val rfl fun cx S O V a w ρ Z hg hR hO => by
    obtain ⟨A, c, us, h1, h2, h3, h4, h5, h6⟩ := slv_read hg (h O hO) (hg.ag hR.1)
    obtain ⟨i, z, hu, _⟩ := sl_parts hT
    have hlen : (byRs bs).length = bs.length := byRs_len
    refine ⟨.string ⟨bs.toArray⟩, ?_, da_mk rfl, by simp [AV.tags, AR.tags, A1.tag]⟩
    rcases Nat.eq_zero_or_pos bs.length with h0 | h0
    · obtain rfl := List.eq_nil_of_length_eq_zero h0
      have hc : (convert src dst (.slice A 0 c)).run P w = .ok (.string ⟨#[]⟩) w := by
        cases A with
        | none => simp [convert, run_underlying hu, run_underlying hS.ok, run_underlying he, Conv.bytesToString]; rfl
        | some a0 => simp [convert, run_underlying hu, run_underlying hS.ok, run_underlying he, Conv.bytesToString, loadCells, loadCellsFrom]; rfl
      simp only [execOp, h1]
      rw [Sem.run_bind, show (byRs ([] : List UInt8)).length = 0 from rfl, hc]; rfl
    · obtain ⟨b, o, rfl, h7⟩ := h6 (by omega)
      have hus := byRs_cells h5
      have hB : Lib.Bytes w b o ⟨bs.toArray⟩ := fun i hi => by
        have hi' : i < bs.length := by simpa [ByteArray.size] using hi
        refine (h7 i _ (by rw [hus, List.getElem?_map, List.getElem?_eq_getElem hi']; rfl)).trans ?_
        congr 2
      have hc := Lib.run_convert_whole (P := P) w src e dst hu he hS.ok b o ⟨bs.toArray⟩ hB c
      have hsz : (⟨bs.toArray⟩ : ByteArray).size = bs.length := by simp [ByteArray.size]
      rw [hsz] at hc
      simp only [execOp, h1, hlen]
      rw [Sem.run_bind, hc]; rfl
end
section
variable {P : Program} {ops : Array Oper} {cx : Cx} {Q : APost} {rest : List Oper} {l : SL} {m : OL} {n d : Nat} {x : Operand} {ty : TypeId} {pos : String} {af : Array Edge} {T e bytes : Nat} {zs : List Value}
/-- '[]byte{c}' -/
theorem al_litB1 [hT : SlT P T e 1 bytes zs] {a : UInt8} (hx : Ag (lk .dead l) x (.raw (.int .u8 a.toNat))) (hd : Nat.blt d cx.N = true)
    (k : AL P ops cx Q rest ((d, .own n) :: l) ((n, .row 1 e (byRs [a])) :: m) (n + 1)) : AL P ops cx Q (⟨some d, .buildSlice T 1 #[(0, x)], ty, pos, af, none⟩ :: rest) l m n :=
  al_n (opx_lit1 (S := lk .dead l) (u := n) (cs := [.raw (.int .u8 a.toNat)]) (.cons hx (.nil _)) rfl rfl) ⟨hx, trivial⟩ trivial hd k
end
section
variable {P : Program} {ol : List Oper} {cx : Cx} {Q : APost} {done : List Keys} {rest : List Oper} {l : SL} {m : OL} {n : Nat}
variable {d u : Nat} {T e ty : TypeId} {bytes : Nat} {zs : List Value} {x y : Operand} {pos : String} {af : Array Edge}
theorem ad_litB1 [hT : SlT P T e 1 bytes zs] {a : UInt8} (hx : Ag (lk .dead l) x (.raw (.int .u8 a.toNat))) (hd : Nat.blt d cx.N = true)
    (k : AD P ol cx Q (⟨rtmps (rdParts [(0, x)] ([(.raw (.int .u8 a.toNat))].map fun c => .one (.c c))), [d], [], [n], [n]⟩ :: done) rest ((d, .own n) :: l) ((n, .row 1 e (byRs [a])) :: m) (n + 1)) :
    AD P ol cx Q done (⟨some d, .buildSlice T 1 #[(0, x)], ty, pos, af, none⟩ :: rest) l m n :=
  ad_n (opx_lit1 (S := lk .dead l) (u := n) (cs := [.raw (.int .u8 a.toNat)]) (.cons hx (.nil _)) rfl rfl) ⟨hx, trivial⟩ trivial hd k
end
end Go.Proofs.YtfoecgfboicphaaGreatDoor
