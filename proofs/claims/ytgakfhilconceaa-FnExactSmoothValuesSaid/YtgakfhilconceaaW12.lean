/-
  Smooth values: the walks.
-/
import Derived.Test.YtgakfhilconceaaW2
import Derived.Test.YtgakfhilconceaaW1
import Derived.Test.YtgakfhilconceaaPW
namespace Go.Proofs.Ytgakfhilconceaa
open Go.RowKit
set_option linter.unusedVariables false
set_option linter.unusedSimpArgs false
attribute [local irreducible] AL AW OpX Le AD

theorem tdiv_neg {n b : Int} (hn : n < 0) (hb : 1 ≤ b) : n ≤ n.tdiv b ∧ n.tdiv b ≤ 0 ∧ n ≤ n.tdiv b * b ∧ n.tdiv b * b ≤ 0 := by
  have h1 := Int.mul_tdiv_add_tmod n b
  have h2 : n.tmod b = -((-n).tmod b) := by rw [Int.neg_tmod]; omega
  have h3 := Int.tmod_nonneg (a := -n) b (by omega)
  have h4 := Int.tmod_lt_of_pos (-n) (b := b) (by omega)
  have hc := Int.mul_comm (n.tdiv b) b
  have hq : n.tdiv b ≤ 0 := by
    rcases Int.lt_or_le 0 (n.tdiv b) with h | h
    · have := Int.mul_le_mul_of_nonneg_left (show 1 ≤ n.tdiv b by omega) (show 0 ≤ b by omega)
      omega
    · exact h
  have hq2 : b * n.tdiv b ≤ 1 * n.tdiv b := Int.mul_le_mul_of_nonpos_right hb hq
  omega
theorem c_floorDiv (n b : Int) (hb : 1 ≤ b ∧ b ≤ 1000000) (hn : -1000000000000 ≤ n ∧ n ≤ 1000000000000) : Con Try.prog 38 [rI n, rI b] [] (fun rs all => rs = [rI (n / b)] ∧ all = []) := by
  have he := fdiv_impl (n := n) (b := b) (by omega)
  refine con_of_aw (vars := [.tmp 4]) [(0, .r (rI n)), (1, .r (rI b))] [] 0 Try.func38 (by kernel_rfl) rfl Try.ntmps38 rfl (by decide) rfl rfl rfl rfl rfl ?_
  intro B M w0 ρ0 Z0
  by_cases h : n < 0
  · obtain ⟨t1, t2, t3, t4⟩ := tdiv_neg h hb.1
    have hi : InR (n.tdiv b) := ⟨by omega, by omega⟩
    have hd : decide (n < 0) = true := decide_eq_true h
    by_cases h0 : n.tmod b = 0
    · have hd0 : (!decide (n.tmod b = 0)) = false := by rw [decide_eq_true h0]; rfl
      rw [if_neg (fun h => h.2 h0)] at he
      repeat' (first | (refine is_al ?_; (first | (refine is_gd ?_; refine al_on rfl rfl rfl (by assumption) ?_) | (refine is_move ?_; refine al_v (opx_move (.raw _)) ⟨rfl, trivial⟩ trivial rfl ?_) | (refine is_bin ?_; (first | refine al_v opx_neq ⟨rfl, rfl, trivial⟩ trivial rfl ?_ | refine al_v opx_lss ⟨rfl, rfl, trivial⟩ trivial rfl ?_)) | (refine is_assign ?_; refine al_v (opx_assign (.raw _)) ⟨rfl, trivial⟩ trivial rfl ?_) | (refine is_pick ?_; refine al_v (opx_pick_t (.raw _) (by assumption)) ⟨rfl, rfl, trivial⟩ trivial rfl ?_) | refine al_nil ?_ | refine al_v (opx_tmod (by omega)) ⟨rfl, rfl, trivial⟩ trivial rfl ?_ | refine al_v (opx_tdiv hi (by omega)) ⟨rfl, rfl, trivial⟩ trivial rfl ?_)) | (refine is_ad ?_; (first | refine al_v (opx_tmod (by omega)) ⟨rfl, rfl, trivial⟩ trivial rfl ?_ | refine al_v (opx_tdiv hi (by omega)) ⟨rfl, rfl, trivial⟩ trivial rfl ?_)) | (refine is_aw ?_; (first | refine aw_seq ?_ | refine aw_region ?_ | refine aw_skip ?_ | refine aw_ret ?_ | (refine is_cond ?_; refine aw_cond_f rfl (by assumption) ?_))))
      exact ret_raw trivial rfl ⟨by rw [he], rfl⟩
    · have hd0 : (!decide (n.tmod b = 0)) = true := by rw [decide_eq_false h0]; rfl
      rw [if_pos ⟨h, h0⟩] at he
      repeat' (first | (refine is_al ?_; (first | (refine is_gd ?_; refine al_on rfl rfl rfl (by assumption) ?_) | (refine is_move ?_; refine al_v (opx_move (.raw _)) ⟨rfl, trivial⟩ trivial rfl ?_) | (refine is_bin ?_; (first | refine al_v opx_neq ⟨rfl, rfl, trivial⟩ trivial rfl ?_ | refine al_v opx_lss ⟨rfl, rfl, trivial⟩ trivial rfl ?_ | refine al_v (opx_sub (by unfold InR; omega)) ⟨rfl, rfl, trivial⟩ trivial rfl ?_)) | (refine is_assign ?_; refine al_v (opx_assign (.raw _)) ⟨rfl, trivial⟩ trivial rfl ?_) | (refine is_pick ?_; refine al_v (opx_pick_t (.raw _) (by assumption)) ⟨rfl, rfl, trivial⟩ trivial rfl ?_) | refine al_nil ?_ | refine al_v (opx_tmod (by omega)) ⟨rfl, rfl, trivial⟩ trivial rfl ?_ | refine al_v (opx_tdiv hi (by omega)) ⟨rfl, rfl, trivial⟩ trivial rfl ?_)) | (refine is_ad ?_; (first | refine al_v (opx_tmod (by omega)) ⟨rfl, rfl, trivial⟩ trivial rfl ?_ | refine al_v (opx_tdiv hi (by omega)) ⟨rfl, rfl, trivial⟩ trivial rfl ?_)) | (refine is_aw ?_; (first | refine aw_seq ?_ | refine aw_region ?_ | refine aw_ret ?_ | (refine is_cond ?_; refine aw_cond_t rfl (by assumption) ?_))) | refine thn_r ?_)
      exact ret_raw trivial rfl ⟨by rw [he], rfl⟩
  · have hd : decide (n < 0) = false := decide_eq_false h
    repeat' (first | (refine is_al ?_; (first | (refine is_gd ?_; refine al_off rfl rfl rfl (by assumption) rfl ?_) | (refine is_move ?_; refine al_v (opx_move (.raw _)) ⟨rfl, trivial⟩ trivial rfl ?_) | (refine is_bin ?_; (first | refine al_v opx_lss ⟨rfl, rfl, trivial⟩ trivial rfl ?_ | refine al_v (opx_quo (by unfold InR; omega) (by omega) (by omega)) ⟨rfl, rfl, trivial⟩ trivial rfl ?_)) | (refine is_assign ?_; refine al_v (opx_assign (.raw _)) ⟨rfl, trivial⟩ trivial rfl ?_) | (refine is_pick ?_; refine al_v (opx_pick_f (.raw _) (by assumption)) ⟨rfl, rfl, trivial⟩ trivial rfl ?_) | refine al_nil ?_)) | (refine is_aw ?_; (first | refine aw_seq ?_ | refine aw_region ?_ | refine aw_skip ?_ | refine aw_ret ?_ | (refine is_cond ?_; refine aw_cond_f rfl rfl ?_))))
    exact ret_raw trivial rfl ⟨rfl, rfl⟩
theorem c_sFloorDiv (n b : Int) (hb : 1 ≤ b ∧ b ≤ 1000000) (hn : -1000000000000 ≤ n ∧ n ≤ 1000000000000) : Con Try.prog 41 [rI n, rI b] [] (fun rs all => rs = [rI (n / b)] ∧ all = []) := by
  have he := fdiv_spec (n := n) (b := b) (by omega)
  refine con_of_aw (vars := [.tmp 4]) [(0, .r (rI n)), (1, .r (rI b))] [] 0 Try.func41 (by kernel_rfl) rfl Try.ntmps41 rfl (by decide) rfl rfl rfl rfl rfl ?_
  intro B M w0 ρ0 Z0
  by_cases h : n < 0
  · obtain ⟨t1, t2, t3, t4⟩ := tdiv_neg h hb.1
    have hi : InR (n.tdiv b) := ⟨by omega, by omega⟩
    have hi2 : InR (n.tdiv b * b) := ⟨by omega, by omega⟩
    by_cases h0 : n < n.tdiv b * b
    · have hd0 : decide (n < n.tdiv b * b) = true := decide_eq_true h0
      rw [if_pos h0] at he
      repeat' (first | (refine is_al ?_; (first | (refine is_move ?_; refine al_v (opx_move (.raw _)) ⟨rfl, trivial⟩ trivial rfl ?_) | (refine is_bin ?_; (first | refine al_v opx_gtr ⟨rfl, rfl, trivial⟩ trivial rfl ?_ | refine al_v (opx_sub (by unfold InR; omega)) ⟨rfl, rfl, trivial⟩ trivial rfl ?_ | refine al_v (opx_mul (by unfold InR; omega)) ⟨rfl, rfl, trivial⟩ trivial rfl ?_)) | (refine is_assign ?_; refine al_v (opx_assign (.raw _)) ⟨rfl, trivial⟩ trivial rfl ?_) | refine al_nil ?_ | refine al_v (opx_tdiv hi (by omega)) ⟨rfl, rfl, trivial⟩ trivial rfl ?_)) | (refine is_ad ?_; refine al_v (opx_tdiv hi (by omega)) ⟨rfl, rfl, trivial⟩ trivial rfl ?_) | (refine is_aw ?_; (first | refine aw_seq ?_ | refine aw_region ?_ | refine aw_ret ?_ | (refine is_cond ?_; refine aw_cond_t rfl (by assumption) ?_))))
      exact ret_raw trivial rfl ⟨by rw [he], rfl⟩
    · have hd0 : decide (n < n.tdiv b * b) = false := decide_eq_false h0
      rw [if_neg h0] at he
      repeat' (first | (refine is_al ?_; (first | (refine is_move ?_; refine al_v (opx_move (.raw _)) ⟨rfl, trivial⟩ trivial rfl ?_) | (refine is_bin ?_; (first | refine al_v opx_gtr ⟨rfl, rfl, trivial⟩ trivial rfl ?_ | refine al_v (opx_mul (by unfold InR; omega)) ⟨rfl, rfl, trivial⟩ trivial rfl ?_)) | (refine is_assign ?_; refine al_v (opx_assign (.raw _)) ⟨rfl, trivial⟩ trivial rfl ?_) | refine al_nil ?_ | refine al_v (opx_tdiv hi (by omega)) ⟨rfl, rfl, trivial⟩ trivial rfl ?_)) | (refine is_ad ?_; refine al_v (opx_tdiv hi (by omega)) ⟨rfl, rfl, trivial⟩ trivial rfl ?_) | (refine is_aw ?_; (first | refine aw_seq ?_ | refine aw_region ?_ | refine aw_skip ?_ | refine aw_ret ?_ | (refine is_cond ?_; refine aw_cond_f rfl (by assumption) ?_))))
      exact ret_raw trivial rfl ⟨by rw [he], rfl⟩
  · have h1 := Int.mul_ediv_add_emod n b
    have h2 := Int.emod_nonneg n (b := b) (by omega)
    have hc := Int.mul_comm (n / b) b
    have h5 := Int.ediv_nonneg (a := n) (b := b) (by omega) (by omega)
    have h6 := Int.mul_nonneg h5 (show 0 ≤ b by omega)
    have hi2 : InR (n / b * b) := ⟨by omega, by omega⟩
    have hd0 : decide (n < n / b * b) = false := decide_eq_false (by omega)
    repeat' (first | (refine is_al ?_; (first | (refine is_move ?_; refine al_v (opx_move (.raw _)) ⟨rfl, trivial⟩ trivial rfl ?_) | (refine is_bin ?_; (first | refine al_v opx_gtr ⟨rfl, rfl, trivial⟩ trivial rfl ?_ | refine al_v (opx_mul (by unfold InR; omega)) ⟨rfl, rfl, trivial⟩ trivial rfl ?_ | refine al_v (opx_quo (by unfold InR; omega) (by omega) (by omega)) ⟨rfl, rfl, trivial⟩ trivial rfl ?_)) | (refine is_assign ?_; refine al_v (opx_assign (.raw _)) ⟨rfl, trivial⟩ trivial rfl ?_) | refine al_nil ?_)) | (refine is_aw ?_; (first | refine aw_seq ?_ | refine aw_region ?_ | refine aw_skip ?_ | refine aw_ret ?_ | (refine is_cond ?_; refine aw_cond_f rfl (by assumption) ?_))))
    exact ret_raw trivial rfl ⟨rfl, rfl⟩

noncomputable def svB (ps : List Pt) (w : Int) : Bool := vsB ps && decide (1 ≤ w ∧ w ≤ 100)
noncomputable def svR (ps : List Pt) (w : Int) : List Int := if svB ps w = true then svals ps w ps.length else []
theorem svB_of {ps : List Pt} {w : Int} (h : svB ps w = true) : VS ps ∧ 1 ≤ w ∧ w ≤ 100 := by
  rw [svB, Bool.and_eq_true] at h
  have := h.2
  simp at this
  exact ⟨vsB_iff.1 h.1, this⟩
theorem mulB {x w : Int} (hx : -200000 ≤ x ∧ x ≤ 200000) (hw : 1 ≤ w ∧ w ≤ 100) : -20000000 ≤ x * w ∧ x * w ≤ 20000000 := by
  rcases Int.le_total 0 x with h | h
  · have h1 := Int.mul_nonneg h (show 0 ≤ w by omega)
    have h2 := Int.mul_le_mul hx.2 hw.2 (by omega) (by omega)
    omega
  · have h1 := Int.mul_nonneg (show 0 ≤ -x by omega) (show 0 ≤ w by omega)
    have h2 := Int.mul_le_mul (show -x ≤ 200000 by omega) hw.2 (by omega) (by omega)
    rw [Int.neg_mul] at h1 h2
    omega
theorem c_SmoothValues (ps : List Pt) (w : Int) : Con Try.prog 15 [slP ps, rI w] [] (fun rs all => rs = [.one (.own 0)] ∧ all = [.row 1 3 (inRs (svR ps w))]) := by
  have hlen := ptRs_len (ps := ps)
  refine con_of_aw (vars := [.tmp 4]) [(0, .r (slP ps)), (1, .r (rI w))] [] 0 Try.func15 (by kernel_rfl) rfl Try.ntmps15 rfl (by decide) rfl rfl rfl rfl rfl ?_
  intro B M w0 ρ0 Z0
  by_cases hv : svB ps w = true
  · obtain ⟨hvs, hw1, hw2⟩ := svB_of hv
    have hn1 : (!vsB ps) = false := by rw [vsB_t hvs]; rfl
    have h16 := hvs.1
    repeat' (first | (refine is_al ?_; (first | (refine is_gd ?_; (first | refine al_on rfl rfl rfl (by assumption) ?_ | (refine al_g rfl rfl rfl rfl ?_ ?_ <;> ((intro hgd; try exact absurd hgd (by decide)); (try (have hz := hgd; simp only [decide_eq_true_eq, decide_eq_false_iff_not, Bool.not_eq_true', Bool.not_eq_false', Bool.not_true, Bool.not_false, beq_iff_eq, Int.not_le, Int.not_lt] at hz)); (try (exfalso; omega)))))) | (refine is_move ?_; (first | refine al_v (opx_move (.raw _)) ⟨rfl, trivial⟩ trivial rfl ?_ | refine al_v (opx_move (.sl _ _)) ⟨rfl, trivial⟩ trivial rfl ?_)) | (refine is_bin ?_; (first | refine al_v opx_lss ⟨rfl, rfl, trivial⟩ trivial rfl ?_ | refine al_v opx_gtr ⟨rfl, rfl, trivial⟩ trivial rfl ?_)) | (refine is_assign ?_; refine al_v (opx_assign (.raw _)) ⟨rfl, trivial⟩ trivial rfl ?_) | (refine is_pick ?_; refine al_v (opx_pick_f (.raw _) (by assumption)) ⟨rfl, rfl, trivial⟩ trivial rfl ?_) | (refine is_bi ?_; refine al_v opx_len_sl ⟨rfl, trivial⟩ trivial rfl ?_) | (refine is_call ?_; refine al_callv2 (by (repeat (first | exact .nil | refine .one rfl rfl ?_ | refine .froz rfl rfl ?_ | refine .row rfl rfl ?_ | refine .rnil rfl ?_ | refine .agg rfl (by (repeat (first | exact .nil | refine .cons (.same rfl) ?_ | refine .cons (.froz rfl) ?_ | refine .cons (.rnil) ?_ | refine .cons (.row rfl rfl) ?_)); (first | done | fail)) ?_)); (first | done | fail)) rfl (c_validSeries _) rfl ?_) | refine al_v opx_not ⟨rfl, trivial⟩ trivial rfl ?_ | refine al_nil ?_)) | (refine is_aw ?_; (first | refine aw_seq ?_ | refine aw_region ?_ | refine aw_skip ?_ | refine aw_block ?_ | (refine is_cond ?_; (refine aw_cond rfl ?_ ?_ <;> ((intro hgd; try exact absurd hgd (by decide)); (try (have hz := hgd; simp only [decide_eq_true_eq, decide_eq_false_iff_not, Bool.not_eq_true', Bool.not_eq_false', Bool.not_true, Bool.not_false, beq_iff_eq, Int.not_le, Int.not_lt] at hz)); (try (exfalso; omega))))))))
    refine aw_le (le_ownNil 5 1 3 rfl) ?_
    refine aw_loop (γ := Nat × Int) (fun g => [(0, .r (slP ps)), (1, .r (rI w)), (4, .raw (.slice none 0 0)), (5, .own 0), (6, .i g.2), (21, .r (slP ps)), (22, .i ((ptRs ps).length : Int)), (23, .i (g.1 : Int))])
      (fun g => [(0, .row 1 3 (inRs (svals ps w g.1)))]) (fun _ => 1) (fun g => g.1 ≤ ps.length ∧ -100000 ≤ g.2 ∧ g.2 ≤ 100000 ∧ ∀ k, g.1 = k + 1 → g.2 = sval ps w k) (fun g => ps.length - g.1) (0, 0) ⟨Nat.zero_le _, by dsimp only; omega, by dsimp only; omega, fun k h => by cases h⟩ (le_mk [0] rfl rfl rfl rfl ⟨rfl, rfl, rfl, rfl, rfl, rfl, rfl, rfl, trivial⟩ ⟨rfl, trivial⟩) ?_
    rintro ⟨k, z⟩ ⟨hk, hz1, hz2, hz⟩
    dsimp only at hk hz1 hz2 hz ⊢
    have hml := svals_len (ps := ps) (w := w) (k := k)
    rcases Nat.lt_or_ge k ps.length with hlt | hge
    · have hc : decide ((k : Int) < ((ptRs ps).length : Int)) = true := decide_eq_true (by omega)
      obtain ⟨p, hp⟩ : ∃ p, ps[k]? = some p := ⟨_, List.getElem?_eq_getElem hlt⟩
      have hpr := ptRs_at hp
      obtain ⟨o1, o2, o3, o4⟩ := hvs.ok p (List.mem_of_getElem? hp)
      have hb := sval_bound hvs.ok ⟨hw1, hw2⟩ k hlt
      rcases k with _ | k
      · have hd0 : decide (((0 : Nat) : Int) = 0) = true := rfl
        have e : p.2 * 100 = sval ps w 0 := by rw [sval, getD_pt hp]
        repeat' (first | (refine is_al ?_; (first | (refine is_move ?_; (first | refine al_v (opx_move (.raw _)) ⟨rfl, trivial⟩ trivial rfl ?_ | refine al_v (opx_move (.own _)) ⟨rfl, trivial⟩ trivial rfl ?_)) | (refine is_bin ?_; (first | refine al_v opx_eql ⟨rfl, rfl, trivial⟩ trivial rfl ?_ | refine al_v opx_lss ⟨rfl, rfl, trivial⟩ trivial rfl ?_ | refine al_v (opx_add (by unfold InR; omega)) ⟨rfl, rfl, trivial⟩ trivial rfl ?_ | refine al_v (opx_mul (by unfold InR; omega)) ⟨rfl, rfl, trivial⟩ trivial rfl ?_)) | (refine is_load ?_; (first | refine al_v opx_ld2_imm ⟨rfl, trivial⟩ trivial rfl ?_ | refine al_v (opx_ld_box rfl) ⟨rfl, trivial⟩ ⟨rfl, trivial⟩ rfl ?_)) | (refine is_fa ?_; refine al_v opx_fa_ref ⟨rfl, trivial⟩ trivial rfl ?_) | (refine is_assign ?_; (first | refine al_v (opx_assign (.raw _)) ⟨rfl, trivial⟩ trivial rfl ?_ | refine al_v (opx_assign (.own _)) ⟨rfl, trivial⟩ trivial rfl ?_)) | (refine is_ia ?_; refine al_v (opx_ia_sl2 hpr (by omega)) ⟨rfl, rfl, trivial⟩ trivial rfl ?_) | (refine is_st ?_; refine al_s (opx_sts_box (by rfl) (by rfl)) ⟨rfl, rfl, trivial⟩ ⟨rfl, trivial⟩ ?_) | (refine is_bs ?_; refine al_pushI ⟨rfl, trivial⟩ rfl rfl rfl rfl rfl (by omega) ?_) | refine al_n opx_alloc trivial trivial rfl ?_ | refine al_nil ?_)) | (refine is_aw ?_; (first | refine aw_seq ?_ | refine aw_region ?_ | refine aw_skip ?_ | refine aw_block ?_ | (refine is_cond ?_; (first | refine aw_cond_t rfl rfl ?_ | refine aw_cond_t rfl (by assumption) ?_)))) | refine thn_n ?_)
        rw [e, ← svals_succ]
        exact ⟨(1, sval ps w 0), ⟨hlt, by dsimp only; omega, by dsimp only; omega, fun j hj => by cases hj; rfl⟩, by dsimp only; omega, le_mk [3] rfl rfl rfl rfl ⟨rfl, rfl, rfl, rfl, rfl, rfl, rfl, rfl, trivial⟩ ⟨rfl, trivial⟩⟩
      · have hd0 : decide (((k + 1 : Nat) : Int) = 0) = false := decide_eq_false (by omega)
        have hzk := hz k rfl
        have hm := mulB (x := p.2 * 100 - z) (w := w) ⟨by omega, by omega⟩ ⟨hw1, hw2⟩
        have e : z + (p.2 * 100 - z) * w / 100 = sval ps w (k + 1) := by rw [sval, getD_pt hp, smo, ← hzk]
        have hi : InR ((p.2 * 100 - z) * w) := ⟨by omega, by omega⟩
        repeat' (first | (refine is_al ?_; (first | (refine is_move ?_; (first | refine al_v (opx_move (.raw _)) ⟨rfl, trivial⟩ trivial rfl ?_ | refine al_v (opx_move (.own _)) ⟨rfl, trivial⟩ trivial rfl ?_)) | (refine is_bin ?_; (first | refine al_v opx_eql ⟨rfl, rfl, trivial⟩ trivial rfl ?_ | refine al_v opx_lss ⟨rfl, rfl, trivial⟩ trivial rfl ?_ | refine al_v (opx_add (by unfold InR; omega)) ⟨rfl, rfl, trivial⟩ trivial rfl ?_ | refine al_v (opx_sub (by unfold InR; omega)) ⟨rfl, rfl, trivial⟩ trivial rfl ?_ | refine al_v (opx_mul (by unfold InR; omega)) ⟨rfl, rfl, trivial⟩ trivial rfl ?_)) | (refine is_load ?_; (first | refine al_v opx_ld2_imm ⟨rfl, trivial⟩ trivial rfl ?_ | refine al_v (opx_ld_box rfl) ⟨rfl, trivial⟩ ⟨rfl, trivial⟩ rfl ?_)) | (refine is_fa ?_; refine al_v opx_fa_ref ⟨rfl, trivial⟩ trivial rfl ?_) | (refine is_assign ?_; (first | refine al_v (opx_assign (.raw _)) ⟨rfl, trivial⟩ trivial rfl ?_ | refine al_v (opx_assign (.own _)) ⟨rfl, trivial⟩ trivial rfl ?_)) | (refine is_ia ?_; refine al_v (opx_ia_sl2 hpr (by omega)) ⟨rfl, rfl, trivial⟩ trivial rfl ?_) | (refine is_call ?_; refine al_callv2 (by (repeat (first | exact .nil | refine .one rfl rfl ?_ | refine .froz rfl rfl ?_ | refine .row rfl rfl ?_ | refine .rnil rfl ?_ | refine .agg rfl (by (repeat (first | exact .nil | refine .cons (.same rfl) ?_ | refine .cons (.froz rfl) ?_ | refine .cons (.rnil) ?_ | refine .cons (.row rfl rfl) ?_)); (first | done | fail)) ?_)); (first | done | fail)) rfl (c_floorDiv _ _ (by omega) (by omega)) rfl ?_) | (refine is_st ?_; refine al_s (opx_sts_box (by rfl) (by rfl)) ⟨rfl, rfl, trivial⟩ ⟨rfl, trivial⟩ ?_) | (refine is_bs ?_; refine al_pushI ⟨rfl, trivial⟩ rfl rfl rfl rfl rfl (by omega) ?_) | refine al_n opx_alloc trivial trivial rfl ?_ | refine al_nil ?_)) | (refine is_aw ?_; (first | refine aw_seq ?_ | refine aw_region ?_ | refine aw_skip ?_ | refine aw_block ?_ | (refine is_cond ?_; (first | refine aw_cond_f rfl rfl ?_ | refine aw_cond_t rfl (by assumption) ?_)))) | refine thn_n ?_)
        rw [e, ← svals_succ]
        exact ⟨(k + 1 + 1, sval ps w (k + 1)), ⟨hlt, by dsimp only; omega, by dsimp only; omega, fun j hj => by cases hj; rfl⟩, by dsimp only; omega, le_mk [3] rfl rfl rfl rfl ⟨rfl, rfl, rfl, rfl, rfl, rfl, rfl, rfl, trivial⟩ ⟨rfl, trivial⟩⟩
    · have hc : decide ((k : Int) < ((ptRs ps).length : Int)) = false := decide_eq_false (by omega)
      repeat' (first | (refine is_al ?_; (first | (refine is_move ?_; refine al_v (opx_move (.own _)) ⟨rfl, trivial⟩ trivial rfl ?_) | (refine is_bin ?_; refine al_v opx_lss ⟨rfl, rfl, trivial⟩ trivial rfl ?_) | (refine is_assign ?_; refine al_v (opx_assign (.own _)) ⟨rfl, trivial⟩ trivial rfl ?_) | refine al_nil ?_)) | (refine is_aw ?_; (first | refine aw_seq ?_ | refine aw_region ?_ | refine aw_ret ?_ | refine aw_exit ?_ | (refine is_cond ?_; refine aw_cond_f rfl (by assumption) ?_))))
      exact ret_row trivial rfl rfl ⟨rfl, by rw [svR, if_pos hv, show k = ps.length by omega]⟩
  · have hf : svB ps w = false := by simpa using hv
    have hbad : ¬ (vsB ps = true ∧ 1 ≤ w ∧ w ≤ 100) := fun h => hv (by rw [svB, h.1, decide_eq_true h.2]; rfl)
    repeat' (first | (refine is_al ?_; (first | (refine is_gd ?_; (first | refine al_on rfl rfl rfl (by assumption) ?_ | refine al_off rfl rfl rfl (by assumption) rfl ?_ | (refine al_g rfl rfl rfl rfl ?_ ?_ <;> ((intro hgd; try exact absurd hgd (by decide)); (try (have hz := hgd; simp only [decide_eq_true_eq, decide_eq_false_iff_not, Bool.not_eq_true', Bool.not_eq_false', Bool.not_true, Bool.not_false, beq_iff_eq, Int.not_le, Int.not_lt] at hz)); (try (exfalso; omega)))))) | (refine is_move ?_; (first | refine al_v (opx_move (.raw _)) ⟨rfl, trivial⟩ trivial rfl ?_ | refine al_v (opx_move (.sl _ _)) ⟨rfl, trivial⟩ trivial rfl ?_)) | (refine is_bin ?_; (first | refine al_v opx_lss ⟨rfl, rfl, trivial⟩ trivial rfl ?_ | refine al_v opx_gtr ⟨rfl, rfl, trivial⟩ trivial rfl ?_)) | (refine is_assign ?_; refine al_v (opx_assign (.raw _)) ⟨rfl, trivial⟩ trivial rfl ?_) | (refine is_pick ?_; (first | refine al_v (opx_pick_t (.raw _) rfl) ⟨rfl, rfl, trivial⟩ trivial rfl ?_ | refine al_v (opx_pick_t (.raw _) (by assumption)) ⟨rfl, rfl, trivial⟩ trivial rfl ?_ | refine al_v (opx_pick_f (.raw _) (by assumption)) ⟨rfl, rfl, trivial⟩ trivial rfl ?_)) | (refine is_bi ?_; refine al_v opx_len_sl ⟨rfl, trivial⟩ trivial rfl ?_) | (refine is_call ?_; refine al_callv2 (by (repeat (first | exact .nil | refine .one rfl rfl ?_ | refine .froz rfl rfl ?_ | refine .row rfl rfl ?_ | refine .rnil rfl ?_ | refine .agg rfl (by (repeat (first | exact .nil | refine .cons (.same rfl) ?_ | refine .cons (.froz rfl) ?_ | refine .cons (.rnil) ?_ | refine .cons (.row rfl rfl) ?_)); (first | done | fail)) ?_)); (first | done | fail)) rfl (c_validSeries _) rfl ?_) | refine al_v opx_not ⟨rfl, trivial⟩ trivial rfl ?_ | refine al_nil ?_)) | (refine is_aw ?_; (first | refine aw_seq ?_ | refine aw_region ?_ | refine aw_skip ?_ | refine aw_block ?_ | (refine is_cond ?_; (first | refine aw_cond_t rfl rfl ?_ | (refine aw_cond rfl ?_ ?_ <;> ((intro hgd; try exact absurd hgd (by decide)); (try (have hz := hgd; simp only [decide_eq_true_eq, decide_eq_false_iff_not, Bool.not_eq_true', Bool.not_eq_false', Bool.not_true, Bool.not_false, beq_iff_eq, Int.not_le, Int.not_lt] at hz)); (try (exfalso; omega)))))))) | refine thn_n ?_)
    all_goals first | exact absurd ⟨by assumption, by omega, by omega⟩ hbad | (refine aw_le (le_ownNil 4 1 3 rfl) ?_; refine aw_ret ?_; repeat (first | refine thn_n ?_ | refine thn_r ?_ | refine thn_e ?_ | refine inb_n ?_ | refine inb_r ?_ | refine inb_hit ?_ | refine inb_miss rfl ?_); exact ret_row trivial rfl rfl ⟨rfl, by rw [svR, hf]; rfl⟩)
theorem c_SmoothValues' (ps : List Pt) (w : Int) : Con Try.prog 15 [slP ps, rI w] [] (fun rs all => rs = [slI (svR ps w)] ∧ all = []) :=
  (c_SmoothValues ps w).froz fun rs all ⟨h1, h2⟩ => by subst h1 h2; exact ⟨⟨rfl, rfl⟩, rfl⟩
theorem c_sSmoothValues (ps : List Pt) (w : Int) (hL : ps.length < 4611686018427387904) : Con Try.prog 17 [slP ps, rI w] [] (fun rs all => rs = [.one (.own 0)] ∧ all = [.row 1 3 (inRs (svR ps w))]) := by
  have hlen := ptRs_len (ps := ps)
  refine con_of_aw (vars := [.tmp 4]) [(0, .r (slP ps)), (1, .r (rI w))] [] 0 Try.func17 (by kernel_rfl) rfl Try.ntmps17 rfl (by decide) rfl rfl rfl rfl rfl ?_
  intro B M w0 ρ0 Z0
  by_cases hv : svB ps w = true
  · obtain ⟨hvs, hw1, hw2⟩ := svB_of hv
    have hn1 : (!vsB ps) = false := by rw [vsB_t hvs]; rfl
    have hn2 : (!decide (1 ≤ w ∧ w ≤ 100)) = false := by rw [decide_eq_true ⟨hw1, hw2⟩]; rfl
    have h16 := hvs.1
    repeat' (first | (refine is_al ?_; (first | (refine is_gd ?_; refine al_on rfl rfl rfl (by assumption) ?_) | (refine is_move ?_; (first | refine al_v (opx_move (.raw _)) ⟨rfl, trivial⟩ trivial rfl ?_ | refine al_v (opx_move (.sl _ _)) ⟨rfl, trivial⟩ trivial rfl ?_)) | (refine is_assign ?_; (first | refine al_v (opx_assign (.raw _)) ⟨rfl, trivial⟩ trivial rfl ?_ | refine al_v (opx_assign (.own _)) ⟨rfl, trivial⟩ trivial rfl ?_)) | (refine is_pick ?_; refine al_v (opx_pick_f (.raw _) (by assumption)) ⟨rfl, rfl, trivial⟩ trivial rfl ?_) | (refine is_call ?_; (first | refine al_callv2 (by (repeat (first | exact .nil | refine .one rfl rfl ?_ | refine .froz rfl rfl ?_ | refine .row rfl rfl ?_ | refine .rnil rfl ?_ | refine .agg rfl (by (repeat (first | exact .nil | refine .cons (.same rfl) ?_ | refine .cons (.froz rfl) ?_ | refine .cons (.rnil) ?_ | refine .cons (.row rfl rfl) ?_)); (first | done | fail)) ?_)); (first | done | fail)) rfl (c_sValidSeries _ hL) rfl ?_ | refine al_callv2 (by (repeat (first | exact .nil | refine .one rfl rfl ?_ | refine .froz rfl rfl ?_ | refine .row rfl rfl ?_ | refine .rnil rfl ?_ | refine .agg rfl (by (repeat (first | exact .nil | refine .cons (.same rfl) ?_ | refine .cons (.froz rfl) ?_ | refine .cons (.rnil) ?_ | refine .cons (.row rfl rfl) ?_)); (first | done | fail)) ?_)); (first | done | fail)) rfl (c_inRange _ _ _) rfl ?_)) | refine al_v opx_not ⟨rfl, trivial⟩ trivial rfl ?_ | (refine is_bs ?_; refine al_n opx_lit0 trivial trivial rfl ?_) | refine al_nil ?_)) | (refine is_aw ?_; (first | refine aw_seq ?_ | refine aw_region ?_ | refine aw_skip ?_ | refine aw_block ?_ | (refine is_cond ?_; refine aw_cond_f rfl (by assumption) ?_))))
    refine aw_loop (γ := Nat × Int) (fun g => [(0, .r (slP ps)), (1, .r (rI w)), (4, .raw (.slice none 0 0)), (5, .own 0), (6, .i g.2), (7, .i (g.1 : Int))])
      (fun g => [(0, .row 1 3 (inRs (svals ps w g.1)))]) (fun _ => 1) (fun g => g.1 ≤ ps.length ∧ -100000 ≤ g.2 ∧ g.2 ≤ 100000 ∧ ∀ k, g.1 = k + 1 → g.2 = sval ps w k) (fun g => ps.length - g.1) (0, 0) ⟨Nat.zero_le _, by dsimp only; omega, by dsimp only; omega, fun k h => by cases h⟩ (le_mk [0] rfl rfl rfl rfl ⟨rfl, rfl, rfl, rfl, rfl, rfl, trivial⟩ ⟨rfl, trivial⟩) ?_
    rintro ⟨k, z⟩ ⟨hk, hz1, hz2, hz⟩
    dsimp only at hk hz1 hz2 hz ⊢
    have hml := svals_len (ps := ps) (w := w) (k := k)
    rcases Nat.lt_or_ge k ps.length with hlt | hge
    · have hc : decide ((k : Int) < ((ptRs ps).length : Int)) = true := decide_eq_true (by omega)
      obtain ⟨p, hp⟩ : ∃ p, ps[k]? = some p := ⟨_, List.getElem?_eq_getElem hlt⟩
      have hpr := ptRs_at hp
      obtain ⟨o1, o2, o3, o4⟩ := hvs.ok p (List.mem_of_getElem? hp)
      have hb := sval_bound hvs.ok ⟨hw1, hw2⟩ k hlt
      rcases k with _ | k
      · have hd0 : decide (0 < ((0 : Nat) : Int)) = false := rfl
        have e : p.2 * 100 = sval ps w 0 := by rw [sval, getD_pt hp]
        repeat' (first | (refine is_al ?_; (first | (refine is_move ?_; (first | refine al_v (opx_move (.raw _)) ⟨rfl, trivial⟩ trivial rfl ?_ | refine al_v (opx_move (.sl _ _)) ⟨rfl, trivial⟩ trivial rfl ?_ | refine al_v (opx_move (.own _)) ⟨rfl, trivial⟩ trivial rfl ?_)) | (refine is_bin ?_; (first | refine al_v opx_lss ⟨rfl, rfl, trivial⟩ trivial rfl ?_ | refine al_v opx_gtr ⟨rfl, rfl, trivial⟩ trivial rfl ?_ | refine al_v (opx_add (by unfold InR; omega)) ⟨rfl, rfl, trivial⟩ trivial rfl ?_ | refine al_v (opx_mul (by unfold InR; omega)) ⟨rfl, rfl, trivial⟩ trivial rfl ?_)) | (refine is_load ?_; refine al_v opx_ld_imm ⟨rfl, trivial⟩ trivial rfl ?_) | (refine is_fa ?_; refine al_v opx_fa_imm1 ⟨rfl, trivial⟩ trivial rfl ?_) | (refine is_assign ?_; (first | refine al_v (opx_assign (.raw _)) ⟨rfl, trivial⟩ trivial rfl ?_ | refine al_v (opx_assign (.own _)) ⟨rfl, trivial⟩ trivial rfl ?_)) | (refine is_bi ?_; refine al_v opx_len_sl ⟨rfl, trivial⟩ trivial rfl ?_) | (refine is_ia ?_; refine al_v (opx_ia_sl2 hpr (by omega)) ⟨rfl, rfl, trivial⟩ trivial rfl ?_) | (refine is_bs ?_; refine al_pushI ⟨rfl, trivial⟩ rfl rfl rfl rfl rfl (by omega) ?_) | refine al_nil ?_)) | (refine is_aw ?_; (first | refine aw_seq ?_ | refine aw_region ?_ | refine aw_skip ?_ | refine aw_block ?_ | (refine is_cond ?_; (first | refine aw_cond_f rfl rfl ?_ | refine aw_cond_t rfl (by assumption) ?_)))) | refine thn_n ?_)
        rw [e, ← svals_succ]
        exact ⟨(1, sval ps w 0), ⟨hlt, by dsimp only; omega, by dsimp only; omega, fun j hj => by cases hj; rfl⟩, by dsimp only; omega, le_mk [2] rfl rfl rfl rfl ⟨rfl, rfl, rfl, rfl, rfl, rfl, trivial⟩ ⟨rfl, trivial⟩⟩
      · have hd0 : decide (0 < ((k + 1 : Nat) : Int)) = true := decide_eq_true (by omega)
        have hzk := hz k rfl
        have hm := mulB (x := p.2 * 100 - z) (w := w) ⟨by omega, by omega⟩ ⟨hw1, hw2⟩
        have e : z + (p.2 * 100 - z) * w / 100 = sval ps w (k + 1) := by rw [sval, getD_pt hp, smo, ← hzk]
        have hi : InR ((p.2 * 100 - z) * w) := ⟨by omega, by omega⟩
        repeat' (first | (refine is_al ?_; (first | (refine is_move ?_; (first | refine al_v (opx_move (.raw _)) ⟨rfl, trivial⟩ trivial rfl ?_ | refine al_v (opx_move (.sl _ _)) ⟨rfl, trivial⟩ trivial rfl ?_ | refine al_v (opx_move (.own _)) ⟨rfl, trivial⟩ trivial rfl ?_)) | (refine is_bin ?_; (first | refine al_v opx_lss ⟨rfl, rfl, trivial⟩ trivial rfl ?_ | refine al_v opx_gtr ⟨rfl, rfl, trivial⟩ trivial rfl ?_ | refine al_v (opx_add (by unfold InR; omega)) ⟨rfl, rfl, trivial⟩ trivial rfl ?_ | refine al_v (opx_sub (by unfold InR; omega)) ⟨rfl, rfl, trivial⟩ trivial rfl ?_ | refine al_v (opx_mul (by unfold InR; omega)) ⟨rfl, rfl, trivial⟩ trivial rfl ?_)) | (refine is_load ?_; refine al_v opx_ld_imm ⟨rfl, trivial⟩ trivial rfl ?_) | (refine is_fa ?_; refine al_v opx_fa_imm1 ⟨rfl, trivial⟩ trivial rfl ?_) | (refine is_assign ?_; (first | refine al_v (opx_assign (.raw _)) ⟨rfl, trivial⟩ trivial rfl ?_ | refine al_v (opx_assign (.own _)) ⟨rfl, trivial⟩ trivial rfl ?_)) | (refine is_bi ?_; refine al_v opx_len_sl ⟨rfl, trivial⟩ trivial rfl ?_) | (refine is_ia ?_; refine al_v (opx_ia_sl2 hpr (by omega)) ⟨rfl, rfl, trivial⟩ trivial rfl ?_) | (refine is_call ?_; refine al_callv2 (by (repeat (first | exact .nil | refine .one rfl rfl ?_ | refine .froz rfl rfl ?_ | refine .row rfl rfl ?_ | refine .rnil rfl ?_ | refine .agg rfl (by (repeat (first | exact .nil | refine .cons (.same rfl) ?_ | refine .cons (.froz rfl) ?_ | refine .cons (.rnil) ?_ | refine .cons (.row rfl rfl) ?_)); (first | done | fail)) ?_)); (first | done | fail)) rfl (c_sFloorDiv _ _ (by omega) (by omega)) rfl ?_) | (refine is_bs ?_; refine al_pushI ⟨rfl, trivial⟩ rfl rfl rfl rfl rfl (by omega) ?_) | refine al_nil ?_)) | (refine is_aw ?_; (first | refine aw_seq ?_ | refine aw_region ?_ | refine aw_skip ?_ | refine aw_block ?_ | (refine is_cond ?_; refine aw_cond_t rfl (by assumption) ?_))) | refine thn_n ?_)
        rw [e, ← svals_succ]
        exact ⟨(k + 1 + 1, sval ps w (k + 1)), ⟨hlt, by dsimp only; omega, by dsimp only; omega, fun j hj => by cases hj; rfl⟩, by dsimp only; omega, le_mk [2] rfl rfl rfl rfl ⟨rfl, rfl, rfl, rfl, rfl, rfl, trivial⟩ ⟨rfl, trivial⟩⟩
    · have hc : decide ((k : Int) < ((ptRs ps).length : Int)) = false := decide_eq_false (by omega)
      repeat' (first | (refine is_al ?_; (first | (refine is_move ?_; (first | refine al_v (opx_move (.raw _)) ⟨rfl, trivial⟩ trivial rfl ?_ | refine al_v (opx_move (.sl _ _)) ⟨rfl, trivial⟩ trivial rfl ?_ | refine al_v (opx_move (.own _)) ⟨rfl, trivial⟩ trivial rfl ?_)) | (refine is_bin ?_; refine al_v opx_lss ⟨rfl, rfl, trivial⟩ trivial rfl ?_) | (refine is_assign ?_; refine al_v (opx_assign (.own _)) ⟨rfl, trivial⟩ trivial rfl ?_) | (refine is_bi ?_; refine al_v opx_len_sl ⟨rfl, trivial⟩ trivial rfl ?_) | refine al_nil ?_)) | (refine is_aw ?_; (first | refine aw_seq ?_ | refine aw_region ?_ | refine aw_ret ?_ | refine aw_exit ?_ | (refine is_cond ?_; refine aw_cond_f rfl (by assumption) ?_))))
      exact ret_row trivial rfl rfl ⟨rfl, by rw [svR, if_pos hv, show k = ps.length by omega]⟩
  · have hf : svB ps w = false := by simpa using hv
    have hbad : ¬ (vsB ps = true ∧ decide (1 ≤ w ∧ w ≤ 100) = true) := fun h => hv (by rw [svB, h.1, h.2]; rfl)
    repeat' (first | (refine is_al ?_; (first | (refine is_gd ?_; (first | refine al_on rfl rfl rfl (by assumption) ?_ | refine al_off rfl rfl rfl (by assumption) rfl ?_ | (refine al_g rfl rfl rfl rfl ?_ ?_ <;> ((intro hgd; try exact absurd hgd (by decide)); (try (have hz := hgd; simp only [decide_eq_true_eq, decide_eq_false_iff_not, Bool.not_eq_true', Bool.not_eq_false', Bool.not_true, Bool.not_false, beq_iff_eq, Int.not_le, Int.not_lt] at hz)); (try (exfalso; omega)))))) | (refine is_move ?_; (first | refine al_v (opx_move (.raw _)) ⟨rfl, trivial⟩ trivial rfl ?_ | refine al_v (opx_move (.sl _ _)) ⟨rfl, trivial⟩ trivial rfl ?_)) | (refine is_assign ?_; (first | refine al_v (opx_assign (.raw _)) ⟨rfl, trivial⟩ trivial rfl ?_ | refine al_v (opx_assign (.own _)) ⟨rfl, trivial⟩ trivial rfl ?_)) | (refine is_pick ?_; (first | refine al_v (opx_pick_t (.raw _) (by assumption)) ⟨rfl, rfl, trivial⟩ trivial rfl ?_ | refine al_v (opx_pick_f (.raw _) (by assumption)) ⟨rfl, rfl, trivial⟩ trivial rfl ?_)) | (refine is_call ?_; (first | refine al_callv2 (by (repeat (first | exact .nil | refine .one rfl rfl ?_ | refine .froz rfl rfl ?_ | refine .row rfl rfl ?_ | refine .rnil rfl ?_ | refine .agg rfl (by (repeat (first | exact .nil | refine .cons (.same rfl) ?_ | refine .cons (.froz rfl) ?_ | refine .cons (.rnil) ?_ | refine .cons (.row rfl rfl) ?_)); (first | done | fail)) ?_)); (first | done | fail)) rfl (c_sValidSeries _ hL) rfl ?_ | refine al_callv2 (by (repeat (first | exact .nil | refine .one rfl rfl ?_ | refine .froz rfl rfl ?_ | refine .row rfl rfl ?_ | refine .rnil rfl ?_ | refine .agg rfl (by (repeat (first | exact .nil | refine .cons (.same rfl) ?_ | refine .cons (.froz rfl) ?_ | refine .cons (.rnil) ?_ | refine .cons (.row rfl rfl) ?_)); (first | done | fail)) ?_)); (first | done | fail)) rfl (c_inRange _ _ _) rfl ?_)) | refine al_v opx_not ⟨rfl, trivial⟩ trivial rfl ?_ | (refine is_bs ?_; refine al_n opx_lit0 trivial trivial rfl ?_) | refine al_nil ?_)) | (refine is_aw ?_; (first | refine aw_seq ?_ | refine aw_region ?_ | refine aw_skip ?_ | refine aw_block ?_ | (refine is_cond ?_; (first | refine aw_cond_t rfl rfl ?_ | (refine aw_cond rfl ?_ ?_ <;> ((intro hgd; try exact absurd hgd (by decide)); (try (have hz := hgd; simp only [decide_eq_true_eq, decide_eq_false_iff_not, Bool.not_eq_true', Bool.not_eq_false', Bool.not_true, Bool.not_false, beq_iff_eq, Int.not_le, Int.not_lt] at hz)); (try (exfalso; omega)))))))) | refine thn_n ?_)
    all_goals first | exact absurd ⟨by assumption, by assumption⟩ hbad | exact absurd ⟨by assumption, decide_eq_true (by assumption)⟩ hbad | (refine aw_le (le_ownNil 4 1 3 rfl) ?_; refine aw_ret ?_; repeat (first | refine thn_n ?_ | refine thn_r ?_ | refine thn_e ?_ | refine inb_n ?_ | refine inb_r ?_ | refine inb_hit ?_ | refine inb_miss rfl ?_); exact ret_row trivial rfl rfl ⟨rfl, by rw [svR, hf]; rfl⟩)
theorem c_sSmoothValues' (ps : List Pt) (w : Int) (hL : ps.length < 4611686018427387904) : Con Try.prog 17 [slP ps, rI w] [] (fun rs all => rs = [slI (svR ps w)] ∧ all = []) :=
  (c_sSmoothValues ps w hL).froz fun rs all ⟨h1, h2⟩ => by subst h1 h2; exact ⟨⟨rfl, rfl⟩, rfl⟩
end Go.Proofs.Ytgakfhilconceaa
