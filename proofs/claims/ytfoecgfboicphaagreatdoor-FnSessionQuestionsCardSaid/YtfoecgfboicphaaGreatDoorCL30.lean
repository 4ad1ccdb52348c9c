/- Texts: W126 Eng28 Eng30 Eng41 -/
import Derived.Test.YtfoecgfboicphaaGreatDoorCL29
import Derived.Test.YtfoecgfboicphaaGreatDoorCL8
/-
  Sessions: the four laws.
-/
namespace Go.Proofs.YtfoecgfboicphaaGreatDoor
open Go.RowKit
set_option linter.unusedVariables false
set_option linter.unusedSimpArgs false
attribute [local irreducible] AL AW OpX Le AD

theorem c_fnSessionPut (bs : List UInt8) : Con Tryz.prog 3 [slB bs] [] (fun rs all => rs = [rB true] ∧ all = []) := by
  have hlen := byRs_len (bs := bs)
  refine con_of_aw (vars := [.tmp 2]) [(0, .r (slB bs))] [] 0 Tryz.func3 (by kernel_rfl) rfl Tryz.ntmps3 rfl (by decide) rfl rfl rfl rfl rfl ?_; intro B M w0 ρ0 Z0
  repeat' (first | (refine is_al ?_; (first | (refine is_move ?_; refine al_v (opx_move (.sl _ _)) ⟨rfl, trivial⟩ trivial rfl ?_) | (refine is_bin ?_; refine al_v opx_gtr ⟨rfl, rfl, trivial⟩ trivial rfl ?_) | (refine is_assign ?_; (first | refine al_v (opx_assign (.raw _)) ⟨rfl, trivial⟩ trivial rfl ?_ | refine al_v (opx_assign (.sl _ _)) ⟨rfl, trivial⟩ trivial rfl ?_)) | (refine is_bi ?_; refine al_v opx_len_sl ⟨rfl, trivial⟩ trivial rfl ?_) | (refine is_call ?_; (refine al_callE (by (repeat (first | exact .nil | refine .one rfl rfl ?_ | refine .froz rfl rfl ?_ | refine .rnil rfl ?_ | refine .agg rfl (by (repeat (first | exact .nil | refine .cons (.same rfl) ?_ | refine .cons (.froz rfl) ?_ | refine .cons (.rnil) ?_)); (first | done | fail)) ?_)); (first | done | fail)) rfl (c_drawRunSession _ (by omega)) ?_; rintro ls ⟨h1, h2⟩)) | refine al_nil ?_)) | (refine is_aw ?_; (first | refine aw_seq ?_ | refine aw_region ?_ | refine aw_skip ?_ | refine aw_ret ?_ | (refine is_cond ?_; (refine aw_cond rfl ?_ ?_ <;> ((intro hgd; try exact absurd hgd (by decide)); (try (have hz := hgd; simp only [decide_eq_true_eq, decide_eq_false_iff_not, Bool.not_eq_true', Bool.not_eq_false', Bool.not_true, Bool.not_false, beq_iff_eq, Int.not_le, Int.not_lt] at hz)); (try (exfalso; omega))))))) | refine thn_r ?_)
  · exact ret_raw trivial rfl ⟨congrArg (fun b => [rB b]) (rfl), rfl⟩
  clear hz hlen; repeat clear hgd
  have hM : ∀ l ∈ ls, l.length ≤ 2000000 := fun l hl => by have := h2 l hl; omega
  have c1 := c_RunSession ls hM (by omega)
  have c2 := c_sRunSession ls hM (by omega)
  generalize runA ([], []) (ls.take 20) = R at c1 c2
  have hE : (!decide (R = R)) = false := by simp
  have c3 := c_RunSession sA (by decide) (by decide)
  have e3 : runA ([], []) (sA.take 20) = sAo := run_P1
  rw [e3] at c3
  repeat' (first | (refine is_al ?_; (first | (refine is_move ?_; (first | refine al_v (opx_move (.raw _)) ⟨rfl, trivial⟩ trivial rfl ?_ | refine al_v (opx_move (.sl _ _)) ⟨rfl, trivial⟩ trivial rfl ?_)) | (refine is_bin ?_; (first | refine al_v opx_seql ⟨rfl, rfl, trivial⟩ trivial rfl ?_ | refine al_v opx_sneq ⟨rfl, rfl, trivial⟩ trivial rfl ?_)) | (refine is_assign ?_; refine al_v (opx_assign (.raw _)) ⟨rfl, trivial⟩ trivial rfl ?_) | (refine is_call ?_; (first | refine al_callv2 (by (repeat (first | exact .nil | refine .one rfl rfl ?_ | refine .froz rfl rfl ?_ | refine .row rfl rfl ?_ | refine .rnil rfl ?_ | refine .agg rfl (by (repeat (first | exact .nil | refine .cons (.same rfl) ?_ | refine .cons (.froz rfl) ?_ | refine .cons (.rnil) ?_ | refine .cons (.row rfl rfl) ?_)); (first | done | fail)) ?_)); (first | done | fail)) rfl (c1) rfl ?_ | refine al_callv2 (by (repeat (first | exact .nil | refine .one rfl rfl ?_ | refine .froz rfl rfl ?_ | refine .row rfl rfl ?_ | refine .rnil rfl ?_ | refine .agg rfl (by (repeat (first | exact .nil | refine .cons (.same rfl) ?_ | refine .cons (.froz rfl) ?_ | refine .cons (.rnil) ?_ | refine .cons (.row rfl rfl) ?_)); (first | done | fail)) ?_)); (first | done | fail)) rfl (c2) rfl ?_ | refine al_callv2 (by (repeat (first | exact .nil | refine .one rfl rfl ?_ | refine .froz rfl rfl ?_ | refine .row rfl rfl ?_ | refine .rnil rfl ?_ | refine .agg rfl (by (repeat (first | exact .nil | refine .cons (.same rfl) ?_ | refine .cons (.froz rfl) ?_ | refine .cons (.rnil) ?_ | refine .cons (.row rfl rfl) ?_)); (first | done | fail)) ?_)); (first | done | fail)) rfl (c3) rfl ?_)) | refine al_nil ?_ | refine al_litS sA (by (repeat (first | exact .nil _ | refine .cons rfl ?_)); (first | done | fail)) rfl rfl rfl ?_)) | (refine is_ad ?_; refine al_litS sA (by (repeat (first | exact .nil _ | refine .cons rfl ?_)); (first | done | fail)) rfl rfl rfl ?_) | (refine is_aw ?_; (first | refine aw_seq ?_ | refine aw_region ?_ | refine aw_skip ?_ | refine aw_ret ?_ | (refine is_cond ?_; refine aw_cond_f rfl (by assumption) ?_))))
  exact ret_raw trivial rfl ⟨congrArg (fun b => [rB b]) (decide_eq_true rfl), rfl⟩
theorem c_fnSessionSeries (bs : List UInt8) : Con Tryz.prog 5 [slB bs] [] (fun rs all => rs = [rB true] ∧ all = []) := by
  have hlen := byRs_len (bs := bs)
  refine con_of_aw (vars := [.tmp 2]) [(0, .r (slB bs))] [] 0 Tryz.func5 (by kernel_rfl) rfl Tryz.ntmps5 rfl (by decide) rfl rfl rfl rfl rfl ?_; intro B M w0 ρ0 Z0
  repeat' (first | (refine is_al ?_; (first | (refine is_move ?_; refine al_v (opx_move (.sl _ _)) ⟨rfl, trivial⟩ trivial rfl ?_) | (refine is_bin ?_; refine al_v opx_gtr ⟨rfl, rfl, trivial⟩ trivial rfl ?_) | (refine is_assign ?_; (first | refine al_v (opx_assign (.raw _)) ⟨rfl, trivial⟩ trivial rfl ?_ | refine al_v (opx_assign (.sl _ _)) ⟨rfl, trivial⟩ trivial rfl ?_)) | (refine is_bi ?_; refine al_v opx_len_sl ⟨rfl, trivial⟩ trivial rfl ?_) | (refine is_call ?_; (refine al_callE (by (repeat (first | exact .nil | refine .one rfl rfl ?_ | refine .froz rfl rfl ?_ | refine .rnil rfl ?_ | refine .agg rfl (by (repeat (first | exact .nil | refine .cons (.same rfl) ?_ | refine .cons (.froz rfl) ?_ | refine .cons (.rnil) ?_)); (first | done | fail)) ?_)); (first | done | fail)) rfl (c_drawRunSession _ (by omega)) ?_; rintro ls ⟨h1, h2⟩)) | refine al_nil ?_)) | (refine is_aw ?_; (first | refine aw_seq ?_ | refine aw_region ?_ | refine aw_skip ?_ | refine aw_ret ?_ | (refine is_cond ?_; (refine aw_cond rfl ?_ ?_ <;> ((intro hgd; try exact absurd hgd (by decide)); (try (have hz := hgd; simp only [decide_eq_true_eq, decide_eq_false_iff_not, Bool.not_eq_true', Bool.not_eq_false', Bool.not_true, Bool.not_false, beq_iff_eq, Int.not_le, Int.not_lt] at hz)); (try (exfalso; omega))))))) | refine thn_r ?_)
  · exact ret_raw trivial rfl ⟨congrArg (fun b => [rB b]) (rfl), rfl⟩
  clear hz hlen; repeat clear hgd
  have hM : ∀ l ∈ ls, l.length ≤ 2000000 := fun l hl => by have := h2 l hl; omega
  have c1 := c_RunSession ls hM (by omega)
  have c2 := c_sRunSession ls hM (by omega)
  generalize runA ([], []) (ls.take 20) = R at c1 c2
  have hE : (!decide (R = R)) = false := by simp
  have c3 := c_RunSession sB (by decide) (by decide)
  have e3 : runA ([], []) (sB.take 20) = sBo := run_P2
  rw [e3] at c3
  repeat' (first | (refine is_al ?_; (first | (refine is_move ?_; (first | refine al_v (opx_move (.raw _)) ⟨rfl, trivial⟩ trivial rfl ?_ | refine al_v (opx_move (.sl _ _)) ⟨rfl, trivial⟩ trivial rfl ?_)) | (refine is_bin ?_; (first | refine al_v opx_seql ⟨rfl, rfl, trivial⟩ trivial rfl ?_ | refine al_v opx_sneq ⟨rfl, rfl, trivial⟩ trivial rfl ?_)) | (refine is_assign ?_; refine al_v (opx_assign (.raw _)) ⟨rfl, trivial⟩ trivial rfl ?_) | (refine is_call ?_; (first | refine al_callv2 (by (repeat (first | exact .nil | refine .one rfl rfl ?_ | refine .froz rfl rfl ?_ | refine .row rfl rfl ?_ | refine .rnil rfl ?_ | refine .agg rfl (by (repeat (first | exact .nil | refine .cons (.same rfl) ?_ | refine .cons (.froz rfl) ?_ | refine .cons (.rnil) ?_ | refine .cons (.row rfl rfl) ?_)); (first | done | fail)) ?_)); (first | done | fail)) rfl (c1) rfl ?_ | refine al_callv2 (by (repeat (first | exact .nil | refine .one rfl rfl ?_ | refine .froz rfl rfl ?_ | refine .row rfl rfl ?_ | refine .rnil rfl ?_ | refine .agg rfl (by (repeat (first | exact .nil | refine .cons (.same rfl) ?_ | refine .cons (.froz rfl) ?_ | refine .cons (.rnil) ?_ | refine .cons (.row rfl rfl) ?_)); (first | done | fail)) ?_)); (first | done | fail)) rfl (c2) rfl ?_ | refine al_callv2 (by (repeat (first | exact .nil | refine .one rfl rfl ?_ | refine .froz rfl rfl ?_ | refine .row rfl rfl ?_ | refine .rnil rfl ?_ | refine .agg rfl (by (repeat (first | exact .nil | refine .cons (.same rfl) ?_ | refine .cons (.froz rfl) ?_ | refine .cons (.rnil) ?_ | refine .cons (.row rfl rfl) ?_)); (first | done | fail)) ?_)); (first | done | fail)) rfl (c3) rfl ?_)) | refine al_nil ?_ | refine al_litS sB (by (repeat (first | exact .nil _ | refine .cons rfl ?_)); (first | done | fail)) rfl rfl rfl ?_)) | (refine is_ad ?_; refine al_litS sB (by (repeat (first | exact .nil _ | refine .cons rfl ?_)); (first | done | fail)) rfl rfl rfl ?_) | (refine is_aw ?_; (first | refine aw_seq ?_ | refine aw_region ?_ | refine aw_skip ?_ | refine aw_ret ?_ | (refine is_cond ?_; refine aw_cond_f rfl (by assumption) ?_))))
  exact ret_raw trivial rfl ⟨congrArg (fun b => [rB b]) (decide_eq_true rfl), rfl⟩
theorem c_fnSessionPrefix (bs : List UInt8) : Con Tryz.prog 7 [slB bs] [] (fun rs all => rs = [rB true] ∧ all = []) := by
  have hlen := byRs_len (bs := bs)
  refine con_of_aw (vars := [.tmp 2]) [(0, .r (slB bs))] [] 0 Tryz.func7 (by kernel_rfl) rfl Tryz.ntmps7 rfl (by decide) rfl rfl rfl rfl rfl ?_; intro B M w0 ρ0 Z0
  repeat' (first | (refine is_al ?_; (first | (refine is_move ?_; refine al_v (opx_move (.sl _ _)) ⟨rfl, trivial⟩ trivial rfl ?_) | (refine is_bin ?_; refine al_v opx_gtr ⟨rfl, rfl, trivial⟩ trivial rfl ?_) | (refine is_assign ?_; (first | refine al_v (opx_assign (.raw _)) ⟨rfl, trivial⟩ trivial rfl ?_ | refine al_v (opx_assign (.sl _ _)) ⟨rfl, trivial⟩ trivial rfl ?_)) | (refine is_bi ?_; refine al_v opx_len_sl ⟨rfl, trivial⟩ trivial rfl ?_) | (refine is_call ?_; (refine al_callE (by (repeat (first | exact .nil | refine .one rfl rfl ?_ | refine .froz rfl rfl ?_ | refine .rnil rfl ?_ | refine .agg rfl (by (repeat (first | exact .nil | refine .cons (.same rfl) ?_ | refine .cons (.froz rfl) ?_ | refine .cons (.rnil) ?_)); (first | done | fail)) ?_)); (first | done | fail)) rfl (c_drawRunSession _ (by omega)) ?_; rintro ls ⟨h1, h2⟩)) | refine al_nil ?_)) | (refine is_aw ?_; (first | refine aw_seq ?_ | refine aw_region ?_ | refine aw_skip ?_ | refine aw_ret ?_ | (refine is_cond ?_; (refine aw_cond rfl ?_ ?_ <;> ((intro hgd; try exact absurd hgd (by decide)); (try (have hz := hgd; simp only [decide_eq_true_eq, decide_eq_false_iff_not, Bool.not_eq_true', Bool.not_eq_false', Bool.not_true, Bool.not_false, beq_iff_eq, Int.not_le, Int.not_lt] at hz)); (try (exfalso; omega))))))) | refine thn_r ?_)
  · exact ret_raw trivial rfl ⟨congrArg (fun b => [rB b]) (rfl), rfl⟩
  clear hz hlen; repeat clear hgd
  have n1 : (!true) = false := rfl
  have n2 : (!false) = true := rfl
  have hM : ∀ l ∈ ls, l.length ≤ 2000000 := fun l hl => by have := h2 l hl; omega
  have c1 := c_RunSession ls hM (by omega)
  have c2 := c_sRunSession ls hM (by omega)
  have ht : ls.take 20 = ls := List.take_of_length_le (by omega)
  rw [ht] at c1 c2
  have hpre := fun n => run_pre (s := ([], [])) (ls := ls) n
  generalize runA ([], []) ls = R at c1 c2 hpre
  have hE : (!decide (R = R)) = false := by simp
  have hls := stRs_len (xs := ls)
  repeat' (first | (refine is_al ?_; (first | (refine is_move ?_; (first | refine al_v (opx_move (.raw _)) ⟨rfl, trivial⟩ trivial rfl ?_ | refine al_v (opx_move (.sl _ _)) ⟨rfl, trivial⟩ trivial rfl ?_)) | (refine is_bin ?_; refine al_v opx_sneq ⟨rfl, rfl, trivial⟩ trivial rfl ?_) | (refine is_assign ?_; refine al_v (opx_assign (.raw _)) ⟨rfl, trivial⟩ trivial rfl ?_) | (refine is_call ?_; (first | refine al_callv2 (by (repeat (first | exact .nil | refine .one rfl rfl ?_ | refine .froz rfl rfl ?_ | refine .row rfl rfl ?_ | refine .rnil rfl ?_ | refine .agg rfl (by (repeat (first | exact .nil | refine .cons (.same rfl) ?_ | refine .cons (.froz rfl) ?_ | refine .cons (.rnil) ?_ | refine .cons (.row rfl rfl) ?_)); (first | done | fail)) ?_)); (first | done | fail)) rfl (c1) rfl ?_ | refine al_callv2 (by (repeat (first | exact .nil | refine .one rfl rfl ?_ | refine .froz rfl rfl ?_ | refine .row rfl rfl ?_ | refine .rnil rfl ?_ | refine .agg rfl (by (repeat (first | exact .nil | refine .cons (.same rfl) ?_ | refine .cons (.froz rfl) ?_ | refine .cons (.rnil) ?_ | refine .cons (.row rfl rfl) ?_)); (first | done | fail)) ?_)); (first | done | fail)) rfl (c2) rfl ?_)) | refine al_nil ?_)) | (refine is_aw ?_; (first | refine aw_seq ?_ | refine aw_region ?_ | refine aw_skip ?_ | refine aw_block ?_ | (refine is_cond ?_; refine aw_cond_f rfl (by assumption) ?_))))
  refine aw_loop (γ := Nat) (fun k => [(3, .r (slS ls)), (4, .str R), (5, .i (k : Int))]) (fun _ => []) (fun _ => 0) (fun k => k ≤ ls.length) (fun k => ls.length - k) 0 (Nat.zero_le _) (le_mk [] rfl rfl rfl rfl ⟨rfl, rfl, rfl, trivial⟩ trivial) ?_
  intro k hk
  rcases Nat.lt_or_ge k ls.length with hlt | hge
  · have hc1 : decide ((k : Int) < ((stRs ls).length : Int)) = true := decide_eq_true (by omega)
    have c3 := c_RunSession (ls.take k) (fun l hl => hM l (List.mem_of_mem_take hl)) (by rw [List.length_take]; omega)
    have ht3 : (ls.take k).take 20 = ls.take k := List.take_of_length_le (by rw [List.length_take]; omega)
    rw [ht3] at c3
    obtain ⟨e, he⟩ := hpre k
    clear hpre
    generalize runA ([], []) (ls.take k) = p at c3 he
    subst he
    have hl : (p ++ e).length = p.length + e.length := List.length_append
    have d1 : decide (((p ++ e).length : Int) < (p.length : Int)) = false := decide_eq_false (by omega)
    have hcut : ((p ++ e).take p.length).drop 0 = p := by rw [List.drop_zero, List.take_left' rfl]
    have hP : (!decide (p = p)) = false := by simp
    repeat' (first | (refine is_al ?_; (first | (refine is_gd ?_; refine al_on rfl rfl rfl (by assumption) ?_) | (refine is_move ?_; (first | refine al_v (opx_move (.raw _)) ⟨rfl, trivial⟩ trivial rfl ?_ | refine al_v (opx_move (.sl _ _)) ⟨rfl, trivial⟩ trivial rfl ?_)) | (refine is_bin ?_; (first | refine al_v opx_lss ⟨rfl, rfl, trivial⟩ trivial rfl ?_ | refine al_v opx_gtr ⟨rfl, rfl, trivial⟩ trivial rfl ?_ | refine al_v (opx_add (by unfold InR; omega)) ⟨rfl, rfl, trivial⟩ trivial rfl ?_ | refine al_v opx_sneq ⟨rfl, rfl, trivial⟩ trivial rfl ?_)) | (refine is_assign ?_; refine al_v (opx_assign (.raw _)) ⟨rfl, trivial⟩ trivial rfl ?_) | (refine is_pick ?_; refine al_v (opx_pick_f (.raw _) (by assumption)) ⟨rfl, rfl, trivial⟩ trivial rfl ?_) | (refine is_bi ?_; (first | refine al_v opx_len_sl ⟨rfl, trivial⟩ trivial rfl ?_ | refine al_v opx_len_str ⟨rfl, trivial⟩ trivial rfl ?_)) | (refine is_call ?_; refine al_callv2 (by (repeat (first | exact .nil | refine .one rfl rfl ?_ | refine .froz rfl rfl ?_ | refine .row rfl rfl ?_ | refine .rnil rfl ?_ | refine .agg rfl (by (repeat (first | exact .nil | refine .cons (.same rfl) ?_ | refine .cons (.froz rfl) ?_ | refine .cons (.rnil) ?_ | refine .cons (.row rfl rfl) ?_)); (first | done | fail)) ?_)); (first | done | fail)) rfl (c3) rfl ?_) | refine al_nil ?_ | refine al_v (opx_cutH_sl (h := k) stRs_hd rfl (by omega)) ⟨rfl, rfl, trivial⟩ trivial rfl ?_ | refine al_v (opx_cutH_str (h := p.length) hcut rfl (by omega)) ⟨rfl, rfl, trivial⟩ trivial rfl ?_)) | (refine is_ad ?_; (first | refine al_v (opx_cutH_sl (h := k) stRs_hd rfl (by omega)) ⟨rfl, rfl, trivial⟩ trivial rfl ?_ | refine al_v (opx_cutH_str (h := p.length) hcut rfl (by omega)) ⟨rfl, rfl, trivial⟩ trivial rfl ?_)) | (refine is_aw ?_; (first | refine aw_seq ?_ | refine aw_region ?_ | refine aw_skip ?_ | refine aw_block ?_ | (refine is_cond ?_; (first | refine aw_cond_t rfl (by assumption) ?_ | refine aw_cond_f rfl (by assumption) ?_)))) | refine thn_n ?_)
    exact ⟨k + 1, hlt, by omega, le_mk [] rfl rfl rfl rfl ⟨rfl, rfl, rfl, trivial⟩ trivial⟩
  · have hc1 : decide ((k : Int) < ((stRs ls).length : Int)) = false := decide_eq_false (by omega)
    repeat' (first | (refine is_al ?_; (first | (refine is_move ?_; (first | refine al_v (opx_move (.raw _)) ⟨rfl, trivial⟩ trivial rfl ?_ | refine al_v (opx_move (.sl _ _)) ⟨rfl, trivial⟩ trivial rfl ?_)) | (refine is_bin ?_; refine al_v opx_lss ⟨rfl, rfl, trivial⟩ trivial rfl ?_) | (refine is_assign ?_; refine al_v (opx_assign (.raw _)) ⟨rfl, trivial⟩ trivial rfl ?_) | (refine is_bi ?_; refine al_v opx_len_sl ⟨rfl, trivial⟩ trivial rfl ?_) | refine al_nil ?_)) | (refine is_aw ?_; (first | refine aw_seq ?_ | refine aw_region ?_ | refine aw_ret ?_ | refine aw_exit ?_ | (refine is_cond ?_; refine aw_cond_f rfl (by assumption) ?_))))
    exact ret_raw trivial rfl ⟨congrArg (fun b => [rB b]) (rfl), rfl⟩
theorem c_fnSessionQuestions (bs : List UInt8) : Con Tryz.prog 4 [slB bs] [] (fun rs all => rs = [rB true] ∧ all = []) := by
  have hlen := byRs_len (bs := bs)
  refine con_of_aw (vars := [.tmp 2]) [(0, .r (slB bs))] [] 0 Tryz.func4 (by kernel_rfl) rfl Tryz.ntmps4 rfl (by decide) rfl rfl rfl rfl rfl ?_; intro B M w0 ρ0 Z0
  repeat' (first | (refine is_al ?_; (first | (refine is_move ?_; refine al_v (opx_move (.sl _ _)) ⟨rfl, trivial⟩ trivial rfl ?_) | (refine is_bin ?_; refine al_v opx_gtr ⟨rfl, rfl, trivial⟩ trivial rfl ?_) | (refine is_assign ?_; (first | refine al_v (opx_assign (.raw _)) ⟨rfl, trivial⟩ trivial rfl ?_ | refine al_v (opx_assign (.sl _ _)) ⟨rfl, trivial⟩ trivial rfl ?_)) | (refine is_bi ?_; refine al_v opx_len_sl ⟨rfl, trivial⟩ trivial rfl ?_) | (refine is_call ?_; (refine al_callE (by (repeat (first | exact .nil | refine .one rfl rfl ?_ | refine .froz rfl rfl ?_ | refine .rnil rfl ?_ | refine .agg rfl (by (repeat (first | exact .nil | refine .cons (.same rfl) ?_ | refine .cons (.froz rfl) ?_ | refine .cons (.rnil) ?_)); (first | done | fail)) ?_)); (first | done | fail)) rfl (c_drawRunSession _ (by omega)) ?_; rintro ls ⟨h1, h2⟩)) | refine al_nil ?_)) | (refine is_aw ?_; (first | refine aw_seq ?_ | refine aw_region ?_ | refine aw_skip ?_ | refine aw_ret ?_ | (refine is_cond ?_; (refine aw_cond rfl ?_ ?_ <;> ((intro hgd; try exact absurd hgd (by decide)); (try (have hz := hgd; simp only [decide_eq_true_eq, decide_eq_false_iff_not, Bool.not_eq_true', Bool.not_eq_false', Bool.not_true, Bool.not_false, beq_iff_eq, Int.not_le, Int.not_lt] at hz)); (try (exfalso; omega))))))) | refine thn_r ?_)
  · exact ret_raw trivial rfl ⟨congrArg (fun b => [rB b]) (rfl), rfl⟩
  clear hz hlen; repeat clear hgd
  have n1 : (!true) = false := rfl
  have n2 : (!false) = true := rfl
  have hM : ∀ l ∈ ls, l.length ≤ 2000000 := fun l hl => by have := h2 l hl; omega
  have c1 := c_RunSession ls hM (by omega)
  have c2 := c_sRunSession ls hM (by omega)
  have ht : ls.take 20 = ls := List.take_of_length_le (by omega)
  rw [ht] at c1 c2
  have hls := stRs_len (xs := ls)
  have l1 : (ls ++ [tCount]).length = ls.length + 1 := by rw [List.length_append]; rfl
  have l2 : (ls ++ Q4).length = ls.length + 4 := by rw [List.length_append]; rfl
  have hlq := stRs_len (xs := Q4)
  have c3 := c_RunSession (ls ++ [tCount]) (fun l hl => by
    rcases List.mem_append.1 hl with h | h
    · exact hM l h
    · simp at h; rw [h]; decide) (by omega)
  have c4 := c_RunSession (ls ++ Q4) (fun l hl => by
    rcases List.mem_append.1 hl with h | h
    · exact hM l h
    · have : ∀ l ∈ Q4, l.length ≤ 2000000 := by decide
      exact this l h) (by omega)
  rw [List.take_of_length_le (by omega), runA_app] at c3 c4
  obtain ⟨E, hE0, hE1⟩ := run_q (s := runS ([], []) ls)
  rw [hE1] at c4
  have hEl := runA_len (ls := Q4) (runS_ok (ls := ls) okSs_nil)
  rw [hE1] at hEl
  clear hE1
  have hRl := runA_len (ls := ls) okSs_nil
  generalize runA ([], []) ls = R at c1 c2 c3 c4 hRl
  generalize runA (runS ([], []) ls) [tCount] = X at c3 c4 hEl
  rw [show Q4.length = 4 from rfl] at hEl
  have hE : (!decide (R = R)) = false := by simp
  have d0 : decide ((20 : Int) < ((stRs ls).length : Int) + 4) = false := decide_eq_false (by omega)
  have m1 : (R ++ X).length = R.length + X.length := List.length_append
  have m2 : (E ++ X).length = E.length + X.length := List.length_append
  have m3 : (R ++ (E ++ X)).length = R.length + (E ++ X).length := List.length_append
  have d1 : decide (((R ++ X).length : Int) < (R.length : Int)) = false := decide_eq_false (by omega)
  have d2 : decide (((R ++ (E ++ X)).length : Int) < (R.length : Int)) = false := decide_eq_false (by omega)
  have d3 : decide ((X.length : Int) < ((E ++ X).length : Int)) = true := decide_eq_true (by omega)
  have d4 : decide (X = X) = true := decide_eq_true rfl
  have k1 : ((R ++ X).take (R ++ X).length).drop R.length = X := by rw [List.take_length, List.drop_left' rfl]
  have k2 : ((R ++ (E ++ X)).take (R ++ (E ++ X)).length).drop R.length = E ++ X := by rw [List.take_length, List.drop_left' rfl]
  have k3 : ((E ++ X).take (E ++ X).length).drop E.length = X := by rw [List.take_length, List.drop_left' rfl]
  have hq4 : Q4.length = 4 := rfl
  repeat' (first | (refine is_al ?_; (first | (refine is_gd ?_; refine al_on rfl rfl rfl (by assumption) ?_) | (refine is_move ?_; (first | refine al_v (opx_move (.raw _)) ⟨rfl, trivial⟩ trivial rfl ?_ | refine al_v (opx_move (.sl _ _)) ⟨rfl, trivial⟩ trivial rfl ?_)) | (refine is_bin ?_; (first | refine al_v opx_lss ⟨rfl, rfl, trivial⟩ trivial rfl ?_ | refine al_v opx_gtr ⟨rfl, rfl, trivial⟩ trivial rfl ?_ | refine al_v (opx_add (by unfold InR; omega)) ⟨rfl, rfl, trivial⟩ trivial rfl ?_ | refine al_v (opx_sub (by unfold InR; omega)) ⟨rfl, rfl, trivial⟩ trivial rfl ?_ | refine al_v opx_seql ⟨rfl, rfl, trivial⟩ trivial rfl ?_ | refine al_v opx_sneq ⟨rfl, rfl, trivial⟩ trivial rfl ?_)) | (refine is_assign ?_; refine al_v (opx_assign (.raw _)) ⟨rfl, trivial⟩ trivial rfl ?_) | (refine is_pick ?_; (first | refine al_v (opx_pick_t (.raw _) (by assumption)) ⟨rfl, rfl, trivial⟩ trivial rfl ?_ | refine al_v (opx_pick_f (.raw _) (by assumption)) ⟨rfl, rfl, trivial⟩ trivial rfl ?_)) | (refine is_bi ?_; (first | refine al_v opx_len_sl ⟨rfl, trivial⟩ trivial rfl ?_ | refine al_v opx_len_str ⟨rfl, trivial⟩ trivial rfl ?_ | refine al_appeSv rfl rfl rfl rfl rfl (by omega) ?_ | refine al_appSv rfl rfl rfl rfl rfl (by omega) ?_)) | (refine is_call ?_; (first | refine al_callv2 (by (repeat (first | exact .nil | refine .one rfl rfl ?_ | refine .froz rfl rfl ?_ | refine .row rfl rfl ?_ | refine .rnil rfl ?_ | refine .agg rfl (by (repeat (first | exact .nil | refine .cons (.same rfl) ?_ | refine .cons (.froz rfl) ?_ | refine .cons (.rnil) ?_ | refine .cons (.row rfl rfl) ?_)); (first | done | fail)) ?_)); (first | done | fail)) rfl (c1) rfl ?_ | refine al_callv2 (by (repeat (first | exact .nil | refine .one rfl rfl ?_ | refine .froz rfl rfl ?_ | refine .row rfl rfl ?_ | refine .rnil rfl ?_ | refine .agg rfl (by (repeat (first | exact .nil | refine .cons (.same rfl) ?_ | refine .cons (.froz rfl) ?_ | refine .cons (.rnil) ?_ | refine .cons (.row rfl rfl) ?_)); (first | done | fail)) ?_)); (first | done | fail)) rfl (c2) rfl ?_ | refine al_callv2 (by (repeat (first | exact .nil | refine .one rfl rfl ?_ | refine .froz rfl rfl ?_ | refine .row rfl rfl ?_ | refine .rnil rfl ?_ | refine .agg rfl (by (repeat (first | exact .nil | refine .cons (.same rfl) ?_ | refine .cons (.froz rfl) ?_ | refine .cons (.rnil) ?_ | refine .cons (.row rfl rfl) ?_)); (first | done | fail)) ?_)); (first | done | fail)) rfl (c3) rfl ?_ | refine al_callv2 (by (repeat (first | exact .nil | refine .one rfl rfl ?_ | refine .froz rfl rfl ?_ | refine .row rfl rfl ?_ | refine .rnil rfl ?_ | refine .agg rfl (by (repeat (first | exact .nil | refine .cons (.same rfl) ?_ | refine .cons (.froz rfl) ?_ | refine .cons (.rnil) ?_ | refine .cons (.row rfl rfl) ?_)); (first | done | fail)) ?_)); (first | done | fail)) rfl (c4) rfl ?_)) | (refine is_bs ?_; (first | refine al_n opx_lit0 trivial trivial rfl ?_ | refine al_pushS ⟨rfl, trivial⟩ rfl rfl rfl rfl rfl (by omega) ?_)) | refine al_nil ?_ | refine al_litS Q4 (by (repeat (first | exact .nil _ | refine .cons rfl ?_)); (first | done | fail)) rfl rfl rfl ?_ | refine al_v (opx_cutL_str (l := R.length) k1 rfl (by omega)) ⟨rfl, rfl, trivial⟩ trivial rfl ?_ | refine al_v (opx_cutL_str (l := R.length) k2 rfl (by omega)) ⟨rfl, rfl, trivial⟩ trivial rfl ?_ | refine al_v (opx_cutL_str (l := E.length) k3 (by omega) (by omega)) ⟨rfl, rfl, trivial⟩ trivial rfl ?_)) | (refine is_ad ?_; (first | refine al_litS Q4 (by (repeat (first | exact .nil _ | refine .cons rfl ?_)); (first | done | fail)) rfl rfl rfl ?_ | refine al_v (opx_cutL_str (l := R.length) k1 rfl (by omega)) ⟨rfl, rfl, trivial⟩ trivial rfl ?_ | refine al_v (opx_cutL_str (l := R.length) k2 rfl (by omega)) ⟨rfl, rfl, trivial⟩ trivial rfl ?_ | refine al_v (opx_cutL_str (l := E.length) k3 (by omega) (by omega)) ⟨rfl, rfl, trivial⟩ trivial rfl ?_)) | (refine is_aw ?_; (first | refine aw_seq ?_ | refine aw_region ?_ | refine aw_skip ?_ | refine aw_ret ?_ | (refine is_cond ?_; refine aw_cond_f rfl (by assumption) ?_))))
  exact ret_raw trivial rfl ⟨congrArg (fun b => [rB b]) (d4), rfl⟩
end Go.Proofs.YtfoecgfboicphaaGreatDoor
/-
  Openings of bytes.
-/
namespace Go.Proofs.YtfoecgfboicphaaGreatDoor
open Go.ChangeShapes Go.WideShapes Go.ChangeAt Go.RowKit
set_option linter.unusedVariables false
set_option linter.unusedSimpArgs false
section
variable {P : Program} {H : Type} {enc : TypeId × Value → H} {W : World}
theorem open_bys {d : Nat} {t e : TypeId} (ht : P.underlying t = some (.slice e)) (hp : plainT P d t = true) (he : P.underlying e = some (.int .u8)) (hc : P.cellsOf e = 1) {base : Nat} {v : Value} {dd : DataW H} {p : List MemPlace}
    (hval : Value.okWide P W .any base t v) (h : DataW.Trod enc P W 0 (fun _ => true) true t v dd p) : ∃ bs : List UInt8, DC (Zw W) W (.sl 1 (byRs bs)) v ∧ bs.length ≤ maxLen := by
  obtain ⟨a, len, cap, rfl⟩ := okWide_slice ht hval
  obtain ⟨c, h1, h2⟩ := open_one hp rfl h
  obtain ⟨rows, h3, h4, h5⟩ := shp_sl h1 ht
  cases h3
  obtain ⟨bs, rfl⟩ := rows_of (f := byR) (fun r hr => shp_u8 (h5 r hr) he)
  rw [hc] at h2
  exact ⟨bs, h2, by simpa using h4⟩
end
end Go.Proofs.YtfoecgfboicphaaGreatDoor
/-
  Openings of labels.
-/
namespace Go.Proofs.YtfoecgfboicphaaGreatDoor
open Go.ChangeShapes Go.WideShapes Go.ChangeAt Go.RowKit
set_option linter.unusedVariables false
set_option linter.unusedSimpArgs false
end Go.Proofs.YtfoecgfboicphaaGreatDoor
/-
  Openings of lists of texts.
-/
namespace Go.Proofs.YtfoecgfboicphaaGreatDoor
open Go.ChangeShapes Go.WideShapes Go.ChangeAt Go.RowKit
set_option linter.unusedVariables false
set_option linter.unusedSimpArgs false
end Go.Proofs.YtfoecgfboicphaaGreatDoor
