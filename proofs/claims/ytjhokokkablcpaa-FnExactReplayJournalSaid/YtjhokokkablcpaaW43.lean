/-
  Journals: the reference's numbers and entries: the walks.
-/
import Derived.Test.YtjhokokkablcpaaW42
namespace Go.Proofs.Ytjhokokkablcpaa
open Go.RowKit
set_option linter.unusedVariables false
set_option linter.unusedSimpArgs false
attribute [local irreducible] AL AW OpX Le AD

theorem c_sSumOf (b : By) (hb : b.length ≤ 1048576) : Con Try.prog 45 [slB b] [] (fun rs all => rs = [rI (sumB b : Int)] ∧ all = []) := by
  have hl := byRs_len (bs := b)
  refine con_of_aw (vars := [.tmp 2]) [(0, .r (slB b))] [] 0 Try.func45 (by kernel_rfl) rfl Try.ntmps45 rfl (by decide) rfl rfl rfl rfl rfl ?_
  intro B M w0 ρ0 Z0
  repeat' (first | (refine is_al ?_; (first | (refine is_assign ?_; refine al_v (opx_assign (.raw _)) ⟨rfl, trivial⟩ trivial rfl ?_) | refine al_nil ?_)) | (refine is_aw ?_; (first | refine aw_seq ?_ | refine aw_region ?_ | refine aw_block ?_)))
  refine aw_loop (γ := Nat) (fun k => [(0, .r (slB b)), (3, .i (sumB (b.take k) : Int)), (4, .i (k : Int))]) (fun _ => []) (fun _ => 0)
    (fun k => k ≤ b.length) (fun k => b.length - k) 0 (Nat.zero_le _) (le_mk [] rfl rfl rfl rfl ⟨rfl, rfl, rfl, trivial⟩ trivial) ?_
  intro k hk
  rcases Nat.lt_or_ge k b.length with hlt | hge
  · have hc1 : decide ((k : Int) < ((byRs b).length : Int)) = true := decide_eq_true (by omega)
    obtain ⟨c, hc⟩ : ∃ c, b[k]? = some c := ⟨_, List.getElem?_eq_getElem hlt⟩
    have hcr := byRs_at hc
    have hc8 := c.toNat_lt
    have hs := sumB_take hc
    have hs1 := sumB_lt (b.take k)
    repeat' (first | (refine is_al ?_; (first | (refine is_move ?_; (first | refine al_v (opx_move (.raw _)) ⟨rfl, trivial⟩ trivial rfl ?_ | refine al_v (opx_move (.sl _ _)) ⟨rfl, trivial⟩ trivial rfl ?_)) | (refine is_bin ?_; (first | refine al_v opx_lss ⟨rfl, rfl, trivial⟩ trivial rfl ?_ | refine al_v (opx_add (by unfold InR; omega)) ⟨rfl, rfl, trivial⟩ trivial rfl ?_ | refine al_v (opx_mul (by unfold InR; omega)) ⟨rfl, rfl, trivial⟩ trivial rfl ?_ | refine al_v (opx_rem (by omega) (by omega)) ⟨rfl, rfl, trivial⟩ trivial rfl ?_)) | (refine is_load ?_; refine al_v opx_ld_imm ⟨rfl, trivial⟩ trivial rfl ?_) | (refine is_assign ?_; refine al_v (opx_assign (.raw _)) ⟨rfl, trivial⟩ trivial rfl ?_) | (refine is_bi ?_; refine al_v opx_len_sl ⟨rfl, trivial⟩ trivial rfl ?_) | (refine is_ia ?_; refine al_v (opx_ia_sl2 hcr (by omega)) ⟨rfl, rfl, trivial⟩ trivial rfl ?_) | refine al_nil ?_ | refine al_v (opx_intOf (by omega)) ⟨rfl, trivial⟩ trivial rfl ?_)) | (refine is_ad ?_; refine al_v (opx_intOf (by omega)) ⟨rfl, trivial⟩ trivial rfl ?_) | (refine is_aw ?_; (first | refine aw_seq ?_ | refine aw_region ?_ | refine aw_skip ?_ | refine aw_block ?_ | (refine is_cond ?_; refine aw_cond_t rfl (by assumption) ?_))) | refine thn_n ?_)
    exact ⟨k + 1, hlt, by omega, le_mk [] rfl rfl rfl rfl ⟨rfl, by rw [hs]; exact congrArg AV.i (by omega), rfl, trivial⟩ trivial⟩
  · have hc1 : decide ((k : Int) < ((byRs b).length : Int)) = false := decide_eq_false (by omega)
    rw [List.take_of_length_le hge]
    repeat' (first | (refine is_al ?_; (first | (refine is_move ?_; (first | refine al_v (opx_move (.raw _)) ⟨rfl, trivial⟩ trivial rfl ?_ | refine al_v (opx_move (.sl _ _)) ⟨rfl, trivial⟩ trivial rfl ?_)) | (refine is_bin ?_; refine al_v opx_lss ⟨rfl, rfl, trivial⟩ trivial rfl ?_) | (refine is_assign ?_; refine al_v (opx_assign (.raw _)) ⟨rfl, trivial⟩ trivial rfl ?_) | (refine is_bi ?_; refine al_v opx_len_sl ⟨rfl, trivial⟩ trivial rfl ?_) | refine al_nil ?_)) | (refine is_aw ?_; (first | refine aw_seq ?_ | refine aw_region ?_ | refine aw_ret ?_ | refine aw_exit ?_ | (refine is_cond ?_; refine aw_cond_f rfl (by assumption) ?_))))
    exact ret_raw trivial rfl ⟨rfl, rfl⟩
set_option maxRecDepth 10000 in
theorem c_sPutVar (n : Nat) (hn : n ≤ 200000) : Con Try.prog 55 [rI (n : Int)] [] (fun rs all => rs = [.one (.own 0)] ∧ all = [.row 1 5 (byRs (pv n))]) := by
  refine con_of_aw (vars := [.tmp 2]) [(0, .r (rI (n : Int)))] [] 0 Try.func55 (by kernel_rfl) rfl Try.ntmps55 rfl (by decide) rfl rfl rfl rfl rfl ?_
  intro B M w0 ρ0 Z0
  by_cases h : n < 128
  · have e := pv_1 h
    have hc : decide ((n : Int) < 128) = true := decide_eq_true (by omega)
    repeat' (first | (refine is_al ?_; (first | (refine is_move ?_; refine al_v (opx_move (.raw _)) ⟨rfl, trivial⟩ trivial rfl ?_) | (refine is_bin ?_; refine al_v opx_lss ⟨rfl, rfl, trivial⟩ trivial rfl ?_) | (refine is_assign ?_; (first | refine al_v (opx_assign (.raw _)) ⟨rfl, trivial⟩ trivial rfl ?_ | refine al_v (opx_assign (.own _)) ⟨rfl, trivial⟩ trivial rfl ?_)) | refine al_nil ?_ | refine al_litB1 rfl rfl ?_ | refine al_v (opx_byte (k := n) rfl (by omega)) ⟨rfl, trivial⟩ trivial rfl ?_)) | (refine is_ad ?_; (first | refine al_litB1 rfl rfl ?_ | refine al_v (opx_byte (k := n) rfl (by omega)) ⟨rfl, trivial⟩ trivial rfl ?_)) | (refine is_aw ?_; (first | refine aw_seq ?_ | refine aw_region ?_ | refine aw_ret ?_ | (refine is_cond ?_; refine aw_cond_t rfl (by assumption) ?_))) | refine thn_r ?_)
    exact ret_row trivial rfl rfl ⟨rfl, by rw [e]⟩
  · have e := pv_s (n := n) (by omega)
    have ih := c_sPutVar (n / 128) (by omega)
    have hc : decide ((n : Int) < 128) = false := decide_eq_false (by omega)
    have p1 := pv_len3 (n := n / 128) (by omega)
    have q1 : [UInt8.ofNat (n % 128 + 128)].length = 1 := rfl
    have e2 : (n : Int) / 128 = ((n / 128 : Nat) : Int) := by omega
    rw [← e2] at ih
    repeat' (first | (refine is_al ?_; (first | (refine is_move ?_; refine al_v (opx_move (.raw _)) ⟨rfl, trivial⟩ trivial rfl ?_) | (refine is_bin ?_; (first | refine al_v opx_lss ⟨rfl, rfl, trivial⟩ trivial rfl ?_ | refine al_v (opx_add (by unfold InR; omega)) ⟨rfl, rfl, trivial⟩ trivial rfl ?_ | refine al_v (opx_quo (by unfold InR; omega) (by omega) (by omega)) ⟨rfl, rfl, trivial⟩ trivial rfl ?_ | refine al_v (opx_rem (by omega) (by omega)) ⟨rfl, rfl, trivial⟩ trivial rfl ?_)) | (refine is_assign ?_; (first | refine al_v (opx_assign (.raw _)) ⟨rfl, trivial⟩ trivial rfl ?_ | refine al_v (opx_assign (.own _)) ⟨rfl, trivial⟩ trivial rfl ?_)) | (refine is_bi ?_; refine al_appBr rfl rfl rfl rfl rfl rfl (by omega) ?_) | (refine is_call ?_; refine al_callr2 (by (repeat (first | exact .nil | refine .one rfl rfl ?_ | refine .froz rfl rfl ?_ | refine .rnil rfl ?_ | refine .agg rfl (by (repeat (first | exact .nil | refine .cons (.same rfl) ?_ | refine .cons (.froz rfl) ?_ | refine .cons (.rnil) ?_)); (first | done | fail)) ?_)); (first | done | fail)) rfl (ih) ?_) | refine al_nil ?_ | refine al_litB1 rfl rfl ?_ | refine al_v (opx_byte (k := n % 128 + 128) (by omega) (by omega)) ⟨rfl, trivial⟩ trivial rfl ?_)) | (refine is_ad ?_; (first | refine al_litB1 rfl rfl ?_ | refine al_v (opx_byte (k := n % 128 + 128) (by omega) (by omega)) ⟨rfl, trivial⟩ trivial rfl ?_)) | (refine is_aw ?_; (first | refine aw_seq ?_ | refine aw_region ?_ | refine aw_skip ?_ | refine aw_ret ?_ | (refine is_cond ?_; refine aw_cond_f rfl (by assumption) ?_))))
    exact ret_row trivial rfl rfl ⟨rfl, by rw [e]; rfl⟩
termination_by n
decreasing_by omega
set_option maxRecDepth 10000 in
theorem c_sGetVar (b : By) (hb : b.length ≤ 1048576) : Con Try.prog 43 [slB b] [] (fun rs all => rs = [rI (gvN b), rI (gvK b)] ∧ all = []) := by
  have hl := byRs_len (bs := b)
  refine con_of_aw (vars := [.tmp 2, .tmp 3]) [(0, .r (slB b))] [] 0 Try.func43 (by kernel_rfl) rfl Try.ntmps43 rfl (by decide) rfl rfl rfl rfl rfl ?_
  intro B M w0 ρ0 Z0
  repeat' (first | (refine is_al ?_; (first | (refine is_assign ?_; refine al_v (opx_assign (.raw _)) ⟨rfl, trivial⟩ trivial rfl ?_) | refine al_nil ?_)) | (refine is_aw ?_; (first | refine aw_seq ?_ | refine aw_region ?_ | refine aw_block ?_)))
  refine aw_loop (γ := Nat × Nat × Nat) (fun g => [(0, .r (slB b)), (4, .i (g.1 : Int)), (5, .i (g.2.1 : Int)), (6, .i (g.2.2 : Int))]) (fun _ => []) (fun _ => 0)
    (fun g => gvS g.1 g.2.1 g.2.2 (b.drop g.2.2) = gv b ∧ g.1 < g.2.1 ∧ g.2.1 ≤ 2097152 ∧ g.2.2 ≤ 3 ∧ (g.2.2 ≤ 2 → g.2.1 ≤ 16384) ∧ (g.2.2 ≤ 1 → g.2.1 ≤ 128) ∧ (g.2.2 = 0 → g.2.1 ≤ 1)) (fun g => b.length - g.2.2) (0, 1, 0)
    ⟨by rw [List.drop_zero]; exact gvS_gv b, by dsimp only; omega, by dsimp only; omega, by dsimp only; omega, fun _ => by dsimp only; omega, fun _ => by dsimp only; omega, fun _ => by dsimp only; omega⟩ (le_mk [] rfl rfl rfl rfl ⟨rfl, rfl, rfl, rfl, trivial⟩ trivial) ?_
  rintro ⟨n, u, k⟩ ⟨h1, h2, h3, h4, h5, h6, h7⟩
  dsimp only at h1 h2 h3 h4 h5 h6 h7 ⊢
  rcases Nat.lt_or_ge k b.length with hlt | hge
  · have hc1 : decide ((k : Int) < ((byRs b).length : Int)) = true := decide_eq_true (by omega)
    obtain ⟨c, hc⟩ : ∃ c, b[k]? = some c := ⟨_, List.getElem?_eq_getElem hlt⟩
    have hcr := byRs_at hc
    have hc8 := c.toNat_lt
    rw [drop_c hc, gvS_c] at h1
    by_cases g0 : 3 ≤ k
    · rw [if_pos g0] at h1
      obtain ⟨e1, e2, e3⟩ := gvN_n h1.symm
      have d0 : decide ((k : Int) < 3) = false := decide_eq_false (by omega)
      repeat' (first | (refine is_al ?_; (first | (refine is_gd ?_; refine al_on rfl rfl rfl (by assumption) ?_) | (refine is_move ?_; (first | refine al_v (opx_move (.raw _)) ⟨rfl, trivial⟩ trivial rfl ?_ | refine al_v (opx_move (.sl _ _)) ⟨rfl, trivial⟩ trivial rfl ?_)) | (refine is_bin ?_; refine al_v opx_lss ⟨rfl, rfl, trivial⟩ trivial rfl ?_) | (refine is_assign ?_; refine al_v (opx_assign (.raw _)) ⟨rfl, trivial⟩ trivial rfl ?_) | (refine is_pick ?_; refine al_v (opx_pick_t (.raw _) (by assumption)) ⟨rfl, rfl, trivial⟩ trivial rfl ?_) | (refine is_bi ?_; refine al_v opx_len_sl ⟨rfl, trivial⟩ trivial rfl ?_) | refine al_nil ?_)) | (refine is_aw ?_; (first | refine aw_seq ?_ | refine aw_region ?_ | refine aw_ret ?_ | refine aw_exit ?_ | (refine is_cond ?_; refine aw_cond_f rfl (by assumption) ?_))))
      exact ret_raw2 trivial rfl rfl ⟨by rw [e1, e2], rfl⟩
    rw [if_neg g0] at h1
    have d0 : decide ((k : Int) < 3) = true := decide_eq_true (by omega)
    have hP1 : u * (c.toNat % 128) ≤ u * 127 := Nat.mul_le_mul_left u (by omega)
    have hP : ((u * (c.toNat % 128) : Nat) : Int) = (u : Int) * ((c.toNat : Int) % 128) := by simp
    generalize hPd : u * (c.toNat % 128) = P at h1 hP1 hP
    have hm : InR (P : Int) := by unfold InR; omega
    by_cases g2 : c.toNat < 128
    · rw [if_pos g2] at h1
      have d2 : decide ((c.toNat : Int) < 128) = true := decide_eq_true (by omega)
      by_cases g1 : 200000 < n + P
      · rw [if_pos (.inl g1)] at h1
        obtain ⟨e1, e2, e3⟩ := gvN_n h1.symm
        have d1 : decide (200000 < (n : Int) + (P : Int)) = true := decide_eq_true (by omega)
        repeat' (first | (refine is_al ?_; (first | refine al_v (opx_mulE hP.symm hm) ⟨rfl, rfl, trivial⟩ trivial rfl ?_ | (refine is_gd ?_; (first | refine al_on rfl rfl rfl (by assumption) ?_ | refine al_off rfl rfl rfl (by assumption) rfl ?_ | refine al_off2 rfl rfl rfl ?_)) | (refine is_move ?_; (first | refine al_v (opx_move (.raw _)) ⟨rfl, trivial⟩ trivial rfl ?_ | refine al_v (opx_move (.sl _ _)) ⟨rfl, trivial⟩ trivial rfl ?_)) | (refine is_bin ?_; (first | refine al_v opx_lss ⟨rfl, rfl, trivial⟩ trivial rfl ?_ | refine al_v opx_gtr ⟨rfl, rfl, trivial⟩ trivial rfl ?_ | refine al_v (opx_add (by unfold InR; omega)) ⟨rfl, rfl, trivial⟩ trivial rfl ?_ | refine al_v (opx_mul (by unfold InR; omega)) ⟨rfl, rfl, trivial⟩ trivial rfl ?_ | refine al_v (opx_rem (by omega) (by omega)) ⟨rfl, rfl, trivial⟩ trivial rfl ?_)) | (refine is_load ?_; refine al_v opx_ld_imm ⟨rfl, trivial⟩ trivial rfl ?_) | (refine is_assign ?_; refine al_v (opx_assign (.raw _)) ⟨rfl, trivial⟩ trivial rfl ?_) | (refine is_pick ?_; refine al_v (opx_pick_t (.raw _) (by assumption)) ⟨rfl, rfl, trivial⟩ trivial rfl ?_) | (refine is_bi ?_; refine al_v opx_len_sl ⟨rfl, trivial⟩ trivial rfl ?_) | (refine is_ia ?_; refine al_v (opx_ia_sl2 hcr (by omega)) ⟨rfl, rfl, trivial⟩ trivial rfl ?_) | refine al_nil ?_ | refine al_v (opx_intOf (by omega)) ⟨rfl, trivial⟩ trivial rfl ?_)) | (refine is_ad ?_; (first | refine al_v (opx_mulE hP.symm hm) ⟨rfl, rfl, trivial⟩ trivial rfl ?_ | refine al_v (opx_intOf (by omega)) ⟨rfl, trivial⟩ trivial rfl ?_)) | (refine is_aw ?_; (first | refine aw_seq ?_ | refine aw_region ?_ | refine aw_skip ?_ | refine aw_block ?_ | refine aw_ret ?_ | (refine is_cond ?_; (first | refine aw_cond_t rfl rfl ?_ | refine aw_cond_t rfl (by assumption) ?_)))) | refine thn_r ?_ | refine inb_r ?_)
        exact ret_raw2 trivial rfl rfl ⟨by rw [e1, e2], rfl⟩
      have d1 : decide (200000 < (n : Int) + (P : Int)) = false := decide_eq_false (by omega)
      by_cases g4 : 0 < k
      · have d4 : decide (0 < (k : Int)) = true := decide_eq_true (by omega)
        by_cases g3 : c.toNat = 0
        · have d3 : decide ((c.toNat : Int) = 0) = true := decide_eq_true (by omega)
          rw [if_pos (.inr ⟨g4, g3⟩)] at h1
          obtain ⟨e1, e2, e3⟩ := gvN_n h1.symm
          repeat' (first | (refine is_al ?_; (first | refine al_v (opx_mulE hP.symm hm) ⟨rfl, rfl, trivial⟩ trivial rfl ?_ | (refine is_gd ?_; refine al_on rfl rfl rfl (by assumption) ?_) | (refine is_move ?_; (first | refine al_v (opx_move (.raw _)) ⟨rfl, trivial⟩ trivial rfl ?_ | refine al_v (opx_move (.sl _ _)) ⟨rfl, trivial⟩ trivial rfl ?_)) | (refine is_bin ?_; (first | refine al_v opx_eql ⟨rfl, rfl, trivial⟩ trivial rfl ?_ | refine al_v opx_lss ⟨rfl, rfl, trivial⟩ trivial rfl ?_ | refine al_v opx_gtr ⟨rfl, rfl, trivial⟩ trivial rfl ?_ | refine al_v (opx_add (by unfold InR; omega)) ⟨rfl, rfl, trivial⟩ trivial rfl ?_ | refine al_v (opx_mul (by unfold InR; omega)) ⟨rfl, rfl, trivial⟩ trivial rfl ?_ | refine al_v (opx_rem (by omega) (by omega)) ⟨rfl, rfl, trivial⟩ trivial rfl ?_)) | (refine is_load ?_; refine al_v opx_ld_imm ⟨rfl, trivial⟩ trivial rfl ?_) | (refine is_assign ?_; refine al_v (opx_assign (.raw _)) ⟨rfl, trivial⟩ trivial rfl ?_) | (refine is_pick ?_; (first | refine al_v (opx_pick_t (.raw _) (by assumption)) ⟨rfl, rfl, trivial⟩ trivial rfl ?_ | refine al_v (opx_pick_f (.raw _) (by assumption)) ⟨rfl, rfl, trivial⟩ trivial rfl ?_)) | (refine is_bi ?_; refine al_v opx_len_sl ⟨rfl, trivial⟩ trivial rfl ?_) | (refine is_ia ?_; refine al_v (opx_ia_sl2 hcr (by omega)) ⟨rfl, rfl, trivial⟩ trivial rfl ?_) | refine al_nil ?_ | refine al_v (opx_intOf (by omega)) ⟨rfl, trivial⟩ trivial rfl ?_)) | (refine is_ad ?_; (first | refine al_v (opx_mulE hP.symm hm) ⟨rfl, rfl, trivial⟩ trivial rfl ?_ | refine al_v (opx_intOf (by omega)) ⟨rfl, trivial⟩ trivial rfl ?_)) | (refine is_aw ?_; (first | refine aw_seq ?_ | refine aw_region ?_ | refine aw_skip ?_ | refine aw_block ?_ | refine aw_ret ?_ | (refine is_cond ?_; refine aw_cond_t rfl (by assumption) ?_))) | refine thn_r ?_ | refine inb_r ?_)
          exact ret_raw2 trivial rfl rfl ⟨by rw [e1, e2], rfl⟩
        · have d3 : decide ((c.toNat : Int) = 0) = false := decide_eq_false (by omega)
          rw [if_neg (fun h => h.elim g1 fun h => g3 h.2)] at h1
          obtain ⟨e1, e2, e3⟩ := gvN_s h1.symm
          repeat' (first | (refine is_al ?_; (first | refine al_v (opx_mulE hP.symm hm) ⟨rfl, rfl, trivial⟩ trivial rfl ?_ | (refine is_gd ?_; refine al_on rfl rfl rfl (by assumption) ?_) | (refine is_move ?_; (first | refine al_v (opx_move (.raw _)) ⟨rfl, trivial⟩ trivial rfl ?_ | refine al_v (opx_move (.sl _ _)) ⟨rfl, trivial⟩ trivial rfl ?_)) | (refine is_bin ?_; (first | refine al_v opx_eql ⟨rfl, rfl, trivial⟩ trivial rfl ?_ | refine al_v opx_lss ⟨rfl, rfl, trivial⟩ trivial rfl ?_ | refine al_v opx_gtr ⟨rfl, rfl, trivial⟩ trivial rfl ?_ | refine al_v (opx_add (by unfold InR; omega)) ⟨rfl, rfl, trivial⟩ trivial rfl ?_ | refine al_v (opx_mul (by unfold InR; omega)) ⟨rfl, rfl, trivial⟩ trivial rfl ?_ | refine al_v (opx_rem (by omega) (by omega)) ⟨rfl, rfl, trivial⟩ trivial rfl ?_)) | (refine is_load ?_; refine al_v opx_ld_imm ⟨rfl, trivial⟩ trivial rfl ?_) | (refine is_assign ?_; refine al_v (opx_assign (.raw _)) ⟨rfl, trivial⟩ trivial rfl ?_) | (refine is_pick ?_; (first | refine al_v (opx_pick_t (.raw _) (by assumption)) ⟨rfl, rfl, trivial⟩ trivial rfl ?_ | refine al_v (opx_pick_f (.raw _) (by assumption)) ⟨rfl, rfl, trivial⟩ trivial rfl ?_)) | (refine is_bi ?_; refine al_v opx_len_sl ⟨rfl, trivial⟩ trivial rfl ?_) | (refine is_ia ?_; refine al_v (opx_ia_sl2 hcr (by omega)) ⟨rfl, rfl, trivial⟩ trivial rfl ?_) | refine al_nil ?_ | refine al_v (opx_intOf (by omega)) ⟨rfl, trivial⟩ trivial rfl ?_)) | (refine is_ad ?_; (first | refine al_v (opx_mulE hP.symm hm) ⟨rfl, rfl, trivial⟩ trivial rfl ?_ | refine al_v (opx_intOf (by omega)) ⟨rfl, trivial⟩ trivial rfl ?_)) | (refine is_aw ?_; (first | refine aw_seq ?_ | refine aw_region ?_ | refine aw_skip ?_ | refine aw_block ?_ | refine aw_ret ?_ | (refine is_cond ?_; (first | refine aw_cond_t rfl (by assumption) ?_ | refine aw_cond_f rfl (by assumption) ?_)))) | refine thn_r ?_ | refine inb_r ?_)
          exact ret_raw2 trivial rfl rfl ⟨by rw [e1, e2]; congr 5 <;> omega, rfl⟩
      · have d4 : decide (0 < (k : Int)) = false := decide_eq_false (by omega)
        rw [if_neg (fun h => h.elim g1 fun h => g4 h.1)] at h1
        obtain ⟨e1, e2, e3⟩ := gvN_s h1.symm
        repeat' (first | (refine is_al ?_; (first | refine al_v (opx_mulE hP.symm hm) ⟨rfl, rfl, trivial⟩ trivial rfl ?_ | (refine is_gd ?_; (first | refine al_on rfl rfl rfl (by assumption) ?_ | refine al_off rfl rfl rfl (by assumption) rfl ?_)) | (refine is_move ?_; (first | refine al_v (opx_move (.raw _)) ⟨rfl, trivial⟩ trivial rfl ?_ | refine al_v (opx_move (.sl _ _)) ⟨rfl, trivial⟩ trivial rfl ?_)) | (refine is_bin ?_; (first | refine al_v opx_lss ⟨rfl, rfl, trivial⟩ trivial rfl ?_ | refine al_v opx_gtr ⟨rfl, rfl, trivial⟩ trivial rfl ?_ | refine al_v (opx_add (by unfold InR; omega)) ⟨rfl, rfl, trivial⟩ trivial rfl ?_ | refine al_v (opx_mul (by unfold InR; omega)) ⟨rfl, rfl, trivial⟩ trivial rfl ?_ | refine al_v (opx_rem (by omega) (by omega)) ⟨rfl, rfl, trivial⟩ trivial rfl ?_)) | (refine is_load ?_; refine al_v opx_ld_imm ⟨rfl, trivial⟩ trivial rfl ?_) | (refine is_assign ?_; refine al_v (opx_assign (.raw _)) ⟨rfl, trivial⟩ trivial rfl ?_) | (refine is_pick ?_; (first | refine al_v (opx_pick_t (.raw _) (by assumption)) ⟨rfl, rfl, trivial⟩ trivial rfl ?_ | refine al_v (opx_pick_f (.raw _) (by assumption)) ⟨rfl, rfl, trivial⟩ trivial rfl ?_)) | (refine is_bi ?_; refine al_v opx_len_sl ⟨rfl, trivial⟩ trivial rfl ?_) | (refine is_ia ?_; refine al_v (opx_ia_sl2 hcr (by omega)) ⟨rfl, rfl, trivial⟩ trivial rfl ?_) | refine al_nil ?_ | refine al_v (opx_intOf (by omega)) ⟨rfl, trivial⟩ trivial rfl ?_)) | (refine is_ad ?_; (first | refine al_v (opx_mulE hP.symm hm) ⟨rfl, rfl, trivial⟩ trivial rfl ?_ | refine al_v (opx_intOf (by omega)) ⟨rfl, trivial⟩ trivial rfl ?_)) | (refine is_aw ?_; (first | refine aw_seq ?_ | refine aw_region ?_ | refine aw_skip ?_ | refine aw_block ?_ | refine aw_ret ?_ | (refine is_cond ?_; (first | refine aw_cond_f rfl rfl ?_ | refine aw_cond_t rfl (by assumption) ?_)))) | refine thn_r ?_ | refine inb_r ?_)
        exact ret_raw2 trivial rfl rfl ⟨by rw [e1, e2]; congr 5 <;> omega, rfl⟩
    · rw [if_neg g2] at h1
      have d2 : decide ((c.toNat : Int) < 128) = false := decide_eq_false (by omega)
      repeat' (first | (refine is_al ?_; (first | refine al_v (opx_mulE hP.symm hm) ⟨rfl, rfl, trivial⟩ trivial rfl ?_ | (refine is_gd ?_; refine al_on rfl rfl rfl (by assumption) ?_) | (refine is_move ?_; (first | refine al_v (opx_move (.raw _)) ⟨rfl, trivial⟩ trivial rfl ?_ | refine al_v (opx_move (.sl _ _)) ⟨rfl, trivial⟩ trivial rfl ?_)) | (refine is_bin ?_; (first | refine al_v opx_lss ⟨rfl, rfl, trivial⟩ trivial rfl ?_ | refine al_v (opx_add (by unfold InR; omega)) ⟨rfl, rfl, trivial⟩ trivial rfl ?_ | refine al_v (opx_mul (by unfold InR; omega)) ⟨rfl, rfl, trivial⟩ trivial rfl ?_ | refine al_v (opx_rem (by omega) (by omega)) ⟨rfl, rfl, trivial⟩ trivial rfl ?_)) | (refine is_load ?_; refine al_v opx_ld_imm ⟨rfl, trivial⟩ trivial rfl ?_) | (refine is_assign ?_; refine al_v (opx_assign (.raw _)) ⟨rfl, trivial⟩ trivial rfl ?_) | (refine is_pick ?_; refine al_v (opx_pick_t (.raw _) (by assumption)) ⟨rfl, rfl, trivial⟩ trivial rfl ?_) | (refine is_bi ?_; refine al_v opx_len_sl ⟨rfl, trivial⟩ trivial rfl ?_) | (refine is_ia ?_; refine al_v (opx_ia_sl2 hcr (by omega)) ⟨rfl, rfl, trivial⟩ trivial rfl ?_) | refine al_nil ?_ | refine al_v (opx_intOf (by omega)) ⟨rfl, trivial⟩ trivial rfl ?_)) | (refine is_ad ?_; (first | refine al_v (opx_mulE hP.symm hm) ⟨rfl, rfl, trivial⟩ trivial rfl ?_ | refine al_v (opx_intOf (by omega)) ⟨rfl, trivial⟩ trivial rfl ?_)) | (refine is_aw ?_; (first | refine aw_seq ?_ | refine aw_region ?_ | refine aw_skip ?_ | refine aw_block ?_ | (refine is_cond ?_; (first | refine aw_cond_t rfl (by assumption) ?_ | refine aw_cond_f rfl (by assumption) ?_)))) | refine thn_n ?_)
      exact ⟨(n + P, u * 128, k + 1), ⟨h1, by dsimp only; omega, by dsimp only; omega, by dsimp only; omega, fun _ => by dsimp only at *; omega, fun _ => by dsimp only at *; omega, fun _ => by dsimp only at *; omega⟩, by dsimp only; omega, le_mk [] rfl rfl rfl rfl ⟨rfl, congrArg AV.i (by dsimp only; omega), congrArg AV.i (by dsimp only; omega), rfl, trivial⟩ trivial⟩
  · have hc1 : decide ((k : Int) < ((byRs b).length : Int)) = false := decide_eq_false (by omega)
    rw [List.drop_of_length_le hge] at h1
    obtain ⟨e1, e2, e3⟩ := gvN_n (b := b) h1.symm
    repeat' (first | (refine is_al ?_; (first | (refine is_gd ?_; refine al_off rfl rfl rfl (by assumption) rfl ?_) | (refine is_move ?_; (first | refine al_v (opx_move (.raw _)) ⟨rfl, trivial⟩ trivial rfl ?_ | refine al_v (opx_move (.sl _ _)) ⟨rfl, trivial⟩ trivial rfl ?_)) | (refine is_bin ?_; refine al_v opx_lss ⟨rfl, rfl, trivial⟩ trivial rfl ?_) | (refine is_assign ?_; refine al_v (opx_assign (.raw _)) ⟨rfl, trivial⟩ trivial rfl ?_) | (refine is_pick ?_; refine al_v (opx_pick_f (.raw _) (by assumption)) ⟨rfl, rfl, trivial⟩ trivial rfl ?_) | (refine is_bi ?_; refine al_v opx_len_sl ⟨rfl, trivial⟩ trivial rfl ?_) | refine al_nil ?_)) | (refine is_aw ?_; (first | refine aw_seq ?_ | refine aw_region ?_ | refine aw_ret ?_ | refine aw_exit ?_ | (refine is_cond ?_; refine aw_cond_f rfl rfl ?_))))
    exact ret_raw2 trivial rfl rfl ⟨by rw [e1, e2], rfl⟩
theorem c_sZigzagOf (v : Int) (hv : -100000 ≤ v ∧ v ≤ 100000) : Con Try.prog 56 [rI v] [] (fun rs all => rs = [rI (zz v : Int)] ∧ all = []) := by
  refine con_of_aw (vars := [.tmp 2]) [(0, .r (rI v))] [] 0 Try.func56 (by kernel_rfl) rfl Try.ntmps56 rfl (by decide) rfl rfl rfl rfl rfl ?_
  intro B M w0 ρ0 Z0
  have d1 : (!decide (-100000 ≤ v ∧ v ≤ 100000)) = false := by rw [decide_eq_true hv]; rfl
  by_cases h : v < 0
  · have d3 : decide (v < 0) = true := decide_eq_true h
    repeat' (first | (refine is_al ?_; (first | (refine is_move ?_; refine al_v (opx_move (.raw _)) ⟨rfl, trivial⟩ trivial rfl ?_) | (refine is_bin ?_; (first | refine al_v opx_lss ⟨rfl, rfl, trivial⟩ trivial rfl ?_ | refine al_v (opx_sub (by unfold InR; omega)) ⟨rfl, rfl, trivial⟩ trivial rfl ?_ | refine al_v (opx_mul (by unfold InR; omega)) ⟨rfl, rfl, trivial⟩ trivial rfl ?_)) | (refine is_assign ?_; refine al_v (opx_assign (.raw _)) ⟨rfl, trivial⟩ trivial rfl ?_) | (refine is_call ?_; refine al_callv2 (by (repeat (first | exact .nil | refine .one rfl rfl ?_ | refine .froz rfl rfl ?_ | refine .row rfl rfl ?_ | refine .rnil rfl ?_ | refine .agg rfl (by (repeat (first | exact .nil | refine .cons (.same rfl) ?_ | refine .cons (.froz rfl) ?_ | refine .cons (.rnil) ?_ | refine .cons (.row rfl rfl) ?_)); (first | done | fail)) ?_)); (first | done | fail)) rfl (c_inRange _ _ _) rfl ?_) | refine al_v opx_not ⟨rfl, trivial⟩ trivial rfl ?_ | refine al_nil ?_)) | (refine is_aw ?_; (first | refine aw_seq ?_ | refine aw_region ?_ | refine aw_skip ?_ | refine aw_ret ?_ | (refine is_cond ?_; (first | refine aw_cond_t rfl (by assumption) ?_ | refine aw_cond_f rfl (by assumption) ?_)))) | refine thn_r ?_)
    exact ret_raw trivial rfl ⟨by rw [zz, if_neg (by omega)]; congr 5; omega, rfl⟩
  · have d3 : decide (v < 0) = false := decide_eq_false h
    repeat' (first | (refine is_al ?_; (first | (refine is_move ?_; refine al_v (opx_move (.raw _)) ⟨rfl, trivial⟩ trivial rfl ?_) | (refine is_bin ?_; (first | refine al_v opx_lss ⟨rfl, rfl, trivial⟩ trivial rfl ?_ | refine al_v (opx_mul (by unfold InR; omega)) ⟨rfl, rfl, trivial⟩ trivial rfl ?_)) | (refine is_assign ?_; refine al_v (opx_assign (.raw _)) ⟨rfl, trivial⟩ trivial rfl ?_) | (refine is_call ?_; refine al_callv2 (by (repeat (first | exact .nil | refine .one rfl rfl ?_ | refine .froz rfl rfl ?_ | refine .row rfl rfl ?_ | refine .rnil rfl ?_ | refine .agg rfl (by (repeat (first | exact .nil | refine .cons (.same rfl) ?_ | refine .cons (.froz rfl) ?_ | refine .cons (.rnil) ?_ | refine .cons (.row rfl rfl) ?_)); (first | done | fail)) ?_)); (first | done | fail)) rfl (c_inRange _ _ _) rfl ?_) | refine al_v opx_not ⟨rfl, trivial⟩ trivial rfl ?_ | refine al_nil ?_)) | (refine is_aw ?_; (first | refine aw_seq ?_ | refine aw_region ?_ | refine aw_skip ?_ | refine aw_ret ?_ | (refine is_cond ?_; refine aw_cond_f rfl (by assumption) ?_))))
    exact ret_raw trivial rfl ⟨by rw [zz, if_pos (by omega)]; congr 5; omega, rfl⟩
theorem c_unzig (z : Nat) (hz : z ≤ 200000) : Con Try.prog 44 [rI (z : Int)] [] (fun rs all => rs = [rI (uz z)] ∧ all = []) := by
  refine con_of_aw (vars := [.tmp 2]) [(0, .r (rI (z : Int)))] [] 0 Try.func44 (by kernel_rfl) rfl Try.ntmps44 rfl (by decide) rfl rfl rfl rfl rfl ?_
  intro B M w0 ρ0 Z0
  by_cases h3 : z % 2 = 0
  · have d3 : decide ((z : Int) % 2 = 1) = false := decide_eq_false (by omega)
    repeat' (first | (refine is_al ?_; (first | (refine is_move ?_; refine al_v (opx_move (.raw _)) ⟨rfl, trivial⟩ trivial rfl ?_) | (refine is_bin ?_; (first | refine al_v opx_eql ⟨rfl, rfl, trivial⟩ trivial rfl ?_ | refine al_v (opx_quo (by unfold InR; omega) (by omega) (by omega)) ⟨rfl, rfl, trivial⟩ trivial rfl ?_ | refine al_v (opx_rem (by omega) (by omega)) ⟨rfl, rfl, trivial⟩ trivial rfl ?_)) | (refine is_assign ?_; refine al_v (opx_assign (.raw _)) ⟨rfl, trivial⟩ trivial rfl ?_) | refine al_nil ?_)) | (refine is_aw ?_; (first | refine aw_seq ?_ | refine aw_region ?_ | refine aw_skip ?_ | refine aw_ret ?_ | (refine is_cond ?_; refine aw_cond_f rfl (by assumption) ?_))))
    exact ret_raw trivial rfl ⟨by rw [uz, if_pos h3]; congr 5, rfl⟩
  · have d3 : decide ((z : Int) % 2 = 1) = true := decide_eq_true (by omega)
    have hq : (-((z : Int) + 1)).tdiv 2 = -(((z : Int) + 1) / 2) := by rw [Int.neg_tdiv, Int.tdiv_eq_ediv_of_nonneg (by omega)]
    have hin : InR ((-((z : Int) + 1)).tdiv 2) := by rw [hq]; unfold InR; omega
    repeat' (first | (refine is_al ?_; (first | (refine is_move ?_; refine al_v (opx_move (.raw _)) ⟨rfl, trivial⟩ trivial rfl ?_) | (refine is_bin ?_; (first | refine al_v opx_eql ⟨rfl, rfl, trivial⟩ trivial rfl ?_ | refine al_v (opx_add (by unfold InR; omega)) ⟨rfl, rfl, trivial⟩ trivial rfl ?_ | refine al_v (opx_rem (by omega) (by omega)) ⟨rfl, rfl, trivial⟩ trivial rfl ?_)) | (refine is_assign ?_; refine al_v (opx_assign (.raw _)) ⟨rfl, trivial⟩ trivial rfl ?_) | refine al_nil ?_ | refine al_v (opx_neg (by unfold InR; omega)) ⟨rfl, trivial⟩ trivial rfl ?_ | refine al_v (opx_tdiv hin (by omega)) ⟨rfl, rfl, trivial⟩ trivial rfl ?_)) | (refine is_ad ?_; (first | refine al_v (opx_neg (by unfold InR; omega)) ⟨rfl, trivial⟩ trivial rfl ?_ | refine al_v (opx_tdiv hin (by omega)) ⟨rfl, rfl, trivial⟩ trivial rfl ?_)) | (refine is_aw ?_; (first | refine aw_seq ?_ | refine aw_region ?_ | refine aw_ret ?_ | (refine is_cond ?_; refine aw_cond_t rfl (by assumption) ?_))) | refine thn_r ?_)
    exact ret_raw trivial rfl ⟨by rw [uz, if_neg h3, hq]; congr 5, rfl⟩
end Go.Proofs.Ytjhokokkablcpaa
