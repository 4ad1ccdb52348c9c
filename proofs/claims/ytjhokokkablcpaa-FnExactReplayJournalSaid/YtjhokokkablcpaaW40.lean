/-
  Journals: the program's numbers and entries: the walks.
-/
import Derived.Test.YtjhokokkablcpaaW9
import Derived.Test.YtjhokokkablcpaaPJ
import Derived.Test.YtjhokokkablcpaaEng27
namespace Go.Proofs.Ytjhokokkablcpaa
open Go.RowKit
set_option linter.unusedVariables false
set_option linter.unusedSimpArgs false
attribute [local irreducible] AL AW OpX Le AD

theorem c_SumOf (b : By) (hb : b.length ≤ 200) : Con Try.prog 33 [slB b] [] (fun rs all => rs = [rI (sumB b : Int)] ∧ all = []) := by
  have hl := byRs_len (bs := b)
  refine con_of_aw (vars := [.tmp 2]) [(0, .r (slB b))] [] 0 Try.func33 (by kernel_rfl) rfl Try.ntmps33 rfl (by decide) rfl rfl rfl rfl rfl ?_
  intro B M w0 ρ0 Z0
  have d1 : decide (200 < ((byRs b).length : Int)) = false := decide_eq_false (by omega)
  repeat' (first | (refine is_al ?_; (first | (refine is_move ?_; (first | refine al_v (opx_move (.raw _)) ⟨rfl, trivial⟩ trivial rfl ?_ | refine al_v (opx_move (.sl _ _)) ⟨rfl, trivial⟩ trivial rfl ?_)) | (refine is_bin ?_; refine al_v opx_gtr ⟨rfl, rfl, trivial⟩ trivial rfl ?_) | (refine is_assign ?_; refine al_v (opx_assign (.raw _)) ⟨rfl, trivial⟩ trivial rfl ?_) | (refine is_bi ?_; refine al_v opx_len_sl ⟨rfl, trivial⟩ trivial rfl ?_) | refine al_nil ?_)) | (refine is_aw ?_; (first | refine aw_seq ?_ | refine aw_region ?_ | refine aw_skip ?_ | refine aw_block ?_ | (refine is_cond ?_; refine aw_cond_f rfl (by assumption) ?_))))
  refine aw_loop (γ := Nat) (fun k => [(3, .i (sumB (b.take k) : Int)), (9, .sl 1 (byRs b)), (10, .i ((byRs b).length : Int)), (11, .i (k : Int))]) (fun _ => []) (fun _ => 0)
    (fun k => k ≤ b.length) (fun k => b.length - k) 0 (Nat.zero_le _) (le_mk [] rfl rfl rfl rfl ⟨rfl, rfl, rfl, rfl, trivial⟩ trivial) ?_
  intro k hk
  rcases Nat.lt_or_ge k b.length with hlt | hge
  · have hc1 : decide ((k : Int) < ((byRs b).length : Int)) = true := decide_eq_true (by omega)
    obtain ⟨c, hc⟩ : ∃ c, b[k]? = some c := ⟨_, List.getElem?_eq_getElem hlt⟩
    have hcr := byRs_at hc
    have hc8 := c.toNat_lt
    have hs := sumB_take hc
    have hs1 := sumB_lt (b.take k)
    repeat' (first | (refine is_al ?_; (first | (refine is_move ?_; refine al_v (opx_move (.raw _)) ⟨rfl, trivial⟩ trivial rfl ?_) | (refine is_bin ?_; (first | refine al_v opx_lss ⟨rfl, rfl, trivial⟩ trivial rfl ?_ | refine al_v (opx_add (by unfold InR; omega)) ⟨rfl, rfl, trivial⟩ trivial rfl ?_ | refine al_v (opx_mul (by unfold InR; omega)) ⟨rfl, rfl, trivial⟩ trivial rfl ?_ | refine al_v (opx_rem (by omega) (by omega)) ⟨rfl, rfl, trivial⟩ trivial rfl ?_)) | (refine is_load ?_; refine al_v opx_ld_imm ⟨rfl, trivial⟩ trivial rfl ?_) | (refine is_assign ?_; refine al_v (opx_assign (.raw _)) ⟨rfl, trivial⟩ trivial rfl ?_) | (refine is_ia ?_; refine al_v (opx_ia_sl2 hcr (by omega)) ⟨rfl, rfl, trivial⟩ trivial rfl ?_) | refine al_nil ?_ | refine al_v (opx_intOf (by omega)) ⟨rfl, trivial⟩ trivial rfl ?_)) | (refine is_ad ?_; refine al_v (opx_intOf (by omega)) ⟨rfl, trivial⟩ trivial rfl ?_) | (refine is_aw ?_; (first | refine aw_seq ?_ | refine aw_region ?_ | refine aw_skip ?_ | refine aw_block ?_ | (refine is_cond ?_; refine aw_cond_t rfl (by assumption) ?_))) | refine thn_n ?_)
    exact ⟨k + 1, hlt, by omega, le_mk [] rfl rfl rfl rfl ⟨by rw [hs]; exact congrArg AV.i (by omega), rfl, rfl, rfl, trivial⟩ trivial⟩
  · have hc1 : decide ((k : Int) < ((byRs b).length : Int)) = false := decide_eq_false (by omega)
    rw [List.take_of_length_le hge]
    repeat' (first | (refine is_al ?_; (first | (refine is_move ?_; refine al_v (opx_move (.raw _)) ⟨rfl, trivial⟩ trivial rfl ?_) | (refine is_bin ?_; refine al_v opx_lss ⟨rfl, rfl, trivial⟩ trivial rfl ?_) | (refine is_assign ?_; refine al_v (opx_assign (.raw _)) ⟨rfl, trivial⟩ trivial rfl ?_) | refine al_nil ?_)) | (refine is_aw ?_; (first | refine aw_seq ?_ | refine aw_region ?_ | refine aw_ret ?_ | refine aw_exit ?_ | (refine is_cond ?_; refine aw_cond_f rfl (by assumption) ?_))))
    exact ret_raw trivial rfl ⟨rfl, rfl⟩
theorem c_PutVar (n : Nat) (hn : n ≤ 200000) : Con Try.prog 31 [rI (n : Int)] [] (fun rs all => rs = [.one (.own 0)] ∧ all = [.row 1 5 (byRs (pv n))]) := by
  refine con_of_aw (vars := [.tmp 2]) [(0, .r (rI (n : Int)))] [] 0 Try.func31 (by kernel_rfl) rfl Try.ntmps31 rfl (by decide) rfl rfl rfl rfl rfl ?_
  intro B M w0 ρ0 Z0
  have d1 : decide ((n : Int) < 0) = false := decide_eq_false (by omega)
  have d2 : decide (200000 < (n : Int)) = false := decide_eq_false (by omega)
  repeat' (first | (refine is_al ?_; (first | (refine is_gd ?_; refine al_on rfl rfl rfl (by assumption) ?_) | (refine is_move ?_; refine al_v (opx_move (.raw _)) ⟨rfl, trivial⟩ trivial rfl ?_) | (refine is_bin ?_; (first | refine al_v opx_lss ⟨rfl, rfl, trivial⟩ trivial rfl ?_ | refine al_v opx_gtr ⟨rfl, rfl, trivial⟩ trivial rfl ?_)) | (refine is_assign ?_; refine al_v (opx_assign (.raw _)) ⟨rfl, trivial⟩ trivial rfl ?_) | (refine is_pick ?_; refine al_v (opx_pick_f (.raw _) rfl) ⟨rfl, rfl, trivial⟩ trivial rfl ?_) | refine al_nil ?_)) | (refine is_aw ?_; (first | refine aw_seq ?_ | refine aw_region ?_ | refine aw_skip ?_ | refine aw_block ?_ | (refine is_cond ?_; refine aw_cond_f rfl (by assumption) ?_))))
  refine aw_le (le_ownNil 3 1 5 rfl) ?_
  refine aw_loop (γ := By × Nat) (fun g => [(0, .i (g.2 : Int)), (3, .own 0)]) (fun g => [(0, .row 1 5 (byRs g.1))]) (fun _ => 1)
    (fun g => g.1 ++ pv g.2 = pv n ∧ g.2 ≤ 200000 ∧ g.1.length ≤ 200000 - g.2) (fun g => g.2) ([], n) ⟨rfl, hn, Nat.zero_le _⟩ (le_mk [0] rfl rfl rfl rfl ⟨rfl, rfl, trivial⟩ ⟨rfl, trivial⟩) ?_
  rintro ⟨acc, m⟩ ⟨h1, h2, h3⟩
  dsimp only at h1 h2 h3 ⊢
  rcases Nat.lt_or_ge m 128 with hlt | hge
  · have hc : decide (128 ≤ (m : Int)) = false := decide_eq_false (by omega)
    rw [pv_1 hlt] at h1
    repeat' (first | (refine is_al ?_; (first | (refine is_move ?_; (first | refine al_v (opx_move (.raw _)) ⟨rfl, trivial⟩ trivial rfl ?_ | refine al_v (opx_move (.own _)) ⟨rfl, trivial⟩ trivial rfl ?_)) | (refine is_bin ?_; refine al_v opx_geq ⟨rfl, rfl, trivial⟩ trivial rfl ?_) | (refine is_assign ?_; refine al_v (opx_assign (.own _)) ⟨rfl, trivial⟩ trivial rfl ?_) | (refine is_bs ?_; refine al_pushB ⟨rfl, trivial⟩ rfl rfl rfl rfl rfl (by omega) ?_) | refine al_nil ?_ | refine al_v (opx_byte (k := m) rfl (by omega)) ⟨rfl, trivial⟩ trivial rfl ?_)) | (refine is_ad ?_; refine al_v (opx_byte (k := m) rfl (by omega)) ⟨rfl, trivial⟩ trivial rfl ?_) | (refine is_aw ?_; (first | refine aw_seq ?_ | refine aw_region ?_ | refine aw_ret ?_ | refine aw_exit ?_ | (refine is_cond ?_; refine aw_cond_f rfl (by assumption) ?_))))
    exact ret_row trivial rfl rfl ⟨rfl, by rw [h1]⟩
  · have hc : decide (128 ≤ (m : Int)) = true := decide_eq_true (by omega)
    rw [pv_s hge] at h1
    repeat' (first | (refine is_al ?_; (first | (refine is_move ?_; (first | refine al_v (opx_move (.raw _)) ⟨rfl, trivial⟩ trivial rfl ?_ | refine al_v (opx_move (.own _)) ⟨rfl, trivial⟩ trivial rfl ?_)) | (refine is_bin ?_; (first | refine al_v opx_geq ⟨rfl, rfl, trivial⟩ trivial rfl ?_ | refine al_v (opx_add (by unfold InR; omega)) ⟨rfl, rfl, trivial⟩ trivial rfl ?_ | refine al_v (opx_quo (by unfold InR; omega) (by omega) (by omega)) ⟨rfl, rfl, trivial⟩ trivial rfl ?_ | refine al_v (opx_rem (by omega) (by omega)) ⟨rfl, rfl, trivial⟩ trivial rfl ?_)) | (refine is_assign ?_; (first | refine al_v (opx_assign (.raw _)) ⟨rfl, trivial⟩ trivial rfl ?_ | refine al_v (opx_assign (.own _)) ⟨rfl, trivial⟩ trivial rfl ?_)) | (refine is_bs ?_; refine al_pushB ⟨rfl, trivial⟩ rfl rfl rfl rfl rfl (by omega) ?_) | refine al_nil ?_ | refine al_v (opx_byte (k := m % 128 + 128) (by omega) (by omega)) ⟨rfl, trivial⟩ trivial rfl ?_)) | (refine is_ad ?_; refine al_v (opx_byte (k := m % 128 + 128) (by omega) (by omega)) ⟨rfl, trivial⟩ trivial rfl ?_) | (refine is_aw ?_; (first | refine aw_seq ?_ | refine aw_region ?_ | refine aw_skip ?_ | refine aw_block ?_ | (refine is_cond ?_; refine aw_cond_t rfl (by assumption) ?_))) | refine thn_n ?_ | refine inb_n ?_)
    exact ⟨(acc ++ [UInt8.ofNat (m % 128 + 128)], m / 128), ⟨by rw [← h1, List.append_assoc]; rfl, by dsimp only; omega, by dsimp only; rw [List.length_append]; simp only [List.length_cons, List.length_nil]; omega⟩, by dsimp only; omega, le_mk [_] rfl rfl rfl rfl ⟨rfl, rfl, trivial⟩ ⟨rfl, trivial⟩⟩
set_option maxRecDepth 10000 in
theorem c_GetVar (b : By) (hb : b.length ≤ 1048576) : Con Try.prog 39 [slB b] [] (fun rs all => rs = [rI (gvN b), rI (gvK b), rB (gv b).isSome] ∧ all = []) := by
  have hl := byRs_len (bs := b)
  refine con_of_aw (vars := [.tmp 2, .tmp 3, .tmp 4]) [(0, .r (slB b))] [] 0 Try.func39 (by kernel_rfl) rfl Try.ntmps39 rfl (by decide) rfl rfl rfl rfl rfl ?_
  intro B M w0 ρ0 Z0
  repeat' (first | (refine is_al ?_; (first | (refine is_move ?_; (first | refine al_v (opx_move (.raw _)) ⟨rfl, trivial⟩ trivial rfl ?_ | refine al_v (opx_move (.sl _ _)) ⟨rfl, trivial⟩ trivial rfl ?_)) | (refine is_assign ?_; refine al_v (opx_assign (.raw _)) ⟨rfl, trivial⟩ trivial rfl ?_) | (refine is_bi ?_; refine al_v opx_len_sl ⟨rfl, trivial⟩ trivial rfl ?_) | refine al_nil ?_)) | (refine is_aw ?_; (first | refine aw_seq ?_ | refine aw_region ?_ | refine aw_block ?_)))
  refine aw_loop (γ := Nat × Nat × Nat) (fun g => [(5, .i (g.1 : Int)), (6, .i (g.2.1 : Int)), (9, .sl 1 (byRs b)), (10, .i ((byRs b).length : Int)), (11, .i (g.2.2 : Int))]) (fun _ => []) (fun _ => 0)
    (fun g => gvI g.1 g.2.1 g.2.2 (b.drop g.2.2) = gv b ∧ g.1 ≤ 200000 ∧ g.2.1 ≤ 2097152 ∧ g.2.2 ≤ 3 ∧ (g.2.2 ≤ 2 → g.2.1 ≤ 16384) ∧ (g.2.2 ≤ 1 → g.2.1 ≤ 128) ∧ (g.2.2 = 0 → g.2.1 ≤ 1)) (fun g => b.length - g.2.2) (0, 1, 0) ⟨by rw [List.drop_zero]; exact gvI_gv b, by dsimp only; omega, by dsimp only; omega, by dsimp only; omega, fun _ => by dsimp only; omega, fun _ => by dsimp only; omega, fun _ => by dsimp only; omega⟩ (le_mk [] rfl rfl rfl rfl ⟨rfl, rfl, rfl, rfl, rfl, trivial⟩ trivial) ?_
  rintro ⟨n, u, k⟩ ⟨h1, h2, h3, h4, h5, h6, h7⟩
  dsimp only at h1 h2 h3 h4 h5 h6 h7 ⊢
  rcases Nat.lt_or_ge k b.length with hlt | hge
  · have hc1 : decide ((k : Int) < ((byRs b).length : Int)) = true := decide_eq_true (by omega)
    obtain ⟨c, hc⟩ : ∃ c, b[k]? = some c := ⟨_, List.getElem?_eq_getElem hlt⟩
    have hcr := byRs_at hc
    have hc8 := c.toNat_lt
    rw [drop_c hc, gvI_c] at h1
    have hP1 : c.toNat % 128 * u ≤ 127 * u := Nat.mul_le_mul_right u (by omega)
    have hP : ((c.toNat % 128 * u : Nat) : Int) = (c.toNat : Int) % 128 * (u : Int) := by simp
    generalize hPd : c.toNat % 128 * u = P at h1 hP1 hP
    have hm : InR (P : Int) := by unfold InR; omega
    by_cases g1 : 200000 < n + P
    · rw [if_pos g1] at h1
      obtain ⟨e1, e2, e3⟩ := gvN_n h1.symm
      have d1 : decide (200000 < (n : Int) + (P : Int)) = true := decide_eq_true (by omega)
      repeat' (first | (refine is_al ?_; (first | refine al_v (opx_mulE hP.symm hm) ⟨rfl, rfl, trivial⟩ trivial rfl ?_ | (refine is_move ?_; refine al_v (opx_move (.raw _)) ⟨rfl, trivial⟩ trivial rfl ?_) | (refine is_bin ?_; (first | refine al_v opx_lss ⟨rfl, rfl, trivial⟩ trivial rfl ?_ | refine al_v opx_gtr ⟨rfl, rfl, trivial⟩ trivial rfl ?_ | refine al_v (opx_add (by unfold InR; omega)) ⟨rfl, rfl, trivial⟩ trivial rfl ?_)) | (refine is_load ?_; refine al_v opx_ld_imm ⟨rfl, trivial⟩ trivial rfl ?_) | (refine is_assign ?_; refine al_v (opx_assign (.raw _)) ⟨rfl, trivial⟩ trivial rfl ?_) | (refine is_ia ?_; refine al_v (opx_ia_sl2 hcr (by omega)) ⟨rfl, rfl, trivial⟩ trivial rfl ?_) | refine al_nil ?_ | refine al_v (opx_remk (by omega) (by omega)) ⟨rfl, rfl, trivial⟩ trivial rfl ?_ | refine al_v (opx_intOf (by omega)) ⟨rfl, trivial⟩ trivial rfl ?_)) | (refine is_ad ?_; (first | refine al_v (opx_mulE hP.symm hm) ⟨rfl, rfl, trivial⟩ trivial rfl ?_ | refine al_v (opx_remk (by omega) (by omega)) ⟨rfl, rfl, trivial⟩ trivial rfl ?_ | refine al_v (opx_intOf (by omega)) ⟨rfl, trivial⟩ trivial rfl ?_)) | (refine is_aw ?_; (first | refine aw_seq ?_ | refine aw_region ?_ | refine aw_skip ?_ | refine aw_block ?_ | refine aw_ret ?_ | (refine is_cond ?_; refine aw_cond_t rfl (by assumption) ?_))) | refine thn_r ?_ | refine inb_r ?_)
      exact ret_raw3 trivial rfl rfl rfl ⟨by rw [e1, e2, e3], rfl⟩
    rw [if_neg g1] at h1
    have d1 : decide (200000 < (n : Int) + (P : Int)) = false := decide_eq_false (by omega)
    by_cases g2 : c.toNat < 128
    · rw [if_pos g2] at h1
      have d2 : decide ((c.toNat : Int) < 128) = true := decide_eq_true (by omega)
      by_cases g3 : c.toNat = 0
      · have d3 : decide ((c.toNat : Int) = 0) = true := decide_eq_true (by omega)
        by_cases g4 : 0 < k
        · have d4 : decide (0 < (k : Int)) = true := decide_eq_true (by omega)
          rw [if_pos ⟨g3, g4⟩] at h1
          obtain ⟨e1, e2, e3⟩ := gvN_n h1.symm
          repeat' (first | (refine is_al ?_; (first | refine al_v (opx_mulE hP.symm hm) ⟨rfl, rfl, trivial⟩ trivial rfl ?_ | (refine is_gd ?_; refine al_on rfl rfl rfl (by assumption) ?_) | (refine is_move ?_; refine al_v (opx_move (.raw _)) ⟨rfl, trivial⟩ trivial rfl ?_) | (refine is_bin ?_; (first | refine al_v opx_eql ⟨rfl, rfl, trivial⟩ trivial rfl ?_ | refine al_v opx_lss ⟨rfl, rfl, trivial⟩ trivial rfl ?_ | refine al_v opx_gtr ⟨rfl, rfl, trivial⟩ trivial rfl ?_ | refine al_v (opx_add (by unfold InR; omega)) ⟨rfl, rfl, trivial⟩ trivial rfl ?_)) | (refine is_load ?_; refine al_v opx_ld_imm ⟨rfl, trivial⟩ trivial rfl ?_) | (refine is_assign ?_; refine al_v (opx_assign (.raw _)) ⟨rfl, trivial⟩ trivial rfl ?_) | (refine is_pick ?_; refine al_v (opx_pick_t (.raw _) (by assumption)) ⟨rfl, rfl, trivial⟩ trivial rfl ?_) | (refine is_ia ?_; refine al_v (opx_ia_sl2 hcr (by omega)) ⟨rfl, rfl, trivial⟩ trivial rfl ?_) | refine al_nil ?_ | refine al_v (opx_remk (by omega) (by omega)) ⟨rfl, rfl, trivial⟩ trivial rfl ?_ | refine al_v (opx_intOf (by omega)) ⟨rfl, trivial⟩ trivial rfl ?_)) | (refine is_ad ?_; (first | refine al_v (opx_mulE hP.symm hm) ⟨rfl, rfl, trivial⟩ trivial rfl ?_ | refine al_v (opx_remk (by omega) (by omega)) ⟨rfl, rfl, trivial⟩ trivial rfl ?_ | refine al_v (opx_intOf (by omega)) ⟨rfl, trivial⟩ trivial rfl ?_)) | (refine is_aw ?_; (first | refine aw_seq ?_ | refine aw_region ?_ | refine aw_skip ?_ | refine aw_block ?_ | refine aw_ret ?_ | (refine is_cond ?_; (first | refine aw_cond_t rfl (by assumption) ?_ | refine aw_cond_f rfl (by assumption) ?_)))) | refine thn_r ?_ | refine inb_r ?_)
          exact ret_raw3 trivial rfl rfl rfl ⟨by rw [e1, e2, e3], rfl⟩
        · have d4 : decide (0 < (k : Int)) = false := decide_eq_false (by omega)
          rw [if_neg (fun h => g4 h.2)] at h1
          obtain ⟨e1, e2, e3⟩ := gvN_s h1.symm
          repeat' (first | (refine is_al ?_; (first | refine al_v (opx_mulE hP.symm hm) ⟨rfl, rfl, trivial⟩ trivial rfl ?_ | (refine is_gd ?_; refine al_on rfl rfl rfl (by assumption) ?_) | (refine is_move ?_; refine al_v (opx_move (.raw _)) ⟨rfl, trivial⟩ trivial rfl ?_) | (refine is_bin ?_; (first | refine al_v opx_eql ⟨rfl, rfl, trivial⟩ trivial rfl ?_ | refine al_v opx_lss ⟨rfl, rfl, trivial⟩ trivial rfl ?_ | refine al_v opx_gtr ⟨rfl, rfl, trivial⟩ trivial rfl ?_ | refine al_v (opx_add (by unfold InR; omega)) ⟨rfl, rfl, trivial⟩ trivial rfl ?_)) | (refine is_load ?_; refine al_v opx_ld_imm ⟨rfl, trivial⟩ trivial rfl ?_) | (refine is_assign ?_; refine al_v (opx_assign (.raw _)) ⟨rfl, trivial⟩ trivial rfl ?_) | (refine is_pick ?_; refine al_v (opx_pick_t (.raw _) (by assumption)) ⟨rfl, rfl, trivial⟩ trivial rfl ?_) | (refine is_ia ?_; refine al_v (opx_ia_sl2 hcr (by omega)) ⟨rfl, rfl, trivial⟩ trivial rfl ?_) | refine al_nil ?_ | refine al_v (opx_remk (by omega) (by omega)) ⟨rfl, rfl, trivial⟩ trivial rfl ?_ | refine al_v (opx_intOf (by omega)) ⟨rfl, trivial⟩ trivial rfl ?_)) | (refine is_ad ?_; (first | refine al_v (opx_mulE hP.symm hm) ⟨rfl, rfl, trivial⟩ trivial rfl ?_ | refine al_v (opx_remk (by omega) (by omega)) ⟨rfl, rfl, trivial⟩ trivial rfl ?_ | refine al_v (opx_intOf (by omega)) ⟨rfl, trivial⟩ trivial rfl ?_)) | (refine is_aw ?_; (first | refine aw_seq ?_ | refine aw_region ?_ | refine aw_skip ?_ | refine aw_block ?_ | refine aw_ret ?_ | (refine is_cond ?_; (first | refine aw_cond_t rfl (by assumption) ?_ | refine aw_cond_f rfl (by assumption) ?_)))) | refine thn_r ?_ | refine inb_r ?_)
          exact ret_raw3 trivial rfl rfl rfl ⟨by rw [e1, e2, e3]; congr 5 <;> omega, rfl⟩
      · have d3 : decide ((c.toNat : Int) = 0) = false := decide_eq_false (by omega)
        rw [if_neg (fun h => g3 h.1)] at h1
        obtain ⟨e1, e2, e3⟩ := gvN_s h1.symm
        repeat' (first | (refine is_al ?_; (first | refine al_v (opx_mulE hP.symm hm) ⟨rfl, rfl, trivial⟩ trivial rfl ?_ | (refine is_gd ?_; refine al_off rfl rfl rfl (by assumption) rfl ?_) | (refine is_move ?_; refine al_v (opx_move (.raw _)) ⟨rfl, trivial⟩ trivial rfl ?_) | (refine is_bin ?_; (first | refine al_v opx_eql ⟨rfl, rfl, trivial⟩ trivial rfl ?_ | refine al_v opx_lss ⟨rfl, rfl, trivial⟩ trivial rfl ?_ | refine al_v opx_gtr ⟨rfl, rfl, trivial⟩ trivial rfl ?_ | refine al_v (opx_add (by unfold InR; omega)) ⟨rfl, rfl, trivial⟩ trivial rfl ?_)) | (refine is_load ?_; refine al_v opx_ld_imm ⟨rfl, trivial⟩ trivial rfl ?_) | (refine is_assign ?_; refine al_v (opx_assign (.raw _)) ⟨rfl, trivial⟩ trivial rfl ?_) | (refine is_pick ?_; refine al_v (opx_pick_f (.raw _) (by assumption)) ⟨rfl, rfl, trivial⟩ trivial rfl ?_) | (refine is_ia ?_; refine al_v (opx_ia_sl2 hcr (by omega)) ⟨rfl, rfl, trivial⟩ trivial rfl ?_) | refine al_nil ?_ | refine al_v (opx_remk (by omega) (by omega)) ⟨rfl, rfl, trivial⟩ trivial rfl ?_ | refine al_v (opx_intOf (by omega)) ⟨rfl, trivial⟩ trivial rfl ?_)) | (refine is_ad ?_; (first | refine al_v (opx_mulE hP.symm hm) ⟨rfl, rfl, trivial⟩ trivial rfl ?_ | refine al_v (opx_remk (by omega) (by omega)) ⟨rfl, rfl, trivial⟩ trivial rfl ?_ | refine al_v (opx_intOf (by omega)) ⟨rfl, trivial⟩ trivial rfl ?_)) | (refine is_aw ?_; (first | refine aw_seq ?_ | refine aw_region ?_ | refine aw_skip ?_ | refine aw_block ?_ | refine aw_ret ?_ | (refine is_cond ?_; (first | refine aw_cond_f rfl rfl ?_ | refine aw_cond_t rfl (by assumption) ?_ | refine aw_cond_f rfl (by assumption) ?_)))) | refine thn_r ?_ | refine inb_r ?_)
        exact ret_raw3 trivial rfl rfl rfl ⟨by rw [e1, e2, e3]; congr 5 <;> omega, rfl⟩
    · rw [if_neg g2] at h1
      have d2 : decide ((c.toNat : Int) < 128) = false := decide_eq_false (by omega)
      by_cases g3 : k = 3
      · rw [if_pos g3] at h1
        obtain ⟨e1, e2, e3⟩ := gvN_n h1.symm
        have d3 : decide ((k : Int) = 3) = true := decide_eq_true (by omega)
        repeat' (first | (refine is_al ?_; (first | refine al_v (opx_mulE hP.symm hm) ⟨rfl, rfl, trivial⟩ trivial rfl ?_ | (refine is_move ?_; refine al_v (opx_move (.raw _)) ⟨rfl, trivial⟩ trivial rfl ?_) | (refine is_bin ?_; (first | refine al_v opx_eql ⟨rfl, rfl, trivial⟩ trivial rfl ?_ | refine al_v opx_lss ⟨rfl, rfl, trivial⟩ trivial rfl ?_ | refine al_v opx_gtr ⟨rfl, rfl, trivial⟩ trivial rfl ?_ | refine al_v (opx_add (by unfold InR; omega)) ⟨rfl, rfl, trivial⟩ trivial rfl ?_)) | (refine is_load ?_; refine al_v opx_ld_imm ⟨rfl, trivial⟩ trivial rfl ?_) | (refine is_assign ?_; refine al_v (opx_assign (.raw _)) ⟨rfl, trivial⟩ trivial rfl ?_) | (refine is_ia ?_; refine al_v (opx_ia_sl2 hcr (by omega)) ⟨rfl, rfl, trivial⟩ trivial rfl ?_) | refine al_nil ?_ | refine al_v (opx_remk (by omega) (by omega)) ⟨rfl, rfl, trivial⟩ trivial rfl ?_ | refine al_v (opx_intOf (by omega)) ⟨rfl, trivial⟩ trivial rfl ?_)) | (refine is_ad ?_; (first | refine al_v (opx_mulE hP.symm hm) ⟨rfl, rfl, trivial⟩ trivial rfl ?_ | refine al_v (opx_remk (by omega) (by omega)) ⟨rfl, rfl, trivial⟩ trivial rfl ?_ | refine al_v (opx_intOf (by omega)) ⟨rfl, trivial⟩ trivial rfl ?_)) | (refine is_aw ?_; (first | refine aw_seq ?_ | refine aw_region ?_ | refine aw_skip ?_ | refine aw_block ?_ | refine aw_ret ?_ | (refine is_cond ?_; (first | refine aw_cond_t rfl (by assumption) ?_ | refine aw_cond_f rfl (by assumption) ?_)))) | refine thn_r ?_ | refine inb_r ?_)
        exact ret_raw3 trivial rfl rfl rfl ⟨by rw [e1, e2, e3], rfl⟩
      · rw [if_neg g3] at h1
        have d3 : decide ((k : Int) = 3) = false := decide_eq_false (by omega)
        repeat' (first | (refine is_al ?_; (first | refine al_v (opx_mulE hP.symm hm) ⟨rfl, rfl, trivial⟩ trivial rfl ?_ | (refine is_move ?_; refine al_v (opx_move (.raw _)) ⟨rfl, trivial⟩ trivial rfl ?_) | (refine is_bin ?_; (first | refine al_v opx_eql ⟨rfl, rfl, trivial⟩ trivial rfl ?_ | refine al_v opx_lss ⟨rfl, rfl, trivial⟩ trivial rfl ?_ | refine al_v opx_gtr ⟨rfl, rfl, trivial⟩ trivial rfl ?_ | refine al_v (opx_add (by unfold InR; omega)) ⟨rfl, rfl, trivial⟩ trivial rfl ?_ | refine al_v (opx_mul (by unfold InR; omega)) ⟨rfl, rfl, trivial⟩ trivial rfl ?_)) | (refine is_load ?_; refine al_v opx_ld_imm ⟨rfl, trivial⟩ trivial rfl ?_) | (refine is_assign ?_; refine al_v (opx_assign (.raw _)) ⟨rfl, trivial⟩ trivial rfl ?_) | (refine is_ia ?_; refine al_v (opx_ia_sl2 hcr (by omega)) ⟨rfl, rfl, trivial⟩ trivial rfl ?_) | refine al_nil ?_ | refine al_v (opx_remk (by omega) (by omega)) ⟨rfl, rfl, trivial⟩ trivial rfl ?_ | refine al_v (opx_intOf (by omega)) ⟨rfl, trivial⟩ trivial rfl ?_)) | (refine is_ad ?_; (first | refine al_v (opx_mulE hP.symm hm) ⟨rfl, rfl, trivial⟩ trivial rfl ?_ | refine al_v (opx_remk (by omega) (by omega)) ⟨rfl, rfl, trivial⟩ trivial rfl ?_ | refine al_v (opx_intOf (by omega)) ⟨rfl, trivial⟩ trivial rfl ?_)) | (refine is_aw ?_; (first | refine aw_seq ?_ | refine aw_region ?_ | refine aw_skip ?_ | refine aw_block ?_ | (refine is_cond ?_; (first | refine aw_cond_t rfl (by assumption) ?_ | refine aw_cond_f rfl (by assumption) ?_)))) | refine thn_n ?_)
        exact ⟨(n + P, u * 128, k + 1), ⟨h1, by dsimp only; omega, by dsimp only; omega, by dsimp only; omega, fun _ => by dsimp only at *; omega, fun _ => by dsimp only at *; omega, fun _ => by dsimp only at *; omega⟩, by dsimp only; omega, le_mk [] rfl rfl rfl rfl ⟨congrArg AV.i (by dsimp only; omega), congrArg AV.i (by dsimp only; omega), rfl, rfl, rfl, trivial⟩ trivial⟩
  · have hc1 : decide ((k : Int) < ((byRs b).length : Int)) = false := decide_eq_false (by omega)
    rw [List.drop_of_length_le hge] at h1
    obtain ⟨e1, e2, e3⟩ := gvN_n (b := b) h1.symm
    repeat' (first | (refine is_al ?_; (first | (refine is_bin ?_; refine al_v opx_lss ⟨rfl, rfl, trivial⟩ trivial rfl ?_) | (refine is_assign ?_; refine al_v (opx_assign (.raw _)) ⟨rfl, trivial⟩ trivial rfl ?_) | refine al_nil ?_)) | (refine is_aw ?_; (first | refine aw_seq ?_ | refine aw_region ?_ | refine aw_ret ?_ | refine aw_exit ?_ | (refine is_cond ?_; refine aw_cond_f rfl (by assumption) ?_))))
    exact ret_raw3 trivial rfl rfl rfl ⟨by rw [e1, e2, e3], rfl⟩
theorem c_ZigzagOf (v : Int) (hv : -100000 ≤ v ∧ v ≤ 100000) : Con Try.prog 32 [rI v] [] (fun rs all => rs = [rI (zz v : Int)] ∧ all = []) := by
  refine con_of_aw (vars := [.tmp 2]) [(0, .r (rI v))] [] 0 Try.func32 (by kernel_rfl) rfl Try.ntmps32 rfl (by decide) rfl rfl rfl rfl rfl ?_
  intro B M w0 ρ0 Z0
  have d1 : decide (v < -100000) = false := decide_eq_false (by omega)
  have d2 : decide (100000 < v) = false := decide_eq_false (by omega)
  by_cases h : 0 ≤ v
  · have d3 : decide (0 ≤ v) = true := decide_eq_true h
    repeat' (first | (refine is_al ?_; (first | (refine is_gd ?_; refine al_on rfl rfl rfl (by assumption) ?_) | (refine is_move ?_; refine al_v (opx_move (.raw _)) ⟨rfl, trivial⟩ trivial rfl ?_) | (refine is_bin ?_; (first | refine al_v opx_lss ⟨rfl, rfl, trivial⟩ trivial rfl ?_ | refine al_v opx_gtr ⟨rfl, rfl, trivial⟩ trivial rfl ?_ | refine al_v opx_geq ⟨rfl, rfl, trivial⟩ trivial rfl ?_ | refine al_v (opx_mul (by unfold InR; omega)) ⟨rfl, rfl, trivial⟩ trivial rfl ?_)) | (refine is_assign ?_; refine al_v (opx_assign (.raw _)) ⟨rfl, trivial⟩ trivial rfl ?_) | (refine is_pick ?_; refine al_v (opx_pick_f (.raw _) (by assumption)) ⟨rfl, rfl, trivial⟩ trivial rfl ?_) | refine al_nil ?_)) | (refine is_aw ?_; (first | refine aw_seq ?_ | refine aw_region ?_ | refine aw_block ?_ | refine aw_ret ?_ | (refine is_cond ?_; (first | refine aw_cond_t rfl (by assumption) ?_ | refine aw_cond_f rfl (by assumption) ?_)))) | refine thn_r ?_ | refine inb_r ?_)
    exact ret_raw trivial rfl ⟨by rw [zz, if_pos h]; congr 5; omega, rfl⟩
  · have d3 : decide (0 ≤ v) = false := decide_eq_false h
    repeat' (first | (refine is_al ?_; (first | (refine is_gd ?_; refine al_on rfl rfl rfl (by assumption) ?_) | (refine is_move ?_; refine al_v (opx_move (.raw _)) ⟨rfl, trivial⟩ trivial rfl ?_) | (refine is_bin ?_; (first | refine al_v opx_lss ⟨rfl, rfl, trivial⟩ trivial rfl ?_ | refine al_v opx_gtr ⟨rfl, rfl, trivial⟩ trivial rfl ?_ | refine al_v opx_geq ⟨rfl, rfl, trivial⟩ trivial rfl ?_ | refine al_v (opx_sub (by unfold InR; omega)) ⟨rfl, rfl, trivial⟩ trivial rfl ?_ | refine al_v (opx_mul (by unfold InR; omega)) ⟨rfl, rfl, trivial⟩ trivial rfl ?_)) | (refine is_assign ?_; refine al_v (opx_assign (.raw _)) ⟨rfl, trivial⟩ trivial rfl ?_) | (refine is_pick ?_; refine al_v (opx_pick_f (.raw _) (by assumption)) ⟨rfl, rfl, trivial⟩ trivial rfl ?_) | refine al_nil ?_)) | (refine is_aw ?_; (first | refine aw_seq ?_ | refine aw_region ?_ | refine aw_skip ?_ | refine aw_block ?_ | refine aw_ret ?_ | (refine is_cond ?_; refine aw_cond_f rfl (by assumption) ?_))))
    exact ret_raw trivial rfl ⟨by rw [zz, if_neg h]; congr 5; omega, rfl⟩
/-- What UnzigzagOf answers. -/
def uzB (z : Int) : Bool := decide (0 ≤ z ∧ z ≤ 200000)
def uzI (z : Int) : Int := if 0 ≤ z ∧ z ≤ 200000 then uz z.toNat else 0
theorem c_UnzigzagOf (z : Int) : Con Try.prog 51 [rI z] [] (fun rs all => rs = [rI (uzI z), rB (uzB z)] ∧ all = []) := by
  refine con_of_aw (vars := [.tmp 2, .tmp 3]) [(0, .r (rI z))] [] 0 Try.func51 (by kernel_rfl) rfl Try.ntmps51 rfl (by decide) rfl rfl rfl rfl rfl ?_
  intro B M w0 ρ0 Z0
  by_cases h1 : z < 0
  · have d1 : decide (z < 0) = true := decide_eq_true h1
    have e1 : uzI z = 0 := if_neg (by omega)
    have e2 : uzB z = false := decide_eq_false (by omega)
    rw [e1, e2]
    repeat' (first | (refine is_al ?_; (first | (refine is_gd ?_; refine al_off rfl rfl rfl (by assumption) rfl ?_) | (refine is_move ?_; refine al_v (opx_move (.raw _)) ⟨rfl, trivial⟩ trivial rfl ?_) | (refine is_bin ?_; refine al_v opx_lss ⟨rfl, rfl, trivial⟩ trivial rfl ?_) | (refine is_assign ?_; refine al_v (opx_assign (.raw _)) ⟨rfl, trivial⟩ trivial rfl ?_) | (refine is_pick ?_; refine al_v (opx_pick_t (.raw _) (by assumption)) ⟨rfl, rfl, trivial⟩ trivial rfl ?_) | refine al_nil ?_)) | (refine is_aw ?_; (first | refine aw_seq ?_ | refine aw_region ?_ | refine aw_block ?_ | refine aw_ret ?_ | (refine is_cond ?_; refine aw_cond_t rfl rfl ?_))) | refine thn_r ?_ | refine inb_r ?_)
    exact ret_raw2 trivial rfl rfl ⟨rfl, rfl⟩
  have d1 : decide (z < 0) = false := decide_eq_false h1
  by_cases h2 : 200000 < z
  · have d2 : decide (200000 < z) = true := decide_eq_true h2
    have e1 : uzI z = 0 := if_neg (by omega)
    have e2 : uzB z = false := decide_eq_false (by omega)
    rw [e1, e2]
    repeat' (first | (refine is_al ?_; (first | (refine is_gd ?_; refine al_on rfl rfl rfl (by assumption) ?_) | (refine is_move ?_; refine al_v (opx_move (.raw _)) ⟨rfl, trivial⟩ trivial rfl ?_) | (refine is_bin ?_; (first | refine al_v opx_lss ⟨rfl, rfl, trivial⟩ trivial rfl ?_ | refine al_v opx_gtr ⟨rfl, rfl, trivial⟩ trivial rfl ?_)) | (refine is_assign ?_; refine al_v (opx_assign (.raw _)) ⟨rfl, trivial⟩ trivial rfl ?_) | (refine is_pick ?_; refine al_v (opx_pick_f (.raw _) (by assumption)) ⟨rfl, rfl, trivial⟩ trivial rfl ?_) | refine al_nil ?_)) | (refine is_aw ?_; (first | refine aw_seq ?_ | refine aw_region ?_ | refine aw_block ?_ | refine aw_ret ?_ | (refine is_cond ?_; refine aw_cond_t rfl (by assumption) ?_))) | refine thn_r ?_ | refine inb_r ?_)
    exact ret_raw2 trivial rfl rfl ⟨rfl, rfl⟩
  have d2 : decide (200000 < z) = false := decide_eq_false h2
  have e1 : uzI z = uz z.toNat := if_pos (by omega)
  have e2 : uzB z = true := decide_eq_true (by omega)
  rw [e1, e2]
  by_cases h3 : z % 2 = 0
  · have d3 : decide (z % 2 = 0) = true := decide_eq_true h3
    repeat' (first | (refine is_al ?_; (first | (refine is_gd ?_; refine al_on rfl rfl rfl (by assumption) ?_) | (refine is_move ?_; refine al_v (opx_move (.raw _)) ⟨rfl, trivial⟩ trivial rfl ?_) | (refine is_bin ?_; (first | refine al_v opx_eql ⟨rfl, rfl, trivial⟩ trivial rfl ?_ | refine al_v opx_lss ⟨rfl, rfl, trivial⟩ trivial rfl ?_ | refine al_v opx_gtr ⟨rfl, rfl, trivial⟩ trivial rfl ?_ | refine al_v (opx_quo (by unfold InR; omega) (by omega) (by omega)) ⟨rfl, rfl, trivial⟩ trivial rfl ?_ | refine al_v (opx_rem (by omega) (by omega)) ⟨rfl, rfl, trivial⟩ trivial rfl ?_)) | (refine is_assign ?_; refine al_v (opx_assign (.raw _)) ⟨rfl, trivial⟩ trivial rfl ?_) | (refine is_pick ?_; refine al_v (opx_pick_f (.raw _) (by assumption)) ⟨rfl, rfl, trivial⟩ trivial rfl ?_) | refine al_nil ?_)) | (refine is_aw ?_; (first | refine aw_seq ?_ | refine aw_region ?_ | refine aw_block ?_ | refine aw_ret ?_ | (refine is_cond ?_; (first | refine aw_cond_t rfl (by assumption) ?_ | refine aw_cond_f rfl (by assumption) ?_)))) | refine thn_r ?_ | refine inb_r ?_)
    exact ret_raw2 trivial rfl rfl ⟨by rw [uz, if_pos (by omega)]; congr 5; omega, rfl⟩
  · have d3 : decide (z % 2 = 0) = false := decide_eq_false h3
    have hq : (-(z + 1)).tdiv 2 = -((z + 1) / 2) := by rw [Int.neg_tdiv, Int.tdiv_eq_ediv_of_nonneg (by omega)]
    have hin : InR ((-(z + 1)).tdiv 2) := by rw [hq]; unfold InR; omega
    repeat' (first | (refine is_al ?_; (first | (refine is_gd ?_; refine al_on rfl rfl rfl (by assumption) ?_) | (refine is_move ?_; refine al_v (opx_move (.raw _)) ⟨rfl, trivial⟩ trivial rfl ?_) | (refine is_bin ?_; (first | refine al_v opx_eql ⟨rfl, rfl, trivial⟩ trivial rfl ?_ | refine al_v opx_lss ⟨rfl, rfl, trivial⟩ trivial rfl ?_ | refine al_v opx_gtr ⟨rfl, rfl, trivial⟩ trivial rfl ?_ | refine al_v (opx_add (by unfold InR; omega)) ⟨rfl, rfl, trivial⟩ trivial rfl ?_ | refine al_v (opx_rem (by omega) (by omega)) ⟨rfl, rfl, trivial⟩ trivial rfl ?_)) | (refine is_assign ?_; refine al_v (opx_assign (.raw _)) ⟨rfl, trivial⟩ trivial rfl ?_) | (refine is_pick ?_; refine al_v (opx_pick_f (.raw _) (by assumption)) ⟨rfl, rfl, trivial⟩ trivial rfl ?_) | refine al_nil ?_ | refine al_v (opx_neg (by unfold InR; omega)) ⟨rfl, trivial⟩ trivial rfl ?_ | refine al_v (opx_tdiv hin (by omega)) ⟨rfl, rfl, trivial⟩ trivial rfl ?_)) | (refine is_ad ?_; (first | refine al_v (opx_neg (by unfold InR; omega)) ⟨rfl, trivial⟩ trivial rfl ?_ | refine al_v (opx_tdiv hin (by omega)) ⟨rfl, rfl, trivial⟩ trivial rfl ?_)) | (refine is_aw ?_; (first | refine aw_seq ?_ | refine aw_region ?_ | refine aw_skip ?_ | refine aw_block ?_ | refine aw_ret ?_ | (refine is_cond ?_; refine aw_cond_f rfl (by assumption) ?_))))
    exact ret_raw2 trivial rfl rfl ⟨by rw [uz, if_neg (by omega), hq]; congr 5; omega, rfl⟩
theorem c_getZigzag (b : By) (hb : b.length ≤ 1048576) : Con Try.prog 40 [slB b] [] (fun rs all => rs = [rI (if (gv b).isSome = true then uz (gvN b).toNat else 0), rI (gvK b), rB (gv b).isSome] ∧ all = []) := by
  refine con_of_aw (vars := [.tmp 2, .tmp 3, .tmp 4]) [(0, .r (slB b))] [] 0 Try.func40 (by kernel_rfl) rfl Try.ntmps40 rfl (by decide) rfl rfl rfl rfl rfl ?_
  intro B M w0 ρ0 Z0
  cases h : gv b with
  | none =>
    obtain ⟨e1, e2, e3⟩ := gvN_n h
    have n1 : (!(gv b).isSome) = true := by rw [e3]; rfl
    repeat' (first | (refine is_al ?_; (first | (refine is_move ?_; (first | refine al_v (opx_move (.raw _)) ⟨rfl, trivial⟩ trivial rfl ?_ | refine al_v (opx_move (.sl _ _)) ⟨rfl, trivial⟩ trivial rfl ?_ | refine al_v (opx_move (.tup _)) ⟨rfl, trivial⟩ trivial rfl ?_)) | (refine is_assign ?_; refine al_v (opx_assign (.raw _)) ⟨rfl, trivial⟩ trivial rfl ?_) | (refine is_call ?_; refine al_callv2 (by (repeat (first | exact .nil | refine .one rfl rfl ?_ | refine .froz rfl rfl ?_ | refine .row rfl rfl ?_ | refine .rnil rfl ?_ | refine .agg rfl (by (repeat (first | exact .nil | refine .cons (.same rfl) ?_ | refine .cons (.froz rfl) ?_ | refine .cons (.rnil) ?_ | refine .cons (.row rfl rfl) ?_)); (first | done | fail)) ?_)); (first | done | fail)) rfl (c_GetVar _ hb) rfl ?_) | refine al_v opx_not ⟨rfl, trivial⟩ trivial rfl ?_ | refine al_v (opx_extract _ rfl) ⟨rfl, trivial⟩ trivial rfl ?_ | refine al_nil ?_)) | (refine is_aw ?_; (first | refine aw_seq ?_ | refine aw_region ?_ | refine aw_ret ?_ | (refine is_cond ?_; refine aw_cond_t rfl (by assumption) ?_))) | refine thn_r ?_)
    exact ret_raw3 trivial rfl rfl rfl ⟨by rw [e2]; rfl, rfl⟩
  | some p =>
    obtain ⟨e1, e2, e3⟩ := gvN_s (n := p.1) (k := p.2) h
    have n1 : (!(gv b).isSome) = false := by rw [e3]; rfl
    have hle := (gv_some (t := p.1) (k := p.2) h).1
    have e4 : uzI (gvN b) = uz (gvN b).toNat := if_pos (by rw [e1]; omega)
    have e5 : uzB (gvN b) = true := decide_eq_true (by rw [e1]; omega)
    repeat' (first | (refine is_al ?_; (first | (refine is_move ?_; (first | refine al_v (opx_move (.raw _)) ⟨rfl, trivial⟩ trivial rfl ?_ | refine al_v (opx_move (.sl _ _)) ⟨rfl, trivial⟩ trivial rfl ?_ | refine al_v (opx_move (.tup _)) ⟨rfl, trivial⟩ trivial rfl ?_)) | (refine is_assign ?_; refine al_v (opx_assign (.raw _)) ⟨rfl, trivial⟩ trivial rfl ?_) | (refine is_call ?_; (first | refine al_callv2 (by (repeat (first | exact .nil | refine .one rfl rfl ?_ | refine .froz rfl rfl ?_ | refine .row rfl rfl ?_ | refine .rnil rfl ?_ | refine .agg rfl (by (repeat (first | exact .nil | refine .cons (.same rfl) ?_ | refine .cons (.froz rfl) ?_ | refine .cons (.rnil) ?_ | refine .cons (.row rfl rfl) ?_)); (first | done | fail)) ?_)); (first | done | fail)) rfl (c_GetVar _ hb) rfl ?_ | refine al_callv2 (by (repeat (first | exact .nil | refine .one rfl rfl ?_ | refine .froz rfl rfl ?_ | refine .row rfl rfl ?_ | refine .rnil rfl ?_ | refine .agg rfl (by (repeat (first | exact .nil | refine .cons (.same rfl) ?_ | refine .cons (.froz rfl) ?_ | refine .cons (.rnil) ?_ | refine .cons (.row rfl rfl) ?_)); (first | done | fail)) ?_)); (first | done | fail)) rfl (c_UnzigzagOf _) rfl ?_)) | refine al_v opx_not ⟨rfl, trivial⟩ trivial rfl ?_ | refine al_v (opx_extract _ rfl) ⟨rfl, trivial⟩ trivial rfl ?_ | refine al_nil ?_)) | (refine is_aw ?_; (first | refine aw_seq ?_ | refine aw_region ?_ | refine aw_skip ?_ | refine aw_ret ?_ | (refine is_cond ?_; refine aw_cond_f rfl (by assumption) ?_))))
    exact ret_raw3 trivial rfl rfl rfl ⟨by rw [e4, e5]; rfl, rfl⟩
end Go.Proofs.Ytjhokokkablcpaa
