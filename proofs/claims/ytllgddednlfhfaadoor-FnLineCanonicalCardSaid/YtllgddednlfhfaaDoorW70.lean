/-
  The exact law of parsing labels: the walks.
-/
import Derived.Test.YtllgddednlfhfaaDoorWG
import Derived.Test.YtllgddednlfhfaaDoorEng32
namespace Go.Proofs.YtllgddednlfhfaaDoor
open Go.RowKit
set_option linter.unusedVariables false
set_option linter.unusedSimpArgs false
attribute [local irreducible] AL AW OpX Le AD

/-- Marks that are texts. -/
def mkTs (k : Nat) (out : Str) : Str := if k = 0 then out else mkTs (k / 10) (UInt8.ofNat (48 + k % 10) :: out)
termination_by k
decreasing_by omega
def mkT (k : Int) : Str := 109 :: mkTs k.toNat []
theorem mkTs_0 {out : Str} : mkTs 0 out = out := by rw [mkTs, if_pos rfl]
theorem mkTs_s {k : Nat} {out : Str} (h : k ≠ 0) : mkTs k out = mkTs (k / 10) (UInt8.ofNat (48 + k % 10) :: out) := by rw [mkTs, if_neg h]
theorem c_markText (n : Int) (h : 1 ≤ n ∧ n ≤ 1000000000000) : Con Tryd.prog 44 [rI n] [] (fun rs all => rs = [rStr (mkT n)] ∧ all = []) := by
  obtain ⟨k, rfl⟩ : ∃ k : Nat, n = (k : Int) := ⟨n.toNat, by omega⟩
  refine con_of_aw (vars := [.tmp 2]) [(0, .r (rI (k : Int)))] [] 0 Tryd.func44 (by kernel_rfl) rfl Tryd.ntmps44 rfl (by decide) rfl rfl rfl rfl rfl ?_; intro B M w0 ρ0 Z0
  have d0 : decide ((k : Int) ≤ 0) = false := decide_eq_false (by omega)
  repeat' (first | (refine is_al ?_; (first | (refine is_move ?_; refine al_v (opx_move (.raw _)) ⟨rfl, trivial⟩ trivial rfl ?_) | (refine is_bin ?_; refine al_v opx_leq ⟨rfl, rfl, trivial⟩ trivial rfl ?_) | (refine is_assign ?_; refine al_v (opx_assign (.raw _)) ⟨rfl, trivial⟩ trivial rfl ?_) | refine al_nil ?_)) | (refine is_aw ?_; (first | refine aw_seq ?_ | refine aw_region ?_ | refine aw_skip ?_ | refine aw_block ?_ | (refine is_cond ?_; refine aw_cond_f rfl (by assumption) ?_))))
  refine aw_loop (γ := Nat × Str) (fun g => [(0, .i (g.1 : Int)), (3, .str g.2)]) (fun _ => []) (fun _ => 0) (fun g => g.2.length + g.1 ≤ 1000000000000 ∧ mkTs g.1 g.2 = mkTs k []) (fun g => g.1) (k, []) ⟨by dsimp only [List.length_nil]; omega, rfl⟩ (le_mk [] rfl rfl rfl rfl ⟨rfl, rfl, trivial⟩ trivial) ?_
  rintro ⟨j, out⟩ ⟨h1, h2⟩
  dsimp only at h1 h2 ⊢
  have hlo : (out.length : Int) ≤ 1000000000000 := by omega
  rcases Nat.eq_zero_or_pos j with h0 | h0
  · subst h0
    have hc1 : decide ((0 : Int) < ((0 : Nat) : Int)) = false := rfl
    rw [mkTs_0] at h2
    repeat' (first | (refine is_al ?_; (first | (refine is_move ?_; refine al_v (opx_move (.raw _)) ⟨rfl, trivial⟩ trivial rfl ?_) | (refine is_bin ?_; refine al_v opx_gtr ⟨rfl, rfl, trivial⟩ trivial rfl ?_) | (refine is_assign ?_; refine al_v (opx_assign (.raw _)) ⟨rfl, trivial⟩ trivial rfl ?_) | refine al_nil ?_ | refine al_v (opx_cat (by simp only [List.length_cons, List.length_nil]; omega)) ⟨rfl, rfl, trivial⟩ trivial rfl ?_)) | (refine is_ad ?_; refine al_v (opx_cat (by simp only [List.length_cons, List.length_nil]; omega)) ⟨rfl, rfl, trivial⟩ trivial rfl ?_) | (refine is_aw ?_; (first | refine aw_seq ?_ | refine aw_region ?_ | refine aw_ret ?_ | refine aw_exit ?_ | (refine is_cond ?_; refine aw_cond_f rfl rfl ?_))))
    exact ret_raw trivial rfl ⟨by rw [mkT, Int.toNat_natCast, ← h2]; rfl, rfl⟩
  · have hc1 : decide ((0 : Int) < (j : Int)) = true := decide_eq_true (by omega)
    rw [mkTs_s (by omega)] at h2
    repeat' (first | (refine is_al ?_; (first | (refine is_move ?_; refine al_v (opx_move (.raw _)) ⟨rfl, trivial⟩ trivial rfl ?_) | (refine is_bin ?_; (first | refine al_v opx_gtr ⟨rfl, rfl, trivial⟩ trivial rfl ?_ | refine al_v (opx_add (by unfold InR; omega)) ⟨rfl, rfl, trivial⟩ trivial rfl ?_ | refine al_v (opx_quo (by unfold InR; omega) (by omega) (by omega)) ⟨rfl, rfl, trivial⟩ trivial rfl ?_ | refine al_v (opx_rem (by omega) (by omega)) ⟨rfl, rfl, trivial⟩ trivial rfl ?_)) | (refine is_assign ?_; refine al_v (opx_assign (.raw _)) ⟨rfl, trivial⟩ trivial rfl ?_) | refine al_nil ?_ | refine al_v (opx_byte (k := 48 + j % 10) (by omega) (by omega)) ⟨rfl, trivial⟩ trivial rfl ?_ | refine al_litB1 rfl rfl ?_ | refine al_v (opx_bstr_own (by kernel_rfl)) ⟨rfl, trivial⟩ ⟨rfl, trivial⟩ rfl ?_ | refine al_v (opx_cat (by simp only [List.length_cons, List.length_nil]; omega)) ⟨rfl, rfl, trivial⟩ trivial rfl ?_)) | (refine is_ad ?_; (first | refine al_v (opx_byte (k := 48 + j % 10) (by omega) (by omega)) ⟨rfl, trivial⟩ trivial rfl ?_ | refine al_litB1 rfl rfl ?_ | refine al_v (opx_bstr_own (by kernel_rfl)) ⟨rfl, trivial⟩ ⟨rfl, trivial⟩ rfl ?_ | refine al_v (opx_cat (by simp only [List.length_cons, List.length_nil]; omega)) ⟨rfl, rfl, trivial⟩ trivial rfl ?_)) | (refine is_aw ?_; (first | refine aw_seq ?_ | refine aw_region ?_ | refine aw_skip ?_ | refine aw_block ?_ | (refine is_cond ?_; refine aw_cond_t rfl (by assumption) ?_))) | refine thn_n ?_ | refine inb_n ?_)
    exact ⟨(j / 10, UInt8.ofNat (48 + j % 10) :: out), ⟨by simp only [List.length_cons]; omega, h2⟩, by dsimp only; omega, le_mk [] rfl rfl rfl rfl ⟨rfl, rfl, trivial⟩ trivial⟩
def mkL (k : Int) (n : Nat) : List Lb := (List.range n).map fun i : Nat => (mkT (k + 2 * (i : Int)), mkT (k + 2 * (i : Int) + 1))
theorem mkL_len {k : Int} {n : Nat} : (mkL k n).length = n := by simp [mkL]
theorem mkL_at {k : Int} {n j : Nat} (h : j < n) : (mkL k n)[j]? = some (mkT (k + 2 * (j : Int)), mkT (k + 2 * (j : Int) + 1)) := by simp [mkL, h]
theorem mkL_succ {k : Int} {n : Nat} : mkL k (n + 1) = mkL k n ++ [(mkT (k + 2 * (n : Int)), mkT (k + 2 * (n : Int) + 1))] := by simp [mkL, List.range_succ]
theorem mkL_set {k : Int} {ps : List Lb} {j : Nat} {p : Lb} (hp : ps[j]? = some p) : (mkL k j ++ ps.drop j).set j (mkT (k + 2 * (j : Int)), mkT (k + 2 * (j : Int) + 1)) = mkL k (j + 1) ++ ps.drop (j + 1) := by
  obtain ⟨hj, rfl⟩ := List.getElem?_eq_some_iff.1 hp
  rw [List.set_append_right _ _ (by rw [mkL_len]; omega), mkL_len, Nat.sub_self, List.drop_eq_getElem_cons hj, List.set_cons_zero, mkL_succ, List.append_assoc]; rfl
theorem c_markLabelS (ps : List Lb) (k : Int) (hk : 1 ≤ k ∧ k ≤ 100000000000) (hL : ps.length ≤ 1000000000) : Con Tryd.prog 20 [.one (.own 0), rI k] [.row 2 52 (lbRs ps)] (fun rs all => rs = [.one (.c (.raw (.int .i64 (k + 2 * (ps.length : Int)))))] ∧ all = [.row 2 52 (lbRs (mkL k ps.length))]) := by
  refine con_of_aw (vars := [.tmp 4]) [(0, .own 0), (1, .r (rI k))] [(0, .row 2 52 (lbRs ps))] 1 Tryd.func20 (by kernel_rfl) rfl Tryd.ntmps20 rfl (by decide) rfl rfl rfl rfl rfl ?_; intro B M w0 ρ0 Z0
  repeat' (first | (refine is_al ?_; (first | (refine is_assign ?_; refine al_v (opx_assign (.raw _)) ⟨rfl, trivial⟩ trivial rfl ?_) | refine al_nil ?_)) | (refine is_aw ?_; (first | refine aw_seq ?_ | refine aw_region ?_ | refine aw_block ?_)))
  refine aw_loop (γ := Nat) (fun j => [(0, .own 0), (1, .i (k + 2 * (j : Int))), (5, .i (j : Int))]) (fun j => [(0, .row 2 52 (lbRs (mkL k j ++ ps.drop j)))]) (fun _ => 1)
    (fun j => j ≤ ps.length) (fun j => ps.length - j) 0 (Nat.zero_le _) (le_mk [0] rfl rfl rfl rfl ⟨rfl, by rw [show k + 2 * ((0 : Nat) : Int) = k by omega]; rfl, rfl, trivial⟩ ⟨rfl, trivial⟩) ?_
  intro j hj
  have hlen := lbRs_len (xs := mkL k j ++ ps.drop j)
  have hml : (mkL k j ++ ps.drop j).length = ps.length := by rw [List.length_append, mkL_len, List.length_drop]; omega
  rcases Nat.lt_or_ge j ps.length with hlt | hge
  · have hc : decide ((j : Int) < ((lbRs (mkL k j ++ ps.drop j)).length : Int)) = true := decide_eq_true (by omega)
    obtain ⟨p, hp⟩ : ∃ p, ps[j]? = some p := ⟨_, List.getElem?_eq_getElem hlt⟩
    have hp1 : (mkL k j ++ ps.drop j)[j]? = some p := by rw [List.getElem?_append_right (by rw [mkL_len]; omega), mkL_len, Nat.sub_self, List.getElem?_drop]; exact hp
    have hp2 : ((mkL k j ++ ps.drop j).set j (mkT (k + 2 * (j : Int)), p.2))[j]? = some (mkT (k + 2 * (j : Int)), p.2) := List.getElem?_set_self (by omega)
    have hj1 : j < (lbRs (mkL k j ++ ps.drop j)).length := by omega
    have hj2 : j < (lbRs ((mkL k j ++ ps.drop j).set j (mkT (k + 2 * (j : Int)), p.2))).length := by rw [lbRs_len, List.length_set]; omega
    repeat' (first | (refine is_al ?_; (first | (refine is_move ?_; (first | refine al_v (opx_move (.raw _)) ⟨rfl, trivial⟩ trivial rfl ?_ | refine al_v (opx_move (.own _)) ⟨rfl, trivial⟩ trivial rfl ?_)) | (refine is_bin ?_; (first | refine al_v opx_lss ⟨rfl, rfl, trivial⟩ trivial rfl ?_ | refine al_v (opx_add (by unfold InR; omega)) ⟨rfl, rfl, trivial⟩ trivial rfl ?_)) | (refine is_fa ?_; refine al_v opx_fa_el ⟨rfl, trivial⟩ trivial rfl ?_) | (refine is_assign ?_; refine al_v (opx_assign (.raw _)) ⟨rfl, trivial⟩ trivial rfl ?_) | (refine is_bi ?_; refine al_v opx_len_own ⟨rfl, trivial⟩ ⟨rfl, trivial⟩ rfl ?_) | (refine is_ia ?_; (first | refine al_v (opx_ia_own2 hj1 (by omega)) ⟨rfl, rfl, trivial⟩ ⟨rfl, trivial⟩ rfl ?_ | refine al_v (opx_ia_own2 hj2 (by omega)) ⟨rfl, rfl, trivial⟩ ⟨rfl, trivial⟩ rfl ?_)) | (refine is_call ?_; refine al_callv2 (by (repeat (first | exact .nil | refine .one rfl rfl ?_ | refine .froz rfl rfl ?_ | refine .row rfl rfl ?_ | refine .rnil rfl ?_ | refine .agg rfl (by (repeat (first | exact .nil | refine .cons (.same rfl) ?_ | refine .cons (.froz rfl) ?_ | refine .cons (.rnil) ?_ | refine .cons (.row rfl rfl) ?_)); (first | done | fail)) ?_)); (first | done | fail)) rfl (c_markText _ (by omega)) rfl ?_) | (refine is_st ?_; (first | refine al_stL0 rfl rfl rfl (by assumption) ?_ | refine al_stL1 rfl rfl rfl (by assumption) ?_)) | refine al_nil ?_)) | (refine is_aw ?_; (first | refine aw_seq ?_ | refine aw_region ?_ | refine aw_skip ?_ | refine aw_block ?_ | (refine is_cond ?_; refine aw_cond_t rfl (by assumption) ?_))) | refine thn_n ?_)
    rw [List.set_set, mkL_set hp]
    exact ⟨j + 1, hlt, by omega, le_mk [0] rfl rfl rfl rfl ⟨rfl, by rw [show k + 2 * ((j + 1 : Nat) : Int) = k + 2 * (j : Int) + 1 + 1 by omega]; rfl, rfl, trivial⟩ ⟨rfl, trivial⟩⟩
  · have hc : decide ((j : Int) < ((lbRs (mkL k j ++ ps.drop j)).length : Int)) = false := decide_eq_false (by omega)
    obtain rfl : j = ps.length := by omega
    rw [List.drop_length, List.append_nil]
    rw [List.drop_length, List.append_nil] at hc
    repeat' (first | (refine is_al ?_; (first | (refine is_move ?_; (first | refine al_v (opx_move (.raw _)) ⟨rfl, trivial⟩ trivial rfl ?_ | refine al_v (opx_move (.own _)) ⟨rfl, trivial⟩ trivial rfl ?_)) | (refine is_bin ?_; refine al_v opx_lss ⟨rfl, rfl, trivial⟩ trivial rfl ?_) | (refine is_assign ?_; refine al_v (opx_assign (.raw _)) ⟨rfl, trivial⟩ trivial rfl ?_) | (refine is_bi ?_; refine al_v opx_len_own ⟨rfl, trivial⟩ ⟨rfl, trivial⟩ rfl ?_) | refine al_nil ?_)) | (refine is_aw ?_; (first | refine aw_seq ?_ | refine aw_region ?_ | refine aw_ret ?_ | refine aw_exit ?_ | (refine is_cond ?_; refine aw_cond_f rfl (by assumption) ?_))))
    exact retm_raw trivial rfl rfl rfl ⟨rfl, rfl⟩
theorem c_heldLabelS (k : Int) (n : Nat) (hk : 1 ≤ k ∧ k ≤ 100000000000) (hL : n ≤ 1000000000) : Con Tryd.prog 21 [slL (mkL k n), rI k] [] (fun rs all => rs = [rI (k + 2 * (n : Int))] ∧ all = []) := by
  have hlen := lbRs_len (xs := mkL k n)
  have hml := mkL_len (k := k) (n := n)
  refine con_of_aw (vars := [.tmp 4]) [(0, .r (slL (mkL k n))), (1, .r (rI k))] [] 0 Tryd.func21 (by kernel_rfl) rfl Tryd.ntmps21 rfl (by decide) rfl rfl rfl rfl rfl ?_; intro B M w0 ρ0 Z0
  repeat' (first | (refine is_al ?_; (first | (refine is_assign ?_; refine al_v (opx_assign (.raw _)) ⟨rfl, trivial⟩ trivial rfl ?_) | refine al_nil ?_)) | (refine is_aw ?_; (first | refine aw_seq ?_ | refine aw_region ?_ | refine aw_block ?_)))
  refine aw_loop (γ := Nat) (fun j => [(0, .r (slL (mkL k n))), (1, .i (k + 2 * (j : Int))), (5, .i (j : Int))]) (fun j => []) (fun _ => 0)
    (fun j => j ≤ n) (fun j => n - j) 0 (Nat.zero_le _) (le_mk [] rfl rfl rfl rfl ⟨rfl, by rw [show k + 2 * ((0 : Nat) : Int) = k by omega]; rfl, rfl, trivial⟩ trivial) ?_
  intro j hj
  rcases Nat.lt_or_ge j n with hlt | hge
  · have hc : decide ((j : Int) < ((lbRs (mkL k n)).length : Int)) = true := decide_eq_true (by omega)
    have hpr := lbRs_at (mkL_at (k := k) hlt)
    have n1 : (!decide (mkT (k + 2 * (j : Int)) = mkT (k + 2 * (j : Int)))) = false := by rw [eqD]; rfl
    have n2 : (!decide (mkT (k + 2 * (j : Int) + 1) = mkT (k + 2 * (j : Int) + 1))) = false := by rw [eqD]; rfl
    repeat' (first | (refine is_al ?_; (first | (refine is_move ?_; (first | refine al_v (opx_move (.raw _)) ⟨rfl, trivial⟩ trivial rfl ?_ | refine al_v (opx_move (.sl _ _)) ⟨rfl, trivial⟩ trivial rfl ?_)) | (refine is_bin ?_; (first | refine al_v opx_lss ⟨rfl, rfl, trivial⟩ trivial rfl ?_ | refine al_v (opx_add (by unfold InR; omega)) ⟨rfl, rfl, trivial⟩ trivial rfl ?_)) | (refine is_assign ?_; refine al_v (opx_assign (.raw _)) ⟨rfl, trivial⟩ trivial rfl ?_) | (refine is_bi ?_; refine al_v opx_len_sl ⟨rfl, trivial⟩ trivial rfl ?_) | refine al_nil ?_)) | (refine is_ad ?_; (first | (refine isd_move ?_; (first | refine ad_v (opx_move (.raw _)) ⟨rfl, trivial⟩ trivial rfl ?_ | refine ad_v (opx_move (.sl _ _)) ⟨rfl, trivial⟩ trivial rfl ?_)) | (refine isd_bin ?_; refine ad_v opx_sneq ⟨rfl, rfl, trivial⟩ trivial rfl ?_) | (refine isd_load ?_; refine ad_v opx_ld_imm ⟨rfl, trivial⟩ trivial rfl ?_) | (refine isd_fa ?_; (first | refine ad_v opx_fa_imm0 ⟨rfl, trivial⟩ trivial rfl ?_ | refine ad_v opx_fa_imm1 ⟨rfl, trivial⟩ trivial rfl ?_)) | (refine isd_ia ?_; refine ad_v (opx_ia_sl2 hpr (by omega)) ⟨rfl, rfl, trivial⟩ trivial rfl ?_) | (refine isd_call ?_; refine ad_callv2 (by (repeat (first | exact .nil | refine .one rfl rfl ?_ | refine .froz rfl rfl ?_ | refine .row rfl rfl ?_ | refine .rnil rfl ?_ | refine .agg rfl (by (repeat (first | exact .nil | refine .cons (.same rfl) ?_ | refine .cons (.froz rfl) ?_ | refine .cons (.rnil) ?_ | refine .cons (.row rfl rfl) ?_)); (first | done | fail)) ?_)); (first | done | fail)) rfl (c_markText _ (by omega)) rfl ?_) | refine ad_nil (by kernel_rfl) ?_)) | (refine is_aw ?_; (first | refine aw_seq ?_ | refine aw_region ?_ | refine aw_skip ?_ | refine aw_block ?_ | (refine is_cond ?_; (first | refine aw_cond_t rfl (by assumption) ?_ | refine aw_cond_f rfl (by assumption) ?_)) | refine aw_draw mixed ?_)) | refine thn_n ?_)
    exact ⟨j + 1, hlt, by omega, le_mk [] rfl rfl rfl rfl ⟨rfl, by rw [show k + 2 * ((j + 1 : Nat) : Int) = k + 2 * (j : Int) + 1 + 1 by omega]; rfl, rfl, trivial⟩ trivial⟩
  · have hc : decide ((j : Int) < ((lbRs (mkL k n)).length : Int)) = false := decide_eq_false (by omega)
    repeat' (first | (refine is_al ?_; (first | (refine is_move ?_; (first | refine al_v (opx_move (.raw _)) ⟨rfl, trivial⟩ trivial rfl ?_ | refine al_v (opx_move (.sl _ _)) ⟨rfl, trivial⟩ trivial rfl ?_)) | (refine is_bin ?_; refine al_v opx_lss ⟨rfl, rfl, trivial⟩ trivial rfl ?_) | (refine is_assign ?_; refine al_v (opx_assign (.raw _)) ⟨rfl, trivial⟩ trivial rfl ?_) | (refine is_bi ?_; refine al_v opx_len_sl ⟨rfl, trivial⟩ trivial rfl ?_) | refine al_nil ?_)) | (refine is_aw ?_; (first | refine aw_seq ?_ | refine aw_region ?_ | refine aw_ret ?_ | refine aw_exit ?_ | (refine is_cond ?_; refine aw_cond_f rfl (by assumption) ?_))))
    exact ret_raw trivial rfl ⟨by rw [show j = n by omega], rfl⟩
theorem prsL_len {s : Str} : (prsL s).length ≤ 4 := by
  by_cases h : ∃ l, IsT s l
  · obtain ⟨l, hl⟩ := h
    rw [(prs_t hl).2]; exact hl.1.1
  · rw [(prs_f (fun l hl => h ⟨l, hl⟩)).2]; exact Nat.zero_le _
end Go.Proofs.YtllgddednlfhfaaDoor
