/-
  The tools of the exact statements: lists of numbers.
-/
import Derived.Test.YtekjcejmmhdnkaaW17
namespace Go.Proofs.Ytekjcejmmhdnkaa
open Go.RowKit
set_option linter.unusedVariables false
set_option linter.unusedSimpArgs false
attribute [local irreducible] AL AW OpX Le AD

theorem c_eqIntS (a b : List Int) (hL : a.length < 4611686018427387904) : Con Try.prog 70 [slI a, slI b] [] (fun rs all => rs = [rB (decide (a = b))] ∧ all = []) := by
  have hla := inRs_len (ns := a)
  have hlb := inRs_len (ns := b)
  refine con_of_aw (vars := [.tmp 4]) [(0, .r (slI a)), (1, .r (slI b))] [] 0 Try.func70 (by kernel_rfl) rfl Try.ntmps70 rfl (by decide) rfl rfl rfl rfl rfl ?_
  intro B M w0 ρ0 Z0
  repeat' (first | (refine is_al ?_; (first | (refine is_move ?_; refine al_v (opx_move (.sl _ _)) ⟨rfl, trivial⟩ trivial rfl ?_) | (refine is_bin ?_; refine al_v opx_neq ⟨rfl, rfl, trivial⟩ trivial rfl ?_) | (refine is_assign ?_; refine al_v (opx_assign (.raw _)) ⟨rfl, trivial⟩ trivial rfl ?_) | (refine is_bi ?_; refine al_v opx_len_sl ⟨rfl, trivial⟩ trivial rfl ?_) | refine al_nil ?_)) | (refine is_aw ?_; (first | refine aw_seq ?_ | refine aw_region ?_ | refine aw_skip ?_ | refine aw_block ?_ | refine aw_ret ?_ | (refine is_cond ?_; (refine aw_cond rfl ?_ ?_ <;> ((intro hgd; try exact absurd hgd (by decide)); (try (have hz := hgd; simp only [decide_eq_true_eq, decide_eq_false_iff_not, Bool.not_eq_true', Bool.not_eq_false', Bool.not_true, Bool.not_false, beq_iff_eq, Int.not_le, Int.not_lt] at hz)); (try (exfalso; omega))))))) | refine thn_r ?_)
  · exact ret_raw trivial rfl ⟨congrArg (fun b => [rB b]) ((decide_eq_false (fun h => by subst h; omega)).symm), rfl⟩
  have hl : b.length = a.length := by omega
  refine aw_loop (γ := Nat) (fun k => [(0, .r (slI a)), (1, .r (slI b)), (4, .b false), (5, .i (k : Int))]) (fun _ => []) (fun _ => 0) (fun k => k ≤ a.length ∧ ∀ j, j < k → a[j]? = b[j]?) (fun k => a.length - k) 0 ⟨Nat.zero_le _, fun j hj => by omega⟩ (le_mk [] rfl rfl rfl rfl ⟨rfl, rfl, rfl, rfl, trivial⟩ trivial) ?_
  rintro k ⟨hk, hok⟩
  rcases Nat.lt_or_ge k a.length with hlt | hge
  · have hc : decide ((k : Int) < ((inRs a).length : Int)) = true := decide_eq_true (by omega)
    obtain ⟨x, hx⟩ : ∃ x, a[k]? = some x := ⟨_, List.getElem?_eq_getElem hlt⟩
    obtain ⟨y, hy⟩ : ∃ y, b[k]? = some y := ⟨_, List.getElem?_eq_getElem (by omega)⟩
    have hxr := inRs_at hx
    have hyr := inRs_at hy
    repeat' (first | (refine is_al ?_; (first | (refine is_move ?_; (first | refine al_v (opx_move (.raw _)) ⟨rfl, trivial⟩ trivial rfl ?_ | refine al_v (opx_move (.sl _ _)) ⟨rfl, trivial⟩ trivial rfl ?_)) | (refine is_bin ?_; (first | refine al_v opx_lss ⟨rfl, rfl, trivial⟩ trivial rfl ?_ | refine al_v (opx_add (by unfold InR; omega)) ⟨rfl, rfl, trivial⟩ trivial rfl ?_)) | (refine is_assign ?_; refine al_v (opx_assign (.raw _)) ⟨rfl, trivial⟩ trivial rfl ?_) | (refine is_bi ?_; refine al_v opx_len_sl ⟨rfl, trivial⟩ trivial rfl ?_) | refine al_nil ?_)) | (refine is_ad ?_; (first | (refine isd_move ?_; (first | refine ad_v (opx_move (.raw _)) ⟨rfl, trivial⟩ trivial rfl ?_ | refine ad_v (opx_move (.sl _ _)) ⟨rfl, trivial⟩ trivial rfl ?_)) | (refine isd_bin ?_; refine ad_v opx_neq ⟨rfl, rfl, trivial⟩ trivial rfl ?_) | (refine isd_load ?_; refine ad_v opx_ld_imm ⟨rfl, trivial⟩ trivial rfl ?_) | (refine isd_ia ?_; (first | refine ad_v (opx_ia_sl2 hxr (by omega)) ⟨rfl, rfl, trivial⟩ trivial rfl ?_ | refine ad_v (opx_ia_sl2 hyr (by omega)) ⟨rfl, rfl, trivial⟩ trivial rfl ?_)) | refine ad_nil (by kernel_rfl) ?_)) | (refine is_aw ?_; (first | refine aw_seq ?_ | refine aw_region ?_ | refine aw_skip ?_ | refine aw_block ?_ | refine aw_ret ?_ | (refine is_cond ?_; (first | refine aw_cond_t rfl (by assumption) ?_ | (refine aw_cond rfl ?_ ?_ <;> ((intro hgd; try exact absurd hgd (by decide)); (try (have hz := hgd; simp only [decide_eq_true_eq, decide_eq_false_iff_not, Bool.not_eq_true', Bool.not_eq_false', Bool.not_true, Bool.not_false, beq_iff_eq, Int.not_le, Int.not_lt] at hz)); (try (exfalso; omega)))))) | refine aw_draw mixed ?_)) | refine thn_n ?_ | refine thn_r ?_ | refine inb_r ?_)
    · exact ret_raw trivial rfl ⟨congrArg (fun b => [rB b]) ((decide_eq_false (fun h => by subst h; rw [hx] at hy; cases hy; contradiction)).symm), rfl⟩
    · exact ⟨k + 1, ⟨hlt, fun j hj => by
        rcases Nat.lt_or_ge j k with h | h
        · exact hok j h
        · rw [show j = k by omega, hx, hy]; congr 1⟩, by omega, le_mk [] rfl rfl rfl rfl ⟨rfl, rfl, rfl, rfl, trivial⟩ trivial⟩
  · have hc : decide ((k : Int) < ((inRs a).length : Int)) = false := decide_eq_false (by omega)
    repeat' (first | (refine is_al ?_; (first | (refine is_move ?_; (first | refine al_v (opx_move (.raw _)) ⟨rfl, trivial⟩ trivial rfl ?_ | refine al_v (opx_move (.sl _ _)) ⟨rfl, trivial⟩ trivial rfl ?_)) | (refine is_bin ?_; refine al_v opx_lss ⟨rfl, rfl, trivial⟩ trivial rfl ?_) | (refine is_assign ?_; refine al_v (opx_assign (.raw _)) ⟨rfl, trivial⟩ trivial rfl ?_) | (refine is_bi ?_; refine al_v opx_len_sl ⟨rfl, trivial⟩ trivial rfl ?_) | refine al_nil ?_)) | (refine is_aw ?_; (first | refine aw_seq ?_ | refine aw_region ?_ | refine aw_ret ?_ | refine aw_exit ?_ | (refine is_cond ?_; refine aw_cond_f rfl (by assumption) ?_))))
    exact ret_raw trivial rfl ⟨congrArg (fun b => [rB b]) ((decide_eq_true (List.ext_getElem? fun j => by
      rcases Nat.lt_or_ge j a.length with h | h
      · exact hok j (by omega)
      · rw [List.getElem?_eq_none h, List.getElem?_eq_none (by omega)])).symm), rfl⟩
theorem c_toIntS (ps : List Int) (hL : ps.length ≤ 2000000) : Con Try.prog 69 [slI ps] [] (fun rs all => rs = [.one (.own 0)] ∧ all = [.row 1 3 (inRs ps)]) := by
  have hlen := inRs_len (ns := ps)
  refine con_of_aw (vars := [.tmp 2]) [(0, .r (slI ps))] [] 0 Try.func69 (by kernel_rfl) rfl Try.ntmps69 rfl (by decide) rfl rfl rfl rfl rfl ?_
  intro B M w0 ρ0 Z0
  repeat' (first | (refine is_al ?_; (first | (refine is_move ?_; refine al_v (opx_move (.sl _ _)) ⟨rfl, trivial⟩ trivial rfl ?_) | (refine is_assign ?_; (first | refine al_v (opx_assign (.raw _)) ⟨rfl, trivial⟩ trivial rfl ?_ | refine al_v (opx_assign (.own _)) ⟨rfl, trivial⟩ trivial rfl ?_)) | (refine is_bi ?_; refine al_v opx_len_sl ⟨rfl, trivial⟩ trivial rfl ?_) | refine al_nil ?_ | refine al_mkn (rows := inRs (List.replicate ps.length 0)) ps.length (by simp [inRs]) (by omega) rfl rfl rfl rfl (by omega) ?_)) | (refine is_ad ?_; refine al_mkn (rows := inRs (List.replicate ps.length 0)) ps.length (by simp [inRs]) (by omega) rfl rfl rfl rfl (by omega) ?_) | (refine is_aw ?_; (first | refine aw_seq ?_ | refine aw_region ?_ | refine aw_block ?_)))
  refine aw_loop (γ := Nat) (fun k => [(0, .r (slI ps)), (3, .own 0), (4, .i (k : Int))]) (fun k => [(0, .row 1 3 (inRs (ps.take k ++ List.replicate (ps.length - k) 0)))]) (fun _ => 1)
    (fun k => k ≤ ps.length) (fun k => ps.length - k) 0 (Nat.zero_le _) (le_mk [0] rfl rfl rfl rfl ⟨rfl, rfl, rfl, trivial⟩ ⟨rfl, trivial⟩) ?_
  intro k hk
  rcases Nat.lt_or_ge k ps.length with hlt | hge
  · have hc : decide ((k : Int) < ((inRs ps).length : Int)) = true := decide_eq_true (by omega)
    obtain ⟨p, hp⟩ : ∃ p, ps[k]? = some p := ⟨_, List.getElem?_eq_getElem hlt⟩
    have hpr := inRs_at hp
    have hko : k < (ps.take k ++ List.replicate (ps.length - k) (0 : Int)).length := by simp; omega
    have hko2 : k < (inRs (ps.take k ++ List.replicate (ps.length - k) (0 : Int))).length := by rw [inRs_len]; exact hko
    have hko3 : (ps.take k ++ List.replicate (ps.length - k) (0 : Int))[k]? = some _ := List.getElem?_eq_getElem hko
    repeat' (first | (refine is_al ?_; (first | (refine is_move ?_; (first | refine al_v (opx_move (.raw _)) ⟨rfl, trivial⟩ trivial rfl ?_ | refine al_v (opx_move (.sl _ _)) ⟨rfl, trivial⟩ trivial rfl ?_ | refine al_v (opx_move (.own _)) ⟨rfl, trivial⟩ trivial rfl ?_)) | (refine is_bin ?_; (first | refine al_v opx_lss ⟨rfl, rfl, trivial⟩ trivial rfl ?_ | refine al_v (opx_add (by unfold InR; omega)) ⟨rfl, rfl, trivial⟩ trivial rfl ?_)) | (refine is_load ?_; refine al_v opx_ld_imm ⟨rfl, trivial⟩ trivial rfl ?_) | (refine is_assign ?_; refine al_v (opx_assign (.raw _)) ⟨rfl, trivial⟩ trivial rfl ?_) | (refine is_bi ?_; refine al_v opx_len_sl ⟨rfl, trivial⟩ trivial rfl ?_) | (refine is_ia ?_; (first | refine al_v (opx_ia_sl2 hpr (by omega)) ⟨rfl, rfl, trivial⟩ trivial rfl ?_ | refine al_v (opx_ia_own2 hko2 (by omega)) ⟨rfl, rfl, trivial⟩ ⟨rfl, trivial⟩ rfl ?_)) | (refine is_st ?_; refine al_stI rfl rfl rfl (by assumption) ?_) | refine al_nil ?_)) | (refine is_aw ?_; (first | refine aw_seq ?_ | refine aw_region ?_ | refine aw_skip ?_ | refine aw_block ?_ | (refine is_cond ?_; refine aw_cond_t rfl (by assumption) ?_))) | refine thn_n ?_)
    rw [take_set (z := 0) hp rfl]
    exact ⟨k + 1, hlt, by omega, le_mk [0] rfl rfl rfl rfl ⟨rfl, rfl, rfl, trivial⟩ ⟨rfl, trivial⟩⟩
  · have hc : decide ((k : Int) < ((inRs ps).length : Int)) = false := decide_eq_false (by omega)
    repeat' (first | (refine is_al ?_; (first | (refine is_move ?_; (first | refine al_v (opx_move (.raw _)) ⟨rfl, trivial⟩ trivial rfl ?_ | refine al_v (opx_move (.sl _ _)) ⟨rfl, trivial⟩ trivial rfl ?_ | refine al_v (opx_move (.own _)) ⟨rfl, trivial⟩ trivial rfl ?_)) | (refine is_bin ?_; refine al_v opx_lss ⟨rfl, rfl, trivial⟩ trivial rfl ?_) | (refine is_assign ?_; refine al_v (opx_assign (.own _)) ⟨rfl, trivial⟩ trivial rfl ?_) | (refine is_bi ?_; refine al_v opx_len_sl ⟨rfl, trivial⟩ trivial rfl ?_) | refine al_nil ?_)) | (refine is_aw ?_; (first | refine aw_seq ?_ | refine aw_region ?_ | refine aw_ret ?_ | refine aw_exit ?_ | (refine is_cond ?_; refine aw_cond_f rfl (by assumption) ?_))))
    exact ret_row trivial rfl rfl ⟨rfl, by rw [show k = ps.length by omega]; simp⟩
def mkI (k : Int) (n : Nat) : List Int := (List.range n).map fun i : Nat => k + (i : Int)
theorem mkI_len {k : Int} {n : Nat} : (mkI k n).length = n := by simp [mkI]
theorem mkI_at {k : Int} {n j : Nat} (h : j < n) : (mkI k n)[j]? = some (k + (j : Int)) := by simp [mkI, h]
theorem mkI_succ {k : Int} {n : Nat} : mkI k (n + 1) = mkI k n ++ [k + (n : Int)] := by simp [mkI, List.range_succ]
theorem mkI_set {k : Int} {ps : List Int} {j : Nat} {p : Int} (hp : ps[j]? = some p) : (mkI k j ++ ps.drop j).set j (k + (j : Int)) = mkI k (j + 1) ++ ps.drop (j + 1) := by
  obtain ⟨hj, rfl⟩ := List.getElem?_eq_some_iff.1 hp
  rw [List.set_append_right _ _ (by rw [mkI_len]; omega), mkI_len, Nat.sub_self, List.drop_eq_getElem_cons hj, List.set_cons_zero, mkI_succ, List.append_assoc]; rfl
theorem c_markIntS (ps : List Int) (k : Int) (hk : 0 ≤ k ∧ k ≤ 1000000000000) (hL : ps.length ≤ 1000000000) : Con Try.prog 71 [.one (.own 0), rI k] [.row 1 3 (inRs ps)] (fun rs all => rs = [.one (.c (.raw (.int .i64 (k + (ps.length : Int)))))] ∧ all = [.row 1 3 (inRs (mkI k ps.length))]) := by
  refine con_of_aw (vars := [.tmp 4]) [(0, .own 0), (1, .r (rI k))] [(0, .row 1 3 (inRs ps))] 1 Try.func71 (by kernel_rfl) rfl Try.ntmps71 rfl (by decide) rfl rfl rfl rfl rfl ?_
  intro B M w0 ρ0 Z0
  repeat' (first | (refine is_al ?_; (first | (refine is_assign ?_; refine al_v (opx_assign (.raw _)) ⟨rfl, trivial⟩ trivial rfl ?_) | refine al_nil ?_)) | (refine is_aw ?_; (first | refine aw_seq ?_ | refine aw_region ?_ | refine aw_block ?_)))
  refine aw_loop (γ := Nat) (fun j => [(0, .own 0), (1, .i (k + (j : Int))), (5, .i (j : Int))]) (fun j => [(0, .row 1 3 (inRs (mkI k j ++ ps.drop j)))]) (fun _ => 1)
    (fun j => j ≤ ps.length) (fun j => ps.length - j) 0 (Nat.zero_le _) (le_mk [0] rfl rfl rfl rfl ⟨rfl, by rw [show k + ((0 : Nat) : Int) = k by omega]; rfl, rfl, trivial⟩ ⟨rfl, trivial⟩) ?_
  intro j hj
  have hlen := inRs_len (ns := mkI k j ++ ps.drop j)
  have hml : (mkI k j ++ ps.drop j).length = ps.length := by rw [List.length_append, mkI_len, List.length_drop]; omega
  rcases Nat.lt_or_ge j ps.length with hlt | hge
  · have hc : decide ((j : Int) < ((inRs (mkI k j ++ ps.drop j)).length : Int)) = true := decide_eq_true (by omega)
    obtain ⟨p, hp⟩ : ∃ p, ps[j]? = some p := ⟨_, List.getElem?_eq_getElem hlt⟩
    have hp1 : (mkI k j ++ ps.drop j)[j]? = some p := by rw [List.getElem?_append_right (by rw [mkI_len]; omega), mkI_len, Nat.sub_self, List.getElem?_drop]; exact hp
    have hj1 : j < (inRs (mkI k j ++ ps.drop j)).length := by omega
    repeat' (first | (refine is_al ?_; (first | (refine is_move ?_; (first | refine al_v (opx_move (.raw _)) ⟨rfl, trivial⟩ trivial rfl ?_ | refine al_v (opx_move (.own _)) ⟨rfl, trivial⟩ trivial rfl ?_)) | (refine is_bin ?_; (first | refine al_v opx_lss ⟨rfl, rfl, trivial⟩ trivial rfl ?_ | refine al_v (opx_add (by unfold InR; omega)) ⟨rfl, rfl, trivial⟩ trivial rfl ?_)) | (refine is_assign ?_; refine al_v (opx_assign (.raw _)) ⟨rfl, trivial⟩ trivial rfl ?_) | (refine is_bi ?_; refine al_v opx_len_own ⟨rfl, trivial⟩ ⟨rfl, trivial⟩ rfl ?_) | (refine is_ia ?_; refine al_v (opx_ia_own2 hj1 (by omega)) ⟨rfl, rfl, trivial⟩ ⟨rfl, trivial⟩ rfl ?_) | (refine is_st ?_; refine al_stI rfl rfl rfl (by assumption) ?_) | refine al_nil ?_)) | (refine is_aw ?_; (first | refine aw_seq ?_ | refine aw_region ?_ | refine aw_skip ?_ | refine aw_block ?_ | (refine is_cond ?_; refine aw_cond_t rfl (by assumption) ?_))) | refine thn_n ?_)
    rw [mkI_set hp]
    exact ⟨j + 1, hlt, by omega, le_mk [0] rfl rfl rfl rfl ⟨rfl, by rw [show k + ((j + 1 : Nat) : Int) = k + (j : Int) + 1 by omega]; rfl, rfl, trivial⟩ ⟨rfl, trivial⟩⟩
  · have hc : decide ((j : Int) < ((inRs (mkI k j ++ ps.drop j)).length : Int)) = false := decide_eq_false (by omega)
    obtain rfl : j = ps.length := by omega
    rw [List.drop_length, List.append_nil]
    rw [List.drop_length, List.append_nil] at hc
    repeat' (first | (refine is_al ?_; (first | (refine is_move ?_; (first | refine al_v (opx_move (.raw _)) ⟨rfl, trivial⟩ trivial rfl ?_ | refine al_v (opx_move (.own _)) ⟨rfl, trivial⟩ trivial rfl ?_)) | (refine is_bin ?_; refine al_v opx_lss ⟨rfl, rfl, trivial⟩ trivial rfl ?_) | (refine is_assign ?_; refine al_v (opx_assign (.raw _)) ⟨rfl, trivial⟩ trivial rfl ?_) | (refine is_bi ?_; refine al_v opx_len_own ⟨rfl, trivial⟩ ⟨rfl, trivial⟩ rfl ?_) | refine al_nil ?_)) | (refine is_aw ?_; (first | refine aw_seq ?_ | refine aw_region ?_ | refine aw_ret ?_ | refine aw_exit ?_ | (refine is_cond ?_; refine aw_cond_f rfl (by assumption) ?_))))
    exact retm_raw trivial rfl rfl rfl ⟨rfl, rfl⟩
theorem szR_ge {left : Int} {n : Nat} (h : ¬ szR left n < 0) : (n : Int) ≤ left ∧ szR left n = left - (n : Int) := by
  unfold szR at h ⊢
  split at h
  · omega
  · rename_i h1; rw [if_neg h1]; omega
theorem szR_in {left : Int} {n : Nat} (hl : -1 ≤ left ∧ left ≤ 1048576) : -1 ≤ szR left n ∧ szR left n ≤ 1048576 := by
  unfold szR; split <;> omega
end Go.Proofs.Ytekjcejmmhdnkaa
