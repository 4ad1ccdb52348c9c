/-
  The tools of the exact statements: sizes, copies, marks.
-/
import Derived.Test.YtjhokokkablcpaaDat3
namespace Go.Proofs.Ytjhokokkablcpaa
open Go.RowKit
set_option linter.unusedVariables false
set_option linter.unusedSimpArgs false
attribute [local irreducible] AL AW OpX Le AD

def szR (left : Int) (n : Nat) : Int := if left - (n : Int) < 0 then -1 else left - (n : Int)
theorem take_set {α : Type} {ps : List α} {z : α} {n k : Nat} {p : α} (hp : ps[k]? = some p) (hn : ps.length = n) : (ps.take k ++ List.replicate (n - k) z).set k p = ps.take (k + 1) ++ List.replicate (n - (k + 1)) z := by
  obtain ⟨hk, rfl⟩ := List.getElem?_eq_some_iff.1 hp
  have hl : (ps.take k).length = k := by simp; omega
  rw [List.set_append_right _ _ (by omega), hl, Nat.sub_self, show n - k = (n - (k + 1)) + 1 by omega, List.replicate_succ, List.set_cons_zero, List.take_succ_eq_append_getElem hk, List.append_assoc]; rfl
theorem c_eqPoint (a b c d : Int) : Con Try.prog 25 [ptA a b, ptA c d] [] (fun rs all => rs = [rB (decide (a = c ∧ b = d))] ∧ all = []) := by
  refine con_of_aw (vars := [.tmp 4]) [(0, .r (ptA a b)), (1, .r (ptA c d))] [] 0 Try.func25 (by kernel_rfl) rfl Try.ntmps25 rfl (by decide) rfl rfl rfl rfl rfl ?_
  intro B M w0 ρ0 Z0
  by_cases h1 : a = c
  · have n1 : (!decide (a = c)) = false := by rw [decide_eq_true h1]; rfl
    by_cases h2 : b = d
    · have n2 : (!decide (b = d)) = false := by rw [decide_eq_true h2]; rfl
      repeat' (first | (refine is_al ?_; (first | (refine is_bin ?_; refine al_v opx_neq ⟨rfl, rfl, trivial⟩ trivial rfl ?_) | (refine is_load ?_; refine al_v (opx_ld_box rfl) ⟨rfl, trivial⟩ ⟨rfl, trivial⟩ rfl ?_) | (refine is_fa ?_; refine al_v opx_fa_ref ⟨rfl, trivial⟩ trivial rfl ?_) | (refine is_assign ?_; refine al_v (opx_assign (.raw _)) ⟨rfl, trivial⟩ trivial rfl ?_) | refine al_n opx_boxs ⟨rfl, trivial⟩ trivial rfl ?_ | refine al_nil ?_)) | (refine is_aw ?_; (first | refine aw_seq ?_ | refine aw_region ?_ | refine aw_skip ?_ | refine aw_ret ?_ | (refine is_cond ?_; refine aw_cond_f rfl (by assumption) ?_))))
      exact ret_raw trivial rfl ⟨congrArg (fun b => [rB b]) ((decide_eq_true ⟨h1, h2⟩).symm), rfl⟩
    · have n2 : (!decide (b = d)) = true := by rw [decide_eq_false h2]; rfl
      repeat' (first | (refine is_al ?_; (first | (refine is_bin ?_; refine al_v opx_neq ⟨rfl, rfl, trivial⟩ trivial rfl ?_) | (refine is_load ?_; refine al_v (opx_ld_box rfl) ⟨rfl, trivial⟩ ⟨rfl, trivial⟩ rfl ?_) | (refine is_fa ?_; refine al_v opx_fa_ref ⟨rfl, trivial⟩ trivial rfl ?_) | (refine is_assign ?_; refine al_v (opx_assign (.raw _)) ⟨rfl, trivial⟩ trivial rfl ?_) | refine al_n opx_boxs ⟨rfl, trivial⟩ trivial rfl ?_ | refine al_nil ?_)) | (refine is_aw ?_; (first | refine aw_seq ?_ | refine aw_region ?_ | refine aw_skip ?_ | refine aw_ret ?_ | (refine is_cond ?_; (first | refine aw_cond_t rfl (by assumption) ?_ | refine aw_cond_f rfl (by assumption) ?_)))) | refine thn_r ?_)
      exact ret_raw trivial rfl ⟨congrArg (fun b => [rB b]) ((decide_eq_false (fun h => h2 h.2)).symm), rfl⟩
  · have n1 : (!decide (a = c)) = true := by rw [decide_eq_false h1]; rfl
    repeat' (first | (refine is_al ?_; (first | (refine is_bin ?_; refine al_v opx_neq ⟨rfl, rfl, trivial⟩ trivial rfl ?_) | (refine is_load ?_; refine al_v (opx_ld_box rfl) ⟨rfl, trivial⟩ ⟨rfl, trivial⟩ rfl ?_) | (refine is_fa ?_; refine al_v opx_fa_ref ⟨rfl, trivial⟩ trivial rfl ?_) | (refine is_assign ?_; refine al_v (opx_assign (.raw _)) ⟨rfl, trivial⟩ trivial rfl ?_) | refine al_n opx_boxs ⟨rfl, trivial⟩ trivial rfl ?_ | refine al_nil ?_)) | (refine is_aw ?_; (first | refine aw_seq ?_ | refine aw_region ?_ | refine aw_ret ?_ | (refine is_cond ?_; refine aw_cond_t rfl (by assumption) ?_))) | refine thn_r ?_)
    exact ret_raw trivial rfl ⟨congrArg (fun b => [rB b]) ((decide_eq_false (fun h => h1 h.1)).symm), rfl⟩
theorem c_eqPointS (a b : List (Int × Int)) (hL : a.length < 4611686018427387904) : Con Try.prog 10 [slP a, slP b] [] (fun rs all => rs = [rB (decide (a = b))] ∧ all = []) := by
  have hla := ptRs_len (ps := a)
  have hlb := ptRs_len (ps := b)
  refine con_of_aw (vars := [.tmp 4]) [(0, .r (slP a)), (1, .r (slP b))] [] 0 Try.func10 (by kernel_rfl) rfl Try.ntmps10 rfl (by decide) rfl rfl rfl rfl rfl ?_
  intro B M w0 ρ0 Z0
  repeat' (first | (refine is_al ?_; (first | (refine is_move ?_; refine al_v (opx_move (.sl _ _)) ⟨rfl, trivial⟩ trivial rfl ?_) | (refine is_bin ?_; refine al_v opx_neq ⟨rfl, rfl, trivial⟩ trivial rfl ?_) | (refine is_assign ?_; refine al_v (opx_assign (.raw _)) ⟨rfl, trivial⟩ trivial rfl ?_) | (refine is_bi ?_; refine al_v opx_len_sl ⟨rfl, trivial⟩ trivial rfl ?_) | refine al_nil ?_)) | (refine is_aw ?_; (first | refine aw_seq ?_ | refine aw_region ?_ | refine aw_skip ?_ | refine aw_block ?_ | refine aw_ret ?_ | (refine is_cond ?_; (refine aw_cond rfl ?_ ?_ <;> ((intro hgd; try exact absurd hgd (by decide)); (try (have hz := hgd; simp only [decide_eq_true_eq, decide_eq_false_iff_not, Bool.not_eq_true', Bool.not_eq_false', Bool.not_true, Bool.not_false, beq_iff_eq, Int.not_le, Int.not_lt] at hz)); (try (exfalso; omega))))))) | refine thn_r ?_)
  · exact ret_raw trivial rfl ⟨congrArg (fun b => [rB b]) ((decide_eq_false (fun h => by subst h; omega)).symm), rfl⟩
  have hl : b.length = a.length := by omega
  refine aw_loop (γ := Nat) (fun k => [(0, .r (slP a)), (1, .r (slP b)), (4, .b false), (5, .i (k : Int))]) (fun _ => []) (fun _ => 0) (fun k => k ≤ a.length ∧ ∀ j, j < k → a[j]? = b[j]?) (fun k => a.length - k) 0 ⟨Nat.zero_le _, fun j hj => by omega⟩ (le_mk [] rfl rfl rfl rfl ⟨rfl, rfl, rfl, rfl, trivial⟩ trivial) ?_
  rintro k ⟨hk, hok⟩
  rcases Nat.lt_or_ge k a.length with hlt | hge
  · have hc : decide ((k : Int) < ((ptRs a).length : Int)) = true := decide_eq_true (by omega)
    obtain ⟨x, hx⟩ : ∃ x, a[k]? = some x := ⟨_, List.getElem?_eq_getElem hlt⟩
    obtain ⟨y, hy⟩ : ∃ y, b[k]? = some y := ⟨_, List.getElem?_eq_getElem (by omega)⟩
    have hxr := ptRs_at hx
    have hyr := ptRs_at hy
    by_cases he : x.1 = y.1 ∧ x.2 = y.2
    · have hd : (!decide (x.1 = y.1 ∧ x.2 = y.2)) = false := by rw [decide_eq_true he]; rfl
      repeat' (first | (refine is_al ?_; (first | (refine is_move ?_; (first | refine al_v (opx_move (.raw _)) ⟨rfl, trivial⟩ trivial rfl ?_ | refine al_v (opx_move (.sl _ _)) ⟨rfl, trivial⟩ trivial rfl ?_)) | (refine is_bin ?_; (first | refine al_v opx_lss ⟨rfl, rfl, trivial⟩ trivial rfl ?_ | refine al_v (opx_add (by unfold InR; omega)) ⟨rfl, rfl, trivial⟩ trivial rfl ?_)) | (refine is_assign ?_; refine al_v (opx_assign (.raw _)) ⟨rfl, trivial⟩ trivial rfl ?_) | (refine is_bi ?_; refine al_v opx_len_sl ⟨rfl, trivial⟩ trivial rfl ?_) | refine al_nil ?_)) | (refine is_ad ?_; (first | (refine isd_move ?_; (first | refine ad_v (opx_move (.raw _)) ⟨rfl, trivial⟩ trivial rfl ?_ | refine ad_v (opx_move (.sl _ _)) ⟨rfl, trivial⟩ trivial rfl ?_)) | (refine isd_load ?_; refine ad_v opx_ld2_imm ⟨rfl, trivial⟩ trivial rfl ?_) | (refine isd_ia ?_; (first | refine ad_v (opx_ia_sl2 hxr (by omega)) ⟨rfl, rfl, trivial⟩ trivial rfl ?_ | refine ad_v (opx_ia_sl2 hyr (by omega)) ⟨rfl, rfl, trivial⟩ trivial rfl ?_)) | (refine isd_call ?_; refine ad_callv2 (by (repeat (first | exact .nil | refine .one rfl rfl ?_ | refine .froz rfl rfl ?_ | refine .row rfl rfl ?_ | refine .rnil rfl ?_ | refine .agg rfl (by (repeat (first | exact .nil | refine .cons (.same rfl) ?_ | refine .cons (.froz rfl) ?_ | refine .cons (.rnil) ?_ | refine .cons (.row rfl rfl) ?_)); (first | done | fail)) ?_)); (first | done | fail)) rfl (c_eqPoint _ _ _ _) rfl ?_) | refine ad_v opx_not ⟨rfl, trivial⟩ trivial rfl ?_ | refine ad_nil (by kernel_rfl) ?_)) | (refine is_aw ?_; (first | refine aw_seq ?_ | refine aw_region ?_ | refine aw_skip ?_ | refine aw_block ?_ | (refine is_cond ?_; (first | refine aw_cond_t rfl (by assumption) ?_ | refine aw_cond_f rfl (by assumption) ?_)) | refine aw_draw mixed ?_)) | refine thn_n ?_)
      exact ⟨k + 1, ⟨hlt, fun j hj => by
        rcases Nat.lt_or_ge j k with h | h
        · exact hok j h
        · rw [show j = k by omega, hx, hy]; exact congrArg some (Prod.ext he.1 he.2)⟩, by omega, le_mk [] rfl rfl rfl rfl ⟨rfl, rfl, rfl, rfl, trivial⟩ trivial⟩
    · have hd : (!decide (x.1 = y.1 ∧ x.2 = y.2)) = true := by rw [decide_eq_false he]; rfl
      repeat' (first | (refine is_al ?_; (first | (refine is_move ?_; (first | refine al_v (opx_move (.raw _)) ⟨rfl, trivial⟩ trivial rfl ?_ | refine al_v (opx_move (.sl _ _)) ⟨rfl, trivial⟩ trivial rfl ?_)) | (refine is_bin ?_; refine al_v opx_lss ⟨rfl, rfl, trivial⟩ trivial rfl ?_) | (refine is_assign ?_; refine al_v (opx_assign (.raw _)) ⟨rfl, trivial⟩ trivial rfl ?_) | (refine is_bi ?_; refine al_v opx_len_sl ⟨rfl, trivial⟩ trivial rfl ?_) | refine al_nil ?_)) | (refine is_ad ?_; (first | (refine isd_move ?_; (first | refine ad_v (opx_move (.raw _)) ⟨rfl, trivial⟩ trivial rfl ?_ | refine ad_v (opx_move (.sl _ _)) ⟨rfl, trivial⟩ trivial rfl ?_)) | (refine isd_load ?_; refine ad_v opx_ld2_imm ⟨rfl, trivial⟩ trivial rfl ?_) | (refine isd_ia ?_; (first | refine ad_v (opx_ia_sl2 hxr (by omega)) ⟨rfl, rfl, trivial⟩ trivial rfl ?_ | refine ad_v (opx_ia_sl2 hyr (by omega)) ⟨rfl, rfl, trivial⟩ trivial rfl ?_)) | (refine isd_call ?_; refine ad_callv2 (by (repeat (first | exact .nil | refine .one rfl rfl ?_ | refine .froz rfl rfl ?_ | refine .row rfl rfl ?_ | refine .rnil rfl ?_ | refine .agg rfl (by (repeat (first | exact .nil | refine .cons (.same rfl) ?_ | refine .cons (.froz rfl) ?_ | refine .cons (.rnil) ?_ | refine .cons (.row rfl rfl) ?_)); (first | done | fail)) ?_)); (first | done | fail)) rfl (c_eqPoint _ _ _ _) rfl ?_) | refine ad_v opx_not ⟨rfl, trivial⟩ trivial rfl ?_ | refine ad_nil (by kernel_rfl) ?_)) | (refine is_aw ?_; (first | refine aw_seq ?_ | refine aw_region ?_ | refine aw_skip ?_ | refine aw_block ?_ | refine aw_ret ?_ | (refine is_cond ?_; refine aw_cond_t rfl (by assumption) ?_) | refine aw_draw mixed ?_)) | refine thn_r ?_ | refine inb_r ?_)
      exact ret_raw trivial rfl ⟨congrArg (fun b => [rB b]) ((decide_eq_false (fun h => by subst h; rw [hx] at hy; cases hy; exact he ⟨rfl, rfl⟩)).symm), rfl⟩
  · have hc : decide ((k : Int) < ((ptRs a).length : Int)) = false := decide_eq_false (by omega)
    repeat' (first | (refine is_al ?_; (first | (refine is_move ?_; (first | refine al_v (opx_move (.raw _)) ⟨rfl, trivial⟩ trivial rfl ?_ | refine al_v (opx_move (.sl _ _)) ⟨rfl, trivial⟩ trivial rfl ?_)) | (refine is_bin ?_; refine al_v opx_lss ⟨rfl, rfl, trivial⟩ trivial rfl ?_) | (refine is_assign ?_; refine al_v (opx_assign (.raw _)) ⟨rfl, trivial⟩ trivial rfl ?_) | (refine is_bi ?_; refine al_v opx_len_sl ⟨rfl, trivial⟩ trivial rfl ?_) | refine al_nil ?_)) | (refine is_aw ?_; (first | refine aw_seq ?_ | refine aw_region ?_ | refine aw_ret ?_ | refine aw_exit ?_ | (refine is_cond ?_; refine aw_cond_f rfl (by assumption) ?_))))
    exact ret_raw trivial rfl ⟨congrArg (fun b => [rB b]) ((decide_eq_true (List.ext_getElem? fun j => by
      rcases Nat.lt_or_ge j a.length with h | h
      · exact hok j (by omega)
      · rw [List.getElem?_eq_none h, List.getElem?_eq_none (by omega)])).symm), rfl⟩
/-- Marks. -/
def mkP (k : Int) (n : Nat) : List (Int × Int) := (List.range n).map fun i : Nat => (k + 2 * (i : Int), k + 2 * (i : Int) + 1)
theorem mkP_len {k : Int} {n : Nat} : (mkP k n).length = n := by simp [mkP]
theorem mkP_at {k : Int} {n j : Nat} (h : j < n) : (mkP k n)[j]? = some (k + 2 * (j : Int), k + 2 * (j : Int) + 1) := by simp [mkP, h]
theorem mkP_succ {k : Int} {n : Nat} : mkP k (n + 1) = mkP k n ++ [(k + 2 * (n : Int), k + 2 * (n : Int) + 1)] := by simp [mkP, List.range_succ]
theorem mkP_set {k : Int} {ps : List (Int × Int)} {j : Nat} {p : Int × Int} (hp : ps[j]? = some p) : (mkP k j ++ ps.drop j).set j (k + 2 * (j : Int), k + 2 * (j : Int) + 1) = mkP k (j + 1) ++ ps.drop (j + 1) := by
  obtain ⟨hj, rfl⟩ := List.getElem?_eq_some_iff.1 hp
  rw [List.set_append_right _ _ (by rw [mkP_len]; omega), mkP_len, Nat.sub_self, List.drop_eq_getElem_cons hj, List.set_cons_zero, mkP_succ, List.append_assoc]; rfl
theorem c_markPointS (ps : List (Int × Int)) (k : Int) (hk : 0 ≤ k ∧ k ≤ 1000000000000) (hL : ps.length ≤ 1000000000) : Con Try.prog 13 [.one (.own 0), rI k] [.row 2 38 (ptRs ps)] (fun rs all => rs = [.one (.c (.raw (.int .i64 (k + 2 * (ps.length : Int)))))] ∧ all = [.row 2 38 (ptRs (mkP k ps.length))]) := by
  refine con_of_aw (vars := [.tmp 4]) [(0, .own 0), (1, .r (rI k))] [(0, .row 2 38 (ptRs ps))] 1 Try.func13 (by kernel_rfl) rfl Try.ntmps13 rfl (by decide) rfl rfl rfl rfl rfl ?_
  intro B M w0 ρ0 Z0
  repeat' (first | (refine is_al ?_; (first | (refine is_assign ?_; refine al_v (opx_assign (.raw _)) ⟨rfl, trivial⟩ trivial rfl ?_) | refine al_nil ?_)) | (refine is_aw ?_; (first | refine aw_seq ?_ | refine aw_region ?_ | refine aw_block ?_)))
  refine aw_loop (γ := Nat) (fun j => [(0, .own 0), (1, .i (k + 2 * (j : Int))), (5, .i (j : Int))]) (fun j => [(0, .row 2 38 (ptRs (mkP k j ++ ps.drop j)))]) (fun _ => 1)
    (fun j => j ≤ ps.length) (fun j => ps.length - j) 0 (Nat.zero_le _) (le_mk [0] rfl rfl rfl rfl ⟨rfl, by rw [show k + 2 * ((0 : Nat) : Int) = k by omega]; rfl, rfl, trivial⟩ ⟨rfl, trivial⟩) ?_
  intro j hj
  have hlen := ptRs_len (ps := mkP k j ++ ps.drop j)
  have hml : (mkP k j ++ ps.drop j).length = ps.length := by rw [List.length_append, mkP_len, List.length_drop]; omega
  rcases Nat.lt_or_ge j ps.length with hlt | hge
  · have hc : decide ((j : Int) < ((ptRs (mkP k j ++ ps.drop j)).length : Int)) = true := decide_eq_true (by omega)
    obtain ⟨p, hp⟩ : ∃ p, ps[j]? = some p := ⟨_, List.getElem?_eq_getElem hlt⟩
    have hp1 : (mkP k j ++ ps.drop j)[j]? = some p := by rw [List.getElem?_append_right (by rw [mkP_len]; omega), mkP_len, Nat.sub_self, List.getElem?_drop]; exact hp
    have hp2 : ((mkP k j ++ ps.drop j).set j (k + 2 * (j : Int), p.2))[j]? = some (k + 2 * (j : Int), p.2) := List.getElem?_set_self (by omega)
    have hj1 : j < (ptRs (mkP k j ++ ps.drop j)).length := by omega
    have hj2 : j < (ptRs ((mkP k j ++ ps.drop j).set j (k + 2 * (j : Int), p.2))).length := by rw [ptRs_len, List.length_set]; omega
    repeat' (first | (refine is_al ?_; (first | (refine is_move ?_; (first | refine al_v (opx_move (.raw _)) ⟨rfl, trivial⟩ trivial rfl ?_ | refine al_v (opx_move (.own _)) ⟨rfl, trivial⟩ trivial rfl ?_)) | (refine is_bin ?_; (first | refine al_v opx_lss ⟨rfl, rfl, trivial⟩ trivial rfl ?_ | refine al_v (opx_add (by unfold InR; omega)) ⟨rfl, rfl, trivial⟩ trivial rfl ?_)) | (refine is_fa ?_; refine al_v opx_fa_el ⟨rfl, trivial⟩ trivial rfl ?_) | (refine is_assign ?_; refine al_v (opx_assign (.raw _)) ⟨rfl, trivial⟩ trivial rfl ?_) | (refine is_bi ?_; refine al_v opx_len_own ⟨rfl, trivial⟩ ⟨rfl, trivial⟩ rfl ?_) | (refine is_ia ?_; (first | refine al_v (opx_ia_own2 hj1 (by omega)) ⟨rfl, rfl, trivial⟩ ⟨rfl, trivial⟩ rfl ?_ | refine al_v (opx_ia_own2 hj2 (by omega)) ⟨rfl, rfl, trivial⟩ ⟨rfl, trivial⟩ rfl ?_)) | (refine is_st ?_; (first | refine al_stP0 rfl rfl rfl (by assumption) ?_ | refine al_stP1 rfl rfl rfl (by assumption) ?_)) | refine al_nil ?_)) | (refine is_aw ?_; (first | refine aw_seq ?_ | refine aw_region ?_ | refine aw_skip ?_ | refine aw_block ?_ | (refine is_cond ?_; refine aw_cond_t rfl (by assumption) ?_))) | refine thn_n ?_)
    rw [List.set_set, mkP_set hp]
    exact ⟨j + 1, hlt, by omega, le_mk [0] rfl rfl rfl rfl ⟨rfl, by rw [show k + 2 * ((j + 1 : Nat) : Int) = k + 2 * (j : Int) + 1 + 1 by omega]; rfl, rfl, trivial⟩ ⟨rfl, trivial⟩⟩
  · have hc : decide ((j : Int) < ((ptRs (mkP k j ++ ps.drop j)).length : Int)) = false := decide_eq_false (by omega)
    obtain rfl : j = ps.length := by omega
    rw [List.drop_length, List.append_nil]
    rw [List.drop_length, List.append_nil] at hc
    repeat' (first | (refine is_al ?_; (first | (refine is_move ?_; (first | refine al_v (opx_move (.raw _)) ⟨rfl, trivial⟩ trivial rfl ?_ | refine al_v (opx_move (.own _)) ⟨rfl, trivial⟩ trivial rfl ?_)) | (refine is_bin ?_; refine al_v opx_lss ⟨rfl, rfl, trivial⟩ trivial rfl ?_) | (refine is_assign ?_; refine al_v (opx_assign (.raw _)) ⟨rfl, trivial⟩ trivial rfl ?_) | (refine is_bi ?_; refine al_v opx_len_own ⟨rfl, trivial⟩ ⟨rfl, trivial⟩ rfl ?_) | refine al_nil ?_)) | (refine is_aw ?_; (first | refine aw_seq ?_ | refine aw_region ?_ | refine aw_ret ?_ | refine aw_exit ?_ | (refine is_cond ?_; refine aw_cond_f rfl (by assumption) ?_))))
    exact retm_raw trivial rfl rfl rfl ⟨rfl, rfl⟩
theorem c_heldPointS (k : Int) (n : Nat) (hk : 0 ≤ k ∧ k ≤ 1000000000000) (hL : n ≤ 1000000000) : Con Try.prog 14 [slP (mkP k n), rI k] [] (fun rs all => rs = [rI (k + 2 * (n : Int))] ∧ all = []) := by
  have hlen := ptRs_len (ps := mkP k n)
  have hml := mkP_len (k := k) (n := n)
  refine con_of_aw (vars := [.tmp 4]) [(0, .r (slP (mkP k n))), (1, .r (rI k))] [] 0 Try.func14 (by kernel_rfl) rfl Try.ntmps14 rfl (by decide) rfl rfl rfl rfl rfl ?_
  intro B M w0 ρ0 Z0
  repeat' (first | (refine is_al ?_; (first | (refine is_assign ?_; refine al_v (opx_assign (.raw _)) ⟨rfl, trivial⟩ trivial rfl ?_) | refine al_nil ?_)) | (refine is_aw ?_; (first | refine aw_seq ?_ | refine aw_region ?_ | refine aw_block ?_)))
  refine aw_loop (γ := Nat) (fun j => [(0, .r (slP (mkP k n))), (1, .i (k + 2 * (j : Int))), (5, .i (j : Int))]) (fun j => []) (fun _ => 0)
    (fun j => j ≤ n) (fun j => n - j) 0 (Nat.zero_le _) (le_mk [] rfl rfl rfl rfl ⟨rfl, by rw [show k + 2 * ((0 : Nat) : Int) = k by omega]; rfl, rfl, trivial⟩ trivial) ?_
  intro j hj
  rcases Nat.lt_or_ge j n with hlt | hge
  · have hc : decide ((j : Int) < ((ptRs (mkP k n)).length : Int)) = true := decide_eq_true (by omega)
    have hpr := ptRs_at (mkP_at (k := k) hlt)
    have n1 : (!decide (k + 2 * (j : Int) = k + 2 * (j : Int))) = false := neD _
    have n2 : (!decide (k + 2 * (j : Int) + 1 = k + 2 * (j : Int) + 1)) = false := neD _
    repeat' (first | (refine is_al ?_; (first | (refine is_move ?_; (first | refine al_v (opx_move (.raw _)) ⟨rfl, trivial⟩ trivial rfl ?_ | refine al_v (opx_move (.sl _ _)) ⟨rfl, trivial⟩ trivial rfl ?_)) | (refine is_bin ?_; (first | refine al_v opx_neq ⟨rfl, rfl, trivial⟩ trivial rfl ?_ | refine al_v opx_lss ⟨rfl, rfl, trivial⟩ trivial rfl ?_ | refine al_v (opx_add (by unfold InR; omega)) ⟨rfl, rfl, trivial⟩ trivial rfl ?_)) | (refine is_load ?_; refine al_v opx_ld_imm ⟨rfl, trivial⟩ trivial rfl ?_) | (refine is_fa ?_; (first | refine al_v opx_fa_imm0 ⟨rfl, trivial⟩ trivial rfl ?_ | refine al_v opx_fa_imm1 ⟨rfl, trivial⟩ trivial rfl ?_)) | (refine is_assign ?_; refine al_v (opx_assign (.raw _)) ⟨rfl, trivial⟩ trivial rfl ?_) | (refine is_bi ?_; refine al_v opx_len_sl ⟨rfl, trivial⟩ trivial rfl ?_) | (refine is_ia ?_; refine al_v (opx_ia_sl2 hpr (by omega)) ⟨rfl, rfl, trivial⟩ trivial rfl ?_) | refine al_nil ?_)) | (refine is_aw ?_; (first | refine aw_seq ?_ | refine aw_region ?_ | refine aw_skip ?_ | refine aw_block ?_ | (refine is_cond ?_; (first | refine aw_cond_t rfl (by assumption) ?_ | refine aw_cond_f rfl (by assumption) ?_)))) | refine thn_n ?_)
    exact ⟨j + 1, hlt, by omega, le_mk [] rfl rfl rfl rfl ⟨rfl, by rw [show k + 2 * ((j + 1 : Nat) : Int) = k + 2 * (j : Int) + 1 + 1 by omega]; rfl, rfl, trivial⟩ trivial⟩
  · have hc : decide ((j : Int) < ((ptRs (mkP k n)).length : Int)) = false := decide_eq_false (by omega)
    repeat' (first | (refine is_al ?_; (first | (refine is_move ?_; (first | refine al_v (opx_move (.raw _)) ⟨rfl, trivial⟩ trivial rfl ?_ | refine al_v (opx_move (.sl _ _)) ⟨rfl, trivial⟩ trivial rfl ?_)) | (refine is_bin ?_; refine al_v opx_lss ⟨rfl, rfl, trivial⟩ trivial rfl ?_) | (refine is_assign ?_; refine al_v (opx_assign (.raw _)) ⟨rfl, trivial⟩ trivial rfl ?_) | (refine is_bi ?_; refine al_v opx_len_sl ⟨rfl, trivial⟩ trivial rfl ?_) | refine al_nil ?_)) | (refine is_aw ?_; (first | refine aw_seq ?_ | refine aw_region ?_ | refine aw_ret ?_ | refine aw_exit ?_ | (refine is_cond ?_; refine aw_cond_f rfl (by assumption) ?_))))
    exact ret_raw trivial rfl ⟨by rw [show j = n by omega], rfl⟩
end Go.Proofs.Ytjhokokkablcpaa
