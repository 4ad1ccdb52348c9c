/-
  Labels: the reference's parsing, all texts.
-/
import Derived.Test.YtoalaimmgmehaaaW68
namespace Go.Proofs.Ytoalaimmgmehaaa
open Go.RowKit
set_option linter.unusedVariables false
set_option linter.unusedSimpArgs false
attribute [local irreducible] AL AW OpX Le AD

theorem c_sPL0 : Con Try.prog 48 [rStr [123, 125]] [] (PLp [123, 125]) := by
  obtain ⟨f1, f2⟩ := prs_t IsT_nil
  have hf : ([123, 125] : Str)[0]? = some 123 := rfl
  have hla : ([123, 125] : Str)[1]? = some 125 := rfl
  have q2 : decide (([123, 125] : Str) = [123, 125]) = true := eqD _
  have l2 : ([123, 125] : Str).length = 2 := rfl
  have d1 : decide ((([123, 125] : Str).length : Int) < 2) = false := rfl
  refine con_of_aw (vars := [.tmp 2, .tmp 3]) [(0, .r (rStr [123, 125]))] [] 0 Try.func48 (by kernel_rfl) rfl Try.ntmps48 rfl (by decide) rfl rfl rfl rfl rfl ?_
  intro B M w0 ρ0 Z0
  repeat' (first | (refine is_al ?_; (first | (refine is_gd ?_; refine al_on rfl rfl rfl (by assumption) ?_) | (refine is_move ?_; (first | refine al_v (opx_move (.raw _)) ⟨rfl, trivial⟩ trivial rfl ?_ | refine al_v (opx_move (.own _)) ⟨rfl, trivial⟩ trivial rfl ?_)) | (refine is_bin ?_; (first | refine al_v opx_neq ⟨rfl, rfl, trivial⟩ trivial rfl ?_ | refine al_v opx_lss ⟨rfl, rfl, trivial⟩ trivial rfl ?_ | refine al_v (opx_sub (by unfold InR; omega)) ⟨rfl, rfl, trivial⟩ trivial rfl ?_ | refine al_v opx_seql ⟨rfl, rfl, trivial⟩ trivial rfl ?_)) | (refine is_assign ?_; (first | refine al_v (opx_assign (.raw _)) ⟨rfl, trivial⟩ trivial rfl ?_ | refine al_v (opx_assign (.own _)) ⟨rfl, trivial⟩ trivial rfl ?_)) | (refine is_pick ?_; refine al_v (opx_pick_f (.raw _) rfl) ⟨rfl, rfl, trivial⟩ trivial rfl ?_) | (refine is_bi ?_; refine al_v opx_len_str ⟨rfl, trivial⟩ trivial rfl ?_) | (refine is_bs ?_; refine al_n opx_lit0 trivial trivial rfl ?_) | refine al_nil ?_ | refine al_v (opx_sidx (k := 0) rfl hf) ⟨rfl, rfl, trivial⟩ trivial rfl ?_ | refine al_v (opx_sidx (k := 1) rfl hla) ⟨rfl, rfl, trivial⟩ trivial rfl ?_)) | (refine is_ad ?_; (first | refine al_v (opx_sidx (k := 0) rfl hf) ⟨rfl, rfl, trivial⟩ trivial rfl ?_ | refine al_v (opx_sidx (k := 1) rfl hla) ⟨rfl, rfl, trivial⟩ trivial rfl ?_)) | (refine is_aw ?_; (first | refine aw_seq ?_ | refine aw_region ?_ | refine aw_skip ?_ | refine aw_ret ?_ | (refine is_cond ?_; (first | refine aw_cond_t rfl rfl ?_ | refine aw_cond_f rfl rfl ?_)))) | refine thn_r ?_)
  exact ret_row_raw trivial rfl rfl rfl ⟨by rw [f1], by rw [f2]; rfl⟩
theorem c_sPL3 (s : Str) (h : s.length < 2) : Con Try.prog 48 [rStr s] [] (PLp s) := by
  obtain ⟨f1, f2⟩ := prs_f (s := s) (fun l hl => by
    have := congrArg List.length (IsT_shape hl)
    rw [List.length_cons, List.length_append, List.length_singleton] at this
    omega)
  have d1 : decide ((s.length : Int) < 2) = true := decide_eq_true (by omega)
  refine con_of_aw (vars := [.tmp 2, .tmp 3]) [(0, .r (rStr s))] [] 0 Try.func48 (by kernel_rfl) rfl Try.ntmps48 rfl (by decide) rfl rfl rfl rfl rfl ?_
  intro B M w0 ρ0 Z0
  repeat' (first | (refine is_al ?_; (first | (refine is_gd ?_; (first | refine al_off rfl rfl rfl (by assumption) rfl ?_ | (refine al_g rfl rfl rfl rfl ?_ ?_ <;> ((intro hgd; try exact absurd hgd (by decide)); (try (have hz := hgd; simp only [decide_eq_true_eq, decide_eq_false_iff_not, Bool.not_eq_true', Bool.not_eq_false', Bool.not_true, Bool.not_false, beq_iff_eq, Int.not_le, Int.not_lt] at hz)); (try (exfalso; omega)))))) | (refine is_move ?_; refine al_v (opx_move (.raw _)) ⟨rfl, trivial⟩ trivial rfl ?_) | (refine is_bin ?_; refine al_v opx_lss ⟨rfl, rfl, trivial⟩ trivial rfl ?_) | (refine is_assign ?_; (first | refine al_v (opx_assign (.raw _)) ⟨rfl, trivial⟩ trivial rfl ?_ | refine al_v (opx_assign (.own _)) ⟨rfl, trivial⟩ trivial rfl ?_)) | (refine is_pick ?_; (first | refine al_v (opx_pick_t (.raw _) rfl) ⟨rfl, rfl, trivial⟩ trivial rfl ?_ | refine al_v (opx_pick_t (.raw _) (by assumption)) ⟨rfl, rfl, trivial⟩ trivial rfl ?_)) | (refine is_bi ?_; refine al_v opx_len_str ⟨rfl, trivial⟩ trivial rfl ?_) | (refine is_bs ?_; refine al_n opx_lit0 trivial trivial rfl ?_) | refine al_nil ?_)) | (refine is_aw ?_; (first | refine aw_seq ?_ | refine aw_region ?_ | (refine is_cond ?_; refine aw_cond_t rfl rfl ?_))) | refine thn_n ?_)
  refine aw_le (le_ownNil 2 2 60 rfl) ?_
  repeat' (first | (refine is_aw ?_; refine aw_ret ?_) | refine thn_r ?_)
  exact ret_row_raw trivial rfl rfl rfl ⟨by rw [f1], by rw [f2]; rfl⟩
theorem c_sPL2 (a b : UInt8) (x : Str) (h : a ≠ 123 ∨ b ≠ 125) (hX : x.length ≤ 100000000) : Con Try.prog 48 [rStr (a :: (x ++ [b]))] [] (PLp (a :: (x ++ [b]))) := by
  obtain ⟨f1, f2⟩ := prs_f (s := a :: (x ++ [b])) (fun l hl => by
    have h1 := IsT_shape hl
    rw [List.cons.injEq] at h1
    obtain ⟨h2, h3⟩ := List.append_inj' h1.2 rfl
    rcases h with h | h
    · exact h h1.1
    · exact h (by simpa using h3))
  have hxl : (a :: (x ++ [b]) : Str).length = x.length + 2 := by rw [List.length_cons, List.length_append]; rfl
  have d1 : decide (((a :: (x ++ [b]) : Str).length : Int) < 2) = false := decide_eq_false (by omega)
  have hf : (a :: (x ++ [b]) : Str)[0]? = some a := rfl
  have hla : (a :: (x ++ [b]) : Str)[x.length + 1]? = some b := by simp
  refine con_of_aw (vars := [.tmp 2, .tmp 3]) [(0, .r (rStr (a :: (x ++ [b]))))] [] 0 Try.func48 (by kernel_rfl) rfl Try.ntmps48 rfl (by decide) rfl rfl rfl rfl rfl ?_
  intro B M w0 ρ0 Z0
  by_cases ha : a = 123
  · have hb : b ≠ 125 := h.resolve_left (fun h => h ha)
    have e1 : (!decide ((a.toNat : Int) = 123)) = false := by rw [ha]; rfl
    have e2 : (!decide ((b.toNat : Int) = 125)) = true := by rw [decide_eq_false (fun h => hb (UInt8.toNat_inj.1 (by show b.toNat = 125; omega)))]; rfl
    repeat' (first | (refine is_al ?_; (first | (refine is_gd ?_; refine al_on rfl rfl rfl (by assumption) ?_) | (refine is_move ?_; refine al_v (opx_move (.raw _)) ⟨rfl, trivial⟩ trivial rfl ?_) | (refine is_bin ?_; (first | refine al_v opx_neq ⟨rfl, rfl, trivial⟩ trivial rfl ?_ | refine al_v opx_lss ⟨rfl, rfl, trivial⟩ trivial rfl ?_ | refine al_v (opx_sub (by unfold InR; omega)) ⟨rfl, rfl, trivial⟩ trivial rfl ?_)) | (refine is_assign ?_; (first | refine al_v (opx_assign (.raw _)) ⟨rfl, trivial⟩ trivial rfl ?_ | refine al_v (opx_assign (.own _)) ⟨rfl, trivial⟩ trivial rfl ?_)) | (refine is_pick ?_; refine al_v (opx_pick_f (.raw _) (by assumption)) ⟨rfl, rfl, trivial⟩ trivial rfl ?_) | (refine is_bi ?_; refine al_v opx_len_str ⟨rfl, trivial⟩ trivial rfl ?_) | (refine is_bs ?_; refine al_n opx_lit0 trivial trivial rfl ?_) | refine al_nil ?_ | refine al_v (opx_sidx (k := 0) rfl hf) ⟨rfl, rfl, trivial⟩ trivial rfl ?_ | refine al_v (opx_sidx (k := x.length + 1) (by omega) hla) ⟨rfl, rfl, trivial⟩ trivial rfl ?_)) | (refine is_ad ?_; (first | refine al_v (opx_sidx (k := 0) rfl hf) ⟨rfl, rfl, trivial⟩ trivial rfl ?_ | refine al_v (opx_sidx (k := x.length + 1) (by omega) hla) ⟨rfl, rfl, trivial⟩ trivial rfl ?_)) | (refine is_aw ?_; (first | refine aw_seq ?_ | refine aw_region ?_ | (refine is_cond ?_; refine aw_cond_t rfl (by assumption) ?_))) | refine thn_n ?_)
    refine aw_le (le_ownNil 2 2 60 rfl) ?_
    repeat' (first | (refine is_aw ?_; refine aw_ret ?_) | refine thn_r ?_)
    exact ret_row_raw trivial rfl rfl rfl ⟨by rw [f1], by rw [f2]; rfl⟩
  · have e1 : (!decide ((a.toNat : Int) = 123)) = true := by rw [decide_eq_false (fun h => ha (UInt8.toNat_inj.1 (by show a.toNat = 123; omega)))]; rfl
    repeat' (first | (refine is_al ?_; (first | (refine is_gd ?_; (first | refine al_on rfl rfl rfl (by assumption) ?_ | refine al_off rfl rfl rfl (by assumption) rfl ?_)) | (refine is_move ?_; refine al_v (opx_move (.raw _)) ⟨rfl, trivial⟩ trivial rfl ?_) | (refine is_bin ?_; (first | refine al_v opx_neq ⟨rfl, rfl, trivial⟩ trivial rfl ?_ | refine al_v opx_lss ⟨rfl, rfl, trivial⟩ trivial rfl ?_)) | (refine is_assign ?_; (first | refine al_v (opx_assign (.raw _)) ⟨rfl, trivial⟩ trivial rfl ?_ | refine al_v (opx_assign (.own _)) ⟨rfl, trivial⟩ trivial rfl ?_)) | (refine is_pick ?_; (first | refine al_v (opx_pick_t (.raw _) (by assumption)) ⟨rfl, rfl, trivial⟩ trivial rfl ?_ | refine al_v (opx_pick_f (.raw _) (by assumption)) ⟨rfl, rfl, trivial⟩ trivial rfl ?_)) | (refine is_bi ?_; refine al_v opx_len_str ⟨rfl, trivial⟩ trivial rfl ?_) | (refine is_bs ?_; refine al_n opx_lit0 trivial trivial rfl ?_) | refine al_nil ?_ | refine al_v (opx_sidx (k := 0) rfl hf) ⟨rfl, rfl, trivial⟩ trivial rfl ?_)) | (refine is_ad ?_; refine al_v (opx_sidx (k := 0) rfl hf) ⟨rfl, rfl, trivial⟩ trivial rfl ?_) | (refine is_aw ?_; (first | refine aw_seq ?_ | refine aw_region ?_ | (refine is_cond ?_; refine aw_cond_t rfl rfl ?_))) | refine thn_n ?_)
    refine aw_le (le_ownNil 2 2 60 rfl) ?_
    repeat' (first | (refine is_aw ?_; refine aw_ret ?_) | refine thn_r ?_)
    exact ret_row_raw trivial rfl rfl rfl ⟨by rw [f1], by rw [f2]; rfl⟩
theorem c_sparse (s : Str) (hs : s.length ≤ 100000000) : Con Try.prog 48 [rStr s] [] (PLp s) := by
  by_cases h : s.length < 2
  · exact c_sPL3 s h
  · obtain ⟨a, r, rfl⟩ : ∃ a r, s = a :: r := by
      cases s with
      | nil => simp at h
      | cons a r => exact ⟨a, r, rfl⟩
    rcases List.eq_nil_or_concat r with rfl | ⟨x, b, rfl⟩
    · simp at h
    · rw [List.concat_eq_append] at hs ⊢
      have hX : x.length ≤ 100000000 := by rw [List.length_cons, List.length_append] at hs; omega
      by_cases h2 : a ≠ 123 ∨ b ≠ 125
      · exact c_sPL2 a b x h2 hX
      · obtain ⟨rfl, rfl⟩ : a = 123 ∧ b = 125 := ⟨Classical.byContradiction fun h => h2 (.inl h), Classical.byContradiction fun h => h2 (.inr h)⟩
        by_cases hx : x = []
        · subst hx; exact c_sPL0
        · exact c_sPL1 x hx hX
theorem c_sParseLabels (s : Str) (hs : s.length ≤ 100000000) : Con Try.prog 19 [rStr s] [] (PLp s) := by
  refine con_of_aw (vars := [.tmp 2, .tmp 3]) [(0, .r (rStr s))] [] 0 Try.func19 (by kernel_rfl) rfl Try.ntmps19 rfl (by decide) rfl rfl rfl rfl rfl ?_
  intro B M w0 ρ0 Z0
  repeat' (first | (refine is_al ?_; (first | (refine is_move ?_; refine al_v (opx_move (.raw _)) ⟨rfl, trivial⟩ trivial rfl ?_) | (refine is_assign ?_; (first | refine al_v (opx_assign (.raw _)) ⟨rfl, trivial⟩ trivial rfl ?_ | refine al_v (opx_assign (.own _)) ⟨rfl, trivial⟩ trivial rfl ?_)) | (refine is_call ?_; refine al_callrv2 (by (repeat (first | exact .nil | refine .one rfl rfl ?_ | refine .froz rfl rfl ?_ | refine .rnil rfl ?_ | refine .agg rfl (by (repeat (first | exact .nil | refine .cons (.same rfl) ?_ | refine .cons (.froz rfl) ?_ | refine .cons (.rnil) ?_)); (first | done | fail)) ?_)); (first | done | fail)) rfl (c_sparse s hs) ?_) | refine al_v (opx_extract _ rfl) ⟨rfl, trivial⟩ trivial rfl ?_ | refine al_nil ?_)) | (refine is_aw ?_; (first | refine aw_seq ?_ | refine aw_region ?_ | refine aw_ret ?_)))
  exact ret_row_raw trivial rfl rfl rfl ⟨rfl, rfl⟩
theorem c_sParseLabels' (s : Str) (hs : s.length ≤ 100000000) : Con Try.prog 19 [rStr s] [] (fun rs all => rs = [slL (prsL s), rB (prsB s)] ∧ all = []) :=
  (c_sParseLabels s hs).froz fun rs all ⟨h1, h2⟩ => by subst h1 h2; exact ⟨⟨rfl, rfl⟩, rfl⟩
end Go.Proofs.Ytoalaimmgmehaaa
