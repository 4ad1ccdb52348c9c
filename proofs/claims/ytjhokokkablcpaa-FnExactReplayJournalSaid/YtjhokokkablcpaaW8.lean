/-
  Merged series: the walks; the reference's functions on series.
-/
import Derived.Test.YtjhokokkablcpaaW7
namespace Go.Proofs.Ytjhokokkablcpaa
open Go.RowKit
set_option linter.unusedVariables false
set_option linter.unusedSimpArgs false
attribute [local irreducible] AL AW OpX Le AD

theorem c_sPut (ps : List Pt) (t v : Int) (hL : ps.length ≤ 400000000) : Con Try.prog 24 [slP ps, ptA t v] [] (fun rs all => rs = [.one (.own 0)] ∧ all = [.row 2 38 (ptRs (put ps (t, v)))]) := by
  have hlen := ptRs_len (ps := ps)
  let lo := fun k : Nat => (ps.take k).filter (fun x => decide (x.1 < t))
  let hi := fun k : Nat => ps.filter (fun x => decide (x.1 < t)) ++ (t, v) :: (ps.take k).filter (fun x => decide (t < x.1))
  have hlo : ∀ k, (lo k).length ≤ ps.length := fun k => Nat.le_trans (List.length_filter_le _ _) (by simp; omega)
  have hhi : ∀ k, (hi k).length ≤ 2 * ps.length + 1 := fun k => by
    have h1 := List.length_filter_le (fun x : Pt => decide (x.1 < t)) ps
    have h2 := List.length_filter_le (fun x : Pt => decide (t < x.1)) (ps.take k)
    rw [List.length_take] at h2
    show (List.filter (fun x : Pt => decide (x.1 < t)) ps ++ (t, v) :: List.filter (fun x : Pt => decide (t < x.1)) (ps.take k)).length ≤ _
    rw [List.length_append, List.length_cons]
    omega
  have hlo0 : lo 0 = [] := rfl
  have hlos : ∀ {k p}, ps[k]? = some p → p.1 < t → lo (k + 1) = lo k ++ [p] := fun hp h => by simp only [lo]; rw [List.take_add_one, hp, List.filter_append]; simp [h]
  have hlon : ∀ {k p}, ps[k]? = some p → ¬ p.1 < t → lo (k + 1) = lo k := fun hp h => by simp only [lo]; rw [List.take_add_one, hp, List.filter_append]; simp [h]
  have hloe : lo ps.length = ps.filter (fun x => decide (x.1 < t)) := by simp [lo]
  have hhi0 : hi 0 = ps.filter (fun x => decide (x.1 < t)) ++ [(t, v)] := rfl
  have hhis : ∀ {k p}, ps[k]? = some p → t < p.1 → hi (k + 1) = hi k ++ [p] := fun hp h => by simp only [hi]; rw [List.take_add_one, hp, List.filter_append]; simp [h]
  have hhin : ∀ {k p}, ps[k]? = some p → ¬ t < p.1 → hi (k + 1) = hi k := fun hp h => by simp only [hi]; rw [List.take_add_one, hp, List.filter_append]; simp [h]
  have hhie : hi ps.length = put ps (t, v) := by simp [hi, put]
  clear_value lo hi
  refine con_of_aw (vars := [.tmp 4]) [(0, .r (slP ps)), (1, .r (ptA t v))] [] 0 Try.func24 (by kernel_rfl) rfl Try.ntmps24 rfl (by decide) rfl rfl rfl rfl rfl ?_
  intro B M w0 ρ0 Z0
  repeat' (first | (refine is_al ?_; (first | (refine is_assign ?_; (first | refine al_v (opx_assign (.raw _)) ⟨rfl, trivial⟩ trivial rfl ?_ | refine al_v (opx_assign (.own _)) ⟨rfl, trivial⟩ trivial rfl ?_)) | (refine is_bs ?_; refine al_n opx_lit0 trivial trivial rfl ?_) | refine al_n opx_boxs ⟨rfl, trivial⟩ trivial rfl ?_ | refine al_nil ?_)) | (refine is_aw ?_; (first | refine aw_seq ?_ | refine aw_region ?_ | refine aw_block ?_)))
  refine aw_loop (γ := Nat) (fun k => [(0, .r (slP ps)), (3, .ref 0 0), (5, .own 1), (6, .i (k : Int))]) (fun k => [(0, .box 38 [.c (cI t), .c (cI v)]), (1, .row 2 38 (ptRs (lo k)))]) (fun _ => 2)
    (fun k => k ≤ ps.length) (fun k => ps.length - k) 0 (Nat.zero_le _) (le_mk [0, 1] rfl rfl rfl rfl ⟨rfl, rfl, rfl, rfl, trivial⟩ ⟨rfl, by rw [hlo0]; rfl, trivial⟩) ?_
  intro k hk
  have hl := hlo k
  rcases Nat.lt_or_ge k ps.length with hlt | hge
  · have hc : decide ((k : Int) < ((ptRs ps).length : Int)) = true := decide_eq_true (by omega)
    obtain ⟨p, hp⟩ : ∃ p, ps[k]? = some p := ⟨_, List.getElem?_eq_getElem hlt⟩
    have hpr := ptRs_at hp
    by_cases h : p.1 < t
    · have hd : decide (p.1 < t) = true := decide_eq_true h
      have e := hlos hp h
      repeat' (first | (refine is_al ?_; (first | (refine is_move ?_; (first | refine al_v (opx_move (.raw _)) ⟨rfl, trivial⟩ trivial rfl ?_ | refine al_v (opx_move (.sl _ _)) ⟨rfl, trivial⟩ trivial rfl ?_ | refine al_v (opx_move (.own _)) ⟨rfl, trivial⟩ trivial rfl ?_)) | (refine is_bin ?_; (first | refine al_v opx_lss ⟨rfl, rfl, trivial⟩ trivial rfl ?_ | refine al_v (opx_add (by unfold InR; omega)) ⟨rfl, rfl, trivial⟩ trivial rfl ?_)) | (refine is_load ?_; refine al_v opx_ld2_imm ⟨rfl, trivial⟩ trivial rfl ?_) | (refine is_assign ?_; (first | refine al_v (opx_assign (.raw _)) ⟨rfl, trivial⟩ trivial rfl ?_ | refine al_v (opx_assign (.own _)) ⟨rfl, trivial⟩ trivial rfl ?_)) | (refine is_bi ?_; refine al_v opx_len_sl ⟨rfl, trivial⟩ trivial rfl ?_) | (refine is_ia ?_; refine al_v (opx_ia_sl2 hpr (by omega)) ⟨rfl, rfl, trivial⟩ trivial rfl ?_) | (refine is_bs ?_; refine al_pushP ⟨rfl, trivial⟩ rfl rfl rfl rfl rfl (by omega) ?_) | refine al_nil ?_)) | (refine is_ad ?_; (first | (refine isd_move ?_; (first | refine ad_v (opx_move (.raw _)) ⟨rfl, trivial⟩ trivial rfl ?_ | refine ad_v (opx_move (.sl _ _)) ⟨rfl, trivial⟩ trivial rfl ?_)) | (refine isd_bin ?_; refine ad_v opx_lss ⟨rfl, rfl, trivial⟩ trivial rfl ?_) | (refine isd_load ?_; (first | refine ad_v opx_ld_imm ⟨rfl, trivial⟩ trivial rfl ?_ | refine ad_v (opx_ld_box rfl) ⟨rfl, trivial⟩ ⟨rfl, trivial⟩ rfl ?_)) | (refine isd_fa ?_; (first | refine ad_v opx_fa_ref ⟨rfl, trivial⟩ trivial rfl ?_ | refine ad_v opx_fa_imm0 ⟨rfl, trivial⟩ trivial rfl ?_)) | (refine isd_ia ?_; refine ad_v (opx_ia_sl2 hpr (by omega)) ⟨rfl, rfl, trivial⟩ trivial rfl ?_) | refine ad_nil (by kernel_rfl) ?_)) | (refine is_aw ?_; (first | refine aw_seq ?_ | refine aw_region ?_ | refine aw_skip ?_ | refine aw_block ?_ | (refine is_cond ?_; refine aw_cond_t rfl (by assumption) ?_) | refine aw_draw mixed ?_)) | refine thn_n ?_)
      exact ⟨k + 1, hlt, by omega, le_mk [0, 3] rfl rfl rfl rfl ⟨rfl, rfl, rfl, rfl, trivial⟩ ⟨rfl, by rw [e]; rfl, trivial⟩⟩
    · have hd : decide (p.1 < t) = false := decide_eq_false h
      have e := hlon hp h
      repeat' (first | (refine is_al ?_; (first | (refine is_move ?_; (first | refine al_v (opx_move (.raw _)) ⟨rfl, trivial⟩ trivial rfl ?_ | refine al_v (opx_move (.sl _ _)) ⟨rfl, trivial⟩ trivial rfl ?_)) | (refine is_bin ?_; (first | refine al_v opx_lss ⟨rfl, rfl, trivial⟩ trivial rfl ?_ | refine al_v (opx_add (by unfold InR; omega)) ⟨rfl, rfl, trivial⟩ trivial rfl ?_)) | (refine is_assign ?_; refine al_v (opx_assign (.raw _)) ⟨rfl, trivial⟩ trivial rfl ?_) | (refine is_bi ?_; refine al_v opx_len_sl ⟨rfl, trivial⟩ trivial rfl ?_) | refine al_nil ?_)) | (refine is_ad ?_; (first | (refine isd_move ?_; (first | refine ad_v (opx_move (.raw _)) ⟨rfl, trivial⟩ trivial rfl ?_ | refine ad_v (opx_move (.sl _ _)) ⟨rfl, trivial⟩ trivial rfl ?_)) | (refine isd_bin ?_; refine ad_v opx_lss ⟨rfl, rfl, trivial⟩ trivial rfl ?_) | (refine isd_load ?_; (first | refine ad_v opx_ld_imm ⟨rfl, trivial⟩ trivial rfl ?_ | refine ad_v (opx_ld_box rfl) ⟨rfl, trivial⟩ ⟨rfl, trivial⟩ rfl ?_)) | (refine isd_fa ?_; (first | refine ad_v opx_fa_ref ⟨rfl, trivial⟩ trivial rfl ?_ | refine ad_v opx_fa_imm0 ⟨rfl, trivial⟩ trivial rfl ?_)) | (refine isd_ia ?_; refine ad_v (opx_ia_sl2 hpr (by omega)) ⟨rfl, rfl, trivial⟩ trivial rfl ?_) | refine ad_nil (by kernel_rfl) ?_)) | (refine is_aw ?_; (first | refine aw_seq ?_ | refine aw_region ?_ | refine aw_skip ?_ | refine aw_block ?_ | (refine is_cond ?_; (first | refine aw_cond_t rfl (by assumption) ?_ | refine aw_cond_f rfl (by assumption) ?_)) | refine aw_draw mixed ?_)) | refine thn_n ?_)
      exact ⟨k + 1, hlt, by omega, le_mk [0, 1] rfl rfl rfl rfl ⟨rfl, rfl, rfl, rfl, trivial⟩ ⟨rfl, by rw [e]; rfl, trivial⟩⟩
  · have hc : decide ((k : Int) < ((ptRs ps).length : Int)) = false := decide_eq_false (by omega)
    obtain rfl : k = ps.length := by omega
    have hh0 := hhi 0
    repeat' (first | (refine is_al ?_; (first | (refine is_move ?_; (first | refine al_v (opx_move (.raw _)) ⟨rfl, trivial⟩ trivial rfl ?_ | refine al_v (opx_move (.sl _ _)) ⟨rfl, trivial⟩ trivial rfl ?_ | refine al_v (opx_move (.own _)) ⟨rfl, trivial⟩ trivial rfl ?_)) | (refine is_bin ?_; refine al_v opx_lss ⟨rfl, rfl, trivial⟩ trivial rfl ?_) | (refine is_load ?_; refine al_v opx_ld2_box ⟨rfl, trivial⟩ ⟨rfl, trivial⟩ rfl ?_) | (refine is_assign ?_; (first | refine al_v (opx_assign (.raw _)) ⟨rfl, trivial⟩ trivial rfl ?_ | refine al_v (opx_assign (.own _)) ⟨rfl, trivial⟩ trivial rfl ?_)) | (refine is_bi ?_; refine al_v opx_len_sl ⟨rfl, trivial⟩ trivial rfl ?_) | (refine is_bs ?_; refine al_pushP ⟨rfl, trivial⟩ rfl rfl rfl rfl rfl (by omega) ?_) | refine al_nil ?_)) | (refine is_aw ?_; (first | refine aw_seq ?_ | refine aw_region ?_ | refine aw_block ?_ | refine aw_exit ?_ | (refine is_cond ?_; refine aw_cond_f rfl (by assumption) ?_))))
    refine aw_loop (γ := Nat) (fun k => [(0, .r (slP ps)), (3, .ref 0 0), (5, .own 1), (7, .i (k : Int))]) (fun k => [(0, .box 38 [.c (cI t), .c (cI v)]), (1, .row 2 38 (ptRs (hi k)))]) (fun _ => 2)
      (fun k => k ≤ ps.length) (fun k => ps.length - k) 0 (Nat.zero_le _) (le_mk [0, 3] rfl rfl rfl rfl ⟨rfl, rfl, rfl, rfl, trivial⟩ ⟨rfl, by rw [hhi0, ← hloe]; rfl, trivial⟩) ?_
    intro k hk
    have hl := hhi k
    rcases Nat.lt_or_ge k ps.length with hlt | hge
    · have hc : decide ((k : Int) < ((ptRs ps).length : Int)) = true := decide_eq_true (by omega)
      obtain ⟨p, hp⟩ : ∃ p, ps[k]? = some p := ⟨_, List.getElem?_eq_getElem hlt⟩
      have hpr := ptRs_at hp
      by_cases h : t < p.1
      · have hd : decide (t < p.1) = true := decide_eq_true h
        have e := hhis hp h
        repeat' (first | (refine is_al ?_; (first | (refine is_move ?_; (first | refine al_v (opx_move (.raw _)) ⟨rfl, trivial⟩ trivial rfl ?_ | refine al_v (opx_move (.sl _ _)) ⟨rfl, trivial⟩ trivial rfl ?_ | refine al_v (opx_move (.own _)) ⟨rfl, trivial⟩ trivial rfl ?_)) | (refine is_bin ?_; (first | refine al_v opx_lss ⟨rfl, rfl, trivial⟩ trivial rfl ?_ | refine al_v (opx_add (by unfold InR; omega)) ⟨rfl, rfl, trivial⟩ trivial rfl ?_)) | (refine is_load ?_; refine al_v opx_ld2_imm ⟨rfl, trivial⟩ trivial rfl ?_) | (refine is_assign ?_; (first | refine al_v (opx_assign (.raw _)) ⟨rfl, trivial⟩ trivial rfl ?_ | refine al_v (opx_assign (.own _)) ⟨rfl, trivial⟩ trivial rfl ?_)) | (refine is_bi ?_; refine al_v opx_len_sl ⟨rfl, trivial⟩ trivial rfl ?_) | (refine is_ia ?_; refine al_v (opx_ia_sl2 hpr (by omega)) ⟨rfl, rfl, trivial⟩ trivial rfl ?_) | (refine is_bs ?_; refine al_pushP ⟨rfl, trivial⟩ rfl rfl rfl rfl rfl (by omega) ?_) | refine al_nil ?_)) | (refine is_ad ?_; (first | (refine isd_move ?_; (first | refine ad_v (opx_move (.raw _)) ⟨rfl, trivial⟩ trivial rfl ?_ | refine ad_v (opx_move (.sl _ _)) ⟨rfl, trivial⟩ trivial rfl ?_)) | (refine isd_bin ?_; refine ad_v opx_gtr ⟨rfl, rfl, trivial⟩ trivial rfl ?_) | (refine isd_load ?_; (first | refine ad_v opx_ld_imm ⟨rfl, trivial⟩ trivial rfl ?_ | refine ad_v (opx_ld_box rfl) ⟨rfl, trivial⟩ ⟨rfl, trivial⟩ rfl ?_)) | (refine isd_fa ?_; (first | refine ad_v opx_fa_ref ⟨rfl, trivial⟩ trivial rfl ?_ | refine ad_v opx_fa_imm0 ⟨rfl, trivial⟩ trivial rfl ?_)) | (refine isd_ia ?_; refine ad_v (opx_ia_sl2 hpr (by omega)) ⟨rfl, rfl, trivial⟩ trivial rfl ?_) | refine ad_nil (by kernel_rfl) ?_)) | (refine is_aw ?_; (first | refine aw_seq ?_ | refine aw_region ?_ | refine aw_skip ?_ | refine aw_block ?_ | (refine is_cond ?_; refine aw_cond_t rfl (by assumption) ?_) | refine aw_draw mixed ?_)) | refine thn_n ?_)
        exact ⟨k + 1, hlt, by omega, le_mk [0, 3] rfl rfl rfl rfl ⟨rfl, rfl, rfl, rfl, trivial⟩ ⟨rfl, by rw [e]; rfl, trivial⟩⟩
      · have hd : decide (t < p.1) = false := decide_eq_false h
        have e := hhin hp h
        repeat' (first | (refine is_al ?_; (first | (refine is_move ?_; (first | refine al_v (opx_move (.raw _)) ⟨rfl, trivial⟩ trivial rfl ?_ | refine al_v (opx_move (.sl _ _)) ⟨rfl, trivial⟩ trivial rfl ?_)) | (refine is_bin ?_; (first | refine al_v opx_lss ⟨rfl, rfl, trivial⟩ trivial rfl ?_ | refine al_v (opx_add (by unfold InR; omega)) ⟨rfl, rfl, trivial⟩ trivial rfl ?_)) | (refine is_assign ?_; refine al_v (opx_assign (.raw _)) ⟨rfl, trivial⟩ trivial rfl ?_) | (refine is_bi ?_; refine al_v opx_len_sl ⟨rfl, trivial⟩ trivial rfl ?_) | refine al_nil ?_)) | (refine is_ad ?_; (first | (refine isd_move ?_; (first | refine ad_v (opx_move (.raw _)) ⟨rfl, trivial⟩ trivial rfl ?_ | refine ad_v (opx_move (.sl _ _)) ⟨rfl, trivial⟩ trivial rfl ?_)) | (refine isd_bin ?_; refine ad_v opx_gtr ⟨rfl, rfl, trivial⟩ trivial rfl ?_) | (refine isd_load ?_; (first | refine ad_v opx_ld_imm ⟨rfl, trivial⟩ trivial rfl ?_ | refine ad_v (opx_ld_box rfl) ⟨rfl, trivial⟩ ⟨rfl, trivial⟩ rfl ?_)) | (refine isd_fa ?_; (first | refine ad_v opx_fa_ref ⟨rfl, trivial⟩ trivial rfl ?_ | refine ad_v opx_fa_imm0 ⟨rfl, trivial⟩ trivial rfl ?_)) | (refine isd_ia ?_; refine ad_v (opx_ia_sl2 hpr (by omega)) ⟨rfl, rfl, trivial⟩ trivial rfl ?_) | refine ad_nil (by kernel_rfl) ?_)) | (refine is_aw ?_; (first | refine aw_seq ?_ | refine aw_region ?_ | refine aw_skip ?_ | refine aw_block ?_ | (refine is_cond ?_; (first | refine aw_cond_t rfl (by assumption) ?_ | refine aw_cond_f rfl (by assumption) ?_)) | refine aw_draw mixed ?_)) | refine thn_n ?_)
        exact ⟨k + 1, hlt, by omega, le_mk [0, 1] rfl rfl rfl rfl ⟨rfl, rfl, rfl, rfl, trivial⟩ ⟨rfl, by rw [e]; rfl, trivial⟩⟩
    · have hc : decide ((k : Int) < ((ptRs ps).length : Int)) = false := decide_eq_false (by omega)
      obtain rfl : k = ps.length := by omega
      repeat' (first | (refine is_al ?_; (first | (refine is_move ?_; (first | refine al_v (opx_move (.raw _)) ⟨rfl, trivial⟩ trivial rfl ?_ | refine al_v (opx_move (.sl _ _)) ⟨rfl, trivial⟩ trivial rfl ?_ | refine al_v (opx_move (.own _)) ⟨rfl, trivial⟩ trivial rfl ?_)) | (refine is_bin ?_; refine al_v opx_lss ⟨rfl, rfl, trivial⟩ trivial rfl ?_) | (refine is_assign ?_; refine al_v (opx_assign (.own _)) ⟨rfl, trivial⟩ trivial rfl ?_) | (refine is_bi ?_; refine al_v opx_len_sl ⟨rfl, trivial⟩ trivial rfl ?_) | refine al_nil ?_)) | (refine is_aw ?_; (first | refine aw_seq ?_ | refine aw_region ?_ | refine aw_ret ?_ | refine aw_exit ?_ | (refine is_cond ?_; refine aw_cond_f rfl (by assumption) ?_))))
      exact ret_row trivial rfl rfl ⟨rfl, by rw [hhie]⟩
theorem c_sPut' (ps : List Pt) (t v : Int) (hL : ps.length ≤ 400000000) : Con Try.prog 24 [slP ps, ptA t v] [] (fun rs all => rs = [slP (put ps (t, v))] ∧ all = []) :=
  (c_sPut ps t v hL).froz fun rs all ⟨h1, h2⟩ => by subst h1 h2; exact ⟨⟨rfl, rfl⟩, rfl⟩

noncomputable def mrgB (a b : List Pt) : Bool := vsB a && (vsB b && decide ((puts a b).length ≤ 16))
noncomputable def mrgR (a b : List Pt) : List Pt := if mrgB a b = true then puts a b else []
end Go.Proofs.Ytjhokokkablcpaa
