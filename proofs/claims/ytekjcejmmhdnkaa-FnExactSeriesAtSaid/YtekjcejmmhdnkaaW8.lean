/-
  Merged series: the walks; the reference's functions on series.
-/
import Derived.Test.YtekjcejmmhdnkaaW7
namespace Go.Proofs.Ytekjcejmmhdnkaa
open Go.RowKit
set_option linter.unusedVariables false
set_option linter.unusedSimpArgs false
attribute [local irreducible] AL AW OpX Le AD

theorem c_sPut (ps : List Pt) (t v : Int) (hL : ps.length ≤ 400000000) : Con Try.prog 43 [slP ps, ptA t v] [] (fun rs all => rs = [.one (.own 0)] ∧ all = [.row 2 39 (ptRs (put ps (t, v)))]) := by
  have hlen := ptRs_len (ps := ps)
  let lo := fun k : Nat => (ps.take k).filter (fun x => decide (x.1 < t))
  let hi := fun k : Nat => ps.filter (fun x => decide (x.1 < t)) ++ (t, v) :: (ps.take k).filter (fun x => decide (t < x.1))
  have hlo : ∀ k, (lo k).length ≤ ps.length := fun k => Nat.le_trans (List.length_filter_le _ _) (by simp; omega)
  have hhi : ∀ k, (hi k).length ≤ 2 * ps.length + 1 := fun k => by
    have h1 := List.length_filter_le (fun x : Pt => decide (x.1 < t)) ps
    have h2 := List.length_filter_le (fun x : Pt => decide (t < x.1)) (ps.take k)
    rw [List.length_take] at h2
    show (List.filter (fun x : Pt => decide (x.1 < t)) ps ++ (t, v) :: List.filter (fun x : Pt => decide (t < x.1)) (ps.take k)).length ≤ _
    rw [List.length_append, List.length_cons]
    omega
  have hlo0 : lo 0 = [] := rfl
  have hlos : ∀ {k p}, ps[k]? = some p → p.1 < t → lo (k + 1) = lo k ++ [p] := fun hp h => by simp only [lo]; rw [List.take_add_one, hp, List.filter_append]; simp [h]
  have hlon : ∀ {k p}, ps[k]? = some p → ¬ p.1 < t → lo (k + 1) = lo k := fun hp h => by simp only [lo]; rw [List.take_add_one, hp, List.filter_append]; simp [h]
  have hloe : lo ps.length = ps.filter (fun x => decide (x.1 < t)) := by simp [lo]
  have hhi0 : hi 0 = ps.filter (fun x => decide (x.1 < t)) ++ [(t, v)] := rfl
  have hhis : ∀ {k p}, ps[k]? = some p → t < p.1 → hi (k + 1) = hi k ++ [p] := fun hp h => by simp only [hi]; rw [List.take_add_one, hp, List.filter_append]; simp [h]
  have hhin : ∀ {k p}, ps[k]? = some p → ¬ t < p.1 → hi (k + 1) = hi k := fun hp h => by simp only [hi]; rw [List.take_add_one, hp, List.filter_append]; simp [h]
  have hhie : hi ps.length = put ps (t, v) := by simp [hi, put]
  clear_value lo hi
  refine con_of_aw (vars := [.tmp 4]) [(0, .r (slP ps)), (1, .r (ptA t v))] [] 0 Try.func43 (by kernel_rfl) rfl Try.ntmps43 rfl (by decide) rfl rfl rfl rfl rfl ?_
  intro B M w0 ρ0 Z0
  repeat' (first | (refine is_al ?_; (first | (refine is_assign ?_; (first | refine al_v (opx_assign (.raw _)) ⟨rfl, trivial⟩ trivial rfl ?_ | refine al_v (opx_assign (.own _)) ⟨rfl, trivial⟩ trivial rfl ?_)) | (refine is_bs ?_; refine al_n opx_lit0 trivial trivial rfl ?_) | refine al_n opx_boxs ⟨rfl, trivial⟩ trivial rfl ?_ | refine al_nil ?_)) | (refine is_aw ?_; (first | refine aw_seq ?_ | refine aw_region ?_ | refine aw_block ?_)))
  refine aw_loop (γ := Nat) (fun k => [(0, .r (slP ps)), (3, .ref 0 0), (5, .own 1), (6, .i (k : Int))]) (fun k => [(0, .box 39 [.c (cI t), .c (cI v)]), (1, .row 2 39 (ptRs (lo k)))]) (fun _ => 2)
    (fun k => k ≤ ps.length) (fun k => ps.length - k) 0 (Nat.zero_le _) (le_mk [0, 1] rfl rfl rfl rfl ⟨rfl, rfl, rfl, rfl, trivial⟩ ⟨rfl, by rw [hlo0]; rfl, trivial⟩) ?_
  intro k hk
  have hl := hlo k
  rcases Nat.lt_or_ge k ps.length with hlt | hge
  · have hc : decide ((k : Int) < ((ptRs ps).length : Int)) = true := decide_eq_true (by omega)
    obtain ⟨p, hp⟩ : ∃ p, ps[k]? = some p := ⟨_, List.getElem?_eq_getElem hlt⟩
    have hpr := ptRs_at hp
    by_cases h : p.1 < t
    · have hd : decide (p.1 < t) = true := decide_eq_true h
      have e := hlos hp h
      repeat' (first | (refine is_al ?_; (first | (refine is_move ?_; (first | refine al_v (opx_move (.raw _)) ⟨rfl, trivial⟩ trivial rfl ?_ | refine al_v (opx_move (.sl _ _)) ⟨rfl, trivial⟩ trivial rfl ?_ | refine al_v (opx_move (.own _)) ⟨rfl, trivial⟩ trivial rfl ?_)) | (refine is_bin ?_; (first | refine al_v opx_lss ⟨rfl, rfl, trivial⟩ trivial rfl ?_ | refine al_v (opx_add (by unfold InR; omega)) ⟨rfl, rfl, trivial⟩ trivial rfl ?_)) | (refine is_load ?_; refine al_v opx_ld2_imm ⟨rfl, trivial⟩ trivial rfl ?_) | (refine is_assign ?_; (first | refine al_v (opx_assign (.raw _)) ⟨rfl, trivial⟩ trivial rfl ?_ | refine al_v (opx_assign (.own _)) ⟨rfl, trivial⟩ trivial rfl ?_)) | (refine is_bi ?_; refine al_v opx_len_sl ⟨rfl, trivial⟩ trivial rfl ?_) | (refine is_ia ?_; refine al_v (opx_ia_sl2 hpr (by omega)) ⟨rfl, rfl, trivial⟩ trivial rfl ?_) | (refine is_bs ?_; refine al_pushP ⟨rfl, trivial⟩ rfl rfl rfl rfl rfl (by omega) ?_) | refine al_nil ?_)) | (refine is_ad ?_; (first | (refine isd_move ?_; (first | refine ad_v (opx_move (.raw _)) ⟨rfl, trivial⟩ trivial rfl ?_ | refine ad_v (opx_move (.sl _ _)) ⟨rfl, trivial⟩ trivial rfl ?_)) | (refine isd_bin ?_; refine ad_v opx_lss ⟨rfl, rfl, trivial⟩ trivial rfl ?_) | (refine isd_load ?_; (first | refine ad_v opx_ld_imm ⟨rfl, trivial⟩ trivial rfl ?_ | refine ad_v (opx_ld_box rfl) ⟨rfl, trivial⟩ ⟨rfl, trivial⟩ rfl ?_)) | (refine isd_fa ?_; (first | refine ad_v opx_fa_ref ⟨rfl, trivial⟩ trivial rfl ?_ | refine ad_v opx_fa_imm0 ⟨rfl, trivial⟩ trivial rfl ?_)) | (refine isd_ia ?_; refine ad_v (opx_ia_sl2 hpr (by omega)) ⟨rfl, rfl, trivial⟩ trivial rfl ?_) | refine ad_nil (by kernel_rfl) ?_)) | (refine is_aw ?_; (first | refine aw_seq ?_ | refine aw_region ?_ | refine aw_skip ?_ | refine aw_block ?_ | (refine is_cond ?_; refine aw_cond_t rfl (by assumption) ?_) | refine aw_draw mixed ?_)) | refine thn_n ?_)
      exact ⟨k + 1, hlt, by omega, le_mk [0, 3] rfl rfl rfl rfl ⟨rfl, rfl, rfl, rfl, trivial⟩ ⟨rfl, by rw [e]; rfl, trivial⟩⟩
    · have hd : decide (p.1 < t) = false := decide_eq_false h
      have e := hlon hp h
      repeat' (first | (refine is_al ?_; (first | (refine is_move ?_; (first | refine al_v (opx_move (.raw _)) ⟨rfl, trivial⟩ trivial rfl ?_ | refine al_v (opx_move (.sl _ _)) ⟨rfl, trivial⟩ trivial rfl ?_)) | (refine is_bin ?_; (first | refine al_v opx_lss ⟨rfl, rfl, trivial⟩ trivial rfl ?_ | refine al_v (opx_add (by unfold InR; omega)) ⟨rfl, rfl, trivial⟩ trivial rfl ?_)) | (refine is_assign ?_; refine al_v (opx_assign (.raw _)) ⟨rfl, trivial⟩ trivial rfl ?_) | (refine is_bi ?_; refine al_v opx_len_sl ⟨rfl, trivial⟩ trivial rfl ?_) | refine al_nil ?_)) | (refine is_ad ?_; (first | (refine isd_move ?_; (first | refine ad_v (opx_move (.raw _)) ⟨rfl, trivial⟩ trivial rfl ?_ | refine ad_v (opx_move (.sl _ _)) ⟨rfl, trivial⟩ trivial rfl ?_)) | (refine isd_bin ?_; refine ad_v opx_lss ⟨rfl, rfl, trivial⟩ trivial rfl ?_) | (refine isd_load ?_; (first | refine ad_v opx_ld_imm ⟨rfl, trivial⟩ trivial rfl ?_ | refine ad_v (opx_ld_box rfl) ⟨rfl, trivial⟩ ⟨rfl, trivial⟩ rfl ?_)) | (refine isd_fa ?_; (first | refine ad_v opx_fa_ref ⟨rfl, trivial⟩ trivial rfl ?_ | refine ad_v opx_fa_imm0 ⟨rfl, trivial⟩ trivial rfl ?_)) | (refine isd_ia ?_; refine ad_v (opx_ia_sl2 hpr (by omega)) ⟨rfl, rfl, trivial⟩ trivial rfl ?_) | refine ad_nil (by kernel_rfl) ?_)) | (refine is_aw ?_; (first | refine aw_seq ?_ | refine aw_region ?_ | refine aw_skip ?_ | refine aw_block ?_ | (refine is_cond ?_; (first | refine aw_cond_t rfl (by assumption) ?_ | refine aw_cond_f rfl (by assumption) ?_)) | refine aw_draw mixed ?_)) | refine thn_n ?_)
      exact ⟨k + 1, hlt, by omega, le_mk [0, 1] rfl rfl rfl rfl ⟨rfl, rfl, rfl, rfl, trivial⟩ ⟨rfl, by rw [e]; rfl, trivial⟩⟩
  · have hc : decide ((k : Int) < ((ptRs ps).length : Int)) = false := decide_eq_false (by omega)
    obtain rfl : k = ps.length := by omega
    have hh0 := hhi 0
    repeat' (first | (refine is_al ?_; (first | (refine is_move ?_; (first | refine al_v (opx_move (.raw _)) ⟨rfl, trivial⟩ trivial rfl ?_ | refine al_v (opx_move (.sl _ _)) ⟨rfl, trivial⟩ trivial rfl ?_ | refine al_v (opx_move (.own _)) ⟨rfl, trivial⟩ trivial rfl ?_)) | (refine is_bin ?_; refine al_v opx_lss ⟨rfl, rfl, trivial⟩ trivial rfl ?_) | (refine is_load ?_; refine al_v opx_ld2_box ⟨rfl, trivial⟩ ⟨rfl, trivial⟩ rfl ?_) | (refine is_assign ?_; (first | refine al_v (opx_assign (.raw _)) ⟨rfl, trivial⟩ trivial rfl ?_ | refine al_v (opx_assign (.own _)) ⟨rfl, trivial⟩ trivial rfl ?_)) | (refine is_bi ?_; refine al_v opx_len_sl ⟨rfl, trivial⟩ trivial rfl ?_) | (refine is_bs ?_; refine al_pushP ⟨rfl, trivial⟩ rfl rfl rfl rfl rfl (by omega) ?_) | refine al_nil ?_)) | (refine is_aw ?_; (first | refine aw_seq ?_ | refine aw_region ?_ | refine aw_block ?_ | refine aw_exit ?_ | (refine is_cond ?_; refine aw_cond_f rfl (by assumption) ?_))))
    refine aw_loop (γ := Nat) (fun k => [(0, .r (slP ps)), (3, .ref 0 0), (5, .own 1), (7, .i (k : Int))]) (fun k => [(0, .box 39 [.c (cI t), .c (cI v)]), (1, .row 2 39 (ptRs (hi k)))]) (fun _ => 2)
      (fun k => k ≤ ps.length) (fun k => ps.length - k) 0 (Nat.zero_le _) (le_mk [0, 3] rfl rfl rfl rfl ⟨rfl, rfl, rfl, rfl, trivial⟩ ⟨rfl, by rw [hhi0, ← hloe]; rfl, trivial⟩) ?_
    intro k hk
    have hl := hhi k
    rcases Nat.lt_or_ge k ps.length with hlt | hge
    · have hc : decide ((k : Int) < ((ptRs ps).length : Int)) = true := decide_eq_true (by omega)
      obtain ⟨p, hp⟩ : ∃ p, ps[k]? = some p := ⟨_, List.getElem?_eq_getElem hlt⟩
      have hpr := ptRs_at hp
      by_cases h : t < p.1
      · have hd : decide (t < p.1) = true := decide_eq_true h
        have e := hhis hp h
        repeat' (first | (refine is_al ?_; (first | (refine is_move ?_; (first | refine al_v (opx_move (.raw _)) ⟨rfl, trivial⟩ trivial rfl ?_ | refine al_v (opx_move (.sl _ _)) ⟨rfl, trivial⟩ trivial rfl ?_ | refine al_v (opx_move (.own _)) ⟨rfl, trivial⟩ trivial rfl ?_)) | (refine is_bin ?_; (first | refine al_v opx_lss ⟨rfl, rfl, trivial⟩ trivial rfl ?_ | refine al_v (opx_add (by unfold InR; omega)) ⟨rfl, rfl, trivial⟩ trivial rfl ?_)) | (refine is_load ?_; refine al_v opx_ld2_imm ⟨rfl, trivial⟩ trivial rfl ?_) | (refine is_assign ?_; (first | refine al_v (opx_assign (.raw _)) ⟨rfl, trivial⟩ trivial rfl ?_ | refine al_v (opx_assign (.own _)) ⟨rfl, trivial⟩ trivial rfl ?_)) | (refine is_bi ?_; refine al_v opx_len_sl ⟨rfl, trivial⟩ trivial rfl ?_) | (refine is_ia ?_; refine al_v (opx_ia_sl2 hpr (by omega)) ⟨rfl, rfl, trivial⟩ trivial rfl ?_) | (refine is_bs ?_; refine al_pushP ⟨rfl, trivial⟩ rfl rfl rfl rfl rfl (by omega) ?_) | refine al_nil ?_)) | (refine is_ad ?_; (first | (refine isd_move ?_; (first | refine ad_v (opx_move (.raw _)) ⟨rfl, trivial⟩ trivial rfl ?_ | refine ad_v (opx_move (.sl _ _)) ⟨rfl, trivial⟩ trivial rfl ?_)) | (refine isd_bin ?_; refine ad_v opx_gtr ⟨rfl, rfl, trivial⟩ trivial rfl ?_) | (refine isd_load ?_; (first | refine ad_v opx_ld_imm ⟨rfl, trivial⟩ trivial rfl ?_ | refine ad_v (opx_ld_box rfl) ⟨rfl, trivial⟩ ⟨rfl, trivial⟩ rfl ?_)) | (refine isd_fa ?_; (first | refine ad_v opx_fa_ref ⟨rfl, trivial⟩ trivial rfl ?_ | refine ad_v opx_fa_imm0 ⟨rfl, trivial⟩ trivial rfl ?_)) | (refine isd_ia ?_; refine ad_v (opx_ia_sl2 hpr (by omega)) ⟨rfl, rfl, trivial⟩ trivial rfl ?_) | refine ad_nil (by kernel_rfl) ?_)) | (refine is_aw ?_; (first | refine aw_seq ?_ | refine aw_region ?_ | refine aw_skip ?_ | refine aw_block ?_ | (refine is_cond ?_; refine aw_cond_t rfl (by assumption) ?_) | refine aw_draw mixed ?_)) | refine thn_n ?_)
        exact ⟨k + 1, hlt, by omega, le_mk [0, 3] rfl rfl rfl rfl ⟨rfl, rfl, rfl, rfl, trivial⟩ ⟨rfl, by rw [e]; rfl, trivial⟩⟩
      · have hd : decide (t < p.1) = false := decide_eq_false h
        have e := hhin hp h
        repeat' (first | (refine is_al ?_; (first | (refine is_move ?_; (first | refine al_v (opx_move (.raw _)) ⟨rfl, trivial⟩ trivial rfl ?_ | refine al_v (opx_move (.sl _ _)) ⟨rfl, trivial⟩ trivial rfl ?_)) | (refine is_bin ?_; (first | refine al_v opx_lss ⟨rfl, rfl, trivial⟩ trivial rfl ?_ | refine al_v (opx_add (by unfold InR; omega)) ⟨rfl, rfl, trivial⟩ trivial rfl ?_)) | (refine is_assign ?_; refine al_v (opx_assign (.raw _)) ⟨rfl, trivial⟩ trivial rfl ?_) | (refine is_bi ?_; refine al_v opx_len_sl ⟨rfl, trivial⟩ trivial rfl ?_) | refine al_nil ?_)) | (refine is_ad ?_; (first | (refine isd_move ?_; (first | refine ad_v (opx_move (.raw _)) ⟨rfl, trivial⟩ trivial rfl ?_ | refine ad_v (opx_move (.sl _ _)) ⟨rfl, trivial⟩ trivial rfl ?_)) | (refine isd_bin ?_; refine ad_v opx_gtr ⟨rfl, rfl, trivial⟩ trivial rfl ?_) | (refine isd_load ?_; (first | refine ad_v opx_ld_imm ⟨rfl, trivial⟩ trivial rfl ?_ | refine ad_v (opx_ld_box rfl) ⟨rfl, trivial⟩ ⟨rfl, trivial⟩ rfl ?_)) | (refine isd_fa ?_; (first | refine ad_v opx_fa_ref ⟨rfl, trivial⟩ trivial rfl ?_ | refine ad_v opx_fa_imm0 ⟨rfl, trivial⟩ trivial rfl ?_)) | (refine isd_ia ?_; refine ad_v (opx_ia_sl2 hpr (by omega)) ⟨rfl, rfl, trivial⟩ trivial rfl ?_) | refine ad_nil (by kernel_rfl) ?_)) | (refine is_aw ?_; (first | refine aw_seq ?_ | refine aw_region ?_ | refine aw_skip ?_ | refine aw_block ?_ | (refine is_cond ?_; (first | refine aw_cond_t rfl (by assumption) ?_ | refine aw_cond_f rfl (by assumption) ?_)) | refine aw_draw mixed ?_)) | refine thn_n ?_)
        exact ⟨k + 1, hlt, by omega, le_mk [0, 1] rfl rfl rfl rfl ⟨rfl, rfl, rfl, rfl, trivial⟩ ⟨rfl, by rw [e]; rfl, trivial⟩⟩
    · have hc : decide ((k : Int) < ((ptRs ps).length : Int)) = false := decide_eq_false (by omega)
      obtain rfl : k = ps.length := by omega
      repeat' (first | (refine is_al ?_; (first | (refine is_move ?_; (first | refine al_v (opx_move (.raw _)) ⟨rfl, trivial⟩ trivial rfl ?_ | refine al_v (opx_move (.sl _ _)) ⟨rfl, trivial⟩ trivial rfl ?_ | refine al_v (opx_move (.own _)) ⟨rfl, trivial⟩ trivial rfl ?_)) | (refine is_bin ?_; refine al_v opx_lss ⟨rfl, rfl, trivial⟩ trivial rfl ?_) | (refine is_assign ?_; refine al_v (opx_assign (.own _)) ⟨rfl, trivial⟩ trivial rfl ?_) | (refine is_bi ?_; refine al_v opx_len_sl ⟨rfl, trivial⟩ trivial rfl ?_) | refine al_nil ?_)) | (refine is_aw ?_; (first | refine aw_seq ?_ | refine aw_region ?_ | refine aw_ret ?_ | refine aw_exit ?_ | (refine is_cond ?_; refine aw_cond_f rfl (by assumption) ?_))))
      exact ret_row trivial rfl rfl ⟨rfl, by rw [hhie]⟩
theorem c_sPut' (ps : List Pt) (t v : Int) (hL : ps.length ≤ 400000000) : Con Try.prog 43 [slP ps, ptA t v] [] (fun rs all => rs = [slP (put ps (t, v))] ∧ all = []) :=
  (c_sPut ps t v hL).froz fun rs all ⟨h1, h2⟩ => by subst h1 h2; exact ⟨⟨rfl, rfl⟩, rfl⟩

noncomputable def mrgB (a b : List Pt) : Bool := vsB a && (vsB b && decide ((puts a b).length ≤ 16))
noncomputable def mrgR (a b : List Pt) : List Pt := if mrgB a b = true then puts a b else []
theorem c_sMergeSeries (a b : List Pt) (hL : a.length + b.length ≤ 100000000) : Con Try.prog 16 [slP a, slP b] [] (fun rs all => rs = [.one (.own 0), rB (mrgB a b)] ∧ all = [.row 2 39 (ptRs (mrgR a b))]) := by
  have hla := ptRs_len (ps := a)
  have hlb := ptRs_len (ps := b)
  refine con_of_aw (vars := [.tmp 4, .tmp 5]) [(0, .r (slP a)), (1, .r (slP b))] [] 0 Try.func16 (by kernel_rfl) rfl Try.ntmps16 rfl (by decide) rfl rfl rfl rfl rfl ?_
  intro B M w0 ρ0 Z0
  by_cases hva : VS a
  · by_cases hvb : VS b
    · have hn1 : (!vsB a) = false := by rw [vsB_t hva]; rfl
      have hn2 : (!vsB b) = false := by rw [vsB_t hvb]; rfl
      have h16 := hva.1
      have h17 := hvb.1
      repeat' (first | (refine is_al ?_; (first | (refine is_gd ?_; refine al_on rfl rfl rfl (by assumption) ?_) | (refine is_move ?_; (first | refine al_v (opx_move (.raw _)) ⟨rfl, trivial⟩ trivial rfl ?_ | refine al_v (opx_move (.sl _ _)) ⟨rfl, trivial⟩ trivial rfl ?_)) | (refine is_assign ?_; (first | refine al_v (opx_assign (.raw _)) ⟨rfl, trivial⟩ trivial rfl ?_ | refine al_v (opx_assign (.sl _ _)) ⟨rfl, trivial⟩ trivial rfl ?_)) | (refine is_pick ?_; refine al_v (opx_pick_f (.raw _) (by assumption)) ⟨rfl, rfl, trivial⟩ trivial rfl ?_) | (refine is_call ?_; refine al_callv2 (by (repeat (first | exact .nil | refine .one rfl rfl ?_ | refine .froz rfl rfl ?_ | refine .row rfl rfl ?_ | refine .rnil rfl ?_ | refine .agg rfl (by (repeat (first | exact .nil | refine .cons (.same rfl) ?_ | refine .cons (.froz rfl) ?_ | refine .cons (.rnil) ?_ | refine .cons (.row rfl rfl) ?_)); (first | done | fail)) ?_)); (first | done | fail)) rfl (c_sValidSeries _ (by omega)) rfl ?_) | refine al_v opx_not ⟨rfl, trivial⟩ trivial rfl ?_ | refine al_nil ?_)) | (refine is_aw ?_; (first | refine aw_seq ?_ | refine aw_region ?_ | refine aw_skip ?_ | refine aw_block ?_ | (refine is_cond ?_; refine aw_cond_f rfl (by assumption) ?_))))
      refine aw_loop (γ := Nat) (fun k => [(0, .r (slP a)), (1, .r (slP b)), (4, .raw (.slice none 0 0)), (5, .b false), (6, .r (slP (puts a (b.take k)))), (7, .i (k : Int))]) (fun _ => []) (fun _ => 0)
        (fun k => k ≤ b.length) (fun k => b.length - k) 0 (Nat.zero_le _) (le_mk [] rfl rfl rfl rfl ⟨rfl, rfl, rfl, rfl, rfl, rfl, trivial⟩ trivial) ?_
      intro k hk
      have hl := puts_len (a := a) (b := b.take k)
      rw [List.length_take] at hl
      rcases Nat.lt_or_ge k b.length with hlt | hge
      · have hc : decide ((k : Int) < ((ptRs b).length : Int)) = true := decide_eq_true (by omega)
        obtain ⟨p, hp⟩ : ∃ p, b[k]? = some p := ⟨_, List.getElem?_eq_getElem hlt⟩
        have hpr := ptRs_at hp
        have e := puts_take (a := a) hp
        repeat' (first | (refine is_al ?_; (first | (refine is_move ?_; (first | refine al_v (opx_move (.raw _)) ⟨rfl, trivial⟩ trivial rfl ?_ | refine al_v (opx_move (.sl _ _)) ⟨rfl, trivial⟩ trivial rfl ?_)) | (refine is_bin ?_; (first | refine al_v opx_lss ⟨rfl, rfl, trivial⟩ trivial rfl ?_ | refine al_v (opx_add (by unfold InR; omega)) ⟨rfl, rfl, trivial⟩ trivial rfl ?_)) | (refine is_load ?_; refine al_v opx_ld2_imm ⟨rfl, trivial⟩ trivial rfl ?_) | (refine is_assign ?_; (first | refine al_v (opx_assign (.raw _)) ⟨rfl, trivial⟩ trivial rfl ?_ | refine al_v (opx_assign (.sl _ _)) ⟨rfl, trivial⟩ trivial rfl ?_)) | (refine is_bi ?_; refine al_v opx_len_sl ⟨rfl, trivial⟩ trivial rfl ?_) | (refine is_ia ?_; refine al_v (opx_ia_sl2 hpr (by omega)) ⟨rfl, rfl, trivial⟩ trivial rfl ?_) | (refine is_call ?_; refine al_callF (by (repeat (first | exact .nil | refine .one rfl rfl ?_ | refine .froz rfl rfl ?_ | refine .rnil rfl ?_ | refine .agg rfl (by (repeat (first | exact .nil | refine .cons (.same rfl) ?_ | refine .cons (.froz rfl) ?_ | refine .cons (.rnil) ?_)); (first | done | fail)) ?_)); (first | done | fail)) rfl (c_sPut' _ _ _ (by omega)) rfl ?_) | refine al_nil ?_)) | (refine is_aw ?_; (first | refine aw_seq ?_ | refine aw_region ?_ | refine aw_skip ?_ | refine aw_block ?_ | (refine is_cond ?_; refine aw_cond_t rfl (by assumption) ?_))) | refine thn_n ?_)
        exact ⟨k + 1, hlt, by omega, le_mk [] rfl rfl rfl rfl ⟨rfl, rfl, rfl, rfl, by rw [e]; rfl, rfl, trivial⟩ trivial⟩
      · have hc : decide ((k : Int) < ((ptRs b).length : Int)) = false := decide_eq_false (by omega)
        have hlp := ptRs_len (ps := puts a (b.take k))
        have e1 : puts a (b.take k) = puts a b := by rw [List.take_of_length_le hge]
        repeat' (first | (refine is_al ?_; (first | (refine is_move ?_; (first | refine al_v (opx_move (.raw _)) ⟨rfl, trivial⟩ trivial rfl ?_ | refine al_v (opx_move (.sl _ _)) ⟨rfl, trivial⟩ trivial rfl ?_)) | (refine is_bin ?_; (first | refine al_v opx_lss ⟨rfl, rfl, trivial⟩ trivial rfl ?_ | refine al_v opx_gtr ⟨rfl, rfl, trivial⟩ trivial rfl ?_)) | (refine is_assign ?_; (first | refine al_v (opx_assign (.raw _)) ⟨rfl, trivial⟩ trivial rfl ?_ | refine al_v (opx_assign (.own _)) ⟨rfl, trivial⟩ trivial rfl ?_)) | (refine is_bi ?_; (first | refine al_v opx_len_sl ⟨rfl, trivial⟩ trivial rfl ?_ | refine al_appePv rfl rfl rfl rfl rfl (by omega) ?_)) | (refine is_bs ?_; refine al_n opx_lit0 trivial trivial rfl ?_) | refine al_nil ?_)) | (refine is_aw ?_; (first | refine aw_seq ?_ | refine aw_region ?_ | refine aw_skip ?_ | refine aw_exit ?_ | (refine is_cond ?_; (first | refine aw_cond_f rfl (by assumption) ?_ | (refine aw_cond rfl ?_ ?_ <;> ((intro hgd; try exact absurd hgd (by decide)); (try (have hz := hgd; simp only [decide_eq_true_eq, decide_eq_false_iff_not, Bool.not_eq_true', Bool.not_eq_false', Bool.not_true, Bool.not_false, beq_iff_eq, Int.not_le, Int.not_lt] at hz)); (try (exfalso; omega)))))))) | refine thn_n ?_)
        · refine aw_le (le_ownNil 4 2 39 rfl) ?_
          repeat' (first | (refine is_aw ?_; refine aw_ret ?_) | refine thn_r ?_)
          have e : mrgB a b = false := by rw [mrgB, vsB_t hva, vsB_t hvb, decide_eq_false (by rw [← e1]; omega)]; rfl
          exact ret_row_raw trivial rfl rfl rfl ⟨by rw [e], by rw [mrgR, e]; rfl⟩
        · repeat' (refine is_aw ?_; refine aw_ret ?_)
          have e : mrgB a b = true := by rw [mrgB, vsB_t hva, vsB_t hvb, decide_eq_true (by rw [← e1]; omega)]; rfl
          exact ret_row_raw trivial rfl rfl rfl ⟨by rw [e], by rw [mrgR, if_pos e, ← e1]⟩
    · have hn1 : (!vsB a) = false := by rw [vsB_t hva]; rfl
      have hn2 : (!vsB b) = true := by rw [vsB_f hvb]; rfl
      repeat' (first | (refine is_al ?_; (first | (refine is_gd ?_; refine al_on rfl rfl rfl (by assumption) ?_) | (refine is_move ?_; (first | refine al_v (opx_move (.raw _)) ⟨rfl, trivial⟩ trivial rfl ?_ | refine al_v (opx_move (.sl _ _)) ⟨rfl, trivial⟩ trivial rfl ?_)) | (refine is_assign ?_; refine al_v (opx_assign (.raw _)) ⟨rfl, trivial⟩ trivial rfl ?_) | (refine is_pick ?_; refine al_v (opx_pick_f (.raw _) (by assumption)) ⟨rfl, rfl, trivial⟩ trivial rfl ?_) | (refine is_call ?_; refine al_callv2 (by (repeat (first | exact .nil | refine .one rfl rfl ?_ | refine .froz rfl rfl ?_ | refine .row rfl rfl ?_ | refine .rnil rfl ?_ | refine .agg rfl (by (repeat (first | exact .nil | refine .cons (.same rfl) ?_ | refine .cons (.froz rfl) ?_ | refine .cons (.rnil) ?_ | refine .cons (.row rfl rfl) ?_)); (first | done | fail)) ?_)); (first | done | fail)) rfl (c_sValidSeries _ (by omega)) rfl ?_) | refine al_v opx_not ⟨rfl, trivial⟩ trivial rfl ?_ | refine al_nil ?_)) | (refine is_aw ?_; (first | refine aw_seq ?_ | refine aw_region ?_ | (refine is_cond ?_; refine aw_cond_t rfl (by assumption) ?_))) | refine thn_n ?_)
      refine aw_le (le_ownNil 4 2 39 rfl) ?_
      repeat' (first | (refine is_aw ?_; refine aw_ret ?_) | refine thn_r ?_)
      have e : mrgB a b = false := by rw [mrgB, vsB_t hva, vsB_f hvb]; rfl
      exact ret_row_raw trivial rfl rfl rfl ⟨by rw [e], by rw [mrgR, e]; rfl⟩
  · have hn1 : (!vsB a) = true := by rw [vsB_f hva]; rfl
    repeat' (first | (refine is_al ?_; (first | (refine is_gd ?_; refine al_off rfl rfl rfl (by assumption) rfl ?_) | (refine is_move ?_; (first | refine al_v (opx_move (.raw _)) ⟨rfl, trivial⟩ trivial rfl ?_ | refine al_v (opx_move (.sl _ _)) ⟨rfl, trivial⟩ trivial rfl ?_)) | (refine is_assign ?_; refine al_v (opx_assign (.raw _)) ⟨rfl, trivial⟩ trivial rfl ?_) | (refine is_pick ?_; refine al_v (opx_pick_t (.raw _) (by assumption)) ⟨rfl, rfl, trivial⟩ trivial rfl ?_) | (refine is_call ?_; refine al_callv2 (by (repeat (first | exact .nil | refine .one rfl rfl ?_ | refine .froz rfl rfl ?_ | refine .row rfl rfl ?_ | refine .rnil rfl ?_ | refine .agg rfl (by (repeat (first | exact .nil | refine .cons (.same rfl) ?_ | refine .cons (.froz rfl) ?_ | refine .cons (.rnil) ?_ | refine .cons (.row rfl rfl) ?_)); (first | done | fail)) ?_)); (first | done | fail)) rfl (c_sValidSeries _ (by omega)) rfl ?_) | refine al_v opx_not ⟨rfl, trivial⟩ trivial rfl ?_ | refine al_nil ?_)) | (refine is_aw ?_; (first | refine aw_seq ?_ | refine aw_region ?_ | (refine is_cond ?_; refine aw_cond_t rfl rfl ?_))) | refine thn_n ?_)
    refine aw_le (le_ownNil 4 2 39 rfl) ?_
    repeat' (first | (refine is_aw ?_; refine aw_ret ?_) | refine thn_r ?_)
    have e : mrgB a b = false := by rw [mrgB, vsB_f hva]; rfl
    exact ret_row_raw trivial rfl rfl rfl ⟨by rw [e], by rw [mrgR, e]; rfl⟩
theorem c_sMergeSeries' (a b : List Pt) (hL : a.length + b.length ≤ 100000000) : Con Try.prog 16 [slP a, slP b] [] (fun rs all => rs = [slP (mrgR a b), rB (mrgB a b)] ∧ all = []) :=
  (c_sMergeSeries a b hL).froz fun rs all ⟨h1, h2⟩ => by subst h1 h2; exact ⟨⟨rfl, rfl⟩, rfl⟩

theorem c_MergeSeries (a b : List Pt) : Con Try.prog 18 [slP a, slP b] [] (fun rs all => rs = [.one (.own 0), rB (mrgB a b)] ∧ all = [.row 2 39 (ptRs (mrgR a b))]) := by
  have hla := ptRs_len (ps := a)
  have hlb := ptRs_len (ps := b)
  refine con_of_aw (vars := [.tmp 4, .tmp 5]) [(0, .r (slP a)), (1, .r (slP b))] [] 0 Try.func18 (by kernel_rfl) rfl Try.ntmps18 rfl (by decide) rfl rfl rfl rfl rfl ?_
  intro B M w0 ρ0 Z0
  by_cases hva' : VS a
  · by_cases hvb' : VS b
    · have hva := vsB_t hva'
      have hvb := vsB_t hvb'
      have h16 := hva'.1
      have h17 := hvb'.1
      have hn1 : (!vsB a) = false := by rw [hva]; rfl
      have hn2 : (!vsB b) = false := by rw [hvb]; rfl
      repeat' (first | (refine is_al ?_; (first | (refine is_gd ?_; refine al_on rfl rfl rfl (by assumption) ?_) | (refine is_move ?_; (first | refine al_v (opx_move (.raw _)) ⟨rfl, trivial⟩ trivial rfl ?_ | refine al_v (opx_move (.sl _ _)) ⟨rfl, trivial⟩ trivial rfl ?_)) | (refine is_bin ?_; refine al_v (opx_add (by unfold InR; omega)) ⟨rfl, rfl, trivial⟩ trivial rfl ?_) | (refine is_assign ?_; (first | refine al_v (opx_assign (.raw _)) ⟨rfl, trivial⟩ trivial rfl ?_ | refine al_v (opx_assign (.own _)) ⟨rfl, trivial⟩ trivial rfl ?_)) | (refine is_pick ?_; refine al_v (opx_pick_f (.raw _) (by assumption)) ⟨rfl, rfl, trivial⟩ trivial rfl ?_) | (refine is_bi ?_; refine al_v opx_len_sl ⟨rfl, trivial⟩ trivial rfl ?_) | (refine is_call ?_; refine al_callv2 (by (repeat (first | exact .nil | refine .one rfl rfl ?_ | refine .froz rfl rfl ?_ | refine .row rfl rfl ?_ | refine .rnil rfl ?_ | refine .agg rfl (by (repeat (first | exact .nil | refine .cons (.same rfl) ?_ | refine .cons (.froz rfl) ?_ | refine .cons (.rnil) ?_ | refine .cons (.row rfl rfl) ?_)); (first | done | fail)) ?_)); (first | done | fail)) rfl (c_validSeries _) rfl ?_) | refine al_v opx_not ⟨rfl, trivial⟩ trivial rfl ?_ | refine al_mk0 rfl rfl rfl rfl (by omega) ?_ | refine al_nil ?_)) | (refine is_aw ?_; (first | refine aw_seq ?_ | refine aw_region ?_ | refine aw_skip ?_ | refine aw_block ?_ | (refine is_cond ?_; refine aw_cond_f rfl (by assumption) ?_))))
      refine aw_loop (γ := Nat × List Pt × Nat) (fun g => [(0, .r (slP a)), (1, .r (slP b)), (4, .raw (.slice none 0 0)), (5, .b false), (6, .own 0), (7, .i (g.2.2 : Int)), (24, .r (slP b)), (25, .i ((ptRs b).length : Int)), (26, .i (g.1 : Int))])
        (fun g => [(0, .row 2 39 (ptRs g.2.1))]) (fun _ => 1)
        (fun g => g.1 ≤ b.length ∧ g.2.2 ≤ a.length ∧ g.2.1.length ≤ g.1 + g.2.2 ∧ g.2.1 ++ a.drop g.2.2 = puts a (b.take g.1) ∧ ∀ x ∈ g.2.1, ∀ y ∈ b.drop g.1, x.1 < y.1) (fun g => b.length - g.1) (0, [], 0)
        ⟨Nat.zero_le _, Nat.zero_le _, Nat.zero_le _, rfl, fun x hx => by cases hx⟩ (le_mk [0] rfl rfl rfl rfl ⟨rfl, rfl, rfl, rfl, rfl, rfl, rfl, rfl, rfl, trivial⟩ ⟨rfl, trivial⟩) ?_
      rintro ⟨k, out, i⟩ ⟨hk, hi, hol, hinv, hlast⟩
      dsimp only at hk hi hol hinv hlast ⊢
      rcases Nat.lt_or_ge k b.length with hlt | hge
      · have hc : decide ((k : Int) < ((ptRs b).length : Int)) = true := decide_eq_true (by omega)
        obtain ⟨p, hp⟩ : ∃ p, b[k]? = some p := ⟨_, List.getElem?_eq_getElem hlt⟩
        have hpr := ptRs_at hp
        have hdk : b.drop k = p :: b.drop (k + 1) := by rw [List.drop_eq_getElem_cons hlt]; congr 1; rw [List.getElem?_eq_getElem hlt] at hp; exact Option.some.inj hp
        have hbase : puts a (b.take (k + 1)) = put (puts a (b.take k)) p := puts_take hp
        have hpb : p ∈ b.drop k := by rw [hdk]; exact .head _
        have hpd : ∀ y ∈ b.drop (k + 1), p.1 < y.1 := fun y hy => by
          have := asc_drop k hvb'.asc
          rw [hdk] at this
          exact (asc_cons.1 this).1 y hy
        repeat' (first | (refine is_al ?_; (first | (refine is_bin ?_; refine al_v opx_lss ⟨rfl, rfl, trivial⟩ trivial rfl ?_) | (refine is_load ?_; refine al_v opx_ld2_imm ⟨rfl, trivial⟩ trivial rfl ?_) | (refine is_ia ?_; refine al_v (opx_ia_sl2 hpr (by omega)) ⟨rfl, rfl, trivial⟩ trivial rfl ?_) | (refine is_st ?_; refine al_s (opx_sts_box (by rfl) (by rfl)) ⟨rfl, rfl, trivial⟩ ⟨rfl, trivial⟩ ?_) | refine al_n opx_alloc trivial trivial rfl ?_ | refine al_nil ?_)) | (refine is_aw ?_; (first | refine aw_seq ?_ | refine aw_region ?_ | refine aw_skip ?_ | refine aw_block ?_ | (refine is_cond ?_; refine aw_cond_t rfl (by assumption) ?_))))
        refine aw_loop (γ := List Pt × Nat) (fun g => [(0, .r (slP a)), (1, .r (slP b)), (4, .raw (.slice none 0 0)), (5, .b false), (6, .own 0), (7, .i (g.2 : Int)), (9, .ref 1 0), (24, .r (slP b)), (25, .i ((ptRs b).length : Int)), (26, .i (k : Int))])
          (fun g => [(0, .row 2 39 (ptRs g.1)), (1, .box 39 [.c (cI p.1), .c (cI p.2)])]) (fun _ => 2)
          (fun g => g.2 ≤ a.length ∧ g.1.length ≤ k + g.2 ∧ g.1 ++ a.drop g.2 = puts a (b.take k) ∧ ∀ x ∈ g.1, x.1 < p.1) (fun g => a.length - g.2) (out, i)
          ⟨hi, hol, hinv, fun x hx => hlast x hx p hpb⟩ (le_mk [0, 1] rfl rfl rfl rfl ⟨rfl, rfl, rfl, rfl, rfl, rfl, rfl, rfl, rfl, rfl, trivial⟩ ⟨rfl, rfl, trivial⟩) ?_
        rintro ⟨out, i⟩ ⟨hi, hol, hinv, hlast⟩
        dsimp only at hi hol hinv hlast ⊢
        rcases Nat.lt_or_ge i a.length with hia | hia
        · have hd : decide ((i : Int) < ((ptRs a).length : Int)) = true := decide_eq_true (by omega)
          obtain ⟨q, hq⟩ : ∃ q, a[i]? = some q := ⟨_, List.getElem?_eq_getElem hia⟩
          have hqr := ptRs_at hq
          have hdi : a.drop i = q :: a.drop (i + 1) := by rw [List.drop_eq_getElem_cons hia]; congr 1; rw [List.getElem?_eq_getElem hia] at hq; exact Option.some.inj hq
          have hqd : ∀ y ∈ a.drop (i + 1), q.1 < y.1 := fun y hy => by
            have := asc_drop i hva'.asc
            rw [hdi] at this
            exact (asc_cons.1 this).1 y hy
          by_cases h1 : q.1 < p.1
          · have hd1 : decide (q.1 < p.1) = true := decide_eq_true h1
            repeat' (first | (refine is_al ?_; (first | (refine is_move ?_; (first | refine al_v (opx_move (.raw _)) ⟨rfl, trivial⟩ trivial rfl ?_ | refine al_v (opx_move (.sl _ _)) ⟨rfl, trivial⟩ trivial rfl ?_ | refine al_v (opx_move (.own _)) ⟨rfl, trivial⟩ trivial rfl ?_)) | (refine is_bin ?_; refine al_v (opx_add (by unfold InR; omega)) ⟨rfl, rfl, trivial⟩ trivial rfl ?_) | (refine is_load ?_; refine al_v opx_ld2_imm ⟨rfl, trivial⟩ trivial rfl ?_) | (refine is_assign ?_; (first | refine al_v (opx_assign (.raw _)) ⟨rfl, trivial⟩ trivial rfl ?_ | refine al_v (opx_assign (.own _)) ⟨rfl, trivial⟩ trivial rfl ?_)) | (refine is_ia ?_; refine al_v (opx_ia_sl2 hqr (by omega)) ⟨rfl, rfl, trivial⟩ trivial rfl ?_) | (refine is_bs ?_; refine al_pushP ⟨rfl, trivial⟩ rfl rfl rfl rfl rfl (by omega) ?_) | refine al_nil ?_)) | (refine is_ad ?_; (first | (refine isd_gd ?_; (first | (refine isd_move ?_; (first | refine ad_on rfl rfl (by assumption) (opx_move (.raw _)) ⟨rfl, trivial⟩ trivial rfl ?_ | refine ad_on rfl rfl (by assumption) (opx_move (.sl _ _)) ⟨rfl, trivial⟩ trivial rfl ?_)) | (refine isd_bin ?_; refine ad_on rfl rfl (by assumption) opx_lss ⟨rfl, rfl, trivial⟩ trivial rfl ?_) | (refine isd_load ?_; (first | refine ad_on rfl rfl (by assumption) opx_ld_imm ⟨rfl, trivial⟩ trivial rfl ?_ | refine ad_on rfl rfl (by assumption) (opx_ld_box rfl) ⟨rfl, trivial⟩ ⟨rfl, trivial⟩ rfl ?_)) | (refine isd_fa ?_; (first | refine ad_on rfl rfl (by assumption) opx_fa_ref ⟨rfl, trivial⟩ trivial rfl ?_ | refine ad_on rfl rfl (by assumption) opx_fa_imm0 ⟨rfl, trivial⟩ trivial rfl ?_)) | (refine isd_ia ?_; refine ad_on rfl rfl (by assumption) (opx_ia_sl2 hqr (by omega)) ⟨rfl, rfl, trivial⟩ trivial rfl ?_))) | (refine isd_move ?_; (first | refine ad_v (opx_move (.raw _)) ⟨rfl, trivial⟩ trivial rfl ?_ | refine ad_v (opx_move (.sl _ _)) ⟨rfl, trivial⟩ trivial rfl ?_)) | (refine isd_bin ?_; refine ad_v opx_lss ⟨rfl, rfl, trivial⟩ trivial rfl ?_) | (refine isd_pick ?_; refine ad_v (opx_pick_t (.raw _) (by assumption)) ⟨rfl, rfl, trivial⟩ trivial rfl ?_) | (refine isd_bi ?_; refine ad_v opx_len_sl ⟨rfl, trivial⟩ trivial rfl ?_) | refine ad_nil (by kernel_rfl) ?_)) | (refine is_aw ?_; (first | refine aw_seq ?_ | refine aw_region ?_ | refine aw_skip ?_ | refine aw_block ?_ | (refine is_cond ?_; refine aw_cond_t rfl (by assumption) ?_) | refine aw_draw mixed ?_)) | refine thn_n ?_ | refine inb_n ?_)
            exact ⟨(out ++ [q], i + 1), ⟨by dsimp only; omega, by simp; omega, by dsimp only; rw [List.append_assoc, List.singleton_append, ← hdi]; exact hinv, all_snoc hlast h1⟩, by dsimp only; omega, le_mk [3, 1] rfl rfl rfl rfl ⟨rfl, rfl, rfl, rfl, rfl, rfl, rfl, rfl, rfl, rfl, trivial⟩ ⟨rfl, rfl, trivial⟩⟩
          · have hd1 : decide (q.1 < p.1) = false := decide_eq_false h1
            by_cases h2 : q.1 = p.1
            · have hd2 : decide (q.1 = p.1) = true := decide_eq_true h2
              repeat' (first | (refine is_al ?_; (first | (refine is_move ?_; (first | refine al_v (opx_move (.raw _)) ⟨rfl, trivial⟩ trivial rfl ?_ | refine al_v (opx_move (.own _)) ⟨rfl, trivial⟩ trivial rfl ?_)) | (refine is_bin ?_; refine al_v (opx_add (by unfold InR; omega)) ⟨rfl, rfl, trivial⟩ trivial rfl ?_) | (refine is_load ?_; refine al_v opx_ld2_box ⟨rfl, trivial⟩ ⟨rfl, trivial⟩ rfl ?_) | (refine is_assign ?_; (first | refine al_v (opx_assign (.raw _)) ⟨rfl, trivial⟩ trivial rfl ?_ | refine al_v (opx_assign (.own _)) ⟨rfl, trivial⟩ trivial rfl ?_)) | (refine is_bs ?_; refine al_pushP ⟨rfl, trivial⟩ rfl rfl rfl rfl rfl (by omega) ?_) | refine al_nil ?_)) | (refine is_ad ?_; (first | (refine isd_gd ?_; (first | (refine isd_move ?_; (first | refine ad_on rfl rfl (by assumption) (opx_move (.raw _)) ⟨rfl, trivial⟩ trivial rfl ?_ | refine ad_on rfl rfl (by assumption) (opx_move (.sl _ _)) ⟨rfl, trivial⟩ trivial rfl ?_)) | (refine isd_bin ?_; (first | refine ad_on rfl rfl (by assumption) opx_eql ⟨rfl, rfl, trivial⟩ trivial rfl ?_ | refine ad_on rfl rfl (by assumption) opx_lss ⟨rfl, rfl, trivial⟩ trivial rfl ?_)) | (refine isd_load ?_; (first | refine ad_on rfl rfl (by assumption) opx_ld_imm ⟨rfl, trivial⟩ trivial rfl ?_ | refine ad_on rfl rfl (by assumption) (opx_ld_box rfl) ⟨rfl, trivial⟩ ⟨rfl, trivial⟩ rfl ?_)) | (refine isd_fa ?_; (first | refine ad_on rfl rfl (by assumption) opx_fa_ref ⟨rfl, trivial⟩ trivial rfl ?_ | refine ad_on rfl rfl (by assumption) opx_fa_imm0 ⟨rfl, trivial⟩ trivial rfl ?_)) | (refine isd_ia ?_; refine ad_on rfl rfl (by assumption) (opx_ia_sl2 hqr (by omega)) ⟨rfl, rfl, trivial⟩ trivial rfl ?_))) | (refine isd_move ?_; (first | refine ad_v (opx_move (.raw _)) ⟨rfl, trivial⟩ trivial rfl ?_ | refine ad_v (opx_move (.sl _ _)) ⟨rfl, trivial⟩ trivial rfl ?_)) | (refine isd_bin ?_; refine ad_v opx_lss ⟨rfl, rfl, trivial⟩ trivial rfl ?_) | (refine isd_pick ?_; refine ad_v (opx_pick_t (.raw _) (by assumption)) ⟨rfl, rfl, trivial⟩ trivial rfl ?_) | (refine isd_bi ?_; refine ad_v opx_len_sl ⟨rfl, trivial⟩ trivial rfl ?_) | refine ad_nil (by kernel_rfl) ?_)) | (refine is_aw ?_; (first | refine aw_seq ?_ | refine aw_region ?_ | refine aw_exit ?_ | (refine is_cond ?_; (first | refine aw_cond_t rfl (by assumption) ?_ | refine aw_cond_f rfl (by assumption) ?_)) | refine aw_draw mixed ?_)) | refine thn_n ?_)
              refine ⟨(k + 1, out ++ [p], i + 1), ⟨by dsimp only; omega, by dsimp only; omega, by simp; omega, ?_, ?_⟩, by dsimp only; omega, le_mk [3] rfl rfl rfl rfl ⟨rfl, rfl, rfl, rfl, rfl, rfl, rfl, rfl, rfl, trivial⟩ ⟨rfl, trivial⟩⟩
              · dsimp only
                rw [hbase, ← hinv, hdi, put_over hlast h2 (fun y hy => by have := hqd y hy; omega), List.append_assoc]; rfl
              · exact all_snoc (fun x hx y hy => by have := hlast x hx; have := hpd y hy; omega) hpd
            · have hd2 : decide (q.1 = p.1) = false := decide_eq_false h2
              repeat' (first | (refine is_al ?_; (first | (refine is_move ?_; (first | refine al_v (opx_move (.raw _)) ⟨rfl, trivial⟩ trivial rfl ?_ | refine al_v (opx_move (.own _)) ⟨rfl, trivial⟩ trivial rfl ?_)) | (refine is_bin ?_; refine al_v (opx_add (by unfold InR; omega)) ⟨rfl, rfl, trivial⟩ trivial rfl ?_) | (refine is_load ?_; refine al_v opx_ld2_box ⟨rfl, trivial⟩ ⟨rfl, trivial⟩ rfl ?_) | (refine is_assign ?_; refine al_v (opx_assign (.own _)) ⟨rfl, trivial⟩ trivial rfl ?_) | (refine is_bs ?_; refine al_pushP ⟨rfl, trivial⟩ rfl rfl rfl rfl rfl (by omega) ?_) | refine al_nil ?_)) | (refine is_ad ?_; (first | (refine isd_gd ?_; (first | (refine isd_move ?_; (first | refine ad_on rfl rfl (by assumption) (opx_move (.raw _)) ⟨rfl, trivial⟩ trivial rfl ?_ | refine ad_on rfl rfl (by assumption) (opx_move (.sl _ _)) ⟨rfl, trivial⟩ trivial rfl ?_)) | (refine isd_bin ?_; (first | refine ad_on rfl rfl (by assumption) opx_eql ⟨rfl, rfl, trivial⟩ trivial rfl ?_ | refine ad_on rfl rfl (by assumption) opx_lss ⟨rfl, rfl, trivial⟩ trivial rfl ?_)) | (refine isd_load ?_; (first | refine ad_on rfl rfl (by assumption) opx_ld_imm ⟨rfl, trivial⟩ trivial rfl ?_ | refine ad_on rfl rfl (by assumption) (opx_ld_box rfl) ⟨rfl, trivial⟩ ⟨rfl, trivial⟩ rfl ?_)) | (refine isd_fa ?_; (first | refine ad_on rfl rfl (by assumption) opx_fa_ref ⟨rfl, trivial⟩ trivial rfl ?_ | refine ad_on rfl rfl (by assumption) opx_fa_imm0 ⟨rfl, trivial⟩ trivial rfl ?_)) | (refine isd_ia ?_; refine ad_on rfl rfl (by assumption) (opx_ia_sl2 hqr (by omega)) ⟨rfl, rfl, trivial⟩ trivial rfl ?_))) | (refine isd_move ?_; (first | refine ad_v (opx_move (.raw _)) ⟨rfl, trivial⟩ trivial rfl ?_ | refine ad_v (opx_move (.sl _ _)) ⟨rfl, trivial⟩ trivial rfl ?_)) | (refine isd_bin ?_; refine ad_v opx_lss ⟨rfl, rfl, trivial⟩ trivial rfl ?_) | (refine isd_pick ?_; refine ad_v (opx_pick_t (.raw _) (by assumption)) ⟨rfl, rfl, trivial⟩ trivial rfl ?_) | (refine isd_bi ?_; refine ad_v opx_len_sl ⟨rfl, trivial⟩ trivial rfl ?_) | refine ad_nil (by kernel_rfl) ?_)) | (refine is_aw ?_; (first | refine aw_seq ?_ | refine aw_region ?_ | refine aw_skip ?_ | refine aw_exit ?_ | (refine is_cond ?_; refine aw_cond_f rfl (by assumption) ?_) | refine aw_draw mixed ?_)) | refine thn_n ?_)
              refine ⟨(k + 1, out ++ [p], i), ⟨by dsimp only; omega, by dsimp only; omega, by simp; omega, ?_, ?_⟩, by dsimp only; omega, le_mk [3] rfl rfl rfl rfl ⟨rfl, rfl, rfl, rfl, rfl, rfl, rfl, rfl, rfl, trivial⟩ ⟨rfl, trivial⟩⟩
              · dsimp only
                rw [hbase, ← hinv, hdi, put_mid hlast (fun y hy => by
                  rcases List.mem_cons.1 hy with rfl | hy
                  · omega
                  · have := hqd y hy; omega), List.append_assoc]; rfl
              · exact all_snoc (fun x hx y hy => by have := hlast x hx; have := hpd y hy; omega) hpd
        · have hd : decide ((i : Int) < ((ptRs a).length : Int)) = false := decide_eq_false (by omega)
          have hdi : a.drop i = [] := List.drop_eq_nil_of_le hia
          repeat' (first | (refine is_al ?_; (first | (refine is_move ?_; (first | refine al_v (opx_move (.raw _)) ⟨rfl, trivial⟩ trivial rfl ?_ | refine al_v (opx_move (.own _)) ⟨rfl, trivial⟩ trivial rfl ?_)) | (refine is_bin ?_; refine al_v (opx_add (by unfold InR; omega)) ⟨rfl, rfl, trivial⟩ trivial rfl ?_) | (refine is_load ?_; refine al_v opx_ld2_box ⟨rfl, trivial⟩ ⟨rfl, trivial⟩ rfl ?_) | (refine is_assign ?_; refine al_v (opx_assign (.own _)) ⟨rfl, trivial⟩ trivial rfl ?_) | (refine is_bs ?_; refine al_pushP ⟨rfl, trivial⟩ rfl rfl rfl rfl rfl (by omega) ?_) | refine al_nil ?_)) | (refine is_ad ?_; (first | (refine isd_gd ?_; refine ad_off rfl rfl (by assumption) rfl ?_) | (refine isd_move ?_; (first | refine ad_v (opx_move (.raw _)) ⟨rfl, trivial⟩ trivial rfl ?_ | refine ad_v (opx_move (.sl _ _)) ⟨rfl, trivial⟩ trivial rfl ?_)) | (refine isd_bin ?_; refine ad_v opx_lss ⟨rfl, rfl, trivial⟩ trivial rfl ?_) | (refine isd_pick ?_; refine ad_v (opx_pick_f (.raw _) (by assumption)) ⟨rfl, rfl, trivial⟩ trivial rfl ?_) | (refine isd_bi ?_; refine ad_v opx_len_sl ⟨rfl, trivial⟩ trivial rfl ?_) | refine ad_nil (by kernel_rfl) ?_)) | (refine is_aw ?_; (first | refine aw_seq ?_ | refine aw_region ?_ | refine aw_skip ?_ | refine aw_exit ?_ | (refine is_cond ?_; refine aw_cond_f rfl rfl ?_) | refine aw_draw mixed ?_)) | refine thn_n ?_)
          refine ⟨(k + 1, out ++ [p], i), ⟨by dsimp only; omega, by dsimp only; omega, by simp; omega, ?_, ?_⟩, by dsimp only; omega, le_mk [3] rfl rfl rfl rfl ⟨rfl, rfl, rfl, rfl, rfl, rfl, rfl, rfl, rfl, trivial⟩ ⟨rfl, trivial⟩⟩
          · dsimp only
            rw [hbase, ← hinv, hdi, put_mid hlast (fun y hy => by cases hy)]; simp
          · exact all_snoc (fun x hx y hy => by have := hlast x hx; have := hpd y hy; omega) hpd
      · have hc : decide ((k : Int) < ((ptRs b).length : Int)) = false := decide_eq_false (by omega)
        rw [List.take_of_length_le hge] at hinv
        have hdl : (a.drop i).length ≤ a.length := by simp
        have hpl := ptRs_len (ps := out ++ a.drop i)
        repeat' (first | (refine is_al ?_; (first | (refine is_move ?_; (first | refine al_v (opx_move (.raw _)) ⟨rfl, trivial⟩ trivial rfl ?_ | refine al_v (opx_move (.sl _ _)) ⟨rfl, trivial⟩ trivial rfl ?_ | refine al_v (opx_move (.own _)) ⟨rfl, trivial⟩ trivial rfl ?_)) | (refine is_bin ?_; (first | refine al_v opx_lss ⟨rfl, rfl, trivial⟩ trivial rfl ?_ | refine al_v opx_gtr ⟨rfl, rfl, trivial⟩ trivial rfl ?_)) | (refine is_assign ?_; (first | refine al_v (opx_assign (.raw _)) ⟨rfl, trivial⟩ trivial rfl ?_ | refine al_v (opx_assign (.own _)) ⟨rfl, trivial⟩ trivial rfl ?_)) | (refine is_bi ?_; (first | refine al_v opx_len_own ⟨rfl, trivial⟩ ⟨rfl, trivial⟩ rfl ?_ | refine al_appPv rfl rfl rfl rfl rfl (by omega) ?_)) | refine al_nil ?_ | refine al_v (opx_cutL_sl (l := i) (rows' := ptRs (a.drop i)) ptRs_tl rfl (by omega)) ⟨rfl, rfl, trivial⟩ trivial rfl ?_)) | (refine is_ad ?_; refine al_v (opx_cutL_sl (l := i) (rows' := ptRs (a.drop i)) ptRs_tl rfl (by omega)) ⟨rfl, rfl, trivial⟩ trivial rfl ?_) | (refine is_aw ?_; (first | refine aw_seq ?_ | refine aw_region ?_ | refine aw_skip ?_ | refine aw_exit ?_ | (refine is_cond ?_; (first | refine aw_cond_f rfl (by assumption) ?_ | (refine aw_cond rfl ?_ ?_ <;> ((intro hgd; try exact absurd hgd (by decide)); (try (have hz := hgd; simp only [decide_eq_true_eq, decide_eq_false_iff_not, Bool.not_eq_true', Bool.not_eq_false', Bool.not_true, Bool.not_false, beq_iff_eq, Int.not_le, Int.not_lt] at hz)); (try (exfalso; omega)))))))) | refine thn_n ?_)
        · refine aw_le (le_ownNil 4 2 39 rfl) ?_
          repeat' (first | (refine is_aw ?_; refine aw_ret ?_) | refine thn_r ?_)
          have e : mrgB a b = false := by rw [mrgB, hva, hvb, decide_eq_false (by rw [← hinv]; omega)]; rfl
          exact ret_row_raw trivial rfl rfl rfl ⟨by rw [e], by rw [mrgR, e]; rfl⟩
        · repeat' (refine is_aw ?_; refine aw_ret ?_)
          have e : mrgB a b = true := by rw [mrgB, hva, hvb, decide_eq_true (by rw [← hinv]; omega)]; rfl
          exact ret_row_raw trivial rfl rfl rfl ⟨by rw [e], by rw [mrgR, if_pos e, hinv]⟩
    · have hva := vsB_t hva'
      have hvb := vsB_f hvb'
      have hn1 : (!vsB a) = false := by rw [hva]; rfl
      have hn2 : (!vsB b) = true := by rw [hvb]; rfl
      repeat' (first | (refine is_al ?_; (first | (refine is_gd ?_; refine al_on rfl rfl rfl (by assumption) ?_) | (refine is_move ?_; (first | refine al_v (opx_move (.raw _)) ⟨rfl, trivial⟩ trivial rfl ?_ | refine al_v (opx_move (.sl _ _)) ⟨rfl, trivial⟩ trivial rfl ?_)) | (refine is_assign ?_; refine al_v (opx_assign (.raw _)) ⟨rfl, trivial⟩ trivial rfl ?_) | (refine is_pick ?_; refine al_v (opx_pick_f (.raw _) (by assumption)) ⟨rfl, rfl, trivial⟩ trivial rfl ?_) | (refine is_call ?_; refine al_callv2 (by (repeat (first | exact .nil | refine .one rfl rfl ?_ | refine .froz rfl rfl ?_ | refine .row rfl rfl ?_ | refine .rnil rfl ?_ | refine .agg rfl (by (repeat (first | exact .nil | refine .cons (.same rfl) ?_ | refine .cons (.froz rfl) ?_ | refine .cons (.rnil) ?_ | refine .cons (.row rfl rfl) ?_)); (first | done | fail)) ?_)); (first | done | fail)) rfl (c_validSeries _) rfl ?_) | refine al_v opx_not ⟨rfl, trivial⟩ trivial rfl ?_ | refine al_nil ?_)) | (refine is_aw ?_; (first | refine aw_seq ?_ | refine aw_region ?_ | (refine is_cond ?_; refine aw_cond_t rfl (by assumption) ?_))) | refine thn_n ?_)
      refine aw_le (le_ownNil 4 2 39 rfl) ?_
      repeat' (first | (refine is_aw ?_; refine aw_ret ?_) | refine thn_r ?_)
      have e : mrgB a b = false := by rw [mrgB, hva, hvb]; rfl
      exact ret_row_raw trivial rfl rfl rfl ⟨by rw [e], by rw [mrgR, e]; rfl⟩
  · have hva := vsB_f hva'
    have hn1 : (!vsB a) = true := by rw [hva]; rfl
    repeat' (first | (refine is_al ?_; (first | (refine is_gd ?_; refine al_off rfl rfl rfl (by assumption) rfl ?_) | (refine is_move ?_; (first | refine al_v (opx_move (.raw _)) ⟨rfl, trivial⟩ trivial rfl ?_ | refine al_v (opx_move (.sl _ _)) ⟨rfl, trivial⟩ trivial rfl ?_)) | (refine is_assign ?_; refine al_v (opx_assign (.raw _)) ⟨rfl, trivial⟩ trivial rfl ?_) | (refine is_pick ?_; refine al_v (opx_pick_t (.raw _) (by assumption)) ⟨rfl, rfl, trivial⟩ trivial rfl ?_) | (refine is_call ?_; refine al_callv2 (by (repeat (first | exact .nil | refine .one rfl rfl ?_ | refine .froz rfl rfl ?_ | refine .row rfl rfl ?_ | refine .rnil rfl ?_ | refine .agg rfl (by (repeat (first | exact .nil | refine .cons (.same rfl) ?_ | refine .cons (.froz rfl) ?_ | refine .cons (.rnil) ?_ | refine .cons (.row rfl rfl) ?_)); (first | done | fail)) ?_)); (first | done | fail)) rfl (c_validSeries _) rfl ?_) | refine al_v opx_not ⟨rfl, trivial⟩ trivial rfl ?_ | refine al_nil ?_)) | (refine is_aw ?_; (first | refine aw_seq ?_ | refine aw_region ?_ | (refine is_cond ?_; refine aw_cond_t rfl rfl ?_))) | refine thn_n ?_)
    refine aw_le (le_ownNil 4 2 39 rfl) ?_
    repeat' (first | (refine is_aw ?_; refine aw_ret ?_) | refine thn_r ?_)
    have e : mrgB a b = false := by rw [mrgB, hva]; rfl
    exact ret_row_raw trivial rfl rfl rfl ⟨by rw [e], by rw [mrgR, e]; rfl⟩
theorem c_MergeSeries' (a b : List Pt) : Con Try.prog 18 [slP a, slP b] [] (fun rs all => rs = [slP (mrgR a b), rB (mrgB a b)] ∧ all = []) :=
  (c_MergeSeries a b).froz fun rs all ⟨h1, h2⟩ => by subst h1 h2; exact ⟨⟨rfl, rfl⟩, rfl⟩
end Go.Proofs.Ytekjcejmmhdnkaa
