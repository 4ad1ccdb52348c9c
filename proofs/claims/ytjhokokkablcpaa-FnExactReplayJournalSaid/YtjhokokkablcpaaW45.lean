/-
  Journals: the reference's reading, writing and replaying: the walks.
-/
import Derived.Test.YtjhokokkablcpaaW44
namespace Go.Proofs.Ytjhokokkablcpaa
open Go.RowKit
set_option linter.unusedVariables false
set_option linter.unusedSimpArgs false
attribute [local irreducible] AL AW OpX Le AD

theorem c_sreadEntry_s {b : By} {r : Rec} (hb : b.length ≤ 1048576) (h : rdE b = some r) : Con Try.prog 35 [slB b] [] (fun rs all => rs = [.agg [.c (cI r.1), .c (cI r.2.1), .c (cI r.2.2)], rI ((ent r).length : Int)] ∧ all = []) := by
  have := c_sreadEntry b hb
  obtain ⟨e1, e2, e3⟩ := rdR_s h
  rw [e1, e2] at this
  exact this
theorem c_sreadEntry_n {b : By} (hb : b.length ≤ 1048576) (h : rdE b = none) : Con Try.prog 35 [slB b] [] (fun rs all => rs = [.agg [.c (cI 0), .c (cI 0), .c (cI 0)], rI 0] ∧ all = []) := by
  have := c_sreadEntry b hb
  obtain ⟨e1, e2, e3⟩ := rdR_n h
  rw [e1, e2] at this
  exact this
theorem c_sReadJournal (b : By) (hb : b.length ≤ 1048576) : Con Try.prog 22 [slB b] [] (fun rs all => rs = [.one (.own 0), rI (rdM b)] ∧ all = [.row 3 40 (rcRs (rdL b))]) := by
  have hl := byRs_len (bs := b)
  refine con_of_aw (vars := [.tmp 2, .tmp 3]) [(0, .r (slB b))] [] 0 Try.func22 (by kernel_rfl) rfl Try.ntmps22 rfl (by decide) rfl rfl rfl rfl rfl ?_
  intro B M w0 ρ0 Z0
  by_cases h1 : b.length ≤ 200
  · have d1 : decide (200 < ((byRs b).length : Int)) = false := decide_eq_false (by omega)
    repeat' (first | (refine is_al ?_; (first | (refine is_move ?_; refine al_v (opx_move (.sl _ _)) ⟨rfl, trivial⟩ trivial rfl ?_) | (refine is_bin ?_; refine al_v opx_gtr ⟨rfl, rfl, trivial⟩ trivial rfl ?_) | (refine is_assign ?_; (first | refine al_v (opx_assign (.raw _)) ⟨rfl, trivial⟩ trivial rfl ?_ | refine al_v (opx_assign (.own _)) ⟨rfl, trivial⟩ trivial rfl ?_)) | (refine is_bi ?_; refine al_v opx_len_sl ⟨rfl, trivial⟩ trivial rfl ?_) | (refine is_bs ?_; refine al_n opx_lit0 trivial trivial rfl ?_) | refine al_nil ?_)) | (refine is_aw ?_; (first | refine aw_seq ?_ | refine aw_region ?_ | refine aw_skip ?_ | refine aw_block ?_ | (refine is_cond ?_; refine aw_cond_f rfl (by assumption) ?_))))
    refine aw_loop (γ := List Rec) (fun l => [(0, .r (slB b)), (4, .own 0), (5, .i ((ents l).length : Int))]) (fun l => [(0, .row 3 40 (rcRs l))]) (fun _ => 1)
      (fun l => ents l <+: b ∧ ∀ r ∈ l, okRec r) (fun l => b.length - (ents l).length) [] ⟨List.nil_prefix, fun r hr => (by cases hr)⟩ (le_mk [0] rfl rfl rfl rfl ⟨rfl, rfl, rfl, trivial⟩ ⟨rfl, trivial⟩) ?_
    rintro l ⟨h2, h3⟩
    obtain ⟨y, hy⟩ := h2
    have hly : b.length = (ents l).length + y.length := by rw [← hy, List.length_append]
    have hdy : b.drop (ents l).length = y := by rw [← hy, List.drop_left]
    have hge := ents_ge (l := l)
    have hcut : ((byRs b).take (byRs b).length).drop (ents l).length = byRs y := by rw [byRs_tl, hdy]
    cases he : rdE y with
    | none =>
      have hj : rdJ b = l := by rw [← hy, rdJ_ents h3, rdJ_stop he, List.append_nil]
      have d0 : decide ((0 : Int) = 0) = true := rfl
      repeat' (first | (refine is_al ?_; (first | (refine is_move ?_; (first | refine al_v (opx_move (.raw _)) ⟨rfl, trivial⟩ trivial rfl ?_ | refine al_v (opx_move (.sl _ _)) ⟨rfl, trivial⟩ trivial rfl ?_ | refine al_v (opx_move (.own _)) ⟨rfl, trivial⟩ trivial rfl ?_ | refine al_v (opx_move (.tup _)) ⟨rfl, trivial⟩ trivial rfl ?_)) | (refine is_bin ?_; refine al_v opx_eql ⟨rfl, rfl, trivial⟩ trivial rfl ?_) | (refine is_assign ?_; (first | refine al_v (opx_assign (.raw _)) ⟨rfl, trivial⟩ trivial rfl ?_ | refine al_v (opx_assign (.own _)) ⟨rfl, trivial⟩ trivial rfl ?_)) | (refine is_call ?_; refine al_callF (by (repeat (first | exact .nil | refine .one rfl rfl ?_ | refine .froz rfl rfl ?_ | refine .rnil rfl ?_ | refine .agg rfl (by (repeat (first | exact .nil | refine .cons (.same rfl) ?_ | refine .cons (.froz rfl) ?_ | refine .cons (.rnil) ?_)); (first | done | fail)) ?_)); (first | done | fail)) rfl (c_sreadEntry_n (by omega) he) rfl ?_) | (refine is_st ?_; refine al_s (opx_sts_box (by rfl) (by rfl)) ⟨rfl, rfl, trivial⟩ ⟨rfl, trivial⟩ ?_) | refine al_v (opx_extract _ rfl) ⟨rfl, trivial⟩ trivial rfl ?_ | refine al_n opx_alloc trivial trivial rfl ?_ | refine al_nil ?_ | refine al_v (opx_cutL_sl (l := (ents l).length) (rows' := byRs y) hcut rfl (by omega)) ⟨rfl, rfl, trivial⟩ trivial rfl ?_)) | (refine is_ad ?_; refine al_v (opx_cutL_sl (l := (ents l).length) (rows' := byRs y) hcut rfl (by omega)) ⟨rfl, rfl, trivial⟩ trivial rfl ?_) | (refine is_aw ?_; (first | refine aw_seq ?_ | refine aw_region ?_ | refine aw_block ?_ | refine aw_ret ?_ | (refine is_cond ?_; refine aw_cond_t rfl rfl ?_))) | refine thn_r ?_ | refine inb_r ?_)
      exact ret_row_raw trivial rfl rfl rfl ⟨by rw [rdM, if_pos h1, hj], by rw [rdL, if_pos h1, hj]⟩
    | some r =>
      obtain ⟨k1, k2⟩ := rdE_iff.1 he
      have k3 := ent_len (r := r)
      have k4 := k2.length_le
      have hs := ents_snoc (l := l) (r := r)
      have d0 : decide (((ent r).length : Int) = 0) = false := decide_eq_false (by omega)
      repeat' (first | (refine is_al ?_; (first | (refine is_move ?_; (first | refine al_v (opx_move (.raw _)) ⟨rfl, trivial⟩ trivial rfl ?_ | refine al_v (opx_move (.sl _ _)) ⟨rfl, trivial⟩ trivial rfl ?_ | refine al_v (opx_move (.own _)) ⟨rfl, trivial⟩ trivial rfl ?_ | refine al_v (opx_move (.tup _)) ⟨rfl, trivial⟩ trivial rfl ?_)) | (refine is_bin ?_; (first | refine al_v opx_eql ⟨rfl, rfl, trivial⟩ trivial rfl ?_ | refine al_v (opx_add (by unfold InR; omega)) ⟨rfl, rfl, trivial⟩ trivial rfl ?_)) | (refine is_load ?_; refine al_v opx_ld3_box ⟨rfl, trivial⟩ ⟨rfl, trivial⟩ rfl ?_) | (refine is_assign ?_; (first | refine al_v (opx_assign (.raw _)) ⟨rfl, trivial⟩ trivial rfl ?_ | refine al_v (opx_assign (.own _)) ⟨rfl, trivial⟩ trivial rfl ?_)) | (refine is_call ?_; refine al_callF (by (repeat (first | exact .nil | refine .one rfl rfl ?_ | refine .froz rfl rfl ?_ | refine .rnil rfl ?_ | refine .agg rfl (by (repeat (first | exact .nil | refine .cons (.same rfl) ?_ | refine .cons (.froz rfl) ?_ | refine .cons (.rnil) ?_)); (first | done | fail)) ?_)); (first | done | fail)) rfl (c_sreadEntry_s (by omega) he) rfl ?_) | (refine is_st ?_; refine al_s (opx_sts_box (by rfl) (by rfl)) ⟨rfl, rfl, trivial⟩ ⟨rfl, trivial⟩ ?_) | refine al_v (opx_extract _ rfl) ⟨rfl, trivial⟩ trivial rfl ?_ | (refine is_bs ?_; refine al_pushR ⟨rfl, trivial⟩ rfl rfl rfl rfl rfl (by omega) ?_) | refine al_n opx_alloc trivial trivial rfl ?_ | refine al_nil ?_ | refine al_v (opx_cutL_sl (l := (ents l).length) (rows' := byRs y) hcut rfl (by omega)) ⟨rfl, rfl, trivial⟩ trivial rfl ?_)) | (refine is_ad ?_; refine al_v (opx_cutL_sl (l := (ents l).length) (rows' := byRs y) hcut rfl (by omega)) ⟨rfl, rfl, trivial⟩ trivial rfl ?_) | (refine is_aw ?_; (first | refine aw_seq ?_ | refine aw_region ?_ | refine aw_skip ?_ | refine aw_block ?_ | (refine is_cond ?_; refine aw_cond_f rfl rfl ?_))) | refine thn_n ?_ | refine inb_n ?_)
      exact ⟨l ++ [r], ⟨by rw [hs, ← hy]; exact (List.prefix_append_right_inj _).2 k2, all_snoc h3 k1⟩, by rw [hs, List.length_append]; omega, le_mk [3] rfl rfl rfl rfl ⟨rfl, rfl, by rw [hs, List.length_append]; exact congrArg AV.i (by omega), trivial⟩ ⟨rfl, trivial⟩⟩
  · have d1 : decide (200 < ((byRs b).length : Int)) = true := decide_eq_true (by omega)
    repeat' (first | (refine is_al ?_; (first | (refine is_move ?_; refine al_v (opx_move (.sl _ _)) ⟨rfl, trivial⟩ trivial rfl ?_) | (refine is_bin ?_; refine al_v opx_gtr ⟨rfl, rfl, trivial⟩ trivial rfl ?_) | (refine is_assign ?_; (first | refine al_v (opx_assign (.raw _)) ⟨rfl, trivial⟩ trivial rfl ?_ | refine al_v (opx_assign (.own _)) ⟨rfl, trivial⟩ trivial rfl ?_)) | (refine is_bi ?_; refine al_v opx_len_sl ⟨rfl, trivial⟩ trivial rfl ?_) | (refine is_bs ?_; refine al_n opx_lit0 trivial trivial rfl ?_) | refine al_nil ?_)) | (refine is_aw ?_; (first | refine aw_seq ?_ | refine aw_region ?_ | (refine is_cond ?_; refine aw_cond_t rfl (by assumption) ?_))) | refine thn_n ?_)
    refine aw_le (le_ownNil 2 3 40 rfl) ?_
    repeat' (first | (refine is_aw ?_; refine aw_ret ?_) | refine thn_r ?_)
    exact ret_row_raw trivial rfl rfl rfl ⟨by rw [rdM, if_neg h1], by rw [rdL, if_neg h1]; rfl⟩
theorem c_sReadJournal' (b : By) (hb : b.length ≤ 1048576) : Con Try.prog 22 [slB b] [] (fun rs all => rs = [.one (.c (.sl 3 (rcRs (rdL b)))), rI (rdM b)] ∧ all = []) :=
  (c_sReadJournal b hb).froz fun rs all ⟨h1, h2⟩ => by subst h1 h2; exact ⟨⟨rfl, rfl⟩, rfl⟩
theorem c_sReplayJournal (b : By) (s : Int) (hb : b.length ≤ 1048576) : Con Try.prog 7 [slB b, rI s] [] (fun rs all => rs = [.one (.own 0), rB (rpB b s)] ∧ all = [.row 2 38 (ptRs (rpR b s))]) := by
  refine con_of_aw (vars := [.tmp 4, .tmp 5]) [(0, .r (slB b)), (1, .r (rI s))] [] 0 Try.func7 (by kernel_rfl) rfl Try.ntmps7 rfl (by decide) rfl rfl rfl rfl rfl ?_
  intro B M w0 ρ0 Z0
  by_cases h1 : b.length ≤ 200
  · have d1 : decide (rdM b < 0) = false := decide_eq_false (by rw [rdM, if_pos h1]; omega)
    by_cases h2 : 0 ≤ s ∧ s ≤ 7
    · have d2 : (!decide (0 ≤ s ∧ s ≤ 7)) = false := by rw [decide_eq_true h2]; rfl
      have hL : rdL b = rdJ b := by rw [rdL, if_pos h1]
      have hok := rdJ_okr (b := b)
      have hlr := rcRs_len (xs := rdJ b)
      have hll : (rdJ b).length ≤ 200 := by
        have a1 := ents_ge (l := rdJ b)
        have a2 := (rdJ_pre (b := b)).length_le
        omega
      repeat' (first | (refine is_al ?_; (first | (refine is_gd ?_; refine al_on rfl rfl rfl (by assumption) ?_) | (refine is_move ?_; (first | refine al_v (opx_move (.raw _)) ⟨rfl, trivial⟩ trivial rfl ?_ | refine al_v (opx_move (.sl _ _)) ⟨rfl, trivial⟩ trivial rfl ?_ | refine al_v (opx_move (.tup _)) ⟨rfl, trivial⟩ trivial rfl ?_)) | (refine is_bin ?_; refine al_v opx_lss ⟨rfl, rfl, trivial⟩ trivial rfl ?_) | (refine is_assign ?_; (first | refine al_v (opx_assign (.raw _)) ⟨rfl, trivial⟩ trivial rfl ?_ | refine al_v (opx_assign (.sl _ _)) ⟨rfl, trivial⟩ trivial rfl ?_ | refine al_v (opx_assign (.own _)) ⟨rfl, trivial⟩ trivial rfl ?_)) | (refine is_pick ?_; refine al_v (opx_pick_f (.raw _) (by assumption)) ⟨rfl, rfl, trivial⟩ trivial rfl ?_) | (refine is_call ?_; (first | refine al_callF (by (repeat (first | exact .nil | refine .one rfl rfl ?_ | refine .froz rfl rfl ?_ | refine .rnil rfl ?_ | refine .agg rfl (by (repeat (first | exact .nil | refine .cons (.same rfl) ?_ | refine .cons (.froz rfl) ?_ | refine .cons (.rnil) ?_)); (first | done | fail)) ?_)); (first | done | fail)) rfl (c_sReadJournal' _ hb) rfl ?_ | refine al_callv2 (by (repeat (first | exact .nil | refine .one rfl rfl ?_ | refine .froz rfl rfl ?_ | refine .row rfl rfl ?_ | refine .rnil rfl ?_ | refine .agg rfl (by (repeat (first | exact .nil | refine .cons (.same rfl) ?_ | refine .cons (.froz rfl) ?_ | refine .cons (.rnil) ?_ | refine .cons (.row rfl rfl) ?_)); (first | done | fail)) ?_)); (first | done | fail)) rfl (c_inRange _ _ _) rfl ?_)) | refine al_v opx_not ⟨rfl, trivial⟩ trivial rfl ?_ | refine al_v (opx_extract _ rfl) ⟨rfl, trivial⟩ trivial rfl ?_ | (refine is_bs ?_; refine al_n opx_lit0 trivial trivial rfl ?_) | refine al_nil ?_)) | (refine is_aw ?_; (first | refine aw_seq ?_ | refine aw_region ?_ | refine aw_skip ?_ | refine aw_block ?_ | (refine is_cond ?_; refine aw_cond_f rfl (by assumption) ?_))))
      rw [hL]
      refine aw_loop (γ := Nat) (fun k => [(1, .i s), (6, .sl 3 (rcRs (rdJ b))), (8, .own 0), (9, .i (k : Int))]) (fun k => [(0, .row 2 38 (ptRs (rpl ((rdJ b).take k) s)))]) (fun _ => 1)
        (fun k => k ≤ (rdJ b).length) (fun k => (rdJ b).length - k) 0 (Nat.zero_le _) (le_mk [0] rfl rfl rfl rfl ⟨rfl, rfl, rfl, rfl, trivial⟩ ⟨rfl, trivial⟩) ?_
      intro k hk
      have hrl := puts_len (a := []) (b := pts ((rdJ b).take k) s)
      have hpl : (pts ((rdJ b).take k) s).length ≤ (rdJ b).length := by
        unfold pts
        rw [List.length_map]
        have := List.length_filter_le (fun r : Rec => decide (r.1 = s)) ((rdJ b).take k)
        rw [List.length_take] at this; omega
      have hrl2 : (rpl ((rdJ b).take k) s).length ≤ 200 := by
        have e : (rpl ((rdJ b).take k) s).length = (puts [] (pts ((rdJ b).take k) s)).length := rfl
        rw [List.length_nil] at hrl
        omega
      rcases Nat.lt_or_ge k (rdJ b).length with hlt | hge
      · have hc1 : decide ((k : Int) < ((rcRs (rdJ b)).length : Int)) = true := decide_eq_true (by omega)
        obtain ⟨r, hr⟩ : ∃ r, (rdJ b)[k]? = some r := ⟨_, List.getElem?_eq_getElem hlt⟩
        have hrr := rcRs_at hr
        by_cases h5 : r.1 = s
        · have d5 : decide (r.1 = s) = true := decide_eq_true h5
          have ht := rpl_take_t hr h5
          repeat' (first | (refine is_al ?_; (first | (refine is_move ?_; (first | refine al_v (opx_move (.raw _)) ⟨rfl, trivial⟩ trivial rfl ?_ | refine al_v (opx_move (.sl _ _)) ⟨rfl, trivial⟩ trivial rfl ?_ | refine al_v (opx_move (.own _)) ⟨rfl, trivial⟩ trivial rfl ?_)) | (refine is_bin ?_; (first | refine al_v opx_eql ⟨rfl, rfl, trivial⟩ trivial rfl ?_ | refine al_v opx_lss ⟨rfl, rfl, trivial⟩ trivial rfl ?_ | refine al_v (opx_add (by unfold InR; omega)) ⟨rfl, rfl, trivial⟩ trivial rfl ?_)) | (refine is_load ?_; (first | refine al_v opx_ld_imm ⟨rfl, trivial⟩ trivial rfl ?_ | refine al_v opx_ld2_imm ⟨rfl, trivial⟩ trivial rfl ?_)) | (refine is_fa ?_; (first | refine al_v opx_fa_imm0 ⟨rfl, trivial⟩ trivial rfl ?_ | refine al_v opx_fa_imm1 ⟨rfl, trivial⟩ trivial rfl ?_)) | (refine is_assign ?_; (first | refine al_v (opx_assign (.raw _)) ⟨rfl, trivial⟩ trivial rfl ?_ | refine al_v (opx_assign (.own _)) ⟨rfl, trivial⟩ trivial rfl ?_)) | (refine is_bi ?_; refine al_v opx_len_sl ⟨rfl, trivial⟩ trivial rfl ?_) | (refine is_ia ?_; refine al_v (opx_ia_sl2 hrr (by omega)) ⟨rfl, rfl, trivial⟩ trivial rfl ?_) | (refine is_call ?_; refine al_callr_ro2 (by (repeat (first | exact .nil | refine .one rfl rfl ?_ | refine .froz rfl rfl ?_ | refine .row rfl rfl rfl ?_ | refine .rnil rfl ?_ | refine .agg rfl (by (repeat (first | exact .nil | refine .cons (.same rfl) ?_ | refine .cons (.froz rfl) ?_ | refine .cons (.rnil) ?_ | refine .cons (.row rfl rfl) ?_)); (first | done | fail)) ?_)); (first | done | fail)) rfl (c_sPut _ _ _ (by omega)) (by first | assumption | exact ptRs_flat | exact inRs_flat | exact byRs_flat | exact lbRs_flat | exact stRs_flat | exact rcRs_flat | simp [flatRows, CV.flat]) ?_) | refine al_nil ?_)) | (refine is_aw ?_; (first | refine aw_seq ?_ | refine aw_region ?_ | refine aw_skip ?_ | refine aw_block ?_ | (refine is_cond ?_; refine aw_cond_t rfl (by assumption) ?_))) | refine thn_n ?_)
          exact ⟨k + 1, hlt, by omega, le_mk [1] rfl rfl rfl rfl ⟨rfl, rfl, rfl, rfl, trivial⟩ ⟨by rw [ht]; rfl, trivial⟩⟩
        · have d5 : decide (r.1 = s) = false := decide_eq_false h5
          have ht := rpl_take_f hr h5
          repeat' (first | (refine is_al ?_; (first | (refine is_move ?_; (first | refine al_v (opx_move (.raw _)) ⟨rfl, trivial⟩ trivial rfl ?_ | refine al_v (opx_move (.sl _ _)) ⟨rfl, trivial⟩ trivial rfl ?_)) | (refine is_bin ?_; (first | refine al_v opx_eql ⟨rfl, rfl, trivial⟩ trivial rfl ?_ | refine al_v opx_lss ⟨rfl, rfl, trivial⟩ trivial rfl ?_ | refine al_v (opx_add (by unfold InR; omega)) ⟨rfl, rfl, trivial⟩ trivial rfl ?_)) | (refine is_load ?_; refine al_v opx_ld_imm ⟨rfl, trivial⟩ trivial rfl ?_) | (refine is_fa ?_; refine al_v opx_fa_imm0 ⟨rfl, trivial⟩ trivial rfl ?_) | (refine is_assign ?_; refine al_v (opx_assign (.raw _)) ⟨rfl, trivial⟩ trivial rfl ?_) | (refine is_bi ?_; refine al_v opx_len_sl ⟨rfl, trivial⟩ trivial rfl ?_) | (refine is_ia ?_; refine al_v (opx_ia_sl2 hrr (by omega)) ⟨rfl, rfl, trivial⟩ trivial rfl ?_) | refine al_nil ?_)) | (refine is_aw ?_; (first | refine aw_seq ?_ | refine aw_region ?_ | refine aw_skip ?_ | refine aw_block ?_ | (refine is_cond ?_; (first | refine aw_cond_t rfl (by assumption) ?_ | refine aw_cond_f rfl (by assumption) ?_)))) | refine thn_n ?_)
          exact ⟨k + 1, hlt, by omega, le_mk [0] rfl rfl rfl rfl ⟨rfl, rfl, rfl, rfl, trivial⟩ ⟨by rw [ht]; rfl, trivial⟩⟩
      · have hc1 : decide ((k : Int) < ((rcRs (rdJ b)).length : Int)) = false := decide_eq_false (by omega)
        rw [List.take_of_length_le hge]
        have hpl2 := ptRs_len (ps := rpl (rdJ b) s)
        by_cases h6 : (rpl (rdJ b) s).length ≤ 16
        · have d6 : decide (16 < ((ptRs (rpl (rdJ b) s)).length : Int)) = false := decide_eq_false (by omega)
          have ht := rpB_t h1 ⟨by omega, by omega⟩ h6
          repeat' (first | (refine is_al ?_; (first | (refine is_move ?_; (first | refine al_v (opx_move (.raw _)) ⟨rfl, trivial⟩ trivial rfl ?_ | refine al_v (opx_move (.sl _ _)) ⟨rfl, trivial⟩ trivial rfl ?_ | refine al_v (opx_move (.own _)) ⟨rfl, trivial⟩ trivial rfl ?_)) | (refine is_bin ?_; (first | refine al_v opx_lss ⟨rfl, rfl, trivial⟩ trivial rfl ?_ | refine al_v opx_gtr ⟨rfl, rfl, trivial⟩ trivial rfl ?_)) | (refine is_assign ?_; (first | refine al_v (opx_assign (.raw _)) ⟨rfl, trivial⟩ trivial rfl ?_ | refine al_v (opx_assign (.own _)) ⟨rfl, trivial⟩ trivial rfl ?_)) | (refine is_bi ?_; (first | refine al_v opx_len_sl ⟨rfl, trivial⟩ trivial rfl ?_ | refine al_v opx_len_own ⟨rfl, trivial⟩ ⟨rfl, trivial⟩ rfl ?_)) | refine al_nil ?_)) | (refine is_aw ?_; (first | refine aw_seq ?_ | refine aw_region ?_ | refine aw_skip ?_ | refine aw_ret ?_ | refine aw_exit ?_ | (refine is_cond ?_; refine aw_cond_f rfl (by assumption) ?_))))
          exact ret_row_raw trivial rfl rfl rfl ⟨by rw [ht], by rw [rpR, if_pos ht]⟩
        · have d6 : decide (16 < ((ptRs (rpl (rdJ b) s)).length : Int)) = true := decide_eq_true (by omega)
          have hf : rpB b s = false := rpB_f fun h => h6 h.2.2
          repeat' (first | (refine is_al ?_; (first | (refine is_move ?_; (first | refine al_v (opx_move (.raw _)) ⟨rfl, trivial⟩ trivial rfl ?_ | refine al_v (opx_move (.sl _ _)) ⟨rfl, trivial⟩ trivial rfl ?_ | refine al_v (opx_move (.own _)) ⟨rfl, trivial⟩ trivial rfl ?_)) | (refine is_bin ?_; (first | refine al_v opx_lss ⟨rfl, rfl, trivial⟩ trivial rfl ?_ | refine al_v opx_gtr ⟨rfl, rfl, trivial⟩ trivial rfl ?_)) | (refine is_assign ?_; refine al_v (opx_assign (.raw _)) ⟨rfl, trivial⟩ trivial rfl ?_) | (refine is_bi ?_; (first | refine al_v opx_len_sl ⟨rfl, trivial⟩ trivial rfl ?_ | refine al_v opx_len_own ⟨rfl, trivial⟩ ⟨rfl, trivial⟩ rfl ?_)) | refine al_nil ?_)) | (refine is_aw ?_; (first | refine aw_seq ?_ | refine aw_region ?_ | refine aw_exit ?_ | (refine is_cond ?_; (first | refine aw_cond_t rfl (by assumption) ?_ | refine aw_cond_f rfl (by assumption) ?_)))) | refine thn_n ?_)
          refine aw_le (le_ownNil 4 2 38 rfl) ?_
          repeat' (first | (refine is_aw ?_; refine aw_ret ?_) | refine thn_r ?_)
          exact ret_row_raw trivial rfl rfl rfl ⟨by rw [hf], by rw [rpR, hf]; rfl⟩
    · have d2 : (!decide (0 ≤ s ∧ s ≤ 7)) = true := by rw [decide_eq_false h2]; rfl
      have hf : rpB b s = false := rpB_f fun h => by have := h.2.1; omega
      repeat' (first | (refine is_al ?_; (first | (refine is_gd ?_; refine al_on rfl rfl rfl (by assumption) ?_) | (refine is_move ?_; (first | refine al_v (opx_move (.raw _)) ⟨rfl, trivial⟩ trivial rfl ?_ | refine al_v (opx_move (.sl _ _)) ⟨rfl, trivial⟩ trivial rfl ?_ | refine al_v (opx_move (.tup _)) ⟨rfl, trivial⟩ trivial rfl ?_)) | (refine is_bin ?_; refine al_v opx_lss ⟨rfl, rfl, trivial⟩ trivial rfl ?_) | (refine is_assign ?_; (first | refine al_v (opx_assign (.raw _)) ⟨rfl, trivial⟩ trivial rfl ?_ | refine al_v (opx_assign (.sl _ _)) ⟨rfl, trivial⟩ trivial rfl ?_ | refine al_v (opx_assign (.own _)) ⟨rfl, trivial⟩ trivial rfl ?_)) | (refine is_pick ?_; refine al_v (opx_pick_f (.raw _) (by assumption)) ⟨rfl, rfl, trivial⟩ trivial rfl ?_) | (refine is_call ?_; (first | refine al_callF (by (repeat (first | exact .nil | refine .one rfl rfl ?_ | refine .froz rfl rfl ?_ | refine .rnil rfl ?_ | refine .agg rfl (by (repeat (first | exact .nil | refine .cons (.same rfl) ?_ | refine .cons (.froz rfl) ?_ | refine .cons (.rnil) ?_)); (first | done | fail)) ?_)); (first | done | fail)) rfl (c_sReadJournal' _ hb) rfl ?_ | refine al_callv2 (by (repeat (first | exact .nil | refine .one rfl rfl ?_ | refine .froz rfl rfl ?_ | refine .row rfl rfl ?_ | refine .rnil rfl ?_ | refine .agg rfl (by (repeat (first | exact .nil | refine .cons (.same rfl) ?_ | refine .cons (.froz rfl) ?_ | refine .cons (.rnil) ?_ | refine .cons (.row rfl rfl) ?_)); (first | done | fail)) ?_)); (first | done | fail)) rfl (c_inRange _ _ _) rfl ?_)) | refine al_v opx_not ⟨rfl, trivial⟩ trivial rfl ?_ | refine al_v (opx_extract _ rfl) ⟨rfl, trivial⟩ trivial rfl ?_ | (refine is_bs ?_; refine al_n opx_lit0 trivial trivial rfl ?_) | refine al_nil ?_)) | (refine is_aw ?_; (first | refine aw_seq ?_ | refine aw_region ?_ | (refine is_cond ?_; refine aw_cond_t rfl (by assumption) ?_))) | refine thn_n ?_)
      refine aw_le (le_ownNil 4 2 38 rfl) ?_
      repeat' (first | (refine is_aw ?_; refine aw_ret ?_) | refine thn_r ?_)
      exact ret_row_raw trivial rfl rfl rfl ⟨by rw [hf], by rw [rpR, hf]; rfl⟩
  · have d1 : decide (rdM b < 0) = true := decide_eq_true (by rw [rdM, if_neg h1]; omega)
    have hf : rpB b s = false := rpB_f fun h => h1 h.1
    repeat' (first | (refine is_al ?_; (first | (refine is_gd ?_; refine al_off rfl rfl rfl (by assumption) rfl ?_) | (refine is_move ?_; (first | refine al_v (opx_move (.raw _)) ⟨rfl, trivial⟩ trivial rfl ?_ | refine al_v (opx_move (.sl _ _)) ⟨rfl, trivial⟩ trivial rfl ?_ | refine al_v (opx_move (.tup _)) ⟨rfl, trivial⟩ trivial rfl ?_)) | (refine is_bin ?_; refine al_v opx_lss ⟨rfl, rfl, trivial⟩ trivial rfl ?_) | (refine is_assign ?_; (first | refine al_v (opx_assign (.raw _)) ⟨rfl, trivial⟩ trivial rfl ?_ | refine al_v (opx_assign (.sl _ _)) ⟨rfl, trivial⟩ trivial rfl ?_ | refine al_v (opx_assign (.own _)) ⟨rfl, trivial⟩ trivial rfl ?_)) | (refine is_pick ?_; refine al_v (opx_pick_t (.raw _) (by assumption)) ⟨rfl, rfl, trivial⟩ trivial rfl ?_) | (refine is_call ?_; refine al_callF (by (repeat (first | exact .nil | refine .one rfl rfl ?_ | refine .froz rfl rfl ?_ | refine .rnil rfl ?_ | refine .agg rfl (by (repeat (first | exact .nil | refine .cons (.same rfl) ?_ | refine .cons (.froz rfl) ?_ | refine .cons (.rnil) ?_)); (first | done | fail)) ?_)); (first | done | fail)) rfl (c_sReadJournal' _ hb) rfl ?_) | refine al_v (opx_extract _ rfl) ⟨rfl, trivial⟩ trivial rfl ?_ | (refine is_bs ?_; refine al_n opx_lit0 trivial trivial rfl ?_) | refine al_nil ?_)) | (refine is_aw ?_; (first | refine aw_seq ?_ | refine aw_region ?_ | (refine is_cond ?_; refine aw_cond_t rfl rfl ?_))) | refine thn_n ?_)
    refine aw_le (le_ownNil 4 2 38 rfl) ?_
    repeat' (first | (refine is_aw ?_; refine aw_ret ?_) | refine thn_r ?_)
    exact ret_row_raw trivial rfl rfl rfl ⟨by rw [hf], by rw [rpR, hf]; rfl⟩
theorem c_sReplayJournal' (b : By) (s : Int) (hb : b.length ≤ 1048576) : Con Try.prog 7 [slB b, rI s] [] (fun rs all => rs = [slP (rpR b s), rB (rpB b s)] ∧ all = []) :=
  (c_sReplayJournal b s hb).froz fun rs all ⟨h1, h2⟩ => by subst h1 h2; exact ⟨⟨rfl, rfl⟩, rfl⟩
end Go.Proofs.Ytjhokokkablcpaa
