/- Texts: W91 W92 -/
import Derived.Test.YtokhfcfnhgianaaCG12
/-
  Valid samples: the walks.
-/
namespace Go.Proofs.Ytokhfcfnhgianaa
open Go.RowKit
set_option linter.unusedVariables false
set_option linter.unusedSimpArgs false
attribute [local irreducible] AL AW OpX Le AD

abbrev smA (s : Sm) : AR := .agg [.c (.sl 2 (lbRs s.1)), .c (cI s.2)]
def smBig (l : List Sm) : Prop := ∀ s ∈ l, s.1.length ≤ 2000000 ∧ (∀ x ∈ s.1, BIG x.1.length ∧ BIG x.2.length) ∧ -9223372036854775808 ≤ s.2 ∧ s.2 ≤ 9223372036854775807
def ixP (l : List Sm) (k : List Lb) : Int := if pos l k < l.length then (pos l k : Int) else -1
theorem c_place1 (k : List Lb) (s : Sm) (hs : s.1.length ≤ 2000000) : Con Try.prog 45 ([smA s] ++ capAR [[.sl 2 (lbRs k)]]) [] (fun rs all => rs = [rB (decide (s.1 = k))] ∧ all = []) := by
  refine con_of_aw (vars := [.tmp 3]) [(0, .r (smA s)), (1, .imm [.sl 2 (lbRs k)])] [] 0 Try.func45 (by kernel_rfl) rfl Try.ntmps45 rfl (by decide) rfl rfl rfl rfl rfl ?_; intro B M w0 ρ0 Z0
  repeat' (first | (refine is_al ?_; (first | (refine is_load ?_; (first | refine al_v opx_ld_imm ⟨rfl, trivial⟩ trivial rfl ?_ | refine al_v (opx_ld_box rfl) ⟨rfl, trivial⟩ ⟨rfl, trivial⟩ rfl ?_)) | (refine is_fa ?_; refine al_v opx_fa_ref ⟨rfl, trivial⟩ trivial rfl ?_) | (refine is_assign ?_; refine al_v (opx_assign (.raw _)) ⟨rfl, trivial⟩ trivial rfl ?_) | (refine is_call ?_; refine al_callv2 (by (repeat (first | exact .nil | refine .one rfl rfl ?_ | refine .froz rfl rfl ?_ | refine .row rfl rfl ?_ | refine .rnil rfl ?_ | refine .agg rfl (by (repeat (first | exact .nil | refine .cons (.same rfl) ?_ | refine .cons (.froz rfl) ?_ | refine .cons (.rnil) ?_ | refine .cons (.row rfl rfl) ?_)); (first | done | fail)) ?_)); (first | done | fail)) rfl (c_sameLabels _ _ hs) rfl ?_) | refine al_n opx_boxs ⟨rfl, trivial⟩ trivial rfl ?_ | refine al_nil ?_)) | (refine is_aw ?_; (first | refine aw_seq ?_ | refine aw_region ?_ | refine aw_ret ?_)))
  exact ret_raw trivial rfl ⟨rfl, rfl⟩
theorem c_slIndexFunc (g : FuncId) (caps : List (List CV)) (l : List Sm) (k : List Lb) (hL : l.length ≤ 2000000)
    (hc : ∀ s ∈ l, Con Try.prog g ([smA s] ++ capAR caps) [] (fun rs all => rs = [rB (decide (s.1 = k))] ∧ all = [])) :
    Con Try.prog 44 [slM l, .one (.fn g none caps)] [] (fun rs all => rs = [rI (ixP l k)] ∧ all = []) := by
  have hlen := smRs_len (xs := l)
  refine con_of_aw (vars := [.tmp 4]) [(0, .r (slM l)), (1, .r (.one (.fn g none caps)))] [] 0 Try.func44 (by kernel_rfl) rfl Try.ntmps44 rfl (by decide) rfl rfl rfl rfl rfl ?_; intro B M w0 ρ0 Z0
  repeat' (first | (refine is_al ?_; (first | (refine is_move ?_; (first | refine al_v (opx_move (.raw _)) ⟨rfl, trivial⟩ trivial rfl ?_ | refine al_v (opx_move (.sl _ _)) ⟨rfl, trivial⟩ trivial rfl ?_)) | (refine is_assign ?_; refine al_v (opx_assign (.raw _)) ⟨rfl, trivial⟩ trivial rfl ?_) | (refine is_bi ?_; refine al_v opx_len_sl ⟨rfl, trivial⟩ trivial rfl ?_) | refine al_nil ?_)) | (refine is_aw ?_; (first | refine aw_seq ?_ | refine aw_region ?_ | refine aw_block ?_)))
  refine aw_loop (γ := Nat) (fun j => [(0, .r (slM l)), (1, .r (.one (.fn g none caps))), (7, .i ((smRs l).length : Int)), (8, .i (j : Int))]) (fun _ => []) (fun _ => 0) (fun j => j ≤ l.length ∧ ∀ i s, i < j → l[i]? = some s → s.1 ≠ k) (fun j => l.length - j) 0 ⟨Nat.zero_le _, fun i s hi => by omega⟩ (le_mk [] rfl rfl rfl rfl ⟨rfl, rfl, rfl, rfl, trivial⟩ trivial) ?_
  rintro j ⟨hj, hok⟩
  rcases Nat.lt_or_ge j l.length with hlt | hge
  · have hc1 : decide ((j : Int) < ((smRs l).length : Int)) = true := decide_eq_true (by omega)
    obtain ⟨s, hs⟩ : ∃ s, l[j]? = some s := ⟨_, List.getElem?_eq_getElem hlt⟩
    have hsr := smRs_at hs
    have hcs := hc s (List.mem_of_getElem? hs)
    by_cases he : s.1 = k
    · rw [decide_eq_true he] at hcs
      have e : pos l k = j := pos_eq hok (fun t ht => by rw [hs] at ht; cases ht; exact he) (by omega)
      repeat' (first | (refine is_al ?_; (first | (refine is_move ?_; (first | refine al_v (opx_move (.raw _)) ⟨rfl, trivial⟩ trivial rfl ?_ | refine al_v (opx_move (.sl _ _)) ⟨rfl, trivial⟩ trivial rfl ?_ | refine al_v (opx_move (.r (.one (.fn _ _ _)))) ⟨rfl, trivial⟩ trivial rfl ?_)) | (refine is_bin ?_; refine al_v opx_lss ⟨rfl, rfl, trivial⟩ trivial rfl ?_) | (refine is_load ?_; refine al_v opx_ld2_imm ⟨rfl, trivial⟩ trivial rfl ?_) | (refine is_assign ?_; refine al_v (opx_assign (.raw _)) ⟨rfl, trivial⟩ trivial rfl ?_) | (refine is_ia ?_; refine al_v (opx_ia_sl2 hsr (by omega)) ⟨rfl, rfl, trivial⟩ trivial rfl ?_) | refine al_callfn2 rfl (by (repeat (first | exact .nil | refine .one rfl rfl ?_ | refine .froz rfl rfl ?_ | refine .row rfl rfl ?_ | refine .rnil rfl ?_ | refine .agg rfl (by (repeat (first | exact .nil | refine .cons (.same rfl) ?_ | refine .cons (.froz rfl) ?_ | refine .cons (.rnil) ?_ | refine .cons (.row rfl rfl) ?_)); (first | done | fail)) ?_)); (first | done | fail)) rfl (hcs) rfl ?_ | refine al_nil ?_)) | (refine is_aw ?_; (first | refine aw_seq ?_ | refine aw_region ?_ | refine aw_skip ?_ | refine aw_block ?_ | refine aw_ret ?_ | (refine is_cond ?_; (first | refine aw_cond_t rfl rfl ?_ | refine aw_cond_t rfl (by assumption) ?_)))) | refine thn_r ?_ | refine inb_r ?_)
      exact ret_raw trivial rfl ⟨by rw [ixP, if_pos (by omega), e], rfl⟩
    · rw [decide_eq_false he] at hcs
      repeat' (first | (refine is_al ?_; (first | (refine is_move ?_; (first | refine al_v (opx_move (.raw _)) ⟨rfl, trivial⟩ trivial rfl ?_ | refine al_v (opx_move (.sl _ _)) ⟨rfl, trivial⟩ trivial rfl ?_ | refine al_v (opx_move (.r (.one (.fn _ _ _)))) ⟨rfl, trivial⟩ trivial rfl ?_)) | (refine is_bin ?_; (first | refine al_v opx_lss ⟨rfl, rfl, trivial⟩ trivial rfl ?_ | refine al_v (opx_add (by unfold InR; omega)) ⟨rfl, rfl, trivial⟩ trivial rfl ?_)) | (refine is_load ?_; refine al_v opx_ld2_imm ⟨rfl, trivial⟩ trivial rfl ?_) | (refine is_assign ?_; refine al_v (opx_assign (.raw _)) ⟨rfl, trivial⟩ trivial rfl ?_) | (refine is_ia ?_; refine al_v (opx_ia_sl2 hsr (by omega)) ⟨rfl, rfl, trivial⟩ trivial rfl ?_) | refine al_callfn2 rfl (by (repeat (first | exact .nil | refine .one rfl rfl ?_ | refine .froz rfl rfl ?_ | refine .row rfl rfl ?_ | refine .rnil rfl ?_ | refine .agg rfl (by (repeat (first | exact .nil | refine .cons (.same rfl) ?_ | refine .cons (.froz rfl) ?_ | refine .cons (.rnil) ?_ | refine .cons (.row rfl rfl) ?_)); (first | done | fail)) ?_)); (first | done | fail)) rfl (hcs) rfl ?_ | refine al_nil ?_)) | (refine is_aw ?_; (first | refine aw_seq ?_ | refine aw_region ?_ | refine aw_skip ?_ | refine aw_block ?_ | (refine is_cond ?_; (first | refine aw_cond_f rfl rfl ?_ | refine aw_cond_t rfl (by assumption) ?_)))) | refine thn_n ?_)
      exact ⟨j + 1, ⟨hlt, fun i t hi ht => by
        rcases Nat.lt_or_ge i j with h | h
        · exact hok i t h ht
        · rw [show i = j by omega, hs] at ht; cases ht; exact he⟩, by omega, le_mk [] rfl rfl rfl rfl ⟨rfl, rfl, rfl, rfl, trivial⟩ trivial⟩
  · have hc1 : decide ((j : Int) < ((smRs l).length : Int)) = false := decide_eq_false (by omega)
    have e : pos l k = l.length := pos_eq (fun i s hi hs => hok i s (by omega) hs) (fun s hs => by simp at hs) (Nat.le_refl _)
    repeat' (first | (refine is_al ?_; (first | (refine is_bin ?_; refine al_v opx_lss ⟨rfl, rfl, trivial⟩ trivial rfl ?_) | (refine is_assign ?_; refine al_v (opx_assign (.raw _)) ⟨rfl, trivial⟩ trivial rfl ?_) | refine al_nil ?_)) | (refine is_aw ?_; (first | refine aw_seq ?_ | refine aw_region ?_ | refine aw_ret ?_ | refine aw_exit ?_ | (refine is_cond ?_; refine aw_cond_f rfl (by assumption) ?_))))
    exact ret_raw trivial rfl ⟨by rw [ixP, if_neg (by omega)], rfl⟩
theorem c_placeOfSample (l : List Sm) (k : List Lb) (hL : l.length ≤ 2000000) (hb : smBig l) : Con Try.prog 35 [slM l, slL k] [] (fun rs all => rs = [rI (ixP l k)] ∧ all = []) := by
  refine con_of_aw (vars := [.tmp 4]) [(0, .r (slM l)), (1, .r (slL k))] [] 0 Try.func35 (by kernel_rfl) rfl Try.ntmps35 rfl (by decide) rfl rfl rfl rfl rfl ?_; intro B M w0 ρ0 Z0
  repeat' (first | (refine is_al ?_; (first | (refine is_move ?_; refine al_v (opx_move (.sl _ _)) ⟨rfl, trivial⟩ trivial rfl ?_) | (refine is_assign ?_; refine al_v (opx_assign (.raw _)) ⟨rfl, trivial⟩ trivial rfl ?_) | (refine is_call ?_; refine al_callv2 (by (repeat (first | exact .nil | refine .one rfl rfl ?_ | refine .froz rfl rfl ?_ | refine .row rfl rfl ?_ | refine .rnil rfl ?_ | refine .agg rfl (by (repeat (first | exact .nil | refine .cons (.same rfl) ?_ | refine .cons (.froz rfl) ?_ | refine .cons (.rnil) ?_ | refine .cons (.row rfl rfl) ?_)); (first | done | fail)) ?_)); (first | done | fail)) rfl (c_slIndexFunc _ _ l k hL (fun s hs => c_place1 k s (hb s hs).1)) rfl ?_) | refine al_mkfn1 rfl rfl rfl ?_ | refine al_n opx_box1 ⟨rfl, trivial⟩ trivial rfl ?_ | refine al_nil ?_)) | (refine is_aw ?_; (first | refine aw_seq ?_ | refine aw_region ?_ | refine aw_ret ?_)))
  exact ret_raw trivial rfl ⟨rfl, rfl⟩
theorem ixP_take {l : List Sm} {k : Nat} {s : Sm} (hs : l[k]? = some s) : 0 ≤ ixP (l.take k) s.1 ↔ ∃ j t, j < k ∧ l[j]? = some t ∧ t.1 = s.1 := by
  have hk := (List.getElem?_eq_some_iff.1 hs).1
  have hl : (l.take k).length = k := by rw [List.length_take]; omega
  rw [ixP]
  by_cases h : pos (l.take k) s.1 < (l.take k).length
  · rw [if_pos h]
    obtain ⟨v, hv⟩ := pos_at h
    rw [List.getElem?_take] at hv
    rw [hl] at h
    rw [if_pos h] at hv
    exact ⟨fun _ => ⟨_, _, h, hv, rfl⟩, fun _ => by omega⟩
  · rw [if_neg h]
    refine ⟨fun h => by omega, fun ⟨j, t, h1, h2, h3⟩ => absurd (pos_lt.2 (List.mem_map.2 ⟨t, ?_, h3⟩)) h⟩
    exact List.mem_of_getElem? (i := j) (by rw [List.getElem?_take, if_pos h1]; exact h2)
theorem vsm_bad {l : List Sm} {k : Nat} (h : ¬ smOk l k) : vsmB l = false := vsmB_f fun hv => h (hv.2 k)
theorem smBig_take {l : List Sm} {k : Nat} (h : smBig l) : smBig (l.take k) := fun s hs => h s (List.mem_of_mem_take hs)
theorem sm_next {l : List Sm} {k : Nat} (h : ∀ j, j < k → smOk l j) (hk : smOk l k) : ∀ j, j < k + 1 → smOk l j := fun j hj => by
  rcases Nat.lt_or_ge j k with h1 | h1
  · exact h j h1
  · rw [show j = k by omega]; exact hk
theorem sm_all {l : List Sm} {k : Nat} (h : ∀ j, j < k → smOk l j) (hk : l.length ≤ k) : ∀ j, smOk l j := fun j => by
  rcases Nat.lt_or_ge j k with h1 | h1
  · exact h j h1
  · intro s hs; rw [List.getElem?_eq_none (by omega)] at hs; cases hs
theorem c_ValidSamples (l : List Sm) (hL : l.length ≤ 2000000) (hb : smBig l) : Con Try.prog 20 [slM l] [] (fun rs all => rs = [rB (vsmB l)] ∧ all = []) := by
  have hlr := smRs_len (xs := l)
  have n1 : (!true) = false := rfl
  have n2 : (!false) = true := rfl
  refine con_of_aw (vars := [.tmp 2]) [(0, .r (slM l))] [] 0 Try.func20 (by kernel_rfl) rfl Try.ntmps20 rfl (by decide) rfl rfl rfl rfl rfl ?_; intro B M w0 ρ0 Z0
  by_cases h8 : l.length ≤ 8
  · have d1 : decide (8 < ((smRs l).length : Int)) = false := decide_eq_false (by omega)
    repeat' (first | (refine is_al ?_; (first | (refine is_move ?_; (first | refine al_v (opx_move (.raw _)) ⟨rfl, trivial⟩ trivial rfl ?_ | refine al_v (opx_move (.sl _ _)) ⟨rfl, trivial⟩ trivial rfl ?_)) | (refine is_bin ?_; refine al_v opx_gtr ⟨rfl, rfl, trivial⟩ trivial rfl ?_) | (refine is_assign ?_; refine al_v (opx_assign (.raw _)) ⟨rfl, trivial⟩ trivial rfl ?_) | (refine is_bi ?_; refine al_v opx_len_sl ⟨rfl, trivial⟩ trivial rfl ?_) | refine al_nil ?_)) | (refine is_aw ?_; (first | refine aw_seq ?_ | refine aw_region ?_ | refine aw_skip ?_ | refine aw_block ?_ | (refine is_cond ?_; refine aw_cond_f rfl (by assumption) ?_))))
    refine aw_loop (γ := Nat) (fun k => [(0, .r (slM l)), (8, .r (slM l)), (9, .i ((smRs l).length : Int)), (10, .i (k : Int))]) (fun _ => []) (fun _ => 0)
      (fun k => k ≤ l.length ∧ ∀ j, j < k → smOk l j) (fun k => l.length - k) 0 ⟨Nat.zero_le _, fun j hj => by omega⟩ (le_mk [] rfl rfl rfl rfl ⟨rfl, rfl, rfl, rfl, trivial⟩ trivial) ?_
    rintro k ⟨hk, ha⟩
    rcases Nat.lt_or_ge k l.length with hlt | hge
    · have hc1 : decide ((k : Int) < ((smRs l).length : Int)) = true := decide_eq_true (by omega)
      obtain ⟨s, hs⟩ : ∃ s, l[k]? = some s := ⟨_, List.getElem?_eq_getElem hlt⟩
      have hsr := smRs_at hs
      obtain ⟨b1, b2, b3⟩ := hb s (List.mem_of_getElem? hs)
      have hcv := c_ValidLabels s.1 b2 (by unfold BIG; omega)
      by_cases a1 : VL s.1
      · rw [vlB_t a1] at hcv
        by_cases a2 : -1000 ≤ s.2 ∧ s.2 ≤ 1000
        · have e2 : decide (s.2 < -1000) = false := decide_eq_false (by omega)
          have e3 : decide (1000 < s.2) = false := decide_eq_false (by omega)
          have hcut : ((smRs l).take k).drop 0 = smRs (l.take k) := by rw [List.drop_zero, smRs, smRs, List.map_take]
          have hcp := c_placeOfSample (l.take k) s.1 (by rw [List.length_take]; omega) (smBig_take hb)
          have hix := ixP_take hs
          by_cases a3 : 0 ≤ ixP (l.take k) s.1
          · have e4 : decide (0 ≤ ixP (l.take k) s.1) = true := decide_eq_true a3
            obtain ⟨j, t, h1, h2, h3⟩ := hix.1 a3
            have hv : vsmB l = false := vsm_bad (k := k) fun h => (h s hs).2.2.2 j t h1 h2 h3
            repeat' (first | (refine is_al ?_; (first | (refine is_gd ?_; refine al_on rfl rfl rfl (by assumption) ?_) | (refine is_move ?_; refine al_v (opx_move (.raw _)) ⟨rfl, trivial⟩ trivial rfl ?_) | (refine is_bin ?_; (first | refine al_v opx_lss ⟨rfl, rfl, trivial⟩ trivial rfl ?_ | refine al_v opx_gtr ⟨rfl, rfl, trivial⟩ trivial rfl ?_)) | (refine is_load ?_; (first | refine al_v opx_ld2_imm ⟨rfl, trivial⟩ trivial rfl ?_ | refine al_v (opx_ld_box rfl) ⟨rfl, trivial⟩ ⟨rfl, trivial⟩ rfl ?_)) | (refine is_fa ?_; refine al_v opx_fa_ref ⟨rfl, trivial⟩ trivial rfl ?_) | (refine is_assign ?_; refine al_v (opx_assign (.raw _)) ⟨rfl, trivial⟩ trivial rfl ?_) | (refine is_pick ?_; (first | refine al_v (opx_pick_f (.raw _) rfl) ⟨rfl, rfl, trivial⟩ trivial rfl ?_ | refine al_v (opx_pick_f (.raw _) (by assumption)) ⟨rfl, rfl, trivial⟩ trivial rfl ?_)) | (refine is_ia ?_; refine al_v (opx_ia_sl2 hsr (by omega)) ⟨rfl, rfl, trivial⟩ trivial rfl ?_) | (refine is_call ?_; refine al_callv2 (by (repeat (first | exact .nil | refine .one rfl rfl ?_ | refine .froz rfl rfl ?_ | refine .row rfl rfl ?_ | refine .rnil rfl ?_ | refine .agg rfl (by (repeat (first | exact .nil | refine .cons (.same rfl) ?_ | refine .cons (.froz rfl) ?_ | refine .cons (.rnil) ?_ | refine .cons (.row rfl rfl) ?_)); (first | done | fail)) ?_)); (first | done | fail)) rfl (hcv) rfl ?_) | (refine is_st ?_; refine al_s (opx_sts_box (by rfl) (by rfl)) ⟨rfl, rfl, trivial⟩ ⟨rfl, trivial⟩ ?_) | refine al_v opx_not ⟨rfl, trivial⟩ trivial rfl ?_ | refine al_n opx_alloc trivial trivial rfl ?_ | refine al_nil ?_ | refine ad_v (opx_cutH_sl (h := k) hcut rfl (by omega)) ⟨rfl, rfl, trivial⟩ trivial rfl ?_)) | (refine is_ad ?_; (first | (refine isd_move ?_; (first | refine ad_v (opx_move (.raw _)) ⟨rfl, trivial⟩ trivial rfl ?_ | refine ad_v (opx_move (.sl _ _)) ⟨rfl, trivial⟩ trivial rfl ?_)) | (refine isd_bin ?_; refine ad_v opx_geq ⟨rfl, rfl, trivial⟩ trivial rfl ?_) | (refine isd_load ?_; refine ad_v (opx_ld_box rfl) ⟨rfl, trivial⟩ ⟨rfl, trivial⟩ rfl ?_) | (refine isd_fa ?_; refine ad_v opx_fa_ref ⟨rfl, trivial⟩ trivial rfl ?_) | (refine isd_call ?_; refine ad_callv2 (by (repeat (first | exact .nil | refine .one rfl rfl ?_ | refine .froz rfl rfl ?_ | refine .row rfl rfl ?_ | refine .rnil rfl ?_ | refine .agg rfl (by (repeat (first | exact .nil | refine .cons (.same rfl) ?_ | refine .cons (.froz rfl) ?_ | refine .cons (.rnil) ?_ | refine .cons (.row rfl rfl) ?_)); (first | done | fail)) ?_)); (first | done | fail)) rfl (hcp) rfl ?_) | refine ad_nil (by kernel_rfl) ?_ | refine ad_v (opx_cutH_sl (h := k) hcut rfl (by omega)) ⟨rfl, rfl, trivial⟩ trivial rfl ?_)) | (refine is_aw ?_; (first | refine aw_seq ?_ | refine aw_region ?_ | refine aw_skip ?_ | refine aw_block ?_ | refine aw_ret ?_ | (refine is_cond ?_; (first | refine aw_cond_t rfl (by assumption) ?_ | refine aw_cond_f rfl (by assumption) ?_)) | refine aw_draw mixed ?_)) | refine thn_r ?_ | refine inb_r ?_)
            exact ret_raw trivial rfl ⟨congrArg (fun b => [rB b]) (hv.symm), rfl⟩
          · have e4 : decide (0 ≤ ixP (l.take k) s.1) = false := decide_eq_false a3
            have hok : smOk l k := fun z hz => by
              rw [hs] at hz; cases hz
              exact ⟨a1, a2.1, a2.2, fun j t hj ht e => a3 (hix.2 ⟨j, t, hj, ht, e⟩)⟩
            repeat' (first | (refine is_al ?_; (first | (refine is_gd ?_; refine al_on rfl rfl rfl (by assumption) ?_) | (refine is_move ?_; refine al_v (opx_move (.raw _)) ⟨rfl, trivial⟩ trivial rfl ?_) | (refine is_bin ?_; (first | refine al_v opx_lss ⟨rfl, rfl, trivial⟩ trivial rfl ?_ | refine al_v opx_gtr ⟨rfl, rfl, trivial⟩ trivial rfl ?_ | refine al_v (opx_add (by unfold InR; omega)) ⟨rfl, rfl, trivial⟩ trivial rfl ?_)) | (refine is_load ?_; (first | refine al_v opx_ld2_imm ⟨rfl, trivial⟩ trivial rfl ?_ | refine al_v (opx_ld_box rfl) ⟨rfl, trivial⟩ ⟨rfl, trivial⟩ rfl ?_)) | (refine is_fa ?_; refine al_v opx_fa_ref ⟨rfl, trivial⟩ trivial rfl ?_) | (refine is_assign ?_; refine al_v (opx_assign (.raw _)) ⟨rfl, trivial⟩ trivial rfl ?_) | (refine is_pick ?_; (first | refine al_v (opx_pick_f (.raw _) rfl) ⟨rfl, rfl, trivial⟩ trivial rfl ?_ | refine al_v (opx_pick_f (.raw _) (by assumption)) ⟨rfl, rfl, trivial⟩ trivial rfl ?_)) | (refine is_ia ?_; refine al_v (opx_ia_sl2 hsr (by omega)) ⟨rfl, rfl, trivial⟩ trivial rfl ?_) | (refine is_call ?_; refine al_callv2 (by (repeat (first | exact .nil | refine .one rfl rfl ?_ | refine .froz rfl rfl ?_ | refine .row rfl rfl ?_ | refine .rnil rfl ?_ | refine .agg rfl (by (repeat (first | exact .nil | refine .cons (.same rfl) ?_ | refine .cons (.froz rfl) ?_ | refine .cons (.rnil) ?_ | refine .cons (.row rfl rfl) ?_)); (first | done | fail)) ?_)); (first | done | fail)) rfl (hcv) rfl ?_) | (refine is_st ?_; refine al_s (opx_sts_box (by rfl) (by rfl)) ⟨rfl, rfl, trivial⟩ ⟨rfl, trivial⟩ ?_) | refine al_v opx_not ⟨rfl, trivial⟩ trivial rfl ?_ | refine al_n opx_alloc trivial trivial rfl ?_ | refine al_nil ?_ | refine ad_v (opx_cutH_sl (h := k) hcut rfl (by omega)) ⟨rfl, rfl, trivial⟩ trivial rfl ?_)) | (refine is_ad ?_; (first | (refine isd_move ?_; (first | refine ad_v (opx_move (.raw _)) ⟨rfl, trivial⟩ trivial rfl ?_ | refine ad_v (opx_move (.sl _ _)) ⟨rfl, trivial⟩ trivial rfl ?_)) | (refine isd_bin ?_; refine ad_v opx_geq ⟨rfl, rfl, trivial⟩ trivial rfl ?_) | (refine isd_load ?_; refine ad_v (opx_ld_box rfl) ⟨rfl, trivial⟩ ⟨rfl, trivial⟩ rfl ?_) | (refine isd_fa ?_; refine ad_v opx_fa_ref ⟨rfl, trivial⟩ trivial rfl ?_) | (refine isd_call ?_; refine ad_callv2 (by (repeat (first | exact .nil | refine .one rfl rfl ?_ | refine .froz rfl rfl ?_ | refine .row rfl rfl ?_ | refine .rnil rfl ?_ | refine .agg rfl (by (repeat (first | exact .nil | refine .cons (.same rfl) ?_ | refine .cons (.froz rfl) ?_ | refine .cons (.rnil) ?_ | refine .cons (.row rfl rfl) ?_)); (first | done | fail)) ?_)); (first | done | fail)) rfl (hcp) rfl ?_) | refine ad_nil (by kernel_rfl) ?_ | refine ad_v (opx_cutH_sl (h := k) hcut rfl (by omega)) ⟨rfl, rfl, trivial⟩ trivial rfl ?_)) | (refine is_aw ?_; (first | refine aw_seq ?_ | refine aw_region ?_ | refine aw_skip ?_ | refine aw_block ?_ | (refine is_cond ?_; (first | refine aw_cond_t rfl (by assumption) ?_ | refine aw_cond_f rfl (by assumption) ?_)) | refine aw_draw mixed ?_)) | refine thn_n ?_)
            exact ⟨k + 1, ⟨hlt, sm_next ha hok⟩, by omega, le_mk [] rfl rfl rfl rfl ⟨rfl, rfl, rfl, rfl, trivial⟩ trivial⟩
        · have hv : vsmB l = false := vsm_bad (k := k) fun h => a2 ⟨(h s hs).2.1, (h s hs).2.2.1⟩
          by_cases a3 : s.2 < -1000
          · have e2 : decide (s.2 < -1000) = true := decide_eq_true a3
            repeat' (first | (refine is_al ?_; (first | (refine is_gd ?_; (first | refine al_on rfl rfl rfl (by assumption) ?_ | refine al_off rfl rfl rfl (by assumption) rfl ?_)) | (refine is_move ?_; refine al_v (opx_move (.raw _)) ⟨rfl, trivial⟩ trivial rfl ?_) | (refine is_bin ?_; refine al_v opx_lss ⟨rfl, rfl, trivial⟩ trivial rfl ?_) | (refine is_load ?_; (first | refine al_v opx_ld2_imm ⟨rfl, trivial⟩ trivial rfl ?_ | refine al_v (opx_ld_box rfl) ⟨rfl, trivial⟩ ⟨rfl, trivial⟩ rfl ?_)) | (refine is_fa ?_; refine al_v opx_fa_ref ⟨rfl, trivial⟩ trivial rfl ?_) | (refine is_assign ?_; refine al_v (opx_assign (.raw _)) ⟨rfl, trivial⟩ trivial rfl ?_) | (refine is_pick ?_; (first | refine al_v (opx_pick_f (.raw _) rfl) ⟨rfl, rfl, trivial⟩ trivial rfl ?_ | refine al_v (opx_pick_t (.raw _) (by assumption)) ⟨rfl, rfl, trivial⟩ trivial rfl ?_)) | (refine is_ia ?_; refine al_v (opx_ia_sl2 hsr (by omega)) ⟨rfl, rfl, trivial⟩ trivial rfl ?_) | (refine is_call ?_; refine al_callv2 (by (repeat (first | exact .nil | refine .one rfl rfl ?_ | refine .froz rfl rfl ?_ | refine .row rfl rfl ?_ | refine .rnil rfl ?_ | refine .agg rfl (by (repeat (first | exact .nil | refine .cons (.same rfl) ?_ | refine .cons (.froz rfl) ?_ | refine .cons (.rnil) ?_ | refine .cons (.row rfl rfl) ?_)); (first | done | fail)) ?_)); (first | done | fail)) rfl (hcv) rfl ?_) | (refine is_st ?_; refine al_s (opx_sts_box (by rfl) (by rfl)) ⟨rfl, rfl, trivial⟩ ⟨rfl, trivial⟩ ?_) | refine al_v opx_not ⟨rfl, trivial⟩ trivial rfl ?_ | refine al_n opx_alloc trivial trivial rfl ?_ | refine al_nil ?_)) | (refine is_aw ?_; (first | refine aw_seq ?_ | refine aw_region ?_ | refine aw_skip ?_ | refine aw_block ?_ | refine aw_ret ?_ | (refine is_cond ?_; (first | refine aw_cond_t rfl rfl ?_ | refine aw_cond_t rfl (by assumption) ?_)))) | refine thn_r ?_ | refine inb_r ?_)
            exact ret_raw trivial rfl ⟨congrArg (fun b => [rB b]) (hv.symm), rfl⟩
          · have e2 : decide (s.2 < -1000) = false := decide_eq_false a3
            have e3 : decide (1000 < s.2) = true := decide_eq_true (by omega)
            repeat' (first | (refine is_al ?_; (first | (refine is_gd ?_; refine al_on rfl rfl rfl (by assumption) ?_) | (refine is_move ?_; refine al_v (opx_move (.raw _)) ⟨rfl, trivial⟩ trivial rfl ?_) | (refine is_bin ?_; (first | refine al_v opx_lss ⟨rfl, rfl, trivial⟩ trivial rfl ?_ | refine al_v opx_gtr ⟨rfl, rfl, trivial⟩ trivial rfl ?_)) | (refine is_load ?_; (first | refine al_v opx_ld2_imm ⟨rfl, trivial⟩ trivial rfl ?_ | refine al_v (opx_ld_box rfl) ⟨rfl, trivial⟩ ⟨rfl, trivial⟩ rfl ?_)) | (refine is_fa ?_; refine al_v opx_fa_ref ⟨rfl, trivial⟩ trivial rfl ?_) | (refine is_assign ?_; refine al_v (opx_assign (.raw _)) ⟨rfl, trivial⟩ trivial rfl ?_) | (refine is_pick ?_; (first | refine al_v (opx_pick_f (.raw _) rfl) ⟨rfl, rfl, trivial⟩ trivial rfl ?_ | refine al_v (opx_pick_f (.raw _) (by assumption)) ⟨rfl, rfl, trivial⟩ trivial rfl ?_)) | (refine is_ia ?_; refine al_v (opx_ia_sl2 hsr (by omega)) ⟨rfl, rfl, trivial⟩ trivial rfl ?_) | (refine is_call ?_; refine al_callv2 (by (repeat (first | exact .nil | refine .one rfl rfl ?_ | refine .froz rfl rfl ?_ | refine .row rfl rfl ?_ | refine .rnil rfl ?_ | refine .agg rfl (by (repeat (first | exact .nil | refine .cons (.same rfl) ?_ | refine .cons (.froz rfl) ?_ | refine .cons (.rnil) ?_ | refine .cons (.row rfl rfl) ?_)); (first | done | fail)) ?_)); (first | done | fail)) rfl (hcv) rfl ?_) | (refine is_st ?_; refine al_s (opx_sts_box (by rfl) (by rfl)) ⟨rfl, rfl, trivial⟩ ⟨rfl, trivial⟩ ?_) | refine al_v opx_not ⟨rfl, trivial⟩ trivial rfl ?_ | refine al_n opx_alloc trivial trivial rfl ?_ | refine al_nil ?_)) | (refine is_aw ?_; (first | refine aw_seq ?_ | refine aw_region ?_ | refine aw_skip ?_ | refine aw_block ?_ | refine aw_ret ?_ | (refine is_cond ?_; refine aw_cond_t rfl (by assumption) ?_))) | refine thn_r ?_ | refine inb_r ?_)
            exact ret_raw trivial rfl ⟨congrArg (fun b => [rB b]) (hv.symm), rfl⟩
      · rw [vlB_f a1] at hcv
        have hv : vsmB l = false := vsm_bad (k := k) fun h => a1 (h s hs).1
        repeat' (first | (refine is_al ?_; (first | (refine is_gd ?_; refine al_off rfl rfl rfl (by assumption) rfl ?_) | (refine is_move ?_; refine al_v (opx_move (.raw _)) ⟨rfl, trivial⟩ trivial rfl ?_) | (refine is_bin ?_; refine al_v opx_lss ⟨rfl, rfl, trivial⟩ trivial rfl ?_) | (refine is_load ?_; (first | refine al_v opx_ld2_imm ⟨rfl, trivial⟩ trivial rfl ?_ | refine al_v (opx_ld_box rfl) ⟨rfl, trivial⟩ ⟨rfl, trivial⟩ rfl ?_)) | (refine is_fa ?_; refine al_v opx_fa_ref ⟨rfl, trivial⟩ trivial rfl ?_) | (refine is_assign ?_; refine al_v (opx_assign (.raw _)) ⟨rfl, trivial⟩ trivial rfl ?_) | (refine is_pick ?_; refine al_v (opx_pick_t (.raw _) rfl) ⟨rfl, rfl, trivial⟩ trivial rfl ?_) | (refine is_ia ?_; refine al_v (opx_ia_sl2 hsr (by omega)) ⟨rfl, rfl, trivial⟩ trivial rfl ?_) | (refine is_call ?_; refine al_callv2 (by (repeat (first | exact .nil | refine .one rfl rfl ?_ | refine .froz rfl rfl ?_ | refine .row rfl rfl ?_ | refine .rnil rfl ?_ | refine .agg rfl (by (repeat (first | exact .nil | refine .cons (.same rfl) ?_ | refine .cons (.froz rfl) ?_ | refine .cons (.rnil) ?_ | refine .cons (.row rfl rfl) ?_)); (first | done | fail)) ?_)); (first | done | fail)) rfl (hcv) rfl ?_) | (refine is_st ?_; refine al_s (opx_sts_box (by rfl) (by rfl)) ⟨rfl, rfl, trivial⟩ ⟨rfl, trivial⟩ ?_) | refine al_v opx_not ⟨rfl, trivial⟩ trivial rfl ?_ | refine al_n opx_alloc trivial trivial rfl ?_ | refine al_nil ?_)) | (refine is_aw ?_; (first | refine aw_seq ?_ | refine aw_region ?_ | refine aw_skip ?_ | refine aw_block ?_ | refine aw_ret ?_ | (refine is_cond ?_; (first | refine aw_cond_t rfl rfl ?_ | refine aw_cond_t rfl (by assumption) ?_)))) | refine thn_r ?_ | refine inb_r ?_)
        exact ret_raw trivial rfl ⟨congrArg (fun b => [rB b]) (hv.symm), rfl⟩
    · have hc1 : decide ((k : Int) < ((smRs l).length : Int)) = false := decide_eq_false (by omega)
      have hv : vsmB l = true := vsmB_t ⟨h8, sm_all ha hge⟩
      repeat' (first | (refine is_al ?_; (first | (refine is_bin ?_; refine al_v opx_lss ⟨rfl, rfl, trivial⟩ trivial rfl ?_) | (refine is_assign ?_; refine al_v (opx_assign (.raw _)) ⟨rfl, trivial⟩ trivial rfl ?_) | refine al_nil ?_)) | (refine is_aw ?_; (first | refine aw_seq ?_ | refine aw_region ?_ | refine aw_ret ?_ | refine aw_exit ?_ | (refine is_cond ?_; refine aw_cond_f rfl (by assumption) ?_))))
      exact ret_raw trivial rfl ⟨congrArg (fun b => [rB b]) (hv.symm), rfl⟩
  · have d1 : decide (8 < ((smRs l).length : Int)) = true := decide_eq_true (by omega)
    repeat' (first | (refine is_al ?_; (first | (refine is_move ?_; refine al_v (opx_move (.sl _ _)) ⟨rfl, trivial⟩ trivial rfl ?_) | (refine is_bin ?_; refine al_v opx_gtr ⟨rfl, rfl, trivial⟩ trivial rfl ?_) | (refine is_assign ?_; refine al_v (opx_assign (.raw _)) ⟨rfl, trivial⟩ trivial rfl ?_) | (refine is_bi ?_; refine al_v opx_len_sl ⟨rfl, trivial⟩ trivial rfl ?_) | refine al_nil ?_)) | (refine is_aw ?_; (first | refine aw_seq ?_ | refine aw_region ?_ | refine aw_ret ?_ | (refine is_cond ?_; refine aw_cond_t rfl (by assumption) ?_))) | refine thn_r ?_)
    exact ret_raw trivial rfl ⟨congrArg (fun b => [rB b]) ((vsmB_f (fun h => h8 h.1)).symm), rfl⟩
theorem c_sValidSamples (l : List Sm) (hL : l.length ≤ 2000000) (hb : smBig l) : Con Try.prog 16 [slM l] [] (fun rs all => rs = [rB (vsmB l)] ∧ all = []) := by
  have hlr := smRs_len (xs := l)
  have n1 : (!true) = false := rfl
  have n2 : (!false) = true := rfl
  refine con_of_aw (vars := [.tmp 2]) [(0, .r (slM l))] [] 0 Try.func16 (by kernel_rfl) rfl Try.ntmps16 rfl (by decide) rfl rfl rfl rfl rfl ?_; intro B M w0 ρ0 Z0
  repeat' (first | (refine is_al ?_; (first | (refine is_assign ?_; refine al_v (opx_assign (.raw _)) ⟨rfl, trivial⟩ trivial rfl ?_) | refine al_nil ?_)) | (refine is_aw ?_; (first | refine aw_seq ?_ | refine aw_region ?_ | refine aw_block ?_)))
  refine aw_loop (γ := Nat) (fun k => [(0, .r (slM l)), (3, .i (k : Int))]) (fun _ => []) (fun _ => 0)
    (fun k => k ≤ l.length ∧ ∀ j, j < k → smOk l j) (fun k => l.length - k) 0 ⟨Nat.zero_le _, fun j hj => by omega⟩ (le_mk [] rfl rfl rfl rfl ⟨rfl, rfl, trivial⟩ trivial) ?_
  rintro k ⟨hk, ha⟩
  rcases Nat.lt_or_ge k l.length with hlt | hge
  · have hc1 : decide ((k : Int) < ((smRs l).length : Int)) = true := decide_eq_true (by omega)
    obtain ⟨s, hs⟩ : ∃ s, l[k]? = some s := ⟨_, List.getElem?_eq_getElem hlt⟩
    have hsr := smRs_at hs
    obtain ⟨b1, b2, b3⟩ := hb s (List.mem_of_getElem? hs)
    have hcv := c_sValidLabels s.1 b2 (by unfold BIG; omega)
    by_cases a1 : VL s.1
    · rw [vlB_t a1] at hcv
      by_cases a2 : -1000 ≤ s.2 ∧ s.2 ≤ 1000
      · have e2 : (!decide (-1000 ≤ s.2 ∧ s.2 ≤ 1000)) = false := by rw [decide_eq_true a2]; rfl
        repeat' (first | (refine is_al ?_; (first | (refine is_gd ?_; refine al_on rfl rfl rfl (by assumption) ?_) | (refine is_move ?_; (first | refine al_v (opx_move (.raw _)) ⟨rfl, trivial⟩ trivial rfl ?_ | refine al_v (opx_move (.sl _ _)) ⟨rfl, trivial⟩ trivial rfl ?_)) | (refine is_bin ?_; refine al_v opx_lss ⟨rfl, rfl, trivial⟩ trivial rfl ?_) | (refine is_load ?_; refine al_v opx_ld_imm ⟨rfl, trivial⟩ trivial rfl ?_) | (refine is_fa ?_; (first | refine al_v opx_fa_imm0 ⟨rfl, trivial⟩ trivial rfl ?_ | refine al_v opx_fa_imm1 ⟨rfl, trivial⟩ trivial rfl ?_)) | (refine is_assign ?_; refine al_v (opx_assign (.raw _)) ⟨rfl, trivial⟩ trivial rfl ?_) | (refine is_pick ?_; refine al_v (opx_pick_f (.raw _) rfl) ⟨rfl, rfl, trivial⟩ trivial rfl ?_) | (refine is_bi ?_; refine al_v opx_len_sl ⟨rfl, trivial⟩ trivial rfl ?_) | (refine is_ia ?_; refine al_v (opx_ia_sl2 hsr (by omega)) ⟨rfl, rfl, trivial⟩ trivial rfl ?_) | (refine is_call ?_; (first | refine al_callv2 (by (repeat (first | exact .nil | refine .one rfl rfl ?_ | refine .froz rfl rfl ?_ | refine .row rfl rfl ?_ | refine .rnil rfl ?_ | refine .agg rfl (by (repeat (first | exact .nil | refine .cons (.same rfl) ?_ | refine .cons (.froz rfl) ?_ | refine .cons (.rnil) ?_ | refine .cons (.row rfl rfl) ?_)); (first | done | fail)) ?_)); (first | done | fail)) rfl (hcv) rfl ?_ | refine al_callv2 (by (repeat (first | exact .nil | refine .one rfl rfl ?_ | refine .froz rfl rfl ?_ | refine .row rfl rfl ?_ | refine .rnil rfl ?_ | refine .agg rfl (by (repeat (first | exact .nil | refine .cons (.same rfl) ?_ | refine .cons (.froz rfl) ?_ | refine .cons (.rnil) ?_ | refine .cons (.row rfl rfl) ?_)); (first | done | fail)) ?_)); (first | done | fail)) rfl (c_inRange _ _ _) rfl ?_)) | refine al_v opx_not ⟨rfl, trivial⟩ trivial rfl ?_ | refine al_nil ?_)) | (refine is_aw ?_; (first | refine aw_seq ?_ | refine aw_region ?_ | refine aw_skip ?_ | refine aw_block ?_ | (refine is_cond ?_; (first | refine aw_cond_t rfl (by assumption) ?_ | refine aw_cond_f rfl (by assumption) ?_)))))
        refine aw_loop (γ := Nat) (fun j => [(0, .r (slM l)), (3, .i (k : Int)), (4, .i (j : Int))]) (fun _ => []) (fun _ => 0)
          (fun j => j ≤ k ∧ ∀ i t, i < j → l[i]? = some t → t.1 ≠ s.1) (fun j => k - j) 0 ⟨Nat.zero_le _, fun i t hi => by omega⟩ (le_mk [] rfl rfl rfl rfl ⟨rfl, rfl, rfl, trivial⟩ trivial) ?_
        rintro j ⟨hj, hja⟩
        rcases Nat.lt_or_ge j k with hjt | hjg
        · have hc2 : decide ((j : Int) < (k : Int)) = true := decide_eq_true (by omega)
          obtain ⟨t, ht⟩ : ∃ t, l[j]? = some t := ⟨_, List.getElem?_eq_getElem (by omega)⟩
          have htr := smRs_at ht
          obtain ⟨g1, g2, g3⟩ := hb t (List.mem_of_getElem? ht)
          by_cases he : t.1 = s.1
          · have e3 : decide (cmpL t.1 s.1 = 0) = true := decide_eq_true (cmpL_iff.2 he)
            have hv : vsmB l = false := vsm_bad (k := k) fun h => (h s hs).2.2.2 j t hjt ht he
            repeat' (first | (refine is_al ?_; (first | (refine is_move ?_; refine al_v (opx_move (.raw _)) ⟨rfl, trivial⟩ trivial rfl ?_) | (refine is_bin ?_; refine al_v opx_lss ⟨rfl, rfl, trivial⟩ trivial rfl ?_) | (refine is_assign ?_; refine al_v (opx_assign (.raw _)) ⟨rfl, trivial⟩ trivial rfl ?_) | refine al_nil ?_)) | (refine is_ad ?_; (first | (refine isd_move ?_; (first | refine ad_v (opx_move (.raw _)) ⟨rfl, trivial⟩ trivial rfl ?_ | refine ad_v (opx_move (.sl _ _)) ⟨rfl, trivial⟩ trivial rfl ?_)) | (refine isd_bin ?_; refine ad_v opx_eql ⟨rfl, rfl, trivial⟩ trivial rfl ?_) | (refine isd_load ?_; refine ad_v opx_ld_imm ⟨rfl, trivial⟩ trivial rfl ?_) | (refine isd_fa ?_; refine ad_v opx_fa_imm0 ⟨rfl, trivial⟩ trivial rfl ?_) | (refine isd_ia ?_; (first | refine ad_v (opx_ia_sl2 hsr (by omega)) ⟨rfl, rfl, trivial⟩ trivial rfl ?_ | refine ad_v (opx_ia_sl2 htr (by omega)) ⟨rfl, rfl, trivial⟩ trivial rfl ?_)) | (refine isd_call ?_; refine ad_callv2 (by (repeat (first | exact .nil | refine .one rfl rfl ?_ | refine .froz rfl rfl ?_ | refine .row rfl rfl ?_ | refine .rnil rfl ?_ | refine .agg rfl (by (repeat (first | exact .nil | refine .cons (.same rfl) ?_ | refine .cons (.froz rfl) ?_ | refine .cons (.rnil) ?_ | refine .cons (.row rfl rfl) ?_)); (first | done | fail)) ?_)); (first | done | fail)) rfl (c_compareLabels _ _ g1 b1) rfl ?_) | refine ad_nil (by kernel_rfl) ?_)) | (refine is_aw ?_; (first | refine aw_seq ?_ | refine aw_region ?_ | refine aw_skip ?_ | refine aw_block ?_ | refine aw_ret ?_ | (refine is_cond ?_; refine aw_cond_t rfl (by assumption) ?_) | refine aw_draw mixed ?_)) | refine thn_r ?_ | refine inb_r ?_)
            exact ret_raw trivial rfl ⟨congrArg (fun b => [rB b]) (hv.symm), rfl⟩
          · have e3 : decide (cmpL t.1 s.1 = 0) = false := decide_eq_false (fun h => he (cmpL_iff.1 h))
            repeat' (first | (refine is_al ?_; (first | (refine is_move ?_; refine al_v (opx_move (.raw _)) ⟨rfl, trivial⟩ trivial rfl ?_) | (refine is_bin ?_; (first | refine al_v opx_lss ⟨rfl, rfl, trivial⟩ trivial rfl ?_ | refine al_v (opx_add (by unfold InR; omega)) ⟨rfl, rfl, trivial⟩ trivial rfl ?_)) | (refine is_assign ?_; refine al_v (opx_assign (.raw _)) ⟨rfl, trivial⟩ trivial rfl ?_) | refine al_nil ?_)) | (refine is_ad ?_; (first | (refine isd_move ?_; (first | refine ad_v (opx_move (.raw _)) ⟨rfl, trivial⟩ trivial rfl ?_ | refine ad_v (opx_move (.sl _ _)) ⟨rfl, trivial⟩ trivial rfl ?_)) | (refine isd_bin ?_; refine ad_v opx_eql ⟨rfl, rfl, trivial⟩ trivial rfl ?_) | (refine isd_load ?_; refine ad_v opx_ld_imm ⟨rfl, trivial⟩ trivial rfl ?_) | (refine isd_fa ?_; refine ad_v opx_fa_imm0 ⟨rfl, trivial⟩ trivial rfl ?_) | (refine isd_ia ?_; (first | refine ad_v (opx_ia_sl2 hsr (by omega)) ⟨rfl, rfl, trivial⟩ trivial rfl ?_ | refine ad_v (opx_ia_sl2 htr (by omega)) ⟨rfl, rfl, trivial⟩ trivial rfl ?_)) | (refine isd_call ?_; refine ad_callv2 (by (repeat (first | exact .nil | refine .one rfl rfl ?_ | refine .froz rfl rfl ?_ | refine .row rfl rfl ?_ | refine .rnil rfl ?_ | refine .agg rfl (by (repeat (first | exact .nil | refine .cons (.same rfl) ?_ | refine .cons (.froz rfl) ?_ | refine .cons (.rnil) ?_ | refine .cons (.row rfl rfl) ?_)); (first | done | fail)) ?_)); (first | done | fail)) rfl (c_compareLabels _ _ g1 b1) rfl ?_) | refine ad_nil (by kernel_rfl) ?_)) | (refine is_aw ?_; (first | refine aw_seq ?_ | refine aw_region ?_ | refine aw_skip ?_ | refine aw_block ?_ | (refine is_cond ?_; (first | refine aw_cond_t rfl (by assumption) ?_ | refine aw_cond_f rfl (by assumption) ?_)) | refine aw_draw mixed ?_)) | refine thn_n ?_)
            exact ⟨j + 1, ⟨hjt, fun i u hi hu => by
              rcases Nat.lt_or_ge i j with h | h
              · exact hja i u h hu
              · rw [show i = j by omega, ht] at hu; cases hu; exact he⟩, by omega, le_mk [] rfl rfl rfl rfl ⟨rfl, rfl, rfl, trivial⟩ trivial⟩
        · have hc2 : decide ((j : Int) < (k : Int)) = false := decide_eq_false (by omega)
          have hok : smOk l k := fun z hz => by
            rw [hs] at hz; cases hz
            exact ⟨a1, a2.1, a2.2, fun i t hi ht => hja i t (by omega) ht⟩
          repeat' (first | (refine is_al ?_; (first | (refine is_move ?_; refine al_v (opx_move (.raw _)) ⟨rfl, trivial⟩ trivial rfl ?_) | (refine is_bin ?_; (first | refine al_v opx_lss ⟨rfl, rfl, trivial⟩ trivial rfl ?_ | refine al_v (opx_add (by unfold InR; omega)) ⟨rfl, rfl, trivial⟩ trivial rfl ?_)) | (refine is_assign ?_; refine al_v (opx_assign (.raw _)) ⟨rfl, trivial⟩ trivial rfl ?_) | refine al_nil ?_)) | (refine is_aw ?_; (first | refine aw_seq ?_ | refine aw_region ?_ | refine aw_exit ?_ | (refine is_cond ?_; refine aw_cond_f rfl (by assumption) ?_))) | refine thn_n ?_)
          exact ⟨k + 1, ⟨hlt, sm_next ha hok⟩, by omega, le_mk [] rfl rfl rfl rfl ⟨rfl, rfl, trivial⟩ trivial⟩
      · have e2 : (!decide (-1000 ≤ s.2 ∧ s.2 ≤ 1000)) = true := by rw [decide_eq_false a2]; rfl
        have hv : vsmB l = false := vsm_bad (k := k) fun h => a2 ⟨(h s hs).2.1, (h s hs).2.2.1⟩
        repeat' (first | (refine is_al ?_; (first | (refine is_gd ?_; refine al_on rfl rfl rfl (by assumption) ?_) | (refine is_move ?_; (first | refine al_v (opx_move (.raw _)) ⟨rfl, trivial⟩ trivial rfl ?_ | refine al_v (opx_move (.sl _ _)) ⟨rfl, trivial⟩ trivial rfl ?_)) | (refine is_bin ?_; refine al_v opx_lss ⟨rfl, rfl, trivial⟩ trivial rfl ?_) | (refine is_load ?_; refine al_v opx_ld_imm ⟨rfl, trivial⟩ trivial rfl ?_) | (refine is_fa ?_; (first | refine al_v opx_fa_imm0 ⟨rfl, trivial⟩ trivial rfl ?_ | refine al_v opx_fa_imm1 ⟨rfl, trivial⟩ trivial rfl ?_)) | (refine is_assign ?_; refine al_v (opx_assign (.raw _)) ⟨rfl, trivial⟩ trivial rfl ?_) | (refine is_pick ?_; refine al_v (opx_pick_f (.raw _) rfl) ⟨rfl, rfl, trivial⟩ trivial rfl ?_) | (refine is_bi ?_; refine al_v opx_len_sl ⟨rfl, trivial⟩ trivial rfl ?_) | (refine is_ia ?_; refine al_v (opx_ia_sl2 hsr (by omega)) ⟨rfl, rfl, trivial⟩ trivial rfl ?_) | (refine is_call ?_; (first | refine al_callv2 (by (repeat (first | exact .nil | refine .one rfl rfl ?_ | refine .froz rfl rfl ?_ | refine .row rfl rfl ?_ | refine .rnil rfl ?_ | refine .agg rfl (by (repeat (first | exact .nil | refine .cons (.same rfl) ?_ | refine .cons (.froz rfl) ?_ | refine .cons (.rnil) ?_ | refine .cons (.row rfl rfl) ?_)); (first | done | fail)) ?_)); (first | done | fail)) rfl (hcv) rfl ?_ | refine al_callv2 (by (repeat (first | exact .nil | refine .one rfl rfl ?_ | refine .froz rfl rfl ?_ | refine .row rfl rfl ?_ | refine .rnil rfl ?_ | refine .agg rfl (by (repeat (first | exact .nil | refine .cons (.same rfl) ?_ | refine .cons (.froz rfl) ?_ | refine .cons (.rnil) ?_ | refine .cons (.row rfl rfl) ?_)); (first | done | fail)) ?_)); (first | done | fail)) rfl (c_inRange _ _ _) rfl ?_)) | refine al_v opx_not ⟨rfl, trivial⟩ trivial rfl ?_ | refine al_nil ?_)) | (refine is_aw ?_; (first | refine aw_seq ?_ | refine aw_region ?_ | refine aw_skip ?_ | refine aw_block ?_ | refine aw_ret ?_ | (refine is_cond ?_; refine aw_cond_t rfl (by assumption) ?_))) | refine thn_r ?_ | refine inb_r ?_)
        exact ret_raw trivial rfl ⟨congrArg (fun b => [rB b]) (hv.symm), rfl⟩
    · rw [vlB_f a1] at hcv
      have hv : vsmB l = false := vsm_bad (k := k) fun h => a1 (h s hs).1
      repeat' (first | (refine is_al ?_; (first | (refine is_gd ?_; refine al_off rfl rfl rfl (by assumption) rfl ?_) | (refine is_move ?_; (first | refine al_v (opx_move (.raw _)) ⟨rfl, trivial⟩ trivial rfl ?_ | refine al_v (opx_move (.sl _ _)) ⟨rfl, trivial⟩ trivial rfl ?_)) | (refine is_bin ?_; refine al_v opx_lss ⟨rfl, rfl, trivial⟩ trivial rfl ?_) | (refine is_load ?_; refine al_v opx_ld_imm ⟨rfl, trivial⟩ trivial rfl ?_) | (refine is_fa ?_; refine al_v opx_fa_imm0 ⟨rfl, trivial⟩ trivial rfl ?_) | (refine is_assign ?_; refine al_v (opx_assign (.raw _)) ⟨rfl, trivial⟩ trivial rfl ?_) | (refine is_pick ?_; refine al_v (opx_pick_t (.raw _) rfl) ⟨rfl, rfl, trivial⟩ trivial rfl ?_) | (refine is_bi ?_; refine al_v opx_len_sl ⟨rfl, trivial⟩ trivial rfl ?_) | (refine is_ia ?_; refine al_v (opx_ia_sl2 hsr (by omega)) ⟨rfl, rfl, trivial⟩ trivial rfl ?_) | (refine is_call ?_; refine al_callv2 (by (repeat (first | exact .nil | refine .one rfl rfl ?_ | refine .froz rfl rfl ?_ | refine .row rfl rfl ?_ | refine .rnil rfl ?_ | refine .agg rfl (by (repeat (first | exact .nil | refine .cons (.same rfl) ?_ | refine .cons (.froz rfl) ?_ | refine .cons (.rnil) ?_ | refine .cons (.row rfl rfl) ?_)); (first | done | fail)) ?_)); (first | done | fail)) rfl (hcv) rfl ?_) | refine al_v opx_not ⟨rfl, trivial⟩ trivial rfl ?_ | refine al_nil ?_)) | (refine is_aw ?_; (first | refine aw_seq ?_ | refine aw_region ?_ | refine aw_skip ?_ | refine aw_block ?_ | refine aw_ret ?_ | (refine is_cond ?_; (first | refine aw_cond_t rfl rfl ?_ | refine aw_cond_t rfl (by assumption) ?_)))) | refine thn_r ?_ | refine inb_r ?_)
      exact ret_raw trivial rfl ⟨congrArg (fun b => [rB b]) (hv.symm), rfl⟩
  · have hc1 : decide ((k : Int) < ((smRs l).length : Int)) = false := decide_eq_false (by omega)
    by_cases h8 : l.length ≤ 8
    · have hv : vsmB l = true := vsmB_t ⟨h8, sm_all ha hge⟩
      have e : decide (((smRs l).length : Int) ≤ 8) = true := decide_eq_true (by omega)
      repeat' (first | (refine is_al ?_; (first | (refine is_move ?_; (first | refine al_v (opx_move (.raw _)) ⟨rfl, trivial⟩ trivial rfl ?_ | refine al_v (opx_move (.sl _ _)) ⟨rfl, trivial⟩ trivial rfl ?_)) | (refine is_bin ?_; (first | refine al_v opx_lss ⟨rfl, rfl, trivial⟩ trivial rfl ?_ | refine al_v opx_leq ⟨rfl, rfl, trivial⟩ trivial rfl ?_)) | (refine is_assign ?_; refine al_v (opx_assign (.raw _)) ⟨rfl, trivial⟩ trivial rfl ?_) | (refine is_bi ?_; refine al_v opx_len_sl ⟨rfl, trivial⟩ trivial rfl ?_) | refine al_nil ?_)) | (refine is_aw ?_; (first | refine aw_seq ?_ | refine aw_region ?_ | refine aw_ret ?_ | refine aw_exit ?_ | (refine is_cond ?_; refine aw_cond_f rfl (by assumption) ?_))))
      exact ret_raw trivial rfl ⟨congrArg (fun b => [rB b]) (by rw [hv, e]), rfl⟩
    · have e : decide (((smRs l).length : Int) ≤ 8) = false := decide_eq_false (by omega)
      repeat' (first | (refine is_al ?_; (first | (refine is_move ?_; (first | refine al_v (opx_move (.raw _)) ⟨rfl, trivial⟩ trivial rfl ?_ | refine al_v (opx_move (.sl _ _)) ⟨rfl, trivial⟩ trivial rfl ?_)) | (refine is_bin ?_; (first | refine al_v opx_lss ⟨rfl, rfl, trivial⟩ trivial rfl ?_ | refine al_v opx_leq ⟨rfl, rfl, trivial⟩ trivial rfl ?_)) | (refine is_assign ?_; refine al_v (opx_assign (.raw _)) ⟨rfl, trivial⟩ trivial rfl ?_) | (refine is_bi ?_; refine al_v opx_len_sl ⟨rfl, trivial⟩ trivial rfl ?_) | refine al_nil ?_)) | (refine is_aw ?_; (first | refine aw_seq ?_ | refine aw_region ?_ | refine aw_ret ?_ | refine aw_exit ?_ | (refine is_cond ?_; refine aw_cond_f rfl (by assumption) ?_))))
      exact ret_raw trivial rfl ⟨congrArg (fun b => [rB b]) (by rw [vsmB_f (fun h => h8 h.1), e]), rfl⟩
end Go.Proofs.Ytokhfcfnhgianaa
/-
  Groups: the program's walk.
-/
namespace Go.Proofs.Ytokhfcfnhgianaa
open Go.RowKit
set_option linter.unusedVariables false
set_option linter.unusedSimpArgs false
attribute [local irreducible] AL AW OpX Le AD

instance mptSI : MpT Try.prog 46 9 3 := ⟨by kernel_rfl, by kernel_rfl, fun w => Try.zeroValue3 w⟩
theorem c_groupValue (kind a v : Int) (ha : -100000000 ≤ a ∧ a ≤ 100000000) (hv : -1000000 ≤ v ∧ v ≤ 1000000) : Con Try.prog 23 [rI kind, rI a, rI v] [] (fun rs all => rs = [rI (foldV kind a v)] ∧ all = []) := by
  refine con_of_aw (vars := [.tmp 6]) [(0, .r (rI kind)), (1, .r (rI a)), (2, .r (rI v))] [] 0 Try.func23 (by kernel_rfl) rfl Try.ntmps23 rfl (by decide) rfl rfl rfl rfl rfl ?_; intro B M w0 ρ0 Z0
  by_cases h0 : kind = 0
  · have d0 : decide (kind = 0) = true := decide_eq_true h0
    repeat' (first | (refine is_al ?_; (first | (refine is_move ?_; refine al_v (opx_move (.raw _)) ⟨rfl, trivial⟩ trivial rfl ?_) | (refine is_bin ?_; (first | refine al_v opx_eql ⟨rfl, rfl, trivial⟩ trivial rfl ?_ | refine al_v (opx_add (by unfold InR; omega)) ⟨rfl, rfl, trivial⟩ trivial rfl ?_)) | (refine is_assign ?_; refine al_v (opx_assign (.raw _)) ⟨rfl, trivial⟩ trivial rfl ?_) | refine al_nil ?_)) | (refine is_aw ?_; (first | refine aw_seq ?_ | refine aw_region ?_ | refine aw_block ?_ | refine aw_ret ?_ | (refine is_cond ?_; refine aw_cond_t rfl (by assumption) ?_))) | refine thn_r ?_ | refine inb_r ?_)
    exact ret_raw trivial rfl ⟨by rw [foldV, if_pos h0], rfl⟩
  have d0 : decide (kind = 0) = false := decide_eq_false h0
  by_cases h1 : kind = 1
  · have d1 : decide (kind = 1) = true := decide_eq_true h1
    repeat' (first | (refine is_al ?_; (first | (refine is_move ?_; refine al_v (opx_move (.raw _)) ⟨rfl, trivial⟩ trivial rfl ?_) | (refine is_bin ?_; refine al_v opx_eql ⟨rfl, rfl, trivial⟩ trivial rfl ?_) | (refine is_assign ?_; refine al_v (opx_assign (.raw _)) ⟨rfl, trivial⟩ trivial rfl ?_) | (refine is_bi ?_; refine al_v opx_min2 ⟨rfl, rfl, trivial⟩ trivial rfl ?_) | refine al_nil ?_)) | (refine is_aw ?_; (first | refine aw_seq ?_ | refine aw_region ?_ | refine aw_block ?_ | refine aw_ret ?_ | (refine is_cond ?_; (first | refine aw_cond_t rfl (by assumption) ?_ | refine aw_cond_f rfl (by assumption) ?_)))) | refine thn_r ?_ | refine inb_r ?_)
    exact ret_raw trivial rfl ⟨by rw [foldV, if_neg h0, if_pos h1], rfl⟩
  have d1 : decide (kind = 1) = false := decide_eq_false h1
  by_cases h2 : kind = 2
  · have d2 : decide (kind = 2) = true := decide_eq_true h2
    repeat' (first | (refine is_al ?_; (first | (refine is_move ?_; refine al_v (opx_move (.raw _)) ⟨rfl, trivial⟩ trivial rfl ?_) | (refine is_bin ?_; refine al_v opx_eql ⟨rfl, rfl, trivial⟩ trivial rfl ?_) | (refine is_assign ?_; refine al_v (opx_assign (.raw _)) ⟨rfl, trivial⟩ trivial rfl ?_) | (refine is_bi ?_; refine al_v opx_max2 ⟨rfl, rfl, trivial⟩ trivial rfl ?_) | refine al_nil ?_)) | (refine is_aw ?_; (first | refine aw_seq ?_ | refine aw_region ?_ | refine aw_block ?_ | refine aw_ret ?_ | (refine is_cond ?_; (first | refine aw_cond_t rfl (by assumption) ?_ | refine aw_cond_f rfl (by assumption) ?_)))) | refine thn_r ?_ | refine inb_r ?_)
    exact ret_raw trivial rfl ⟨by rw [foldV, if_neg h0, if_neg h1, if_pos h2], rfl⟩
  have d2 : decide (kind = 2) = false := decide_eq_false h2
  repeat' (first | (refine is_al ?_; (first | (refine is_move ?_; refine al_v (opx_move (.raw _)) ⟨rfl, trivial⟩ trivial rfl ?_) | (refine is_bin ?_; (first | refine al_v opx_eql ⟨rfl, rfl, trivial⟩ trivial rfl ?_ | refine al_v (opx_add (by unfold InR; omega)) ⟨rfl, rfl, trivial⟩ trivial rfl ?_)) | (refine is_assign ?_; refine al_v (opx_assign (.raw _)) ⟨rfl, trivial⟩ trivial rfl ?_) | refine al_nil ?_)) | (refine is_aw ?_; (first | refine aw_seq ?_ | refine aw_region ?_ | refine aw_skip ?_ | refine aw_block ?_ | refine aw_ret ?_ | (refine is_cond ?_; refine aw_cond_f rfl (by assumption) ?_))))
  exact ret_raw trivial rfl ⟨by rw [foldV, if_neg h0, if_neg h1, if_neg h2], rfl⟩
theorem c_fold (kind a v : Int) (ha : -100000000 ≤ a ∧ a ≤ 100000000) (hv : -1000000 ≤ v ∧ v ≤ 1000000) : Con Try.prog 32 [rI a, rI v, rI kind] [] (fun rs all => rs = [rI (foldV kind a v)] ∧ all = []) := by
  refine con_of_aw (vars := [.tmp 6]) [(0, .r (rI a)), (1, .r (rI v)), (2, .r (rI kind))] [] 0 Try.func32 (by kernel_rfl) rfl Try.ntmps32 rfl (by decide) rfl rfl rfl rfl rfl ?_; intro B M w0 ρ0 Z0
  by_cases h0 : kind = 0
  · have d0 : decide (kind = 0) = true := decide_eq_true h0
    repeat' (first | (refine is_al ?_; (first | (refine is_move ?_; refine al_v (opx_move (.raw _)) ⟨rfl, trivial⟩ trivial rfl ?_) | (refine is_bin ?_; (first | refine al_v opx_eql ⟨rfl, rfl, trivial⟩ trivial rfl ?_ | refine al_v (opx_add (by unfold InR; omega)) ⟨rfl, rfl, trivial⟩ trivial rfl ?_)) | (refine is_assign ?_; refine al_v (opx_assign (.raw _)) ⟨rfl, trivial⟩ trivial rfl ?_) | refine al_nil ?_)) | (refine is_aw ?_; (first | refine aw_seq ?_ | refine aw_region ?_ | refine aw_block ?_ | refine aw_ret ?_ | (refine is_cond ?_; refine aw_cond_t rfl (by assumption) ?_))) | refine thn_r ?_ | refine inb_r ?_)
    exact ret_raw trivial rfl ⟨by rw [foldV, if_pos h0], rfl⟩
  have d0 : decide (kind = 0) = false := decide_eq_false h0
  by_cases h1 : kind = 1
  · have d1 : decide (kind = 1) = true := decide_eq_true h1
    repeat' (first | (refine is_al ?_; (first | (refine is_move ?_; refine al_v (opx_move (.raw _)) ⟨rfl, trivial⟩ trivial rfl ?_) | (refine is_bin ?_; refine al_v opx_eql ⟨rfl, rfl, trivial⟩ trivial rfl ?_) | (refine is_assign ?_; refine al_v (opx_assign (.raw _)) ⟨rfl, trivial⟩ trivial rfl ?_) | (refine is_bi ?_; refine al_v opx_min2 ⟨rfl, rfl, trivial⟩ trivial rfl ?_) | refine al_nil ?_)) | (refine is_aw ?_; (first | refine aw_seq ?_ | refine aw_region ?_ | refine aw_block ?_ | refine aw_ret ?_ | (refine is_cond ?_; (first | refine aw_cond_t rfl (by assumption) ?_ | refine aw_cond_f rfl (by assumption) ?_)))) | refine thn_r ?_ | refine inb_r ?_)
    exact ret_raw trivial rfl ⟨by rw [foldV, if_neg h0, if_pos h1], rfl⟩
  have d1 : decide (kind = 1) = false := decide_eq_false h1
  by_cases h2 : kind = 2
  · have d2 : decide (kind = 2) = true := decide_eq_true h2
    repeat' (first | (refine is_al ?_; (first | (refine is_move ?_; refine al_v (opx_move (.raw _)) ⟨rfl, trivial⟩ trivial rfl ?_) | (refine is_bin ?_; refine al_v opx_eql ⟨rfl, rfl, trivial⟩ trivial rfl ?_) | (refine is_assign ?_; refine al_v (opx_assign (.raw _)) ⟨rfl, trivial⟩ trivial rfl ?_) | (refine is_bi ?_; refine al_v opx_max2 ⟨rfl, rfl, trivial⟩ trivial rfl ?_) | refine al_nil ?_)) | (refine is_aw ?_; (first | refine aw_seq ?_ | refine aw_region ?_ | refine aw_block ?_ | refine aw_ret ?_ | (refine is_cond ?_; (first | refine aw_cond_t rfl (by assumption) ?_ | refine aw_cond_f rfl (by assumption) ?_)))) | refine thn_r ?_ | refine inb_r ?_)
    exact ret_raw trivial rfl ⟨by rw [foldV, if_neg h0, if_neg h1, if_pos h2], rfl⟩
  have d2 : decide (kind = 2) = false := decide_eq_false h2
  repeat' (first | (refine is_al ?_; (first | (refine is_move ?_; refine al_v (opx_move (.raw _)) ⟨rfl, trivial⟩ trivial rfl ?_) | (refine is_bin ?_; (first | refine al_v opx_eql ⟨rfl, rfl, trivial⟩ trivial rfl ?_ | refine al_v (opx_add (by unfold InR; omega)) ⟨rfl, rfl, trivial⟩ trivial rfl ?_)) | (refine is_assign ?_; refine al_v (opx_assign (.raw _)) ⟨rfl, trivial⟩ trivial rfl ?_) | refine al_nil ?_)) | (refine is_aw ?_; (first | refine aw_seq ?_ | refine aw_region ?_ | refine aw_skip ?_ | refine aw_block ?_ | refine aw_ret ?_ | (refine is_cond ?_; refine aw_cond_f rfl (by assumption) ?_))))
  exact ret_raw trivial rfl ⟨by rw [foldV, if_neg h0, if_neg h1, if_neg h2], rfl⟩
theorem c_keep' (l : List Lb) (ns : List Str) (hl : l.length ≤ 2000000) (hL : ns.length ≤ 1000000000) : Con Try.prog 31 [slL l, slS ns] [] (fun rs all => rs = [slL (keepL ns l)] ∧ all = []) :=
  (c_keep l ns hl hL).froz fun rs all ⟨h1, h2⟩ => by subst h1 h2; exact ⟨⟨rfl, rfl⟩, rfl⟩
def kTx (out : List Sm) : List Str := out.map fun s => txt s.1
theorem kTx_len {out : List Sm} : (kTx out).length = out.length := List.length_map _
theorem kTx_pos : ∀ {out : List Sm} {k : List Lb}, (∀ s ∈ out, VL s.1) → VL k → mpI (kTx out) (txt k) = pos out k
  | [], _, _, _ => rfl
  | s :: out, k, h1, h2 => by
    have ih := kTx_pos (out := out) (k := k) (fun t ht => h1 t (.tail _ ht)) h2
    have e : decide (txt s.1 = txt k) = decide (s.1 = k) := by
      rw [Bool.eq_iff_iff, decide_eq_true_iff, decide_eq_true_iff]
      exact ⟨fun h => IsT_inj ⟨h1 s (.head _), h⟩ ⟨h2, rfl⟩, fun h => by rw [h]⟩
    rw [mpI, pos] at ih
    rw [mpI, pos, kTx, List.map_cons, List.findIdx_cons, List.findIdx_cons, e]
    cases decide (s.1 = k)
    · simp only [cond_false]
      rw [← ih]; rfl
    · rfl
theorem kTx_set {out : List Sm} {p : Nat} {k : List Lb} {a b : Int} (h : out[p]? = some (k, a)) : kTx (out.set p (k, b)) = kTx out := by
  have := congrArg (List.map txt) (map_set_same (b := b) h)
  rw [List.map_map, List.map_map] at this
  exact this
/-- Values of groups stay small. -/
def smallV (out : List Sm) (n : Nat) : Prop := ∀ s ∈ out, -(1000 * (n : Int)) - 1 ≤ s.2 ∧ s.2 ≤ 1000 * (n : Int) + 1
theorem foldV_small {kind a v : Int} {n : Nat} (hn : 1 ≤ n) (ha : -(1000 * (n : Int)) - 1 ≤ a ∧ a ≤ 1000 * (n : Int) + 1) (hv : -1000 ≤ v ∧ v ≤ 1000) : -(1000 * ((n + 1 : Nat) : Int)) - 1 ≤ foldV kind a v ∧ foldV kind a v ≤ 1000 * ((n + 1 : Nat) : Int) + 1 := by
  unfold foldV
  split
  · omega
  · split
    · omega
    · split <;> omega
theorem upd_small {kind : Int} {out : List Sm} {k : List Lb} {v : Int} {n : Nat} (h : smallV out n) (hn : out.length ≤ n) (hv : -1000 ≤ v ∧ v ≤ 1000) : smallV (upd kind out k v) (n + 1) := by
  intro s hs
  by_cases hp : pos out k < out.length
  · obtain ⟨a, ha⟩ := pos_at hp
    rw [upd_old ha] at hs
    rcases List.mem_or_eq_of_mem_set hs with hs | rfl
    · have := h s hs; omega
    · exact foldV_small (by omega) (h _ (List.mem_of_getElem? ha)) hv
  · rw [upd_new hp] at hs
    rcases List.mem_append.1 hs with hs | hs
    · have := h s hs; omega
    · simp at hs
      subst hs
      unfold fstV
      dsimp only
      split <;> omega
theorem grp_small {ns : List Str} {kind : Int} (l : List Sm) (h : ∀ s ∈ l, -1000 ≤ s.2 ∧ s.2 ≤ 1000) : smallV (grp ns kind l) l.length := by
  refine grp_ind (ns := ns) (kind := kind) (P := fun l o => (∀ s ∈ l, -1000 ≤ s.2 ∧ s.2 ≤ 1000) → smallV o l.length) (fun _ s hs => by cases hs) (fun l s ih hl => ?_) l h
  rw [List.length_append, List.length_singleton]
  exact upd_small (ih fun t ht => hl t (List.mem_append_left _ ht)) grp_len (hl s (by simp))
noncomputable def grB (l : List Sm) (kind : Int) : Bool := vsmB l && decide (0 ≤ kind ∧ kind ≤ 3)
noncomputable def grR (ns : List Str) (kind : Int) (l : List Sm) : List Sm := if grB l kind = true then grp ns kind l else []
end Go.Proofs.Ytokhfcfnhgianaa
