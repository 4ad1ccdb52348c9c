/- Texts: W93 W67 W68 W69 Eng32 W70 -/
import Derived.Test.YtokhfcfnhgianaaCG13
import Derived.Test.YtokhfcfnhgianaaCG10
import Derived.Test.YtokhfcfnhgianaaCG8
/-
  Groups: the reference's walk.
-/
namespace Go.Proofs.Ytokhfcfnhgianaa
open Go.RowKit
set_option linter.unusedVariables false
set_option linter.unusedSimpArgs false
attribute [local irreducible] AL AW OpX Le AD

theorem c_group (l : List Sm) (ns : List Str) (kind : Int) (hVS : VSm l) (hns : ns.length ≤ 1000000000) : Con Try.prog 18 [slM l, slS ns, rI kind] [] (fun rs all => rs = [.one (.own 0)] ∧ all = [.row 2 44 (smRs (grp ns kind l))]) := by
  have hlr := smRs_len (xs := l)
  have h8 := hVS.1
  refine con_of_aw (vars := [.tmp 6]) [(0, .r (slM l)), (1, .r (slS ns)), (2, .r (rI kind))] [] 0 Try.func18 (by kernel_rfl) rfl Try.ntmps18 rfl (by decide) rfl rfl rfl rfl rfl ?_; intro B M w0 ρ0 Z0
  repeat' (first | (refine is_al ?_; (first | (refine is_assign ?_; (first | refine al_v (opx_assign (.raw _)) ⟨rfl, trivial⟩ trivial rfl ?_ | refine al_v (opx_assign (.own _)) ⟨rfl, trivial⟩ trivial rfl ?_)) | (refine is_bs ?_; refine al_n opx_lit0 trivial trivial rfl ?_) | refine al_nil ?_)) | (refine is_aw ?_; (first | refine aw_seq ?_ | refine aw_region ?_ | refine aw_block ?_)))
  refine aw_loop (γ := Nat) (fun k => [(0, .r (slM l)), (1, .r (slS ns)), (2, .r (rI kind)), (7, .own 0), (8, .i (k : Int))]) (fun k => [(0, .row 2 44 (smRs (grp ns kind (l.take k))))]) (fun _ => 1) (fun k => k ≤ l.length) (fun k => l.length - k) 0 (Nat.zero_le _) (le_mk [0] rfl rfl rfl rfl ⟨rfl, rfl, rfl, rfl, rfl, trivial⟩ ⟨rfl, trivial⟩) ?_
  intro k hk1
  have hgl := grp_len (ns := ns) (kind := kind) (l := l.take k)
  have hlk : (l.take k).length = k := by rw [List.length_take]; omega
  rcases Nat.lt_or_ge k l.length with hlt | hge
  · have hc1 : decide ((k : Int) < ((smRs l).length : Int)) = true := decide_eq_true (by omega)
    obtain ⟨s, hs⟩ : ∃ s, l[k]? = some s := ⟨_, List.getElem?_eq_getElem hlt⟩
    have hsr := smRs_at hs
    obtain ⟨a1, a2, a3⟩ := VSm_mem hVS (List.mem_of_getElem? hs)
    have hKV := VL_keep (ns := ns) a1
    have hck := c_keep' s.1 ns (by have := a1.1; omega) hns
    have hoV : ∀ t ∈ grp ns kind (l.take k), VL t.1 := grp_VL _ fun t ht => (VSm_mem hVS (List.mem_of_mem_take ht)).1
    have hsm := grp_small (ns := ns) (kind := kind) (l.take k) (fun t ht => (VSm_mem hVS (List.mem_of_mem_take ht)).2)
    have hst := grp_take (ns := ns) (kind := kind) hs
    rw [hlk] at hgl hsm
    generalize hout : grp ns kind (l.take k) = out at hgl hoV hsm hst
    generalize hkey : keepL ns s.1 = key at hKV hck hst
    have hor := smRs_len (xs := out)
    have hple := pos_le (l := out) (k := key)
    have hk4 := hKV.1
    repeat' (first | (refine is_al ?_; (first | (refine is_move ?_; (first | refine al_v (opx_move (.raw _)) ⟨rfl, trivial⟩ trivial rfl ?_ | refine al_v (opx_move (.sl _ _)) ⟨rfl, trivial⟩ trivial rfl ?_)) | (refine is_bin ?_; refine al_v opx_lss ⟨rfl, rfl, trivial⟩ trivial rfl ?_) | (refine is_load ?_; refine al_v opx_ld_imm ⟨rfl, trivial⟩ trivial rfl ?_) | (refine is_fa ?_; refine al_v opx_fa_imm0 ⟨rfl, trivial⟩ trivial rfl ?_) | (refine is_assign ?_; (first | refine al_v (opx_assign (.raw _)) ⟨rfl, trivial⟩ trivial rfl ?_ | refine al_v (opx_assign (.sl _ _)) ⟨rfl, trivial⟩ trivial rfl ?_)) | (refine is_bi ?_; refine al_v opx_len_sl ⟨rfl, trivial⟩ trivial rfl ?_) | (refine is_ia ?_; refine al_v (opx_ia_sl2 hsr (by omega)) ⟨rfl, rfl, trivial⟩ trivial rfl ?_) | (refine is_call ?_; refine al_callF (by (repeat (first | exact .nil | refine .one rfl rfl ?_ | refine .froz rfl rfl ?_ | refine .rnil rfl ?_ | refine .agg rfl (by (repeat (first | exact .nil | refine .cons (.same rfl) ?_ | refine .cons (.froz rfl) ?_ | refine .cons (.rnil) ?_)); (first | done | fail)) ?_)); (first | done | fail)) rfl (hck) rfl ?_) | refine al_nil ?_)) | (refine is_aw ?_; (first | refine aw_seq ?_ | refine aw_region ?_ | refine aw_skip ?_ | refine aw_block ?_ | (refine is_cond ?_; refine aw_cond_t rfl (by assumption) ?_))))
    refine aw_loop (γ := Nat) (fun j => [(0, .r (slM l)), (1, .r (slS ns)), (2, .r (rI kind)), (7, .own 0), (8, .i (k : Int)), (9, .sl 2 (lbRs key)), (10, .i (j : Int))]) (fun j => [(0, .row 2 44 (smRs out))]) (fun _ => 1) (fun j => j ≤ pos out key) (fun j => out.length - j) 0 (Nat.zero_le _) (le_mk [0] rfl rfl rfl rfl ⟨rfl, rfl, rfl, rfl, rfl, rfl, rfl, trivial⟩ ⟨rfl, trivial⟩) ?_
    intro j hj
    rcases Nat.lt_or_ge j (pos out key) with hjt | hjg
    · have hc2 : decide ((j : Int) < ((smRs out).length : Int)) = true := decide_eq_true (by omega)
      obtain ⟨t, ht⟩ : ∃ t, out[j]? = some t := ⟨_, List.getElem?_eq_getElem (by omega)⟩
      have htr := smRs_at ht
      have hjl : j < (smRs out).length := by omega
      have ht4 := (hoV t (List.mem_of_getElem? ht)).1
      have hne := pos_not hjt ht
      have e3 : (!decide (cmpL t.1 key = 0)) = true := by rw [decide_eq_false (fun h => hne (cmpL_iff.1 h))]; rfl
      repeat' (first | (refine is_al ?_; (first | (refine is_gd ?_; refine al_on rfl rfl rfl (by assumption) ?_) | (refine is_move ?_; (first | refine al_v (opx_move (.raw _)) ⟨rfl, trivial⟩ trivial rfl ?_ | refine al_v (opx_move (.sl _ _)) ⟨rfl, trivial⟩ trivial rfl ?_ | refine al_v (opx_move (.own _)) ⟨rfl, trivial⟩ trivial rfl ?_)) | (refine is_bin ?_; (first | refine al_v opx_neq ⟨rfl, rfl, trivial⟩ trivial rfl ?_ | refine al_v opx_lss ⟨rfl, rfl, trivial⟩ trivial rfl ?_ | refine al_v (opx_add (by unfold InR; omega)) ⟨rfl, rfl, trivial⟩ trivial rfl ?_)) | (refine is_load ?_; refine al_v (opx_ld_el (by assumption) rfl) ⟨rfl, trivial⟩ ⟨rfl, trivial⟩ rfl ?_) | (refine is_fa ?_; refine al_v opx_fa_el ⟨rfl, trivial⟩ trivial rfl ?_) | (refine is_assign ?_; refine al_v (opx_assign (.raw _)) ⟨rfl, trivial⟩ trivial rfl ?_) | (refine is_pick ?_; refine al_v (opx_pick_t (.raw _) (by assumption)) ⟨rfl, rfl, trivial⟩ trivial rfl ?_) | (refine is_bi ?_; refine al_v opx_len_own ⟨rfl, trivial⟩ ⟨rfl, trivial⟩ rfl ?_) | (refine is_ia ?_; refine al_v (opx_ia_own2 hjl (by omega)) ⟨rfl, rfl, trivial⟩ ⟨rfl, trivial⟩ rfl ?_) | (refine is_call ?_; refine al_callv2 (by (repeat (first | exact .nil | refine .one rfl rfl ?_ | refine .froz rfl rfl ?_ | refine .row rfl rfl ?_ | refine .rnil rfl ?_ | refine .agg rfl (by (repeat (first | exact .nil | refine .cons (.same rfl) ?_ | refine .cons (.froz rfl) ?_ | refine .cons (.rnil) ?_ | refine .cons (.row rfl rfl) ?_)); (first | done | fail)) ?_)); (first | done | fail)) rfl (c_compareLabels _ _ (by omega) (by omega)) rfl ?_) | refine al_nil ?_)) | (refine is_aw ?_; (first | refine aw_seq ?_ | refine aw_region ?_ | refine aw_skip ?_ | refine aw_block ?_ | (refine is_cond ?_; refine aw_cond_t rfl (by assumption) ?_))) | refine thn_n ?_ | refine inb_n ?_)
      exact ⟨j + 1, hjt, by omega, le_mk [0] rfl rfl rfl rfl ⟨rfl, rfl, rfl, rfl, rfl, rfl, rfl, trivial⟩ ⟨rfl, trivial⟩⟩
    · have hjp : j = pos out key := by omega
      rw [hjp]
      clear hjg hj hjp
      generalize hP : pos out key = p at hple
      by_cases hp : p < out.length
      · obtain ⟨a, ha⟩ := pos_at (l := out) (k := key) (by omega)
        rw [upd_old ha] at hst
        rw [hP] at ha hst
        have hsv := hsm _ (List.mem_of_getElem? ha)
        dsimp only at hsv
        have har : (smRs out)[p]? = some [.sl 2 (lbRs key), cI a] := smRs_at ha
        have hpl : p < (smRs out).length := by omega
        have hc2 : decide ((p : Int) < ((smRs out).length : Int)) = true := decide_eq_true (by omega)
        have hc3 : decide ((p : Int) = ((smRs out).length : Int)) = false := decide_eq_false (by omega)
        have e3 : (!decide (cmpL key key = 0)) = false := by rw [decide_eq_true (cmpL_self key)]; rfl
        repeat' (first | (refine is_al ?_; (first | (refine is_gd ?_; refine al_on rfl rfl rfl (by assumption) ?_) | (refine is_move ?_; (first | refine al_v (opx_move (.raw _)) ⟨rfl, trivial⟩ trivial rfl ?_ | refine al_v (opx_move (.sl _ _)) ⟨rfl, trivial⟩ trivial rfl ?_ | refine al_v (opx_move (.own _)) ⟨rfl, trivial⟩ trivial rfl ?_)) | (refine is_bin ?_; (first | refine al_v opx_eql ⟨rfl, rfl, trivial⟩ trivial rfl ?_ | refine al_v opx_neq ⟨rfl, rfl, trivial⟩ trivial rfl ?_ | refine al_v opx_lss ⟨rfl, rfl, trivial⟩ trivial rfl ?_ | refine al_v (opx_add (by unfold InR; omega)) ⟨rfl, rfl, trivial⟩ trivial rfl ?_)) | (refine is_load ?_; refine al_v (opx_ld_el (by assumption) rfl) ⟨rfl, trivial⟩ ⟨rfl, trivial⟩ rfl ?_) | (refine is_fa ?_; refine al_v opx_fa_el ⟨rfl, trivial⟩ trivial rfl ?_) | (refine is_assign ?_; refine al_v (opx_assign (.raw _)) ⟨rfl, trivial⟩ trivial rfl ?_) | (refine is_pick ?_; refine al_v (opx_pick_t (.raw _) (by assumption)) ⟨rfl, rfl, trivial⟩ trivial rfl ?_) | (refine is_bi ?_; refine al_v opx_len_own ⟨rfl, trivial⟩ ⟨rfl, trivial⟩ rfl ?_) | (refine is_ia ?_; refine al_v (opx_ia_own2 hpl (by omega)) ⟨rfl, rfl, trivial⟩ ⟨rfl, trivial⟩ rfl ?_) | (refine is_call ?_; refine al_callv2 (by (repeat (first | exact .nil | refine .one rfl rfl ?_ | refine .froz rfl rfl ?_ | refine .row rfl rfl ?_ | refine .rnil rfl ?_ | refine .agg rfl (by (repeat (first | exact .nil | refine .cons (.same rfl) ?_ | refine .cons (.froz rfl) ?_ | refine .cons (.rnil) ?_ | refine .cons (.row rfl rfl) ?_)); (first | done | fail)) ?_)); (first | done | fail)) rfl (c_compareLabels _ _ (by omega) (by omega)) rfl ?_) | refine al_nil ?_ | refine ad_stM1 rfl rfl rfl (by assumption) ?_)) | (refine is_ad ?_; (first | (refine isd_move ?_; (first | refine ad_v (opx_move (.raw _)) ⟨rfl, trivial⟩ trivial rfl ?_ | refine ad_v (opx_move (.sl _ _)) ⟨rfl, trivial⟩ trivial rfl ?_ | refine ad_v (opx_move (.own _)) ⟨rfl, trivial⟩ trivial rfl ?_)) | (refine isd_load ?_; (first | refine ad_v opx_ld_imm ⟨rfl, trivial⟩ trivial rfl ?_ | refine ad_v (opx_ld_el (by assumption) rfl) ⟨rfl, trivial⟩ ⟨rfl, trivial⟩ rfl ?_)) | (refine isd_fa ?_; (first | refine ad_v opx_fa_imm1 ⟨rfl, trivial⟩ trivial rfl ?_ | refine ad_v opx_fa_el ⟨rfl, trivial⟩ trivial rfl ?_)) | (refine isd_ia ?_; (first | refine ad_v (opx_ia_sl2 hsr (by omega)) ⟨rfl, rfl, trivial⟩ trivial rfl ?_ | refine ad_v (opx_ia_own2 hpl (by omega)) ⟨rfl, rfl, trivial⟩ ⟨rfl, trivial⟩ rfl ?_)) | (refine isd_call ?_; refine ad_callv2 (by (repeat (first | exact .nil | refine .one rfl rfl ?_ | refine .froz rfl rfl ?_ | refine .row rfl rfl ?_ | refine .rnil rfl ?_ | refine .agg rfl (by (repeat (first | exact .nil | refine .cons (.same rfl) ?_ | refine .cons (.froz rfl) ?_ | refine .cons (.rnil) ?_ | refine .cons (.row rfl rfl) ?_)); (first | done | fail)) ?_)); (first | done | fail)) rfl (c_fold _ _ _ (by omega) (by omega)) rfl ?_) | refine ad_nil (by kernel_rfl) ?_ | refine ad_stM1 rfl rfl rfl (by assumption) ?_)) | (refine is_aw ?_; (first | refine aw_seq ?_ | refine aw_region ?_ | refine aw_exit ?_ | (refine is_cond ?_; refine aw_cond_f rfl (by assumption) ?_) | refine aw_draw mixed ?_)) | refine thn_n ?_)
        exact ⟨k + 1, hlt, by omega, le_mk [0] rfl rfl rfl rfl ⟨rfl, rfl, rfl, rfl, rfl, trivial⟩ ⟨by rw [hst]; rfl, trivial⟩⟩
      · obtain rfl : p = out.length := by omega
        rw [upd_new (by omega)] at hst
        have hc2 : decide ((out.length : Int) < ((smRs out).length : Int)) = false := decide_eq_false (by omega)
        have hc3 : decide ((out.length : Int) = ((smRs out).length : Int)) = true := decide_eq_true (by omega)
        by_cases h3 : kind = 3
        · have e3 : decide (kind = 3) = true := decide_eq_true h3
          have hf : fstV kind s.2 = 1 := by rw [fstV, if_pos h3]
          rw [hf] at hst
          have hla : (out ++ [(key, s.2)])[out.length]? = some (key, s.2) := by simp
          have hll : out.length < (smRs (out ++ [(key, s.2)])).length := by rw [smRs_len, List.length_append]; simp
          have hse : (out ++ [(key, s.2)]).set out.length (key, 1) = out ++ [(key, 1)] := by simp
          repeat' (first | (refine is_al ?_; (first | (refine is_gd ?_; refine al_off rfl rfl rfl (by assumption) rfl ?_) | (refine is_move ?_; (first | refine al_v (opx_move (.raw _)) ⟨rfl, trivial⟩ trivial rfl ?_ | refine al_v (opx_move (.sl _ _)) ⟨rfl, trivial⟩ trivial rfl ?_ | refine al_v (opx_move (.own _)) ⟨rfl, trivial⟩ trivial rfl ?_)) | (refine is_bin ?_; (first | refine al_v opx_eql ⟨rfl, rfl, trivial⟩ trivial rfl ?_ | refine al_v opx_lss ⟨rfl, rfl, trivial⟩ trivial rfl ?_ | refine al_v (opx_add (by unfold InR; omega)) ⟨rfl, rfl, trivial⟩ trivial rfl ?_)) | (refine is_load ?_; refine al_v opx_ld_imm ⟨rfl, trivial⟩ trivial rfl ?_) | (refine is_fa ?_; (first | refine al_v opx_fa_imm1 ⟨rfl, trivial⟩ trivial rfl ?_ | refine al_v opx_fa_el ⟨rfl, trivial⟩ trivial rfl ?_)) | (refine is_assign ?_; (first | refine al_v (opx_assign (.raw _)) ⟨rfl, trivial⟩ trivial rfl ?_ | refine al_v (opx_assign (.own _)) ⟨rfl, trivial⟩ trivial rfl ?_)) | (refine is_pick ?_; refine al_v (opx_pick_f (.raw _) (by assumption)) ⟨rfl, rfl, trivial⟩ trivial rfl ?_) | (refine is_bi ?_; refine al_v opx_len_own ⟨rfl, trivial⟩ ⟨rfl, trivial⟩ rfl ?_) | (refine is_ia ?_; (first | refine al_v (opx_ia_sl2 hsr (by omega)) ⟨rfl, rfl, trivial⟩ trivial rfl ?_ | refine al_v (opx_ia_own2 hll (by omega)) ⟨rfl, rfl, trivial⟩ ⟨rfl, trivial⟩ rfl ?_)) | (refine is_st ?_; refine al_stM1 rfl rfl rfl (by assumption) ?_) | refine al_v (opx_build2 (res := [_, _]) rfl) ⟨rfl, rfl, trivial⟩ trivial rfl ?_ | (refine is_bs ?_; refine al_pushM ⟨rfl, trivial⟩ rfl rfl rfl rfl rfl (by omega) ?_) | refine al_nil ?_)) | (refine is_aw ?_; (first | refine aw_seq ?_ | refine aw_region ?_ | refine aw_exit ?_ | (refine is_cond ?_; (first | refine aw_cond_f rfl rfl ?_ | refine aw_cond_t rfl (by assumption) ?_)))) | refine thn_n ?_)
          exact ⟨k + 1, hlt, by omega, le_mk [_] rfl rfl rfl rfl ⟨rfl, rfl, rfl, rfl, rfl, trivial⟩ ⟨by rw [hst, ← hse]; rfl, trivial⟩⟩
        · have e3 : decide (kind = 3) = false := decide_eq_false h3
          have hf : fstV kind s.2 = s.2 := by rw [fstV, if_neg h3]
          rw [hf] at hst
          repeat' (first | (refine is_al ?_; (first | (refine is_gd ?_; refine al_off rfl rfl rfl (by assumption) rfl ?_) | (refine is_move ?_; (first | refine al_v (opx_move (.raw _)) ⟨rfl, trivial⟩ trivial rfl ?_ | refine al_v (opx_move (.sl _ _)) ⟨rfl, trivial⟩ trivial rfl ?_ | refine al_v (opx_move (.own _)) ⟨rfl, trivial⟩ trivial rfl ?_)) | (refine is_bin ?_; (first | refine al_v opx_eql ⟨rfl, rfl, trivial⟩ trivial rfl ?_ | refine al_v opx_lss ⟨rfl, rfl, trivial⟩ trivial rfl ?_ | refine al_v (opx_add (by unfold InR; omega)) ⟨rfl, rfl, trivial⟩ trivial rfl ?_)) | (refine is_load ?_; refine al_v opx_ld_imm ⟨rfl, trivial⟩ trivial rfl ?_) | (refine is_fa ?_; refine al_v opx_fa_imm1 ⟨rfl, trivial⟩ trivial rfl ?_) | (refine is_assign ?_; (first | refine al_v (opx_assign (.raw _)) ⟨rfl, trivial⟩ trivial rfl ?_ | refine al_v (opx_assign (.own _)) ⟨rfl, trivial⟩ trivial rfl ?_)) | (refine is_pick ?_; refine al_v (opx_pick_f (.raw _) (by assumption)) ⟨rfl, rfl, trivial⟩ trivial rfl ?_) | (refine is_bi ?_; refine al_v opx_len_own ⟨rfl, trivial⟩ ⟨rfl, trivial⟩ rfl ?_) | (refine is_ia ?_; refine al_v (opx_ia_sl2 hsr (by omega)) ⟨rfl, rfl, trivial⟩ trivial rfl ?_) | refine al_v (opx_build2 (res := [_, _]) rfl) ⟨rfl, rfl, trivial⟩ trivial rfl ?_ | (refine is_bs ?_; refine al_pushM ⟨rfl, trivial⟩ rfl rfl rfl rfl rfl (by omega) ?_) | refine al_nil ?_)) | (refine is_aw ?_; (first | refine aw_seq ?_ | refine aw_region ?_ | refine aw_skip ?_ | refine aw_exit ?_ | (refine is_cond ?_; (first | refine aw_cond_f rfl rfl ?_ | refine aw_cond_t rfl (by assumption) ?_ | refine aw_cond_f rfl (by assumption) ?_)))) | refine thn_n ?_)
          exact ⟨k + 1, hlt, by omega, le_mk [_] rfl rfl rfl rfl ⟨rfl, rfl, rfl, rfl, rfl, trivial⟩ ⟨by rw [hst]; rfl, trivial⟩⟩
  · have hc1 : decide ((k : Int) < ((smRs l).length : Int)) = false := decide_eq_false (by omega)
    rw [List.take_of_length_le hge]
    repeat' (first | (refine is_al ?_; (first | (refine is_move ?_; (first | refine al_v (opx_move (.raw _)) ⟨rfl, trivial⟩ trivial rfl ?_ | refine al_v (opx_move (.sl _ _)) ⟨rfl, trivial⟩ trivial rfl ?_ | refine al_v (opx_move (.own _)) ⟨rfl, trivial⟩ trivial rfl ?_)) | (refine is_bin ?_; refine al_v opx_lss ⟨rfl, rfl, trivial⟩ trivial rfl ?_) | (refine is_assign ?_; refine al_v (opx_assign (.own _)) ⟨rfl, trivial⟩ trivial rfl ?_) | (refine is_bi ?_; refine al_v opx_len_sl ⟨rfl, trivial⟩ trivial rfl ?_) | refine al_nil ?_)) | (refine is_aw ?_; (first | refine aw_seq ?_ | refine aw_region ?_ | refine aw_ret ?_ | refine aw_exit ?_ | (refine is_cond ?_; refine aw_cond_f rfl (by assumption) ?_))))
    exact ret_row trivial rfl rfl ⟨rfl, rfl⟩
theorem c_sGroupBy (l : List Sm) (ns : List Str) (kind : Int) (hL : l.length ≤ 2000000) (hb : smBig l) (hns : ns.length ≤ 1000000000) : Con Try.prog 6 [slM l, slS ns, rI kind] [] (fun rs all => rs = [.one (.own 0), rB (grB l kind)] ∧ all = [.row 2 44 (smRs (grR ns kind l))]) := by
  have n1 : (!true) = false := rfl
  have n2 : (!false) = true := rfl
  have hcv := c_sValidSamples l hL hb
  refine con_of_aw (vars := [.tmp 6, .tmp 7]) [(0, .r (slM l)), (1, .r (slS ns)), (2, .r (rI kind))] [] 0 Try.func6 (by kernel_rfl) rfl Try.ntmps6 rfl (by decide) rfl rfl rfl rfl rfl ?_; intro B M w0 ρ0 Z0
  cases hv : vsmB l
  · rw [hv] at hcv
    have f1 : grB l kind = false := by rw [grB, hv]; rfl
    have f2 : grR ns kind l = [] := by rw [grR, f1]; rfl
    repeat' (first | (refine is_al ?_; (first | (refine is_gd ?_; refine al_off rfl rfl rfl (by assumption) rfl ?_) | (refine is_move ?_; (first | refine al_v (opx_move (.raw _)) ⟨rfl, trivial⟩ trivial rfl ?_ | refine al_v (opx_move (.sl _ _)) ⟨rfl, trivial⟩ trivial rfl ?_)) | (refine is_assign ?_; refine al_v (opx_assign (.raw _)) ⟨rfl, trivial⟩ trivial rfl ?_) | (refine is_pick ?_; refine al_v (opx_pick_t (.raw _) rfl) ⟨rfl, rfl, trivial⟩ trivial rfl ?_) | (refine is_call ?_; refine al_callv2 (by (repeat (first | exact .nil | refine .one rfl rfl ?_ | refine .froz rfl rfl ?_ | refine .row rfl rfl ?_ | refine .rnil rfl ?_ | refine .agg rfl (by (repeat (first | exact .nil | refine .cons (.same rfl) ?_ | refine .cons (.froz rfl) ?_ | refine .cons (.rnil) ?_ | refine .cons (.row rfl rfl) ?_)); (first | done | fail)) ?_)); (first | done | fail)) rfl (hcv) rfl ?_) | refine al_v opx_not ⟨rfl, trivial⟩ trivial rfl ?_ | refine al_nil ?_)) | (refine is_aw ?_; (first | refine aw_seq ?_ | refine aw_region ?_ | (refine is_cond ?_; refine aw_cond_t rfl rfl ?_))) | refine thn_n ?_)
    refine aw_le (le_ownNil 6 2 44 rfl) ?_
    repeat' (first | (refine is_aw ?_; refine aw_ret ?_) | refine thn_r ?_)
    exact ret_row_raw trivial rfl rfl rfl ⟨by rw [f1], by rw [f2]; rfl⟩
  · rw [hv] at hcv
    by_cases hk : 0 ≤ kind ∧ kind ≤ 3
    · have e1 : (!decide (0 ≤ kind ∧ kind ≤ 3)) = false := by rw [decide_eq_true hk]; rfl
      have f1 : grB l kind = true := by rw [grB, hv, decide_eq_true hk]; rfl
      have f2 : grR ns kind l = grp ns kind l := by rw [grR, if_pos f1]
      repeat' (first | (refine is_al ?_; (first | (refine is_gd ?_; refine al_on rfl rfl rfl (by assumption) ?_) | (refine is_move ?_; (first | refine al_v (opx_move (.raw _)) ⟨rfl, trivial⟩ trivial rfl ?_ | refine al_v (opx_move (.sl _ _)) ⟨rfl, trivial⟩ trivial rfl ?_)) | (refine is_assign ?_; (first | refine al_v (opx_assign (.raw _)) ⟨rfl, trivial⟩ trivial rfl ?_ | refine al_v (opx_assign (.own _)) ⟨rfl, trivial⟩ trivial rfl ?_)) | (refine is_pick ?_; refine al_v (opx_pick_f (.raw _) rfl) ⟨rfl, rfl, trivial⟩ trivial rfl ?_) | (refine is_call ?_; (first | refine al_callv2 (by (repeat (first | exact .nil | refine .one rfl rfl ?_ | refine .froz rfl rfl ?_ | refine .row rfl rfl ?_ | refine .rnil rfl ?_ | refine .agg rfl (by (repeat (first | exact .nil | refine .cons (.same rfl) ?_ | refine .cons (.froz rfl) ?_ | refine .cons (.rnil) ?_ | refine .cons (.row rfl rfl) ?_)); (first | done | fail)) ?_)); (first | done | fail)) rfl (hcv) rfl ?_ | refine al_callv2 (by (repeat (first | exact .nil | refine .one rfl rfl ?_ | refine .froz rfl rfl ?_ | refine .row rfl rfl ?_ | refine .rnil rfl ?_ | refine .agg rfl (by (repeat (first | exact .nil | refine .cons (.same rfl) ?_ | refine .cons (.froz rfl) ?_ | refine .cons (.rnil) ?_ | refine .cons (.row rfl rfl) ?_)); (first | done | fail)) ?_)); (first | done | fail)) rfl (c_inRange _ _ _) rfl ?_ | refine al_callr2 (by (repeat (first | exact .nil | refine .one rfl rfl ?_ | refine .froz rfl rfl ?_ | refine .rnil rfl ?_ | refine .agg rfl (by (repeat (first | exact .nil | refine .cons (.same rfl) ?_ | refine .cons (.froz rfl) ?_ | refine .cons (.rnil) ?_)); (first | done | fail)) ?_)); (first | done | fail)) rfl (c_group l ns kind (vsmB_of hv) hns) ?_)) | refine al_v opx_not ⟨rfl, trivial⟩ trivial rfl ?_ | refine al_nil ?_)) | (refine is_aw ?_; (first | refine aw_seq ?_ | refine aw_region ?_ | refine aw_skip ?_ | refine aw_ret ?_ | (refine is_cond ?_; refine aw_cond_f rfl (by assumption) ?_))))
      exact ret_row_raw trivial rfl rfl rfl ⟨by rw [f1], by rw [f2]⟩
    · have e1 : (!decide (0 ≤ kind ∧ kind ≤ 3)) = true := by rw [decide_eq_false hk]; rfl
      have f1 : grB l kind = false := by rw [grB, decide_eq_false hk, Bool.and_false]
      have f2 : grR ns kind l = [] := by rw [grR, f1]; rfl
      repeat' (first | (refine is_al ?_; (first | (refine is_gd ?_; refine al_on rfl rfl rfl (by assumption) ?_) | (refine is_move ?_; (first | refine al_v (opx_move (.raw _)) ⟨rfl, trivial⟩ trivial rfl ?_ | refine al_v (opx_move (.sl _ _)) ⟨rfl, trivial⟩ trivial rfl ?_)) | (refine is_assign ?_; refine al_v (opx_assign (.raw _)) ⟨rfl, trivial⟩ trivial rfl ?_) | (refine is_pick ?_; refine al_v (opx_pick_f (.raw _) rfl) ⟨rfl, rfl, trivial⟩ trivial rfl ?_) | (refine is_call ?_; (first | refine al_callv2 (by (repeat (first | exact .nil | refine .one rfl rfl ?_ | refine .froz rfl rfl ?_ | refine .row rfl rfl ?_ | refine .rnil rfl ?_ | refine .agg rfl (by (repeat (first | exact .nil | refine .cons (.same rfl) ?_ | refine .cons (.froz rfl) ?_ | refine .cons (.rnil) ?_ | refine .cons (.row rfl rfl) ?_)); (first | done | fail)) ?_)); (first | done | fail)) rfl (hcv) rfl ?_ | refine al_callv2 (by (repeat (first | exact .nil | refine .one rfl rfl ?_ | refine .froz rfl rfl ?_ | refine .row rfl rfl ?_ | refine .rnil rfl ?_ | refine .agg rfl (by (repeat (first | exact .nil | refine .cons (.same rfl) ?_ | refine .cons (.froz rfl) ?_ | refine .cons (.rnil) ?_ | refine .cons (.row rfl rfl) ?_)); (first | done | fail)) ?_)); (first | done | fail)) rfl (c_inRange _ _ _) rfl ?_)) | refine al_v opx_not ⟨rfl, trivial⟩ trivial rfl ?_ | refine al_nil ?_)) | (refine is_aw ?_; (first | refine aw_seq ?_ | refine aw_region ?_ | (refine is_cond ?_; refine aw_cond_t rfl (by assumption) ?_))) | refine thn_n ?_)
      refine aw_le (le_ownNil 6 2 44 rfl) ?_
      repeat' (first | (refine is_aw ?_; refine aw_ret ?_) | refine thn_r ?_)
      exact ret_row_raw trivial rfl rfl rfl ⟨by rw [f1], by rw [f2]; rfl⟩
theorem c_sGroupBy' (l : List Sm) (ns : List Str) (kind : Int) (hL : l.length ≤ 2000000) (hb : smBig l) (hns : ns.length ≤ 1000000000) : Con Try.prog 6 [slM l, slS ns, rI kind] [] (fun rs all => rs = [slM (grR ns kind l), rB (grB l kind)] ∧ all = []) :=
  (c_sGroupBy l ns kind hL hb hns).froz fun rs all ⟨h1, h2⟩ => by subst h1 h2; exact ⟨⟨rfl, rfl⟩, rfl⟩
end Go.Proofs.Ytokhfcfnhgianaa
/-
  Labels: the reference's parsing: the walks.
-/
namespace Go.Proofs.Ytokhfcfnhgianaa
open Go.RowKit
set_option linter.unusedVariables false
set_option linter.unusedSimpArgs false
attribute [local irreducible] AL AW OpX Le AD

end Go.Proofs.Ytokhfcfnhgianaa
/-
  Labels: the reference's parsing, whole.
-/
namespace Go.Proofs.Ytokhfcfnhgianaa
open Go.RowKit
set_option linter.unusedVariables false
set_option linter.unusedSimpArgs false
attribute [local irreducible] AL AW OpX Le AD

end Go.Proofs.Ytokhfcfnhgianaa
/-
  Labels: the reference's parsing, all texts.
-/
namespace Go.Proofs.Ytokhfcfnhgianaa
open Go.RowKit
set_option linter.unusedVariables false
set_option linter.unusedSimpArgs false
attribute [local irreducible] AL AW OpX Le AD

end Go.Proofs.Ytokhfcfnhgianaa
/-
  Own bytes as a string.
-/
namespace Go.Proofs.Ytokhfcfnhgianaa
open Go.RowKit
set_option linter.unusedVariables false
section
variable {P : Program} {d u : Nat} {x : Operand} {ty : TypeId} {pos : String} {af : Array Edge} {gd : Option (Nat × Bool)}
theorem opx_bstr_own {src dst e e' wd bytes : Nat} {zs : List Value} [hT : SlT P src e wd bytes zs] [hS : StrT P dst] (he : P.underlying e = some (.int .u8)) {bs : List UInt8} :
    OpX P ⟨some d, .convert src dst x, ty, pos, af, gd⟩ [(x, .own u)] [(u, .row 1 e' (byRs bs))] [] [(d, .str bs)] [] :=
  opx_bstr [(u, .row 1 e' (byRs bs))] he (av := .own u) fun O h => .inr ⟨_, h.1⟩
end
end Go.Proofs.Ytokhfcfnhgianaa
/-
  The exact law of parsing labels: the walks.
-/
namespace Go.Proofs.Ytokhfcfnhgianaa
open Go.RowKit
set_option linter.unusedVariables false
set_option linter.unusedSimpArgs false
attribute [local irreducible] AL AW OpX Le AD

/-- Marks that are texts. -/
def mkTs (k : Nat) (out : Str) : Str := if k = 0 then out else mkTs (k / 10) (UInt8.ofNat (48 + k % 10) :: out)
termination_by k
decreasing_by omega
def mkT (k : Int) : Str := 109 :: mkTs k.toNat []
theorem mkTs_0 {out : Str} : mkTs 0 out = out := by rw [mkTs, if_pos rfl]
theorem mkTs_s {k : Nat} {out : Str} (h : k ≠ 0) : mkTs k out = mkTs (k / 10) (UInt8.ofNat (48 + k % 10) :: out) := by rw [mkTs, if_neg h]
theorem c_markText (n : Int) (h : 1 ≤ n ∧ n ≤ 1000000000000) : Con Try.prog 26 [rI n] [] (fun rs all => rs = [rStr (mkT n)] ∧ all = []) := by
  obtain ⟨k, rfl⟩ : ∃ k : Nat, n = (k : Int) := ⟨n.toNat, by omega⟩
  refine con_of_aw (vars := [.tmp 2]) [(0, .r (rI (k : Int)))] [] 0 Try.func26 (by kernel_rfl) rfl Try.ntmps26 rfl (by decide) rfl rfl rfl rfl rfl ?_; intro B M w0 ρ0 Z0
  have d0 : decide ((k : Int) ≤ 0) = false := decide_eq_false (by omega)
  repeat' (first | (refine is_al ?_; (first | (refine is_move ?_; refine al_v (opx_move (.raw _)) ⟨rfl, trivial⟩ trivial rfl ?_) | (refine is_bin ?_; refine al_v opx_leq ⟨rfl, rfl, trivial⟩ trivial rfl ?_) | (refine is_assign ?_; refine al_v (opx_assign (.raw _)) ⟨rfl, trivial⟩ trivial rfl ?_) | refine al_nil ?_)) | (refine is_aw ?_; (first | refine aw_seq ?_ | refine aw_region ?_ | refine aw_skip ?_ | refine aw_block ?_ | (refine is_cond ?_; refine aw_cond_f rfl (by assumption) ?_))))
  refine aw_loop (γ := Nat × Str) (fun g => [(0, .i (g.1 : Int)), (3, .str g.2)]) (fun _ => []) (fun _ => 0) (fun g => g.2.length + g.1 ≤ 1000000000000 ∧ mkTs g.1 g.2 = mkTs k []) (fun g => g.1) (k, []) ⟨by dsimp only [List.length_nil]; omega, rfl⟩ (le_mk [] rfl rfl rfl rfl ⟨rfl, rfl, trivial⟩ trivial) ?_
  rintro ⟨j, out⟩ ⟨h1, h2⟩
  dsimp only at h1 h2 ⊢
  have hlo : (out.length : Int) ≤ 1000000000000 := by omega
  rcases Nat.eq_zero_or_pos j with h0 | h0
  · subst h0
    have hc1 : decide ((0 : Int) < ((0 : Nat) : Int)) = false := rfl
    rw [mkTs_0] at h2
    repeat' (first | (refine is_al ?_; (first | (refine is_move ?_; refine al_v (opx_move (.raw _)) ⟨rfl, trivial⟩ trivial rfl ?_) | (refine is_bin ?_; refine al_v opx_gtr ⟨rfl, rfl, trivial⟩ trivial rfl ?_) | (refine is_assign ?_; refine al_v (opx_assign (.raw _)) ⟨rfl, trivial⟩ trivial rfl ?_) | refine al_nil ?_ | refine al_v (opx_cat (by simp only [List.length_cons, List.length_nil]; omega)) ⟨rfl, rfl, trivial⟩ trivial rfl ?_)) | (refine is_ad ?_; refine al_v (opx_cat (by simp only [List.length_cons, List.length_nil]; omega)) ⟨rfl, rfl, trivial⟩ trivial rfl ?_) | (refine is_aw ?_; (first | refine aw_seq ?_ | refine aw_region ?_ | refine aw_ret ?_ | refine aw_exit ?_ | (refine is_cond ?_; refine aw_cond_f rfl rfl ?_))))
    exact ret_raw trivial rfl ⟨by rw [mkT, Int.toNat_natCast, ← h2]; rfl, rfl⟩
  · have hc1 : decide ((0 : Int) < (j : Int)) = true := decide_eq_true (by omega)
    rw [mkTs_s (by omega)] at h2
    repeat' (first | (refine is_al ?_; (first | (refine is_move ?_; refine al_v (opx_move (.raw _)) ⟨rfl, trivial⟩ trivial rfl ?_) | (refine is_bin ?_; (first | refine al_v opx_gtr ⟨rfl, rfl, trivial⟩ trivial rfl ?_ | refine al_v (opx_add (by unfold InR; omega)) ⟨rfl, rfl, trivial⟩ trivial rfl ?_ | refine al_v (opx_quo (by unfold InR; omega) (by omega) (by omega)) ⟨rfl, rfl, trivial⟩ trivial rfl ?_ | refine al_v (opx_rem (by omega) (by omega)) ⟨rfl, rfl, trivial⟩ trivial rfl ?_)) | (refine is_assign ?_; refine al_v (opx_assign (.raw _)) ⟨rfl, trivial⟩ trivial rfl ?_) | refine al_nil ?_ | refine al_v (opx_byte (k := 48 + j % 10) (by omega) (by omega)) ⟨rfl, trivial⟩ trivial rfl ?_ | refine al_litB1 rfl rfl ?_ | refine al_v (opx_bstr_own (by kernel_rfl)) ⟨rfl, trivial⟩ ⟨rfl, trivial⟩ rfl ?_ | refine al_v (opx_cat (by simp only [List.length_cons, List.length_nil]; omega)) ⟨rfl, rfl, trivial⟩ trivial rfl ?_)) | (refine is_ad ?_; (first | refine al_v (opx_byte (k := 48 + j % 10) (by omega) (by omega)) ⟨rfl, trivial⟩ trivial rfl ?_ | refine al_litB1 rfl rfl ?_ | refine al_v (opx_bstr_own (by kernel_rfl)) ⟨rfl, trivial⟩ ⟨rfl, trivial⟩ rfl ?_ | refine al_v (opx_cat (by simp only [List.length_cons, List.length_nil]; omega)) ⟨rfl, rfl, trivial⟩ trivial rfl ?_)) | (refine is_aw ?_; (first | refine aw_seq ?_ | refine aw_region ?_ | refine aw_skip ?_ | refine aw_block ?_ | (refine is_cond ?_; refine aw_cond_t rfl (by assumption) ?_))) | refine thn_n ?_ | refine inb_n ?_)
    exact ⟨(j / 10, UInt8.ofNat (48 + j % 10) :: out), ⟨by simp only [List.length_cons]; omega, h2⟩, by dsimp only; omega, le_mk [] rfl rfl rfl rfl ⟨rfl, rfl, trivial⟩ trivial⟩
def mkL (k : Int) (n : Nat) : List Lb := (List.range n).map fun i : Nat => (mkT (k + 2 * (i : Int)), mkT (k + 2 * (i : Int) + 1))
theorem mkL_len {k : Int} {n : Nat} : (mkL k n).length = n := by simp [mkL]
theorem mkL_at {k : Int} {n j : Nat} (h : j < n) : (mkL k n)[j]? = some (mkT (k + 2 * (j : Int)), mkT (k + 2 * (j : Int) + 1)) := by simp [mkL, h]
theorem mkL_succ {k : Int} {n : Nat} : mkL k (n + 1) = mkL k n ++ [(mkT (k + 2 * (n : Int)), mkT (k + 2 * (n : Int) + 1))] := by simp [mkL, List.range_succ]
theorem mkL_set {k : Int} {ps : List Lb} {j : Nat} {p : Lb} (hp : ps[j]? = some p) : (mkL k j ++ ps.drop j).set j (mkT (k + 2 * (j : Int)), mkT (k + 2 * (j : Int) + 1)) = mkL k (j + 1) ++ ps.drop (j + 1) := by
  obtain ⟨hj, rfl⟩ := List.getElem?_eq_some_iff.1 hp
  rw [List.set_append_right _ _ (by rw [mkL_len]; omega), mkL_len, Nat.sub_self, List.drop_eq_getElem_cons hj, List.set_cons_zero, mkL_succ, List.append_assoc]; rfl
theorem c_markLabelS (ps : List Lb) (k : Int) (hk : 1 ≤ k ∧ k ≤ 100000000000) (hL : ps.length ≤ 1000000000) : Con Try.prog 25 [.one (.own 0), rI k] [.row 2 60 (lbRs ps)] (fun rs all => rs = [.one (.c (.raw (.int .i64 (k + 2 * (ps.length : Int)))))] ∧ all = [.row 2 60 (lbRs (mkL k ps.length))]) := by
  refine con_of_aw (vars := [.tmp 4]) [(0, .own 0), (1, .r (rI k))] [(0, .row 2 60 (lbRs ps))] 1 Try.func25 (by kernel_rfl) rfl Try.ntmps25 rfl (by decide) rfl rfl rfl rfl rfl ?_; intro B M w0 ρ0 Z0
  repeat' (first | (refine is_al ?_; (first | (refine is_assign ?_; refine al_v (opx_assign (.raw _)) ⟨rfl, trivial⟩ trivial rfl ?_) | refine al_nil ?_)) | (refine is_aw ?_; (first | refine aw_seq ?_ | refine aw_region ?_ | refine aw_block ?_)))
  refine aw_loop (γ := Nat) (fun j => [(0, .own 0), (1, .i (k + 2 * (j : Int))), (5, .i (j : Int))]) (fun j => [(0, .row 2 60 (lbRs (mkL k j ++ ps.drop j)))]) (fun _ => 1)
    (fun j => j ≤ ps.length) (fun j => ps.length - j) 0 (Nat.zero_le _) (le_mk [0] rfl rfl rfl rfl ⟨rfl, by rw [show k + 2 * ((0 : Nat) : Int) = k by omega]; rfl, rfl, trivial⟩ ⟨rfl, trivial⟩) ?_
  intro j hj
  have hlen := lbRs_len (xs := mkL k j ++ ps.drop j)
  have hml : (mkL k j ++ ps.drop j).length = ps.length := by rw [List.length_append, mkL_len, List.length_drop]; omega
  rcases Nat.lt_or_ge j ps.length with hlt | hge
  · have hc : decide ((j : Int) < ((lbRs (mkL k j ++ ps.drop j)).length : Int)) = true := decide_eq_true (by omega)
    obtain ⟨p, hp⟩ : ∃ p, ps[j]? = some p := ⟨_, List.getElem?_eq_getElem hlt⟩
    have hp1 : (mkL k j ++ ps.drop j)[j]? = some p := by rw [List.getElem?_append_right (by rw [mkL_len]; omega), mkL_len, Nat.sub_self, List.getElem?_drop]; exact hp
    have hp2 : ((mkL k j ++ ps.drop j).set j (mkT (k + 2 * (j : Int)), p.2))[j]? = some (mkT (k + 2 * (j : Int)), p.2) := List.getElem?_set_self (by omega)
    have hj1 : j < (lbRs (mkL k j ++ ps.drop j)).length := by omega
    have hj2 : j < (lbRs ((mkL k j ++ ps.drop j).set j (mkT (k + 2 * (j : Int)), p.2))).length := by rw [lbRs_len, List.length_set]; omega
    repeat' (first | (refine is_al ?_; (first | (refine is_move ?_; (first | refine al_v (opx_move (.raw _)) ⟨rfl, trivial⟩ trivial rfl ?_ | refine al_v (opx_move (.own _)) ⟨rfl, trivial⟩ trivial rfl ?_)) | (refine is_bin ?_; (first | refine al_v opx_lss ⟨rfl, rfl, trivial⟩ trivial rfl ?_ | refine al_v (opx_add (by unfold InR; omega)) ⟨rfl, rfl, trivial⟩ trivial rfl ?_)) | (refine is_fa ?_; refine al_v opx_fa_el ⟨rfl, trivial⟩ trivial rfl ?_) | (refine is_assign ?_; refine al_v (opx_assign (.raw _)) ⟨rfl, trivial⟩ trivial rfl ?_) | (refine is_bi ?_; refine al_v opx_len_own ⟨rfl, trivial⟩ ⟨rfl, trivial⟩ rfl ?_) | (refine is_ia ?_; (first | refine al_v (opx_ia_own2 hj1 (by omega)) ⟨rfl, rfl, trivial⟩ ⟨rfl, trivial⟩ rfl ?_ | refine al_v (opx_ia_own2 hj2 (by omega)) ⟨rfl, rfl, trivial⟩ ⟨rfl, trivial⟩ rfl ?_)) | (refine is_call ?_; refine al_callv2 (by (repeat (first | exact .nil | refine .one rfl rfl ?_ | refine .froz rfl rfl ?_ | refine .row rfl rfl ?_ | refine .rnil rfl ?_ | refine .agg rfl (by (repeat (first | exact .nil | refine .cons (.same rfl) ?_ | refine .cons (.froz rfl) ?_ | refine .cons (.rnil) ?_ | refine .cons (.row rfl rfl) ?_)); (first | done | fail)) ?_)); (first | done | fail)) rfl (c_markText _ (by omega)) rfl ?_) | (refine is_st ?_; (first | refine al_stL0 rfl rfl rfl (by assumption) ?_ | refine al_stL1 rfl rfl rfl (by assumption) ?_)) | refine al_nil ?_)) | (refine is_aw ?_; (first | refine aw_seq ?_ | refine aw_region ?_ | refine aw_skip ?_ | refine aw_block ?_ | (refine is_cond ?_; refine aw_cond_t rfl (by assumption) ?_))) | refine thn_n ?_)
    rw [List.set_set, mkL_set hp]
    exact ⟨j + 1, hlt, by omega, le_mk [0] rfl rfl rfl rfl ⟨rfl, by rw [show k + 2 * ((j + 1 : Nat) : Int) = k + 2 * (j : Int) + 1 + 1 by omega]; rfl, rfl, trivial⟩ ⟨rfl, trivial⟩⟩
  · have hc : decide ((j : Int) < ((lbRs (mkL k j ++ ps.drop j)).length : Int)) = false := decide_eq_false (by omega)
    obtain rfl : j = ps.length := by omega
    rw [List.drop_length, List.append_nil]
    rw [List.drop_length, List.append_nil] at hc
    repeat' (first | (refine is_al ?_; (first | (refine is_move ?_; (first | refine al_v (opx_move (.raw _)) ⟨rfl, trivial⟩ trivial rfl ?_ | refine al_v (opx_move (.own _)) ⟨rfl, trivial⟩ trivial rfl ?_)) | (refine is_bin ?_; refine al_v opx_lss ⟨rfl, rfl, trivial⟩ trivial rfl ?_) | (refine is_assign ?_; refine al_v (opx_assign (.raw _)) ⟨rfl, trivial⟩ trivial rfl ?_) | (refine is_bi ?_; refine al_v opx_len_own ⟨rfl, trivial⟩ ⟨rfl, trivial⟩ rfl ?_) | refine al_nil ?_)) | (refine is_aw ?_; (first | refine aw_seq ?_ | refine aw_region ?_ | refine aw_ret ?_ | refine aw_exit ?_ | (refine is_cond ?_; refine aw_cond_f rfl (by assumption) ?_))))
    exact retm_raw trivial rfl rfl rfl ⟨rfl, rfl⟩
theorem c_heldLabelS (k : Int) (n : Nat) (hk : 1 ≤ k ∧ k ≤ 100000000000) (hL : n ≤ 1000000000) : Con Try.prog 27 [slL (mkL k n), rI k] [] (fun rs all => rs = [rI (k + 2 * (n : Int))] ∧ all = []) := by
  have hlen := lbRs_len (xs := mkL k n)
  have hml := mkL_len (k := k) (n := n)
  refine con_of_aw (vars := [.tmp 4]) [(0, .r (slL (mkL k n))), (1, .r (rI k))] [] 0 Try.func27 (by kernel_rfl) rfl Try.ntmps27 rfl (by decide) rfl rfl rfl rfl rfl ?_; intro B M w0 ρ0 Z0
  repeat' (first | (refine is_al ?_; (first | (refine is_assign ?_; refine al_v (opx_assign (.raw _)) ⟨rfl, trivial⟩ trivial rfl ?_) | refine al_nil ?_)) | (refine is_aw ?_; (first | refine aw_seq ?_ | refine aw_region ?_ | refine aw_block ?_)))
  refine aw_loop (γ := Nat) (fun j => [(0, .r (slL (mkL k n))), (1, .i (k + 2 * (j : Int))), (5, .i (j : Int))]) (fun j => []) (fun _ => 0)
    (fun j => j ≤ n) (fun j => n - j) 0 (Nat.zero_le _) (le_mk [] rfl rfl rfl rfl ⟨rfl, by rw [show k + 2 * ((0 : Nat) : Int) = k by omega]; rfl, rfl, trivial⟩ trivial) ?_
  intro j hj
  rcases Nat.lt_or_ge j n with hlt | hge
  · have hc : decide ((j : Int) < ((lbRs (mkL k n)).length : Int)) = true := decide_eq_true (by omega)
    have hpr := lbRs_at (mkL_at (k := k) hlt)
    have n1 : (!decide (mkT (k + 2 * (j : Int)) = mkT (k + 2 * (j : Int)))) = false := by rw [eqD]; rfl
    have n2 : (!decide (mkT (k + 2 * (j : Int) + 1) = mkT (k + 2 * (j : Int) + 1))) = false := by rw [eqD]; rfl
    repeat' (first | (refine is_al ?_; (first | (refine is_move ?_; (first | refine al_v (opx_move (.raw _)) ⟨rfl, trivial⟩ trivial rfl ?_ | refine al_v (opx_move (.sl _ _)) ⟨rfl, trivial⟩ trivial rfl ?_)) | (refine is_bin ?_; (first | refine al_v opx_lss ⟨rfl, rfl, trivial⟩ trivial rfl ?_ | refine al_v (opx_add (by unfold InR; omega)) ⟨rfl, rfl, trivial⟩ trivial rfl ?_)) | (refine is_assign ?_; refine al_v (opx_assign (.raw _)) ⟨rfl, trivial⟩ trivial rfl ?_) | (refine is_bi ?_; refine al_v opx_len_sl ⟨rfl, trivial⟩ trivial rfl ?_) | refine al_nil ?_)) | (refine is_ad ?_; (first | (refine isd_move ?_; (first | refine ad_v (opx_move (.raw _)) ⟨rfl, trivial⟩ trivial rfl ?_ | refine ad_v (opx_move (.sl _ _)) ⟨rfl, trivial⟩ trivial rfl ?_)) | (refine isd_bin ?_; refine ad_v opx_sneq ⟨rfl, rfl, trivial⟩ trivial rfl ?_) | (refine isd_load ?_; refine ad_v opx_ld_imm ⟨rfl, trivial⟩ trivial rfl ?_) | (refine isd_fa ?_; (first | refine ad_v opx_fa_imm0 ⟨rfl, trivial⟩ trivial rfl ?_ | refine ad_v opx_fa_imm1 ⟨rfl, trivial⟩ trivial rfl ?_)) | (refine isd_ia ?_; refine ad_v (opx_ia_sl2 hpr (by omega)) ⟨rfl, rfl, trivial⟩ trivial rfl ?_) | (refine isd_call ?_; refine ad_callv2 (by (repeat (first | exact .nil | refine .one rfl rfl ?_ | refine .froz rfl rfl ?_ | refine .row rfl rfl ?_ | refine .rnil rfl ?_ | refine .agg rfl (by (repeat (first | exact .nil | refine .cons (.same rfl) ?_ | refine .cons (.froz rfl) ?_ | refine .cons (.rnil) ?_ | refine .cons (.row rfl rfl) ?_)); (first | done | fail)) ?_)); (first | done | fail)) rfl (c_markText _ (by omega)) rfl ?_) | refine ad_nil (by kernel_rfl) ?_)) | (refine is_aw ?_; (first | refine aw_seq ?_ | refine aw_region ?_ | refine aw_skip ?_ | refine aw_block ?_ | (refine is_cond ?_; (first | refine aw_cond_t rfl (by assumption) ?_ | refine aw_cond_f rfl (by assumption) ?_)) | refine aw_draw mixed ?_)) | refine thn_n ?_)
    exact ⟨j + 1, hlt, by omega, le_mk [] rfl rfl rfl rfl ⟨rfl, by rw [show k + 2 * ((j + 1 : Nat) : Int) = k + 2 * (j : Int) + 1 + 1 by omega]; rfl, rfl, trivial⟩ trivial⟩
  · have hc : decide ((j : Int) < ((lbRs (mkL k n)).length : Int)) = false := decide_eq_false (by omega)
    repeat' (first | (refine is_al ?_; (first | (refine is_move ?_; (first | refine al_v (opx_move (.raw _)) ⟨rfl, trivial⟩ trivial rfl ?_ | refine al_v (opx_move (.sl _ _)) ⟨rfl, trivial⟩ trivial rfl ?_)) | (refine is_bin ?_; refine al_v opx_lss ⟨rfl, rfl, trivial⟩ trivial rfl ?_) | (refine is_assign ?_; refine al_v (opx_assign (.raw _)) ⟨rfl, trivial⟩ trivial rfl ?_) | (refine is_bi ?_; refine al_v opx_len_sl ⟨rfl, trivial⟩ trivial rfl ?_) | refine al_nil ?_)) | (refine is_aw ?_; (first | refine aw_seq ?_ | refine aw_region ?_ | refine aw_ret ?_ | refine aw_exit ?_ | (refine is_cond ?_; refine aw_cond_f rfl (by assumption) ?_))))
    exact ret_raw trivial rfl ⟨by rw [show j = n by omega], rfl⟩
end Go.Proofs.Ytokhfcfnhgianaa
