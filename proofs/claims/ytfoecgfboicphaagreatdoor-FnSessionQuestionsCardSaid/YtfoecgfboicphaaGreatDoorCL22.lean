/- Texts: W113 Eng37 -/
import Derived.Test.YtfoecgfboicphaaGreatDoorCL21
import Derived.Test.YtfoecgfboicphaaGreatDoorCL16
import Derived.Test.YtfoecgfboicphaaGreatDoorCL12
/-
  Sessions: the reference's catalogs and questions.
-/
namespace Go.Proofs.YtfoecgfboicphaaGreatDoor
open Go.RowKit
set_option linter.unusedVariables false
set_option linter.unusedSimpArgs false
attribute [local irreducible] AL AW OpX Le AD

theorem c_copyCatalogF (c : List (List Lb)) (hc : c.length ≤ 1000000) (hb : ctBig c) : Con Tryz.prog 96 [slC c] [] (fun rs all => rs = [.one (.own 0)] ∧ all = [.row 1 64 (lcRs c)]) := by
  have hlen := lcRs_len (xs := c)
  refine con_of_aw (vars := [.tmp 2]) [(0, .r (slC c))] [] 0 Tryz.func96 (by kernel_rfl) rfl Tryz.ntmps96 rfl (by decide) rfl rfl rfl rfl rfl ?_; intro B M w0 ρ0 Z0
  repeat' (first | (refine is_al ?_; (first | (refine is_assign ?_; (first | refine al_v (opx_assign (.raw _)) ⟨rfl, trivial⟩ trivial rfl ?_ | refine al_v (opx_assign (.own _)) ⟨rfl, trivial⟩ trivial rfl ?_)) | (refine is_bs ?_; refine al_n opx_lit0 trivial trivial rfl ?_) | refine al_nil ?_)) | (refine is_aw ?_; (first | refine aw_seq ?_ | refine aw_region ?_ | refine aw_block ?_)))
  refine aw_loop (γ := Nat) (fun k => [(0, .r (slC c)), (3, .own 0), (4, .i (k : Int))]) (fun k => [(0, .row 1 64 (lcRs (c.take k)))]) (fun _ => 1) (fun k => k ≤ c.length) (fun k => c.length - k) 0 (Nat.zero_le _) (le_mk [0] rfl rfl rfl rfl ⟨rfl, rfl, rfl, trivial⟩ ⟨rfl, trivial⟩) ?_
  intro k hk
  have hkl : (c.take k).length ≤ 1000000 := by rw [List.length_take]; omega
  rcases Nat.lt_or_ge k c.length with hlt | hge
  · have hc1 : decide ((k : Int) < ((lcRs c).length : Int)) = true := decide_eq_true (by omega)
    obtain ⟨x, hx⟩ : ∃ x, c[k]? = some x := ⟨_, List.getElem?_eq_getElem hlt⟩
    have hxr := lcRs_at hx
    have hx1 := (hb x (List.mem_of_getElem? hx)).1
    have hs := take_snoc hx
    have hxl := lbRs_len (xs := x)
    have hnil : ([] : List Lb) ++ x = x := List.nil_append x
    repeat' (first | (refine is_al ?_; (first | (refine is_move ?_; (first | refine al_v (opx_move (.raw _)) ⟨rfl, trivial⟩ trivial rfl ?_ | refine al_v (opx_move (.sl _ _)) ⟨rfl, trivial⟩ trivial rfl ?_ | refine al_v (opx_move (.own _)) ⟨rfl, trivial⟩ trivial rfl ?_)) | (refine is_bin ?_; (first | refine al_v opx_lss ⟨rfl, rfl, trivial⟩ trivial rfl ?_ | refine al_v (opx_add (by unfold InR; omega)) ⟨rfl, rfl, trivial⟩ trivial rfl ?_)) | (refine is_load ?_; refine al_v opx_ld_imm ⟨rfl, trivial⟩ trivial rfl ?_) | (refine is_assign ?_; (first | refine al_v (opx_assign (.raw _)) ⟨rfl, trivial⟩ trivial rfl ?_ | refine al_v (opx_assign (.own _)) ⟨rfl, trivial⟩ trivial rfl ?_)) | (refine is_bi ?_; (first | refine al_v opx_len_sl ⟨rfl, trivial⟩ trivial rfl ?_ | refine al_appeLv rfl rfl rfl rfl rfl (by omega) ?_)) | (refine is_ia ?_; refine al_v (opx_ia_sl2 hxr (by omega)) ⟨rfl, rfl, trivial⟩ trivial rfl ?_) | (refine is_bs ?_; (first | refine al_n opx_lit0 trivial trivial rfl ?_ | refine al_pushC ⟨rfl, trivial⟩ rfl rfl rfl rfl rfl (by omega) ?_)) | refine al_nil ?_ | refine al_litFrz rfl rfl ?_)) | (refine is_ad ?_; refine al_litFrz rfl rfl ?_) | (refine is_aw ?_; (first | refine aw_seq ?_ | refine aw_region ?_ | refine aw_skip ?_ | refine aw_block ?_ | (refine is_cond ?_; refine aw_cond_t rfl (by assumption) ?_))) | refine thn_n ?_)
    exact ⟨k + 1, hlt, by omega, le_mk [_] rfl rfl rfl rfl ⟨rfl, rfl, rfl, trivial⟩ ⟨by rw [hs]; rfl, trivial⟩⟩
  · have hc1 : decide ((k : Int) < ((lcRs c).length : Int)) = false := decide_eq_false (by omega)
    rw [List.take_of_length_le hge]
    repeat' (first | (refine is_al ?_; (first | (refine is_move ?_; (first | refine al_v (opx_move (.raw _)) ⟨rfl, trivial⟩ trivial rfl ?_ | refine al_v (opx_move (.sl _ _)) ⟨rfl, trivial⟩ trivial rfl ?_ | refine al_v (opx_move (.own _)) ⟨rfl, trivial⟩ trivial rfl ?_)) | (refine is_bin ?_; refine al_v opx_lss ⟨rfl, rfl, trivial⟩ trivial rfl ?_) | (refine is_assign ?_; refine al_v (opx_assign (.own _)) ⟨rfl, trivial⟩ trivial rfl ?_) | (refine is_bi ?_; refine al_v opx_len_sl ⟨rfl, trivial⟩ trivial rfl ?_) | refine al_nil ?_)) | (refine is_aw ?_; (first | refine aw_seq ?_ | refine aw_region ?_ | refine aw_ret ?_ | refine aw_exit ?_ | (refine is_cond ?_; refine aw_cond_f rfl (by assumption) ?_))))
    exact ret_row trivial rfl rfl ⟨rfl, rfl⟩
theorem c_sAddSeriesF (c : List (List Lb)) (l : List Lb) (hc : c.length ≤ 1000000) (hb : ctBig c) (hl : l.length ≤ 1000000) (hlb : ∀ y ∈ l, BIG y.1.length ∧ BIG y.2.length) : Con Tryz.prog 65 [slC c, slL l] [] (AdQ c l) := by
  have hlen := lcRs_len (xs := c)
  have n1 : (!true) = false := rfl
  have n2 : (!false) = true := rfl
  have hcv := c_sValidCatalog c hc hb
  have hcl := c_sValidLabels l hlb (by unfold BIG; omega)
  have hcp := c_placeIn c l hc hb hl
  refine con_of_aw (vars := [.tmp 4, .tmp 5, .tmp 6]) [(0, .r (slC c)), (1, .r (slL l))] [] 0 Tryz.func65 (by kernel_rfl) rfl Tryz.ntmps65 rfl (by decide) rfl rfl rfl rfl rfl ?_; intro B M w0 ρ0 Z0
  cases hv : vctB c
  · rw [hv] at hcv
    have f1 : adOk c l = false := by rw [adOk, hv]; rfl
    have f2 : adR c l = [] := by rw [adR, f1]; rfl
    have f3 : adN c l = -1 := by rw [adN, f1]; rfl
    repeat' (first | (refine is_al ?_; (first | (refine is_gd ?_; refine al_off rfl rfl rfl (by assumption) rfl ?_) | (refine is_move ?_; (first | refine al_v (opx_move (.raw _)) ⟨rfl, trivial⟩ trivial rfl ?_ | refine al_v (opx_move (.sl _ _)) ⟨rfl, trivial⟩ trivial rfl ?_)) | (refine is_assign ?_; refine al_v (opx_assign (.raw _)) ⟨rfl, trivial⟩ trivial rfl ?_) | (refine is_pick ?_; refine al_v (opx_pick_t (.raw _) rfl) ⟨rfl, rfl, trivial⟩ trivial rfl ?_) | (refine is_call ?_; refine al_callv2 (by (repeat (first | exact .nil | refine .one rfl rfl ?_ | refine .froz rfl rfl ?_ | refine .row rfl rfl ?_ | refine .rnil rfl ?_ | refine .agg rfl (by (repeat (first | exact .nil | refine .cons (.same rfl) ?_ | refine .cons (.froz rfl) ?_ | refine .cons (.rnil) ?_ | refine .cons (.row rfl rfl) ?_)); (first | done | fail)) ?_)); (first | done | fail)) rfl (hcv) rfl ?_) | refine al_v opx_not ⟨rfl, trivial⟩ trivial rfl ?_ | refine al_nil ?_)) | (refine is_aw ?_; (first | refine aw_seq ?_ | refine aw_region ?_ | (refine is_cond ?_; refine aw_cond_t rfl rfl ?_))) | refine thn_n ?_)
    refine aw_le (le_ownNil 4 1 64 rfl) ?_
    repeat' (first | (refine is_aw ?_; refine aw_ret ?_) | refine thn_r ?_)
    exact ret_row_raw2 trivial rfl rfl rfl rfl ⟨by rw [f1, f3], by rw [f2]; rfl⟩
  rw [hv] at hcv
  cases hw : vlB l
  · rw [hw] at hcl
    have f1 : adOk c l = false := by rw [adOk, hv, hw]; rfl
    have f2 : adR c l = [] := by rw [adR, f1]; rfl
    have f3 : adN c l = -1 := by rw [adN, f1]; rfl
    repeat' (first | (refine is_al ?_; (first | (refine is_gd ?_; refine al_on rfl rfl rfl (by assumption) ?_) | (refine is_move ?_; (first | refine al_v (opx_move (.raw _)) ⟨rfl, trivial⟩ trivial rfl ?_ | refine al_v (opx_move (.sl _ _)) ⟨rfl, trivial⟩ trivial rfl ?_)) | (refine is_assign ?_; refine al_v (opx_assign (.raw _)) ⟨rfl, trivial⟩ trivial rfl ?_) | (refine is_pick ?_; refine al_v (opx_pick_f (.raw _) rfl) ⟨rfl, rfl, trivial⟩ trivial rfl ?_) | (refine is_call ?_; (first | refine al_callv2 (by (repeat (first | exact .nil | refine .one rfl rfl ?_ | refine .froz rfl rfl ?_ | refine .row rfl rfl ?_ | refine .rnil rfl ?_ | refine .agg rfl (by (repeat (first | exact .nil | refine .cons (.same rfl) ?_ | refine .cons (.froz rfl) ?_ | refine .cons (.rnil) ?_ | refine .cons (.row rfl rfl) ?_)); (first | done | fail)) ?_)); (first | done | fail)) rfl (hcv) rfl ?_ | refine al_callv2 (by (repeat (first | exact .nil | refine .one rfl rfl ?_ | refine .froz rfl rfl ?_ | refine .row rfl rfl ?_ | refine .rnil rfl ?_ | refine .agg rfl (by (repeat (first | exact .nil | refine .cons (.same rfl) ?_ | refine .cons (.froz rfl) ?_ | refine .cons (.rnil) ?_ | refine .cons (.row rfl rfl) ?_)); (first | done | fail)) ?_)); (first | done | fail)) rfl (hcl) rfl ?_)) | refine al_v opx_not ⟨rfl, trivial⟩ trivial rfl ?_ | refine al_nil ?_)) | (refine is_aw ?_; (first | refine aw_seq ?_ | refine aw_region ?_ | (refine is_cond ?_; refine aw_cond_t rfl rfl ?_))) | refine thn_n ?_)
    refine aw_le (le_ownNil 4 1 64 rfl) ?_
    repeat' (first | (refine is_aw ?_; refine aw_ret ?_) | refine thn_r ?_)
    exact ret_row_raw2 trivial rfl rfl rfl rfl ⟨by rw [f1, f3], by rw [f2]; rfl⟩
  rw [hw] at hcl
  by_cases hp : plC c l < c.length
  · have hpi : plcI c l = (plC c l : Int) := by rw [plcI, if_pos hp]
    rw [hpi] at hcp
    have e1 : decide (0 ≤ ((plC c l : Nat) : Int)) = true := decide_eq_true (by omega)
    have f1 : adOk c l = true := by rw [adOk, hv, hw, decide_eq_true hp]; rfl
    have f2 : adR c l = c := by rw [adR, if_pos f1, if_pos hp]
    have f3 : adN c l = (plC c l : Int) := by rw [adN, if_pos f1]
    repeat' (first | (refine is_al ?_; (first | (refine is_gd ?_; refine al_on rfl rfl rfl (by assumption) ?_) | (refine is_move ?_; (first | refine al_v (opx_move (.raw _)) ⟨rfl, trivial⟩ trivial rfl ?_ | refine al_v (opx_move (.sl _ _)) ⟨rfl, trivial⟩ trivial rfl ?_)) | (refine is_bin ?_; refine al_v opx_geq ⟨rfl, rfl, trivial⟩ trivial rfl ?_) | (refine is_assign ?_; (first | refine al_v (opx_assign (.raw _)) ⟨rfl, trivial⟩ trivial rfl ?_ | refine al_v (opx_assign (.own _)) ⟨rfl, trivial⟩ trivial rfl ?_)) | (refine is_pick ?_; refine al_v (opx_pick_f (.raw _) rfl) ⟨rfl, rfl, trivial⟩ trivial rfl ?_) | (refine is_call ?_; (first | refine al_callv2 (by (repeat (first | exact .nil | refine .one rfl rfl ?_ | refine .froz rfl rfl ?_ | refine .row rfl rfl ?_ | refine .rnil rfl ?_ | refine .agg rfl (by (repeat (first | exact .nil | refine .cons (.same rfl) ?_ | refine .cons (.froz rfl) ?_ | refine .cons (.rnil) ?_ | refine .cons (.row rfl rfl) ?_)); (first | done | fail)) ?_)); (first | done | fail)) rfl (hcv) rfl ?_ | refine al_callv2 (by (repeat (first | exact .nil | refine .one rfl rfl ?_ | refine .froz rfl rfl ?_ | refine .row rfl rfl ?_ | refine .rnil rfl ?_ | refine .agg rfl (by (repeat (first | exact .nil | refine .cons (.same rfl) ?_ | refine .cons (.froz rfl) ?_ | refine .cons (.rnil) ?_ | refine .cons (.row rfl rfl) ?_)); (first | done | fail)) ?_)); (first | done | fail)) rfl (hcl) rfl ?_ | refine al_callv2 (by (repeat (first | exact .nil | refine .one rfl rfl ?_ | refine .froz rfl rfl ?_ | refine .row rfl rfl ?_ | refine .rnil rfl ?_ | refine .agg rfl (by (repeat (first | exact .nil | refine .cons (.same rfl) ?_ | refine .cons (.froz rfl) ?_ | refine .cons (.rnil) ?_ | refine .cons (.row rfl rfl) ?_)); (first | done | fail)) ?_)); (first | done | fail)) rfl (hcp) rfl ?_ | refine al_callr2 (by (repeat (first | exact .nil | refine .one rfl rfl ?_ | refine .froz rfl rfl ?_ | refine .rnil rfl ?_ | refine .agg rfl (by (repeat (first | exact .nil | refine .cons (.same rfl) ?_ | refine .cons (.froz rfl) ?_ | refine .cons (.rnil) ?_)); (first | done | fail)) ?_)); (first | done | fail)) rfl (c_copyCatalogF c hc hb) ?_)) | refine al_v opx_not ⟨rfl, trivial⟩ trivial rfl ?_ | refine al_nil ?_)) | (refine is_aw ?_; (first | refine aw_seq ?_ | refine aw_region ?_ | refine aw_skip ?_ | refine aw_ret ?_ | (refine is_cond ?_; (first | refine aw_cond_t rfl rfl ?_ | refine aw_cond_f rfl rfl ?_)))) | refine thn_r ?_)
    exact ret_row_raw2 trivial rfl rfl rfl rfl ⟨by rw [f1, f3], by rw [f2]⟩
  have hpi : plcI c l = -1 := by rw [plcI, if_neg hp]
  rw [hpi] at hcp
  have e1 : decide ((0 : Int) ≤ -1) = false := rfl
  have hpe : plC c l = c.length := by have := plC_le (c := c) (l := l); omega
  by_cases h8 : c.length = 8
  · have e2 : decide (((lcRs c).length : Int) = 8) = true := decide_eq_true (by omega)
    have f1 : adOk c l = false := by rw [adOk, hv, hw, decide_eq_false hp, decide_eq_false (by omega)]; rfl
    have f2 : adR c l = [] := by rw [adR, f1]; rfl
    have f3 : adN c l = -1 := by rw [adN, f1]; rfl
    repeat' (first | (refine is_al ?_; (first | (refine is_gd ?_; refine al_on rfl rfl rfl (by assumption) ?_) | (refine is_move ?_; (first | refine al_v (opx_move (.raw _)) ⟨rfl, trivial⟩ trivial rfl ?_ | refine al_v (opx_move (.sl _ _)) ⟨rfl, trivial⟩ trivial rfl ?_)) | (refine is_bin ?_; (first | refine al_v opx_eql ⟨rfl, rfl, trivial⟩ trivial rfl ?_ | refine al_v opx_geq ⟨rfl, rfl, trivial⟩ trivial rfl ?_)) | (refine is_assign ?_; refine al_v (opx_assign (.raw _)) ⟨rfl, trivial⟩ trivial rfl ?_) | (refine is_pick ?_; refine al_v (opx_pick_f (.raw _) rfl) ⟨rfl, rfl, trivial⟩ trivial rfl ?_) | (refine is_bi ?_; refine al_v opx_len_sl ⟨rfl, trivial⟩ trivial rfl ?_) | (refine is_call ?_; (first | refine al_callv2 (by (repeat (first | exact .nil | refine .one rfl rfl ?_ | refine .froz rfl rfl ?_ | refine .row rfl rfl ?_ | refine .rnil rfl ?_ | refine .agg rfl (by (repeat (first | exact .nil | refine .cons (.same rfl) ?_ | refine .cons (.froz rfl) ?_ | refine .cons (.rnil) ?_ | refine .cons (.row rfl rfl) ?_)); (first | done | fail)) ?_)); (first | done | fail)) rfl (hcv) rfl ?_ | refine al_callv2 (by (repeat (first | exact .nil | refine .one rfl rfl ?_ | refine .froz rfl rfl ?_ | refine .row rfl rfl ?_ | refine .rnil rfl ?_ | refine .agg rfl (by (repeat (first | exact .nil | refine .cons (.same rfl) ?_ | refine .cons (.froz rfl) ?_ | refine .cons (.rnil) ?_ | refine .cons (.row rfl rfl) ?_)); (first | done | fail)) ?_)); (first | done | fail)) rfl (hcl) rfl ?_ | refine al_callv2 (by (repeat (first | exact .nil | refine .one rfl rfl ?_ | refine .froz rfl rfl ?_ | refine .row rfl rfl ?_ | refine .rnil rfl ?_ | refine .agg rfl (by (repeat (first | exact .nil | refine .cons (.same rfl) ?_ | refine .cons (.froz rfl) ?_ | refine .cons (.rnil) ?_ | refine .cons (.row rfl rfl) ?_)); (first | done | fail)) ?_)); (first | done | fail)) rfl (hcp) rfl ?_)) | refine al_v opx_not ⟨rfl, trivial⟩ trivial rfl ?_ | refine al_nil ?_)) | (refine is_aw ?_; (first | refine aw_seq ?_ | refine aw_region ?_ | refine aw_skip ?_ | (refine is_cond ?_; (first | refine aw_cond_f rfl rfl ?_ | refine aw_cond_t rfl (by assumption) ?_)))) | refine thn_n ?_)
    refine aw_le (le_ownNil 4 1 64 rfl) ?_
    repeat' (first | (refine is_aw ?_; refine aw_ret ?_) | refine thn_r ?_)
    exact ret_row_raw2 trivial rfl rfl rfl rfl ⟨by rw [f1, f3], by rw [f2]; rfl⟩
  · have e2 : decide (((lcRs c).length : Int) = 8) = false := decide_eq_false (by omega)
    have hVC := (vctB_of hv).1
    have f1 : adOk c l = true := by rw [adOk, hv, hw, decide_eq_true (show c.length < 8 by omega), Bool.or_true]; rfl
    have f2 : adR c l = c ++ [l] := by rw [adR, if_pos f1, if_neg hp]
    have f3 : adN c l = ((lcRs c).length : Int) := by rw [adN, if_pos f1, hpe, hlen]
    have hxl := lbRs_len (xs := l)
    have hnil : ([] : List Lb) ++ l = l := List.nil_append l
    repeat' (first | (refine is_al ?_; (first | (refine is_gd ?_; refine al_on rfl rfl rfl (by assumption) ?_) | (refine is_move ?_; (first | refine al_v (opx_move (.raw _)) ⟨rfl, trivial⟩ trivial rfl ?_ | refine al_v (opx_move (.sl _ _)) ⟨rfl, trivial⟩ trivial rfl ?_)) | (refine is_bin ?_; (first | refine al_v opx_eql ⟨rfl, rfl, trivial⟩ trivial rfl ?_ | refine al_v opx_geq ⟨rfl, rfl, trivial⟩ trivial rfl ?_)) | (refine is_assign ?_; (first | refine al_v (opx_assign (.raw _)) ⟨rfl, trivial⟩ trivial rfl ?_ | refine al_v (opx_assign (.own _)) ⟨rfl, trivial⟩ trivial rfl ?_)) | (refine is_pick ?_; refine al_v (opx_pick_f (.raw _) rfl) ⟨rfl, rfl, trivial⟩ trivial rfl ?_) | (refine is_bi ?_; (first | refine al_v opx_len_sl ⟨rfl, trivial⟩ trivial rfl ?_ | refine al_appeLv rfl rfl rfl rfl rfl (by omega) ?_)) | (refine is_call ?_; (first | refine al_callv2 (by (repeat (first | exact .nil | refine .one rfl rfl ?_ | refine .froz rfl rfl ?_ | refine .row rfl rfl ?_ | refine .rnil rfl ?_ | refine .agg rfl (by (repeat (first | exact .nil | refine .cons (.same rfl) ?_ | refine .cons (.froz rfl) ?_ | refine .cons (.rnil) ?_ | refine .cons (.row rfl rfl) ?_)); (first | done | fail)) ?_)); (first | done | fail)) rfl (hcv) rfl ?_ | refine al_callv2 (by (repeat (first | exact .nil | refine .one rfl rfl ?_ | refine .froz rfl rfl ?_ | refine .row rfl rfl ?_ | refine .rnil rfl ?_ | refine .agg rfl (by (repeat (first | exact .nil | refine .cons (.same rfl) ?_ | refine .cons (.froz rfl) ?_ | refine .cons (.rnil) ?_ | refine .cons (.row rfl rfl) ?_)); (first | done | fail)) ?_)); (first | done | fail)) rfl (hcl) rfl ?_ | refine al_callv2 (by (repeat (first | exact .nil | refine .one rfl rfl ?_ | refine .froz rfl rfl ?_ | refine .row rfl rfl ?_ | refine .rnil rfl ?_ | refine .agg rfl (by (repeat (first | exact .nil | refine .cons (.same rfl) ?_ | refine .cons (.froz rfl) ?_ | refine .cons (.rnil) ?_ | refine .cons (.row rfl rfl) ?_)); (first | done | fail)) ?_)); (first | done | fail)) rfl (hcp) rfl ?_ | refine al_callr2 (by (repeat (first | exact .nil | refine .one rfl rfl ?_ | refine .froz rfl rfl ?_ | refine .rnil rfl ?_ | refine .agg rfl (by (repeat (first | exact .nil | refine .cons (.same rfl) ?_ | refine .cons (.froz rfl) ?_ | refine .cons (.rnil) ?_)); (first | done | fail)) ?_)); (first | done | fail)) rfl (c_copyCatalogF c hc hb) ?_)) | refine al_v opx_not ⟨rfl, trivial⟩ trivial rfl ?_ | (refine is_bs ?_; (first | refine al_n opx_lit0 trivial trivial rfl ?_ | refine al_pushC ⟨rfl, trivial⟩ rfl rfl rfl rfl rfl (by omega) ?_)) | refine al_nil ?_ | refine al_litFrz rfl rfl ?_)) | (refine is_ad ?_; refine al_litFrz rfl rfl ?_) | (refine is_aw ?_; (first | refine aw_seq ?_ | refine aw_region ?_ | refine aw_skip ?_ | refine aw_ret ?_ | (refine is_cond ?_; (first | refine aw_cond_f rfl rfl ?_ | refine aw_cond_f rfl (by assumption) ?_)))))
    exact ret_row_raw2 trivial rfl rfl rfl rfl ⟨by rw [f1, f3], by rw [f2]⟩
theorem c_sAddSeriesF' (c : List (List Lb)) (l : List Lb) (hc : c.length ≤ 1000000) (hb : ctBig c) (hl : l.length ≤ 1000000) (hlb : ∀ y ∈ l, BIG y.1.length ∧ BIG y.2.length) : Con Tryz.prog 65 [slC c, slL l] [] (fun rs all => rs = [slC (adR c l), rI (adN c l), rB (adOk c l)] ∧ all = []) :=
  (c_sAddSeriesF c l hc hb hl hlb).froz fun rs all ⟨h1, h2⟩ => by subst h1 h2; exact ⟨⟨rfl, rfl⟩, rfl⟩
theorem c_sFindSeries (c : List (List Lb)) (l : List Lb) (hc : c.length ≤ 1000000) (hb : ctBig c) (hl : l.length ≤ 1000000) (hlb : ∀ y ∈ l, BIG y.1.length ∧ BIG y.2.length) : Con Tryz.prog 99 [slC c, slL l] [] (fun rs all => rs = [rI (fsI c l)] ∧ all = []) := by
  have n1 : (!true) = false := rfl
  have n2 : (!false) = true := rfl
  have hcv := c_sValidCatalog c hc hb
  have hcl := c_sValidLabels l hlb (by unfold BIG; omega)
  have hcp := c_placeIn c l hc hb hl
  refine con_of_aw (vars := [.tmp 4]) [(0, .r (slC c)), (1, .r (slL l))] [] 0 Tryz.func99 (by kernel_rfl) rfl Tryz.ntmps99 rfl (by decide) rfl rfl rfl rfl rfl ?_; intro B M w0 ρ0 Z0
  cases hv : vctB c
  · rw [hv] at hcv
    have f1 : fsI c l = -1 := by rw [fsI, hv]; rfl
    repeat' (first | (refine is_al ?_; (first | (refine is_gd ?_; refine al_off rfl rfl rfl (by assumption) rfl ?_) | (refine is_move ?_; (first | refine al_v (opx_move (.raw _)) ⟨rfl, trivial⟩ trivial rfl ?_ | refine al_v (opx_move (.sl _ _)) ⟨rfl, trivial⟩ trivial rfl ?_)) | (refine is_assign ?_; refine al_v (opx_assign (.raw _)) ⟨rfl, trivial⟩ trivial rfl ?_) | (refine is_pick ?_; refine al_v (opx_pick_t (.raw _) rfl) ⟨rfl, rfl, trivial⟩ trivial rfl ?_) | (refine is_call ?_; refine al_callv2 (by (repeat (first | exact .nil | refine .one rfl rfl ?_ | refine .froz rfl rfl ?_ | refine .row rfl rfl ?_ | refine .rnil rfl ?_ | refine .agg rfl (by (repeat (first | exact .nil | refine .cons (.same rfl) ?_ | refine .cons (.froz rfl) ?_ | refine .cons (.rnil) ?_ | refine .cons (.row rfl rfl) ?_)); (first | done | fail)) ?_)); (first | done | fail)) rfl (hcv) rfl ?_) | refine al_v opx_not ⟨rfl, trivial⟩ trivial rfl ?_ | refine al_nil ?_)) | (refine is_aw ?_; (first | refine aw_seq ?_ | refine aw_region ?_ | refine aw_ret ?_ | (refine is_cond ?_; refine aw_cond_t rfl rfl ?_))) | refine thn_r ?_)
    exact ret_raw trivial rfl ⟨by rw [f1], rfl⟩
  · rw [hv] at hcv
    cases hw : vlB l
    · rw [hw] at hcl
      have f1 : fsI c l = -1 := by rw [fsI, hv, hw]; rfl
      repeat' (first | (refine is_al ?_; (first | (refine is_gd ?_; refine al_on rfl rfl rfl (by assumption) ?_) | (refine is_move ?_; (first | refine al_v (opx_move (.raw _)) ⟨rfl, trivial⟩ trivial rfl ?_ | refine al_v (opx_move (.sl _ _)) ⟨rfl, trivial⟩ trivial rfl ?_)) | (refine is_assign ?_; refine al_v (opx_assign (.raw _)) ⟨rfl, trivial⟩ trivial rfl ?_) | (refine is_pick ?_; refine al_v (opx_pick_f (.raw _) rfl) ⟨rfl, rfl, trivial⟩ trivial rfl ?_) | (refine is_call ?_; (first | refine al_callv2 (by (repeat (first | exact .nil | refine .one rfl rfl ?_ | refine .froz rfl rfl ?_ | refine .row rfl rfl ?_ | refine .rnil rfl ?_ | refine .agg rfl (by (repeat (first | exact .nil | refine .cons (.same rfl) ?_ | refine .cons (.froz rfl) ?_ | refine .cons (.rnil) ?_ | refine .cons (.row rfl rfl) ?_)); (first | done | fail)) ?_)); (first | done | fail)) rfl (hcv) rfl ?_ | refine al_callv2 (by (repeat (first | exact .nil | refine .one rfl rfl ?_ | refine .froz rfl rfl ?_ | refine .row rfl rfl ?_ | refine .rnil rfl ?_ | refine .agg rfl (by (repeat (first | exact .nil | refine .cons (.same rfl) ?_ | refine .cons (.froz rfl) ?_ | refine .cons (.rnil) ?_ | refine .cons (.row rfl rfl) ?_)); (first | done | fail)) ?_)); (first | done | fail)) rfl (hcl) rfl ?_)) | refine al_v opx_not ⟨rfl, trivial⟩ trivial rfl ?_ | refine al_nil ?_)) | (refine is_aw ?_; (first | refine aw_seq ?_ | refine aw_region ?_ | refine aw_ret ?_ | (refine is_cond ?_; refine aw_cond_t rfl rfl ?_))) | refine thn_r ?_)
      exact ret_raw trivial rfl ⟨by rw [f1], rfl⟩
    · rw [hw] at hcl
      have f1 : fsI c l = plcI c l := by rw [fsI, hv, hw]; rfl
      repeat' (first | (refine is_al ?_; (first | (refine is_gd ?_; refine al_on rfl rfl rfl (by assumption) ?_) | (refine is_move ?_; (first | refine al_v (opx_move (.raw _)) ⟨rfl, trivial⟩ trivial rfl ?_ | refine al_v (opx_move (.sl _ _)) ⟨rfl, trivial⟩ trivial rfl ?_)) | (refine is_assign ?_; refine al_v (opx_assign (.raw _)) ⟨rfl, trivial⟩ trivial rfl ?_) | (refine is_pick ?_; refine al_v (opx_pick_f (.raw _) rfl) ⟨rfl, rfl, trivial⟩ trivial rfl ?_) | (refine is_call ?_; (first | refine al_callv2 (by (repeat (first | exact .nil | refine .one rfl rfl ?_ | refine .froz rfl rfl ?_ | refine .row rfl rfl ?_ | refine .rnil rfl ?_ | refine .agg rfl (by (repeat (first | exact .nil | refine .cons (.same rfl) ?_ | refine .cons (.froz rfl) ?_ | refine .cons (.rnil) ?_ | refine .cons (.row rfl rfl) ?_)); (first | done | fail)) ?_)); (first | done | fail)) rfl (hcv) rfl ?_ | refine al_callv2 (by (repeat (first | exact .nil | refine .one rfl rfl ?_ | refine .froz rfl rfl ?_ | refine .row rfl rfl ?_ | refine .rnil rfl ?_ | refine .agg rfl (by (repeat (first | exact .nil | refine .cons (.same rfl) ?_ | refine .cons (.froz rfl) ?_ | refine .cons (.rnil) ?_ | refine .cons (.row rfl rfl) ?_)); (first | done | fail)) ?_)); (first | done | fail)) rfl (hcl) rfl ?_ | refine al_callv2 (by (repeat (first | exact .nil | refine .one rfl rfl ?_ | refine .froz rfl rfl ?_ | refine .row rfl rfl ?_ | refine .rnil rfl ?_ | refine .agg rfl (by (repeat (first | exact .nil | refine .cons (.same rfl) ?_ | refine .cons (.froz rfl) ?_ | refine .cons (.rnil) ?_ | refine .cons (.row rfl rfl) ?_)); (first | done | fail)) ?_)); (first | done | fail)) rfl (hcp) rfl ?_)) | refine al_v opx_not ⟨rfl, trivial⟩ trivial rfl ?_ | refine al_nil ?_)) | (refine is_aw ?_; (first | refine aw_seq ?_ | refine aw_region ?_ | refine aw_skip ?_ | refine aw_ret ?_ | (refine is_cond ?_; refine aw_cond_f rfl rfl ?_))))
      exact ret_raw trivial rfl ⟨by rw [f1], rfl⟩
theorem c_sRangeOf (ps : List Pt) (lo hi : Int) (hL : ps.length ≤ 1000000) : Con Tryz.prog 101 [slP ps, rI lo, rI hi] [] (fun rs all => rs = [slP (rngR ps lo hi)] ∧ all = []) := by
  have n1 : (!true) = false := rfl
  have n2 : (!false) = true := rfl
  have hcv := c_sValidSeries ps (by omega)
  have hcr := c_sValidRange lo hi
  refine Con.froz (Post := fun rs all => rs = [.one (.own 0)] ∧ all = [.row 2 66 (ptRs (rngR ps lo hi))]) ?_ fun rs all ⟨h1, h2⟩ => by subst h1 h2; exact ⟨⟨rfl, rfl⟩, rfl⟩
  refine con_of_aw (vars := [.tmp 6]) [(0, .r (slP ps)), (1, .r (rI lo)), (2, .r (rI hi))] [] 0 Tryz.func101 (by kernel_rfl) rfl Tryz.ntmps101 rfl (by decide) rfl rfl rfl rfl rfl ?_; intro B M w0 ρ0 Z0
  cases hv : vsB ps
  · rw [hv] at hcv
    have f1 : rngR ps lo hi = [] := by rw [rngR, vrB, hv]; rfl
    repeat' (first | (refine is_al ?_; (first | (refine is_gd ?_; refine al_off rfl rfl rfl (by assumption) rfl ?_) | (refine is_move ?_; (first | refine al_v (opx_move (.raw _)) ⟨rfl, trivial⟩ trivial rfl ?_ | refine al_v (opx_move (.sl _ _)) ⟨rfl, trivial⟩ trivial rfl ?_)) | (refine is_assign ?_; refine al_v (opx_assign (.raw _)) ⟨rfl, trivial⟩ trivial rfl ?_) | (refine is_pick ?_; refine al_v (opx_pick_t (.raw _) rfl) ⟨rfl, rfl, trivial⟩ trivial rfl ?_) | (refine is_call ?_; refine al_callv2 (by (repeat (first | exact .nil | refine .one rfl rfl ?_ | refine .froz rfl rfl ?_ | refine .row rfl rfl ?_ | refine .rnil rfl ?_ | refine .agg rfl (by (repeat (first | exact .nil | refine .cons (.same rfl) ?_ | refine .cons (.froz rfl) ?_ | refine .cons (.rnil) ?_ | refine .cons (.row rfl rfl) ?_)); (first | done | fail)) ?_)); (first | done | fail)) rfl (hcv) rfl ?_) | refine al_v opx_not ⟨rfl, trivial⟩ trivial rfl ?_ | refine al_nil ?_)) | (refine is_aw ?_; (first | refine aw_seq ?_ | refine aw_region ?_ | (refine is_cond ?_; refine aw_cond_t rfl rfl ?_))) | refine thn_n ?_)
    refine aw_le (le_ownNil 6 2 66 rfl) ?_
    repeat' (first | (refine is_aw ?_; refine aw_ret ?_) | refine thn_r ?_)
    exact ret_row trivial rfl rfl ⟨rfl, by rw [f1]; rfl⟩
  rw [hv] at hcv
  cases hr : irB lo && irB hi
  · rw [hr] at hcr
    have f1 : rngR ps lo hi = [] := by rw [rngR, vrB, hv, hr]; rfl
    repeat' (first | (refine is_al ?_; (first | (refine is_gd ?_; refine al_on rfl rfl rfl (by assumption) ?_) | (refine is_move ?_; (first | refine al_v (opx_move (.raw _)) ⟨rfl, trivial⟩ trivial rfl ?_ | refine al_v (opx_move (.sl _ _)) ⟨rfl, trivial⟩ trivial rfl ?_)) | (refine is_assign ?_; refine al_v (opx_assign (.raw _)) ⟨rfl, trivial⟩ trivial rfl ?_) | (refine is_pick ?_; refine al_v (opx_pick_f (.raw _) rfl) ⟨rfl, rfl, trivial⟩ trivial rfl ?_) | (refine is_call ?_; (first | refine al_callv2 (by (repeat (first | exact .nil | refine .one rfl rfl ?_ | refine .froz rfl rfl ?_ | refine .row rfl rfl ?_ | refine .rnil rfl ?_ | refine .agg rfl (by (repeat (first | exact .nil | refine .cons (.same rfl) ?_ | refine .cons (.froz rfl) ?_ | refine .cons (.rnil) ?_ | refine .cons (.row rfl rfl) ?_)); (first | done | fail)) ?_)); (first | done | fail)) rfl (hcv) rfl ?_ | refine al_callv2 (by (repeat (first | exact .nil | refine .one rfl rfl ?_ | refine .froz rfl rfl ?_ | refine .row rfl rfl ?_ | refine .rnil rfl ?_ | refine .agg rfl (by (repeat (first | exact .nil | refine .cons (.same rfl) ?_ | refine .cons (.froz rfl) ?_ | refine .cons (.rnil) ?_ | refine .cons (.row rfl rfl) ?_)); (first | done | fail)) ?_)); (first | done | fail)) rfl (hcr) rfl ?_)) | refine al_v opx_not ⟨rfl, trivial⟩ trivial rfl ?_ | refine al_nil ?_)) | (refine is_aw ?_; (first | refine aw_seq ?_ | refine aw_region ?_ | (refine is_cond ?_; refine aw_cond_t rfl rfl ?_))) | refine thn_n ?_)
    refine aw_le (le_ownNil 6 2 66 rfl) ?_
    repeat' (first | (refine is_aw ?_; refine aw_ret ?_) | refine thn_r ?_)
    exact ret_row trivial rfl rfl ⟨rfl, by rw [f1]; rfl⟩
  · rw [hr] at hcr
    have f1 : rngR ps lo hi = rng ps lo hi := by rw [rngR, vrB, hv, hr]; rfl
    have hh : -2000 ≤ hi ∧ hi ≤ 2000 := by
      rw [Bool.and_eq_true] at hr
      exact of_decide_eq_true hr.2
    repeat' (first | (refine is_al ?_; (first | (refine is_gd ?_; refine al_on rfl rfl rfl (by assumption) ?_) | (refine is_move ?_; (first | refine al_v (opx_move (.raw _)) ⟨rfl, trivial⟩ trivial rfl ?_ | refine al_v (opx_move (.sl _ _)) ⟨rfl, trivial⟩ trivial rfl ?_)) | (refine is_assign ?_; (first | refine al_v (opx_assign (.raw _)) ⟨rfl, trivial⟩ trivial rfl ?_ | refine al_v (opx_assign (.own _)) ⟨rfl, trivial⟩ trivial rfl ?_)) | (refine is_pick ?_; refine al_v (opx_pick_f (.raw _) rfl) ⟨rfl, rfl, trivial⟩ trivial rfl ?_) | (refine is_call ?_; (first | refine al_callv2 (by (repeat (first | exact .nil | refine .one rfl rfl ?_ | refine .froz rfl rfl ?_ | refine .row rfl rfl ?_ | refine .rnil rfl ?_ | refine .agg rfl (by (repeat (first | exact .nil | refine .cons (.same rfl) ?_ | refine .cons (.froz rfl) ?_ | refine .cons (.rnil) ?_ | refine .cons (.row rfl rfl) ?_)); (first | done | fail)) ?_)); (first | done | fail)) rfl (hcv) rfl ?_ | refine al_callv2 (by (repeat (first | exact .nil | refine .one rfl rfl ?_ | refine .froz rfl rfl ?_ | refine .row rfl rfl ?_ | refine .rnil rfl ?_ | refine .agg rfl (by (repeat (first | exact .nil | refine .cons (.same rfl) ?_ | refine .cons (.froz rfl) ?_ | refine .cons (.rnil) ?_ | refine .cons (.row rfl rfl) ?_)); (first | done | fail)) ?_)); (first | done | fail)) rfl (hcr) rfl ?_ | refine al_callr2 (by (repeat (first | exact .nil | refine .one rfl rfl ?_ | refine .froz rfl rfl ?_ | refine .rnil rfl ?_ | refine .agg rfl (by (repeat (first | exact .nil | refine .cons (.same rfl) ?_ | refine .cons (.froz rfl) ?_ | refine .cons (.rnil) ?_)); (first | done | fail)) ?_)); (first | done | fail)) rfl (c_part ps lo hi hL hh) ?_)) | refine al_v opx_not ⟨rfl, trivial⟩ trivial rfl ?_ | refine al_nil ?_)) | (refine is_aw ?_; (first | refine aw_seq ?_ | refine aw_region ?_ | refine aw_skip ?_ | refine aw_ret ?_ | (refine is_cond ?_; refine aw_cond_f rfl rfl ?_))))
    exact ret_row trivial rfl rfl ⟨rfl, by rw [f1]⟩
theorem c_sSumOver (ps : List Pt) (lo hi : Int) (hL : ps.length ≤ 1000000) : Con Tryz.prog 71 [slP ps, rI lo, rI hi] [] (fun rs all => rs = [rI (sumV (rngR ps lo hi))] ∧ all = []) := by
  have hV := rngR_VS (ps := ps) (lo := lo) (hi := hi)
  have hc := c_sRangeOf ps lo hi hL
  generalize rngR ps lo hi = qs at hV hc ⊢
  have hlen := ptRs_len (ps := qs)
  have hl16 := hV.1
  refine con_of_aw (vars := [.tmp 6]) [(0, .r (slP ps)), (1, .r (rI lo)), (2, .r (rI hi))] [] 0 Tryz.func71 (by kernel_rfl) rfl Tryz.ntmps71 rfl (by decide) rfl rfl rfl rfl rfl ?_; intro B M w0 ρ0 Z0
  repeat' (first | (refine is_al ?_; (first | (refine is_move ?_; (first | refine al_v (opx_move (.raw _)) ⟨rfl, trivial⟩ trivial rfl ?_ | refine al_v (opx_move (.sl _ _)) ⟨rfl, trivial⟩ trivial rfl ?_)) | (refine is_assign ?_; (first | refine al_v (opx_assign (.raw _)) ⟨rfl, trivial⟩ trivial rfl ?_ | refine al_v (opx_assign (.sl _ _)) ⟨rfl, trivial⟩ trivial rfl ?_)) | (refine is_call ?_; refine al_callF (by (repeat (first | exact .nil | refine .one rfl rfl ?_ | refine .froz rfl rfl ?_ | refine .rnil rfl ?_ | refine .agg rfl (by (repeat (first | exact .nil | refine .cons (.same rfl) ?_ | refine .cons (.froz rfl) ?_ | refine .cons (.rnil) ?_)); (first | done | fail)) ?_)); (first | done | fail)) rfl (hc) rfl ?_) | refine al_nil ?_)) | (refine is_aw ?_; (first | refine aw_seq ?_ | refine aw_region ?_ | refine aw_block ?_)))
  refine aw_loop (γ := Nat) (fun k => [(7, .i (sumV (qs.take k))), (8, .r (slP qs)), (9, .i (k : Int))]) (fun _ => []) (fun _ => 0) (fun k => k ≤ qs.length) (fun k => qs.length - k) 0 (Nat.zero_le _) (le_mk [] rfl rfl rfl rfl ⟨rfl, rfl, rfl, trivial⟩ trivial) ?_
  intro k hk
  have hb1 := sumV_part hV k
  rcases Nat.lt_or_ge k qs.length with hlt | hge
  · have hc1 : decide ((k : Int) < ((ptRs qs).length : Int)) = true := decide_eq_true (by omega)
    obtain ⟨p, hp⟩ : ∃ p, qs[k]? = some p := ⟨_, List.getElem?_eq_getElem hlt⟩
    have hpr := ptRs_at hp
    have hs := sumV_take hp
    have hb2 := sumV_part hV (k + 1)
    repeat' (first | (refine is_al ?_; (first | (refine is_move ?_; (first | refine al_v (opx_move (.raw _)) ⟨rfl, trivial⟩ trivial rfl ?_ | refine al_v (opx_move (.sl _ _)) ⟨rfl, trivial⟩ trivial rfl ?_)) | (refine is_bin ?_; (first | refine al_v opx_lss ⟨rfl, rfl, trivial⟩ trivial rfl ?_ | refine al_v (opx_add (by unfold InR; omega)) ⟨rfl, rfl, trivial⟩ trivial rfl ?_)) | (refine is_load ?_; refine al_v opx_ld_imm ⟨rfl, trivial⟩ trivial rfl ?_) | (refine is_fa ?_; refine al_v opx_fa_imm1 ⟨rfl, trivial⟩ trivial rfl ?_) | (refine is_assign ?_; refine al_v (opx_assign (.raw _)) ⟨rfl, trivial⟩ trivial rfl ?_) | (refine is_bi ?_; refine al_v opx_len_sl ⟨rfl, trivial⟩ trivial rfl ?_) | (refine is_ia ?_; refine al_v (opx_ia_sl2 hpr (by omega)) ⟨rfl, rfl, trivial⟩ trivial rfl ?_) | refine al_nil ?_)) | (refine is_aw ?_; (first | refine aw_seq ?_ | refine aw_region ?_ | refine aw_skip ?_ | refine aw_block ?_ | (refine is_cond ?_; refine aw_cond_t rfl (by assumption) ?_))) | refine thn_n ?_)
    exact ⟨k + 1, hlt, by omega, le_mk [] rfl rfl rfl rfl ⟨by rw [hs]; rfl, rfl, rfl, trivial⟩ trivial⟩
  · have hc1 : decide ((k : Int) < ((ptRs qs).length : Int)) = false := decide_eq_false (by omega)
    rw [List.take_of_length_le hge]
    repeat' (first | (refine is_al ?_; (first | (refine is_move ?_; (first | refine al_v (opx_move (.raw _)) ⟨rfl, trivial⟩ trivial rfl ?_ | refine al_v (opx_move (.sl _ _)) ⟨rfl, trivial⟩ trivial rfl ?_)) | (refine is_bin ?_; refine al_v opx_lss ⟨rfl, rfl, trivial⟩ trivial rfl ?_) | (refine is_assign ?_; refine al_v (opx_assign (.raw _)) ⟨rfl, trivial⟩ trivial rfl ?_) | (refine is_bi ?_; refine al_v opx_len_sl ⟨rfl, trivial⟩ trivial rfl ?_) | refine al_nil ?_)) | (refine is_aw ?_; (first | refine aw_seq ?_ | refine aw_region ?_ | refine aw_ret ?_ | refine aw_exit ?_ | (refine is_cond ?_; refine aw_cond_f rfl (by assumption) ?_))))
    exact ret_raw trivial rfl ⟨rfl, rfl⟩
theorem vat_back {ps : List Pt} {t : Int} {k : Nat} {p : Pt} (ha : asc ps) (hp : ps[k]? = some p) (ht : p.1 ≤ t) (hno : ∀ (j : Nat) (q : Pt), k < j → ps[j]? = some q → t < q.1) : vat ps t = some p.2 := by
  obtain ⟨q, h1, h2⟩ := vat_at (ps := ps) (t := t) (k := k) ha (by
    have h3 := (plc_lo (t := t + 1) ha hp).2 (by omega)
    rcases Nat.lt_or_ge (plc ps (t + 1)) (k + 2) with h | h
    · omega
    · exfalso
      have h4 : k + 1 < ps.length := by have := plc_le (ps := ps) (t := t + 1); omega
      have h5 := List.getElem?_eq_getElem h4
      have h6 := (plc_lo (t := t + 1) ha h5).1 (by omega)
      have h7 := hno (k + 1) _ (by omega) h5
      omega)
  rw [hp] at h1; cases h1
  exact h2
theorem vat_no {ps : List Pt} {t : Int} (ha : asc ps) (hno : ∀ (j : Nat) (q : Pt), ps[j]? = some q → t < q.1) : vat ps t = none := by
  refine vat_none ha ?_
  rcases Nat.eq_zero_or_pos (plc ps (t + 1)) with h | h
  · exact h
  · exfalso
    have h4 : 0 < ps.length := by have := plc_le (ps := ps) (t := t + 1); omega
    have h5 := List.getElem?_eq_getElem h4
    have h6 := (plc_lo (t := t + 1) ha h5).1 h
    have h7 := hno 0 _ h5
    omega
theorem c_sValueAt (ps : List Pt) (t : Int) (hL : ps.length ≤ 1000000) : Con Tryz.prog 69 [slP ps, rI t] [] (fun rs all => rs = [rI (vatI ps t), rB (vatB ps t)] ∧ all = []) := by
  have n1 : (!true) = false := rfl
  have n2 : (!false) = true := rfl
  have hcv := c_sValidSeries ps (by omega)
  have hlen := ptRs_len (ps := ps)
  refine con_of_aw (vars := [.tmp 4, .tmp 5]) [(0, .r (slP ps)), (1, .r (rI t))] [] 0 Tryz.func69 (by kernel_rfl) rfl Tryz.ntmps69 rfl (by decide) rfl rfl rfl rfl rfl ?_; intro B M w0 ρ0 Z0
  cases hv : vsB ps
  · rw [hv] at hcv
    have hnv : ¬ VS ps := fun h => by rw [vsB_iff.2 h] at hv; cases hv
    repeat' (first | (refine is_al ?_; (first | (refine is_move ?_; refine al_v (opx_move (.sl _ _)) ⟨rfl, trivial⟩ trivial rfl ?_) | (refine is_assign ?_; refine al_v (opx_assign (.raw _)) ⟨rfl, trivial⟩ trivial rfl ?_) | (refine is_call ?_; refine al_callv2 (by (repeat (first | exact .nil | refine .one rfl rfl ?_ | refine .froz rfl rfl ?_ | refine .row rfl rfl ?_ | refine .rnil rfl ?_ | refine .agg rfl (by (repeat (first | exact .nil | refine .cons (.same rfl) ?_ | refine .cons (.froz rfl) ?_ | refine .cons (.rnil) ?_ | refine .cons (.row rfl rfl) ?_)); (first | done | fail)) ?_)); (first | done | fail)) rfl (hcv) rfl ?_) | refine al_v opx_not ⟨rfl, trivial⟩ trivial rfl ?_ | refine al_nil ?_)) | (refine is_aw ?_; (first | refine aw_seq ?_ | refine aw_region ?_ | refine aw_ret ?_ | (refine is_cond ?_; refine aw_cond_t rfl rfl ?_))) | refine thn_r ?_)
    exact ret_raw2 trivial rfl rfl ⟨by rw [vatI, if_neg hnv, vatB, hv]; rfl, rfl⟩
  rw [hv] at hcv
  have hVS := vsB_iff.1 hv
  have ha := hVS.asc
  repeat' (first | (refine is_al ?_; (first | (refine is_move ?_; refine al_v (opx_move (.sl _ _)) ⟨rfl, trivial⟩ trivial rfl ?_) | (refine is_bin ?_; refine al_v (opx_sub (by unfold InR; omega)) ⟨rfl, rfl, trivial⟩ trivial rfl ?_) | (refine is_assign ?_; refine al_v (opx_assign (.raw _)) ⟨rfl, trivial⟩ trivial rfl ?_) | (refine is_bi ?_; refine al_v opx_len_sl ⟨rfl, trivial⟩ trivial rfl ?_) | (refine is_call ?_; refine al_callv2 (by (repeat (first | exact .nil | refine .one rfl rfl ?_ | refine .froz rfl rfl ?_ | refine .row rfl rfl ?_ | refine .rnil rfl ?_ | refine .agg rfl (by (repeat (first | exact .nil | refine .cons (.same rfl) ?_ | refine .cons (.froz rfl) ?_ | refine .cons (.rnil) ?_ | refine .cons (.row rfl rfl) ?_)); (first | done | fail)) ?_)); (first | done | fail)) rfl (hcv) rfl ?_) | refine al_v opx_not ⟨rfl, trivial⟩ trivial rfl ?_ | refine al_nil ?_)) | (refine is_aw ?_; (first | refine aw_seq ?_ | refine aw_region ?_ | refine aw_skip ?_ | refine aw_block ?_ | (refine is_cond ?_; refine aw_cond_f rfl rfl ?_))))
  refine aw_loop (γ := Nat) (fun k => [(0, .r (slP ps)), (1, .r (rI t)), (6, .i ((k : Int) - 1))]) (fun _ => []) (fun _ => 0) (fun k => k ≤ ps.length ∧ ∀ (j : Nat) (q : Pt), k ≤ j → ps[j]? = some q → t < q.1) (fun k => k) ps.length ⟨Nat.le_refl _, fun j q hj hq => by rw [List.getElem?_eq_none hj] at hq; cases hq⟩ (le_mk [] rfl rfl rfl rfl ⟨rfl, rfl, by rw [← hlen]; rfl, trivial⟩ trivial) ?_
  rintro k ⟨hk, hno⟩
  rcases Nat.eq_zero_or_pos k with h0 | h0
  · subst h0
    have hc1 : decide ((0 : Int) ≤ ((0 : Nat) : Int) - 1) = false := rfl
    have hn := vat_no (ps := ps) (t := t) ha (fun j q hq => hno j q (Nat.zero_le _) hq)
    repeat' (first | (refine is_al ?_; (first | (refine is_move ?_; refine al_v (opx_move (.raw _)) ⟨rfl, trivial⟩ trivial rfl ?_) | (refine is_bin ?_; refine al_v opx_geq ⟨rfl, rfl, trivial⟩ trivial rfl ?_) | (refine is_assign ?_; refine al_v (opx_assign (.raw _)) ⟨rfl, trivial⟩ trivial rfl ?_) | refine al_nil ?_)) | (refine is_aw ?_; (first | refine aw_seq ?_ | refine aw_region ?_ | refine aw_ret ?_ | refine aw_exit ?_ | (refine is_cond ?_; refine aw_cond_f rfl rfl ?_))))
    exact ret_raw2 trivial rfl rfl ⟨by rw [vatI, if_pos hVS, hn, vatB, hv, hn]; rfl, rfl⟩
  · obtain ⟨m, rfl⟩ : ∃ m, k = m + 1 := ⟨k - 1, by omega⟩
    have he : (((m + 1 : Nat) : Int) - 1) = (m : Int) := by omega
    rw [he]
    have hc1 : decide ((0 : Int) ≤ (m : Int)) = true := decide_eq_true (by omega)
    obtain ⟨p, hp⟩ : ∃ p, ps[m]? = some p := ⟨_, List.getElem?_eq_getElem (by omega)⟩
    have hpr := ptRs_at hp
    by_cases ht : p.1 ≤ t
    · have hd : decide (p.1 ≤ t) = true := decide_eq_true ht
      have hn := vat_back ha hp ht (fun j q hj hq => hno j q (by omega) hq)
      repeat' (first | (refine is_al ?_; (first | (refine is_move ?_; (first | refine al_v (opx_move (.raw _)) ⟨rfl, trivial⟩ trivial rfl ?_ | refine al_v (opx_move (.sl _ _)) ⟨rfl, trivial⟩ trivial rfl ?_)) | (refine is_bin ?_; (first | refine al_v opx_leq ⟨rfl, rfl, trivial⟩ trivial rfl ?_ | refine al_v opx_geq ⟨rfl, rfl, trivial⟩ trivial rfl ?_)) | (refine is_load ?_; refine al_v opx_ld_imm ⟨rfl, trivial⟩ trivial rfl ?_) | (refine is_fa ?_; (first | refine al_v opx_fa_imm0 ⟨rfl, trivial⟩ trivial rfl ?_ | refine al_v opx_fa_imm1 ⟨rfl, trivial⟩ trivial rfl ?_)) | (refine is_assign ?_; refine al_v (opx_assign (.raw _)) ⟨rfl, trivial⟩ trivial rfl ?_) | (refine is_ia ?_; refine al_v (opx_ia_sl2 hpr (by omega)) ⟨rfl, rfl, trivial⟩ trivial rfl ?_) | refine al_nil ?_)) | (refine is_aw ?_; (first | refine aw_seq ?_ | refine aw_region ?_ | refine aw_skip ?_ | refine aw_block ?_ | refine aw_ret ?_ | (refine is_cond ?_; (first | refine aw_cond_t rfl rfl ?_ | refine aw_cond_t rfl (by assumption) ?_)))) | refine thn_r ?_ | refine inb_r ?_)
      exact ret_raw2 trivial rfl rfl ⟨by rw [vatI, if_pos hVS, hn, vatB, hv, hn]; rfl, rfl⟩
    · have hd : decide (p.1 ≤ t) = false := decide_eq_false ht
      repeat' (first | (refine is_al ?_; (first | (refine is_move ?_; (first | refine al_v (opx_move (.raw _)) ⟨rfl, trivial⟩ trivial rfl ?_ | refine al_v (opx_move (.sl _ _)) ⟨rfl, trivial⟩ trivial rfl ?_)) | (refine is_bin ?_; (first | refine al_v opx_leq ⟨rfl, rfl, trivial⟩ trivial rfl ?_ | refine al_v opx_geq ⟨rfl, rfl, trivial⟩ trivial rfl ?_ | refine al_v (opx_sub (by unfold InR; omega)) ⟨rfl, rfl, trivial⟩ trivial rfl ?_)) | (refine is_load ?_; refine al_v opx_ld_imm ⟨rfl, trivial⟩ trivial rfl ?_) | (refine is_fa ?_; refine al_v opx_fa_imm0 ⟨rfl, trivial⟩ trivial rfl ?_) | (refine is_assign ?_; refine al_v (opx_assign (.raw _)) ⟨rfl, trivial⟩ trivial rfl ?_) | (refine is_ia ?_; refine al_v (opx_ia_sl2 hpr (by omega)) ⟨rfl, rfl, trivial⟩ trivial rfl ?_) | refine al_nil ?_)) | (refine is_aw ?_; (first | refine aw_seq ?_ | refine aw_region ?_ | refine aw_skip ?_ | refine aw_block ?_ | (refine is_cond ?_; (first | refine aw_cond_t rfl rfl ?_ | refine aw_cond_f rfl (by assumption) ?_)))) | refine thn_n ?_)
      exact ⟨m, ⟨by omega, fun j q hj hq => by
        rcases Nat.lt_or_ge m j with h | h
        · exact hno j q h hq
        · rw [show j = m by omega, hp] at hq; cases hq; omega⟩, by omega, le_mk [] rfl rfl rfl rfl ⟨rfl, rfl, rfl, trivial⟩ trivial⟩
end Go.Proofs.YtfoecgfboicphaaGreatDoor
/-
  Maps from constant texts to method values bound to an object of the call's own: made, stored into, asked; the call of such a value.
-/
namespace Go.Proofs.YtfoecgfboicphaaGreatDoor
open Go.RowKit Go.MapKept
set_option linter.unusedVariables false
set_option linter.unusedSimpArgs false

/-- The entries of a map whose keys came in this order, with these values. -/
def fmL : Nat → List Str → List Value → List MapEntry
  | i, k :: ks, v :: vs => ⟨.string ⟨k.toArray⟩, v, i⟩ :: fmL (i + 1) ks vs
  | _, _, _ => []
def okFm (ks : List Str) (v : Value) (o : Obj) (us : List Value) : Prop := (∃ g, v = .map (some g)) ∧ o = .map (fmL 0 ks us).toArray ks.length
abbrev fmO (ks : List Str) (fs : List A1) : OB := .gen (okFm ks) fs
theorem fmL_snoc : ∀ {ks : List Str} {us : List Value} {i : Nat} {k : Str} {v : Value}, us.length = ks.length → fmL i (ks ++ [k]) (us ++ [v]) = fmL i ks us ++ [⟨.string ⟨k.toArray⟩, v, i + ks.length⟩]
  | [], [], i, k, v, _ => rfl
  | x :: ks, u :: us, i, k, v, h => by
    have h : us.length = ks.length := by simpa using h
    simp only [List.cons_append, fmL, fmL_snoc (ks := ks) h, List.length_cons]
    rw [show i + 1 + ks.length = i + (ks.length + 1) by omega]
  | [], _ :: _, _, _, _, h => by simp at h
  | _ :: _, [], _, _, _, h => by simp at h
theorem find_fm : ∀ {ks : List Str} {us : List Value} {i : Nat} {s : Str}, us.length = ks.length → Instr.findNow .string (.string ⟨s.toArray⟩) (fmL i ks us) i = some ((us[mpI ks s]?).map fun v => (i + mpI ks s, v))
  | [], [], i, s, _ => rfl
  | x :: ks, u :: us, i, s, hl => by
    have hl : us.length = ks.length := by simpa using hl
    have ih := find_fm (ks := ks) (us := us) (i := i + 1) (s := s) hl
    simp only [fmL, Instr.findNow, Instr.sameNow]
    by_cases h : x = s
    · subst h
      have : ((⟨x.toArray⟩ : ByteArray) == ⟨x.toArray⟩) = true := (bytes_beq _ _).2 rfl
      rw [this]
      have h0 : mpI (x :: ks) x = 0 := by simp [mpI, List.findIdx_cons]
      rw [h0]
      simp
    · have hb : ((⟨s.toArray⟩ : ByteArray) == ⟨x.toArray⟩) = false := Bool.eq_false_iff.2 fun e => by
        have e := (bytes_beq _ _).1 e
        injection e with e
        injection e with e
        exact h e.symm
      have h1 : mpI (x :: ks) s = mpI ks s + 1 := by simp [mpI, List.findIdx_cons, h]
      rw [hb]
      show Instr.findNow .string (.string ⟨s.toArray⟩) (fmL (i + 1) ks us) (i + 1) = _
      rw [ih, h1]
      simp only [List.getElem?_cons_succ]
      cases us[mpI ks s]? with
      | none => rfl
      | some v => simp; omega
  | [], _ :: _, _, _, h => by simp at h
  | _ :: _, [], _, _, h => by simp at h
theorem d1l_atF {ρ : Nat → Value} {Z : Nat → Prop} {w : World} : ∀ {xs : List A1} {us : List Value} {i : Nat} {x : A1}, D1L ρ Z w xs us → xs[i]? = some x → ∃ u, us[i]? = some u ∧ D1 ρ Z w x u
  | x :: xs, u :: us, 0, _, h, e => by cases e; exact ⟨u, rfl, h.1⟩
  | x :: xs, u :: us, i + 1, y, h, e => d1l_atF (xs := xs) (us := us) (i := i) h.2 (by simpa using e)
  | [], [], i, _, _, e => by simp at e
  | [], _ :: _, _, _, h, _ => h.elim
  | _ :: _, [], _, _, h, _ => h.elim
theorem d1l_snoc {ρ : Nat → Value} {Z : Nat → Prop} {w : World} : ∀ {xs : List A1} {us : List Value} {x : A1} {u : Value}, D1L ρ Z w xs us → D1 ρ Z w x u → D1L ρ Z w (xs ++ [x]) (us ++ [u])
  | [], [], _, _, _, h => ⟨h, trivial⟩
  | _ :: _, _ :: _, _, _, h, h2 => ⟨h.1, d1l_snoc h.2 h2⟩
  | [], _ :: _, _, _, h, _ => h.elim
  | _ :: _, [], _, _, h, _ => h.elim
/-- What a type of map from texts to functions is. -/
class MfT (P : Program) (T : TypeId) (kt et : outParam TypeId) : Prop where
  ok : P.underlying T = some (.map kt et)
  key : P.underlying kt = some .string
  zero : ∀ w : World, (zeroValue et).run P w = .ok .nilFunc w
section
variable {P : Program} {d u : Nat} {x y z : Operand} {ty T kt et : TypeId} {pos : String} {af : Array Edge} {gd : Option (Nat × Bool)}
theorem opx_mkMapF : OpX P ⟨some d, .makeMap T none, ty, pos, af, gd⟩ [] [] [u] [(d, .own u)] [(u, fmO [] [])] :=
  opx_new rfl (.inl rfl) fun cx S O V a w ρ Z hg hR hO hV =>
    ⟨.map (some w.heap.size), w.alloc (.map #[] 0), rfl, World.grownBy_alloc w _ none, ⟨w.heap.size, _, [], by simp [blk, Value.place], heap_alloc_new w _, ⟨⟨w.heap.size, by simp⟩, rfl⟩, trivial⟩, fun g hb => by cases hb; exact Nat.le_refl _, ⟨fun s hs => (by cases hs), rfl, fun h => (by cases h)⟩⟩
theorem fm_read {cx : Cx} {S : Nat → AV} {O : Nat → OB} {V : Nat → Prop} {a : Act} {w : World} {ρ : Nat → Value} {Z : Nat → Prop} (hg : Good cx S O V a w ρ Z) {ks : List Str} {fs : List A1} (hx : D1 ρ Z w (.own u) (a.eval x)) (ho : O u = fmO ks fs) :
    ∃ r us, a.eval x = .map (some r) ∧ ρ u = .map (some r) ∧ w.heap[r]? = some (.map (fmL 0 ks us).toArray ks.length) ∧ D1L ρ Z w fs us := by
  have h := hg.obj u
  rw [ho] at h
  obtain ⟨g, o, us, h1, h2, ⟨⟨g', h3⟩, rfl⟩, h4⟩ := h
  have : g' = g := by
    rw [h3] at h1
    simpa [blk, Value.place] using h1
  subst this
  exact ⟨g', us, by rw [← h3]; exact hx.1, h3, h2, h4⟩
/-- 'v, ok := m[k]' -/
theorem fm_look [hT : MfT P T kt et] {w : World} {r : Nat} {ks : List Str} {us : List Value} {s : Str} (hl : us.length = ks.length) (h2 : w.heap[r]? = some (.map (fmL 0 ks us).toArray ks.length)) :
    (Instr.lookup T (.map (some r)) (.string ⟨s.toArray⟩) true).run P w = .ok (.tuple #[(us[mpI ks s]?).getD .nilFunc, .bool (us[mpI ks s]?).isSome]) w := by
  have hf := find_fm (ks := ks) (us := us) (i := 0) (s := s) hl
  simp only [Nat.zero_add] at hf
  have hk : (Instr.findKey kt (.string ⟨s.toArray⟩) (fmL 0 ks us)).run P w = .ok ((us[mpI ks s]?).map fun v => (mpI ks s, v)) w := by
    unfold Instr.findKey
    rw [Sem.run_bind, run_underlying hT.key]
    simp only [Result.andThen]
    rw [hf]; rfl
  unfold Instr.lookup
  rw [Sem.run_bind, run_underlying hT.ok]
  simp only [Result.andThen]
  rw [Sem.run_bind, MapKept.run_getObj_map h2]
  simp only [Result.andThen]
  rw [Sem.run_bind, Sem.run_pure]
  simp only [Result.andThen]
  rw [Sem.run_bind, run_checkKey hT.key (by trivial)]
  simp only [Result.andThen]
  rw [Sem.run_bind, hk]
  cases us[mpI ks s]? with
  | some v => simp [Result.andThen]
  | none => simp [Result.andThen, Sem.run_bind, hT.zero w]
theorem opx_mapGetFt [hT : MfT P T kt et] {ks : List Str} {fs : List A1} {s : Str} {f : A1} (hl : fs.length = ks.length) (hf : fs[mpI ks s]? = some f) : OpX P ⟨some d, .lookup T x y true, ty, pos, af, gd⟩ [(x, .own u), (y, .str s)] [(u, fmO ks fs)] []
    [(d, .tup [.one f, .one (.c (.raw (.bool true)))])] [] :=
  opx_val rfl fun cx S O V a w ρ Z hg hR hO => by
    obtain ⟨r, us, h1, _, h2, h3⟩ := fm_read (x := x) hg (hg.ag hR.1) hO.1
    have h4 := da_raw (hg.ag hR.2.1)
    obtain ⟨v, hv, hd⟩ := d1l_atF h3 hf
    have hk := fm_look (hT := hT) (s := s) (by rw [← hl, h3.len]) h2
    rw [hv] at hk
    refine ⟨.tuple #[v, .bool true], ?_, ⟨[v, .bool true], rfl, hd, DC.raw _ rfl, trivial⟩, fun t ht hVt => ?_⟩
    · simp only [execOp, h1, h4]
      rw [Sem.run_bind, hk]; rfl
    · have := (hg.virgin t hVt).2.2 u
      rw [hO.1] at this
      refine this ?_
      have ht : t ∈ f.tag.toList := by simpa [AV.tags, AR.tags, A1.tag] using ht
      simp only [OB.tags, List.mem_flatMap]
      exact ⟨f, List.mem_of_getElem? hf, ht⟩
theorem opx_mapGetFf [hT : MfT P T kt et] {ks : List Str} {fs : List A1} {s : Str} (hl : fs.length = ks.length) (hf : ks.length ≤ mpI ks s) : OpX P ⟨some d, .lookup T x y true, ty, pos, af, gd⟩ [(x, .own u), (y, .str s)] [(u, fmO ks fs)] []
    [(d, .tup [.one (.c (.raw .nilFunc)), .one (.c (.raw (.bool false)))])] [] :=
  opx_val rfl fun cx S O V a w ρ Z hg hR hO => by
    obtain ⟨r, us, h1, _, h2, h3⟩ := fm_read (x := x) hg (hg.ag hR.1) hO.1
    have h4 := da_raw (hg.ag hR.2.1)
    have hul : us.length = ks.length := by rw [← hl, h3.len]
    have hk := fm_look (hT := hT) (s := s) hul h2
    rw [List.getElem?_eq_none (by omega)] at hk
    refine ⟨.tuple #[.nilFunc, .bool false], ?_, ⟨[.nilFunc, .bool false], rfl, DC.raw _ rfl, DC.raw _ rfl, trivial⟩, fun t ht => by simp [AV.tags, AR.tags, A1.tag] at ht⟩
    simp only [execOp, h1, h4]
    rw [Sem.run_bind, hk]; rfl
theorem opx_mapPutF [hT : MfT P T kt et] {ks ks' : List Str} {fs fs' : List A1} {s : Str} {f : A1} (hl : fs.length = ks.length) (hn : mpI ks s = ks.length) (he : ks ++ [s] = ks') (he2 : fs ++ [f] = fs') : OpX P ⟨none, .mapUpdate T x y z, ty, pos, af, gd⟩ [(x, .own u), (y, .str s), (z, .r (.one f))] [(u, fmO ks fs)] [] [] [(u, fmO ks' fs')] := by
  subst he he2
  exact opx_set rfl rfl fun cx S O V a w ρ Z hg hR hO => by
    obtain ⟨r, us, h1, h4, h2, hd⟩ := fm_read (x := x) hg (hg.ag hR.1) hO.1
    have h3 := da_raw (hg.ag hR.2.1)
    have h5 : D1 ρ Z w f (a.eval z) := hg.ag hR.2.2.1
    have hul : us.length = ks.length := by rw [← hl, hd.len]
    have hf := find_fm (ks := ks) (us := us) (i := 0) (s := s) hul
    rw [List.getElem?_eq_none (by omega)] at hf
    have hk : (Instr.findKey kt (.string ⟨s.toArray⟩) (fmL 0 ks us)).run P w = .ok none w := by
      unfold Instr.findKey
      rw [Sem.run_bind, run_underlying hT.key]
      simp only [Result.andThen]
      rw [hf]; rfl
    have he : ((fmL 0 ks us).toArray.push ⟨.string ⟨s.toArray⟩, a.eval z, ks.length⟩) = (fmL 0 (ks ++ [s]) (us ++ [a.eval z])).toArray := by
      rw [fmL_snoc hul]; simp
    have hlk : (Instr.mapUpdate T (.map (some r)) (.string ⟨s.toArray⟩) (a.eval z)).run P w = .ok () { w with heap := w.heap.setIfInBounds r (.map (fmL 0 (ks ++ [s]) (us ++ [a.eval z])).toArray (ks ++ [s]).length) } := by
      unfold Instr.mapUpdate
      rw [Sem.run_bind, run_underlying hT.ok]
      simp only [Result.andThen]
      rw [Sem.run_bind, MapKept.run_getObj_map h2]
      simp only [Result.andThen]
      rw [Sem.run_bind, run_checkKey hT.key (by trivial)]
      simp only [Result.andThen]
      rw [Sem.run_bind, hk]
      simp only [Result.andThen]
      rw [he, run_setObj_map _ h2, List.length_append]; rfl
    have hlt : r < w.heap.size := (Array.getElem?_eq_some_iff.1 h2).1
    have hgr : w.grownBy { w with heap := w.heap.setIfInBounds r (.map (fmL 0 (ks ++ [s]) (us ++ [a.eval z])).toArray (ks ++ [s]).length) } (blk (ρ u)) := by
      rw [h4]
      exact ⟨rfl, rfl, rfl, by simp, fun g hg hne => by simp only [Array.getElem?_setIfInBounds]; rw [if_neg]; rintro rfl; exact hne rfl⟩
    have hlive : (O u).live = true := by rw [hO.1]; rfl
    have hsame : Same Z w { w with heap := w.heap.setIfInBounds r (.map (fmL 0 (ks ++ [s]) (us ++ [a.eval z])).toArray (ks ++ [s]).length) } := fun g hz => hgr.block g (hg.zlt g hz) (fun e => (hg.out u g hlive e.symm).1 hz)
    refine ⟨_, ?_, hlive, hgr, ⟨r, _, us ++ [a.eval z], by rw [h4]; rfl, by simp [hlt], ⟨⟨r, h4⟩, rfl⟩, D1L.mono (fun _ h => h) hsame (fun _ _ _ _ => rfl) (d1l_snoc hd h5)⟩, fun t ht hVt => ?_⟩
    · simp only [execOp, h1, h3]
      rw [Sem.run_bind, hlk]; rfl
    · simp only [OB.tags, List.flatMap_append, List.mem_append] at ht
      rcases ht with ht | ht
      · have := (hg.virgin t hVt).2.2 u
        rw [hO.1] at this
        exact this ht
      · refine hg.agv hR.2.2.1 t ?_ hVt
        simpa [AV.tags, AR.tags, A1.tag] using ht
end
section
variable {P : Program} {ops : Array Oper} {cx : Cx} {Q : APost} {rest : List Oper} {l : SL} {m : OL} {n : Nat}
variable {d : Nat} {ty : TypeId} {pos : String} {af : Array Edge} {g : FuncId} {xs : List Operand} {ats : Array TypeId}
/-- The call of a method value is the call of the method with its receiver ahead, which slot 'sy' holds too. -/
theorem al_bound {sx sy t : Nat} (hx : lk .dead l sx = .r (.one (.fn g (some (t, 0)) []))) (hy : lk .dead l sy = .ref t 0)
    (k : AL P ops cx Q (⟨some d, .call { callee := .value (.func g), args := (.tmp sy :: xs).toArray, argTypes := ats }, ty, pos, af, none⟩ :: rest) l m n) :
    AL P ops cx Q (⟨some d, .call { callee := .value (.tmp sx), args := xs.toArray, argTypes := ats }, ty, pos, af, none⟩ :: rest) l m n := by
  rintro a w ⟨ρ, Z, hg⟩
  have hk := k a w ⟨ρ, Z, hg⟩
  have hv : DA ρ Z w (.r (.one (.fn g (some (t, 0)) []))) (a.eval (.tmp sx)) := hg.ag hx
  obtain ⟨fs, cs, h1, ⟨b, o, h2, rfl⟩, h3⟩ := hv
  have hy' : DA ρ Z w (.ref t 0) (a.eval (.tmp sy)) := hg.ag hy
  obtain ⟨b', o', h4, h5⟩ := hy'
  rw [h2] at h4
  cases h4
  have hc : cs = [] := by
    cases cs with
    | nil => rfl
    | cons c cs => exact h3.elim
  subst hc
  have he : execOp a.eval ⟨some d, .call { callee := .value (.tmp sx), args := xs.toArray, argTypes := ats }, ty, pos, af, none⟩ = execOp a.eval ⟨some d, .call { callee := .value (.func g), args := (.tmp sy :: xs).toArray, argTypes := ats }, ty, pos, af, none⟩ := by
    have h6 : a.eval (.func g) = .func (.func g) #[] #[] := rfl
    simp [execOp, resolve, h1, h5, h6, Deferred.ofValue, invoke]
  unfold wpList at hk ⊢
  simp only [Region.wanted, if_true, Oper.wp, Oper.asks, he] at hk ⊢
  exact hk
end
section
variable {P : Program} {d : Nat} {ty : TypeId} {pos : String} {af : Array Edge} {gd : Option (Nat × Bool)} {g : FuncId} {x : Operand}
theorem opx_mkfnR {t off : Nat} : OpX P ⟨some d, .makeFunc (.func g) #[x] #[], ty, pos, af, gd⟩ [(x, .ref t off)] [] [] [(d, .r (.one (.fn g (some (t, off)) [])))] [] :=
  opx_val rfl fun cx S O V a w ρ Z hg hR hO => by
    obtain ⟨b, o, h1, h2⟩ := hg.ag hR.1
    refine ⟨.func (.func g) #[.pointer (some ⟨b, o + off, none⟩)] #[], ?_, ⟨[.pointer (some ⟨b, o + off, none⟩)], [], rfl, ⟨b, o, h1, rfl⟩, trivial⟩, fun s hs => ?_⟩
    · simp [execOp, Instr.makeFunc, h2]
    · exact hg.agv hR.1 s (by simpa [AV.tags, AR.tags, A1.tag] using hs)
end
end Go.Proofs.YtfoecgfboicphaaGreatDoor
