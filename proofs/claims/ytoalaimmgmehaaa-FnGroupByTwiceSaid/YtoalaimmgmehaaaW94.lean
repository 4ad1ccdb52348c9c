/-
  Catalogs; samples that are drawn: the walks.
-/
import Derived.Test.YtoalaimmgmehaaaW93
import Derived.Test.YtoalaimmgmehaaaEng35
namespace Go.Proofs.Ytoalaimmgmehaaa
open Go.RowKit
set_option linter.unusedVariables false
set_option linter.unusedSimpArgs false
attribute [local irreducible] AL AW OpX Le AD

/-! ### catalogs -/
def ctOk (c : List (List Lb)) (k : Nat) : Prop := ∀ x, c[k]? = some x → VL x ∧ ∀ j y, j < k → c[j]? = some y → y ≠ x
def VCt (c : List (List Lb)) : Prop := c.length ≤ 8 ∧ ∀ k, ctOk c k
open Classical in
noncomputable def vctB (c : List (List Lb)) : Bool := decide (VCt c)
open Classical in
theorem vctB_t {c : List (List Lb)} (h : VCt c) : vctB c = true := by unfold vctB; exact decide_eq_true h
open Classical in
theorem vctB_f {c : List (List Lb)} (h : ¬ VCt c) : vctB c = false := by unfold vctB; exact decide_eq_false h
open Classical in
theorem vctB_of {c : List (List Lb)} (h : vctB c = true) : VCt c := by unfold vctB at h; exact of_decide_eq_true h
theorem vct_bad {c : List (List Lb)} {k : Nat} (h : ¬ ctOk c k) : vctB c = false := vctB_f fun hv => h (hv.2 k)
theorem ct_next {c : List (List Lb)} {k : Nat} (h : ∀ j, j < k → ctOk c j) (hk : ctOk c k) : ∀ j, j < k + 1 → ctOk c j := fun j hj => by
  rcases Nat.lt_or_ge j k with h1 | h1
  · exact h j h1
  · rw [show j = k by omega]; exact hk
theorem ct_all {c : List (List Lb)} {k : Nat} (h : ∀ j, j < k → ctOk c j) (hk : c.length ≤ k) : ∀ j, ctOk c j := fun j => by
  rcases Nat.lt_or_ge j k with h1 | h1
  · exact h j h1
  · intro s hs; rw [List.getElem?_eq_none (by omega)] at hs; cases hs
def ctBig (c : List (List Lb)) : Prop := ∀ x ∈ c, x.length ≤ 1000000 ∧ ∀ y ∈ x, BIG y.1.length ∧ BIG y.2.length
def plC (c : List (List Lb)) (l : List Lb) : Nat := c.findIdx fun x => decide (x = l)
def plI (c : List (List Lb)) (l : List Lb) : Int := if plC c l < c.length then (plC c l : Int) else -1
theorem plC_le {c : List (List Lb)} {l : List Lb} : plC c l ≤ c.length := List.findIdx_le_length
theorem plC_eq {c : List (List Lb)} {l : List Lb} {k : Nat} (h1 : ∀ j, j < k → c[j]? ≠ some l) (h2 : c[k]? = some l) : plC c l = k := by
  obtain ⟨hk, rfl⟩ := List.getElem?_eq_some_iff.1 h2
  refine (List.findIdx_eq hk).2 ⟨decide_eq_true rfl, fun j hj => decide_eq_false fun e => h1 j hj ?_⟩
  rw [List.getElem?_eq_getElem (by omega), e]
theorem plC_lt {c : List (List Lb)} {l : List Lb} : plC c l < c.length ↔ l ∈ c := by
  rw [plC, List.findIdx_lt_length]
  constructor
  · rintro ⟨x, hx, h⟩
    have := of_decide_eq_true h
    rw [← this]; exact hx
  · exact fun h => ⟨l, h, decide_eq_true rfl⟩
theorem plC_none {c : List (List Lb)} {l : List Lb} (h : ∀ j, j < c.length → c[j]? ≠ some l) : ¬ plC c l < c.length := fun h1 => by
  obtain ⟨j, hj⟩ := List.mem_iff_getElem?.1 (plC_lt.1 h1)
  exact h j (List.getElem?_eq_some_iff.1 hj).1 hj
theorem plI_take {c : List (List Lb)} {k : Nat} {x : List Lb} (hx : c[k]? = some x) : 0 ≤ plI (c.take k) x ↔ ∃ j, j < k ∧ c[j]? = some x := by
  have hk := (List.getElem?_eq_some_iff.1 hx).1
  rw [plI]
  have e : plC (c.take k) x < (c.take k).length ↔ ∃ j, j < k ∧ c[j]? = some x := by
    rw [plC_lt, List.mem_iff_getElem?]
    constructor
    · rintro ⟨j, hj⟩
      rw [List.getElem?_take] at hj
      split at hj
      · exact ⟨j, by assumption, hj⟩
      · cases hj
    · rintro ⟨j, h1, h2⟩
      exact ⟨j, by rw [List.getElem?_take, if_pos h1]; exact h2⟩
  rw [← e]
  split <;> omega
theorem c_placeIn (c : List (List Lb)) (l : List Lb) (hc : c.length ≤ 1000000) (hb : ctBig c) (hl : l.length ≤ 1000000) : Con Try.prog 102 [slC c, slL l] [] (fun rs all => rs = [rI (plI c l)] ∧ all = []) := by
  have hlen := lcRs_len (xs := c)
  refine con_of_aw (vars := [.tmp 4]) [(0, .r (slC c)), (1, .r (slL l))] [] 0 Try.func102 (by kernel_rfl) rfl Try.ntmps102 rfl (by decide) rfl rfl rfl rfl rfl ?_
  intro B M w0 ρ0 Z0
  repeat' (first | (refine is_al ?_; (first | (refine is_assign ?_; refine al_v (opx_assign (.raw _)) ⟨rfl, trivial⟩ trivial rfl ?_) | refine al_nil ?_)) | (refine is_aw ?_; (first | refine aw_seq ?_ | refine aw_region ?_ | refine aw_block ?_)))
  refine aw_loop (γ := Nat) (fun k => [(0, .r (slC c)), (1, .r (slL l)), (5, .i (k : Int))]) (fun _ => []) (fun _ => 0) (fun k => k ≤ c.length ∧ ∀ j, j < k → c[j]? ≠ some l) (fun k => c.length - k) 0 ⟨Nat.zero_le _, fun j hj => by omega⟩ (le_mk [] rfl rfl rfl rfl ⟨rfl, rfl, rfl, trivial⟩ trivial) ?_
  rintro k ⟨hk, hok⟩
  rcases Nat.lt_or_ge k c.length with hlt | hge
  · have hc1 : decide ((k : Int) < ((lcRs c).length : Int)) = true := decide_eq_true (by omega)
    obtain ⟨x, hx⟩ : ∃ x, c[k]? = some x := ⟨_, List.getElem?_eq_getElem hlt⟩
    have hxr := lcRs_at hx
    have hx1 := (hb x (List.mem_of_getElem? hx)).1
    by_cases he : x = l
    · subst he
      have hd : decide (cmpL x x = 0) = true := decide_eq_true (cmpL_self x)
      have e := plC_eq hok hx
      repeat' (first | (refine is_al ?_; (first | (refine is_move ?_; (first | refine al_v (opx_move (.raw _)) ⟨rfl, trivial⟩ trivial rfl ?_ | refine al_v (opx_move (.sl _ _)) ⟨rfl, trivial⟩ trivial rfl ?_)) | (refine is_bin ?_; (first | refine al_v opx_eql ⟨rfl, rfl, trivial⟩ trivial rfl ?_ | refine al_v opx_lss ⟨rfl, rfl, trivial⟩ trivial rfl ?_)) | (refine is_load ?_; refine al_v opx_ld_imm ⟨rfl, trivial⟩ trivial rfl ?_) | (refine is_assign ?_; refine al_v (opx_assign (.raw _)) ⟨rfl, trivial⟩ trivial rfl ?_) | (refine is_bi ?_; refine al_v opx_len_sl ⟨rfl, trivial⟩ trivial rfl ?_) | (refine is_ia ?_; refine al_v (opx_ia_sl2 hxr (by omega)) ⟨rfl, rfl, trivial⟩ trivial rfl ?_) | (refine is_call ?_; refine al_callv2 (by (repeat (first | exact .nil | refine .one rfl rfl ?_ | refine .froz rfl rfl ?_ | refine .row rfl rfl ?_ | refine .rnil rfl ?_ | refine .agg rfl (by (repeat (first | exact .nil | refine .cons (.same rfl) ?_ | refine .cons (.froz rfl) ?_ | refine .cons (.rnil) ?_ | refine .cons (.row rfl rfl) ?_)); (first | done | fail)) ?_)); (first | done | fail)) rfl (c_compareLabels _ _ hx1 hl) rfl ?_) | refine al_nil ?_)) | (refine is_aw ?_; (first | refine aw_seq ?_ | refine aw_region ?_ | refine aw_skip ?_ | refine aw_block ?_ | refine aw_ret ?_ | (refine is_cond ?_; refine aw_cond_t rfl (by assumption) ?_))) | refine thn_r ?_ | refine inb_r ?_)
      exact ret_raw trivial rfl ⟨by rw [plI, if_pos (by omega), e], rfl⟩
    · have hd : decide (cmpL x l = 0) = false := decide_eq_false (fun h => he (cmpL_iff.1 h))
      repeat' (first | (refine is_al ?_; (first | (refine is_move ?_; (first | refine al_v (opx_move (.raw _)) ⟨rfl, trivial⟩ trivial rfl ?_ | refine al_v (opx_move (.sl _ _)) ⟨rfl, trivial⟩ trivial rfl ?_)) | (refine is_bin ?_; (first | refine al_v opx_eql ⟨rfl, rfl, trivial⟩ trivial rfl ?_ | refine al_v opx_lss ⟨rfl, rfl, trivial⟩ trivial rfl ?_ | refine al_v (opx_add (by unfold InR; omega)) ⟨rfl, rfl, trivial⟩ trivial rfl ?_)) | (refine is_load ?_; refine al_v opx_ld_imm ⟨rfl, trivial⟩ trivial rfl ?_) | (refine is_assign ?_; refine al_v (opx_assign (.raw _)) ⟨rfl, trivial⟩ trivial rfl ?_) | (refine is_bi ?_; refine al_v opx_len_sl ⟨rfl, trivial⟩ trivial rfl ?_) | (refine is_ia ?_; refine al_v (opx_ia_sl2 hxr (by omega)) ⟨rfl, rfl, trivial⟩ trivial rfl ?_) | (refine is_call ?_; refine al_callv2 (by (repeat (first | exact .nil | refine .one rfl rfl ?_ | refine .froz rfl rfl ?_ | refine .row rfl rfl ?_ | refine .rnil rfl ?_ | refine .agg rfl (by (repeat (first | exact .nil | refine .cons (.same rfl) ?_ | refine .cons (.froz rfl) ?_ | refine .cons (.rnil) ?_ | refine .cons (.row rfl rfl) ?_)); (first | done | fail)) ?_)); (first | done | fail)) rfl (c_compareLabels _ _ hx1 hl) rfl ?_) | refine al_nil ?_)) | (refine is_aw ?_; (first | refine aw_seq ?_ | refine aw_region ?_ | refine aw_skip ?_ | refine aw_block ?_ | (refine is_cond ?_; (first | refine aw_cond_t rfl (by assumption) ?_ | refine aw_cond_f rfl (by assumption) ?_)))) | refine thn_n ?_)
      exact ⟨k + 1, ⟨hlt, fun j hj => by
        rcases Nat.lt_or_ge j k with h | h
        · exact hok j h
        · rw [show j = k by omega, hx]; intro e; cases e; exact he rfl⟩, by omega, le_mk [] rfl rfl rfl rfl ⟨rfl, rfl, rfl, trivial⟩ trivial⟩
  · have hc1 : decide ((k : Int) < ((lcRs c).length : Int)) = false := decide_eq_false (by omega)
    have e := plC_none (c := c) (l := l) (fun j hj => hok j (by omega))
    repeat' (first | (refine is_al ?_; (first | (refine is_move ?_; (first | refine al_v (opx_move (.raw _)) ⟨rfl, trivial⟩ trivial rfl ?_ | refine al_v (opx_move (.sl _ _)) ⟨rfl, trivial⟩ trivial rfl ?_)) | (refine is_bin ?_; refine al_v opx_lss ⟨rfl, rfl, trivial⟩ trivial rfl ?_) | (refine is_assign ?_; refine al_v (opx_assign (.raw _)) ⟨rfl, trivial⟩ trivial rfl ?_) | (refine is_bi ?_; refine al_v opx_len_sl ⟨rfl, trivial⟩ trivial rfl ?_) | refine al_nil ?_)) | (refine is_aw ?_; (first | refine aw_seq ?_ | refine aw_region ?_ | refine aw_ret ?_ | refine aw_exit ?_ | (refine is_cond ?_; refine aw_cond_f rfl (by assumption) ?_))))
    exact ret_raw trivial rfl ⟨by rw [plI, if_neg e], rfl⟩
theorem c_sValidCatalog (c : List (List Lb)) (hc : c.length ≤ 1000000) (hb : ctBig c) : Con Try.prog 101 [slC c] [] (fun rs all => rs = [rB (vctB c)] ∧ all = []) := by
  have hlr := lcRs_len (xs := c)
  have n1 : (!true) = false := rfl
  have n2 : (!false) = true := rfl
  refine con_of_aw (vars := [.tmp 2]) [(0, .r (slC c))] [] 0 Try.func101 (by kernel_rfl) rfl Try.ntmps101 rfl (by decide) rfl rfl rfl rfl rfl ?_
  intro B M w0 ρ0 Z0
  repeat' (first | (refine is_al ?_; (first | (refine is_assign ?_; refine al_v (opx_assign (.raw _)) ⟨rfl, trivial⟩ trivial rfl ?_) | refine al_nil ?_)) | (refine is_aw ?_; (first | refine aw_seq ?_ | refine aw_region ?_ | refine aw_block ?_)))
  refine aw_loop (γ := Nat) (fun k => [(0, .r (slC c)), (3, .i (k : Int))]) (fun _ => []) (fun _ => 0)
    (fun k => k ≤ c.length ∧ ∀ j, j < k → ctOk c j) (fun k => c.length - k) 0 ⟨Nat.zero_le _, fun j hj => by omega⟩ (le_mk [] rfl rfl rfl rfl ⟨rfl, rfl, trivial⟩ trivial) ?_
  rintro k ⟨hk, ha⟩
  rcases Nat.lt_or_ge k c.length with hlt | hge
  · have hc1 : decide ((k : Int) < ((lcRs c).length : Int)) = true := decide_eq_true (by omega)
    obtain ⟨s, hs⟩ : ∃ s, c[k]? = some s := ⟨_, List.getElem?_eq_getElem hlt⟩
    have hsr := lcRs_at hs
    obtain ⟨b1, b2⟩ := hb s (List.mem_of_getElem? hs)
    have hcv := c_sValidLabels s b2 (by unfold BIG; omega)
    by_cases a1 : VL s
    · rw [vlB_t a1] at hcv
      have hcut : ((lcRs c).take k).drop 0 = lcRs (c.take k) := by rw [List.drop_zero, lcRs, lcRs, List.map_take]
      have hcp := c_placeIn (c.take k) s (by rw [List.length_take]; omega) (fun x hx => hb x (List.mem_of_mem_take hx)) b1
      have hix := plI_take hs
      by_cases a3 : 0 ≤ plI (c.take k) s
      · have e4 : decide (0 ≤ plI (c.take k) s) = true := decide_eq_true a3
        obtain ⟨j, h1, h2⟩ := hix.1 a3
        have hv : vctB c = false := vct_bad (k := k) fun h => (h s hs).2 j s h1 h2 rfl
        repeat' (first | (refine is_al ?_; (first | refine ad_on rfl rfl (by assumption) (opx_cutH_sl (h := k) hcut rfl (by omega)) ⟨rfl, rfl, trivial⟩ trivial rfl ?_ | (refine is_move ?_; (first | refine al_v (opx_move (.raw _)) ⟨rfl, trivial⟩ trivial rfl ?_ | refine al_v (opx_move (.sl _ _)) ⟨rfl, trivial⟩ trivial rfl ?_)) | (refine is_bin ?_; refine al_v opx_lss ⟨rfl, rfl, trivial⟩ trivial rfl ?_) | (refine is_assign ?_; refine al_v (opx_assign (.raw _)) ⟨rfl, trivial⟩ trivial rfl ?_) | (refine is_bi ?_; refine al_v opx_len_sl ⟨rfl, trivial⟩ trivial rfl ?_) | refine al_nil ?_)) | (refine is_ad ?_; (first | refine ad_on rfl rfl (by assumption) (opx_cutH_sl (h := k) hcut rfl (by omega)) ⟨rfl, rfl, trivial⟩ trivial rfl ?_ | (refine isd_gd ?_; (first | (refine isd_move ?_; (first | refine ad_on rfl rfl (by assumption) (opx_move (.raw _)) ⟨rfl, trivial⟩ trivial rfl ?_ | refine ad_on rfl rfl (by assumption) (opx_move (.sl _ _)) ⟨rfl, trivial⟩ trivial rfl ?_)) | (refine isd_bin ?_; refine ad_on rfl rfl (by assumption) opx_geq ⟨rfl, rfl, trivial⟩ trivial rfl ?_) | (refine isd_load ?_; refine ad_on rfl rfl (by assumption) opx_ld_imm ⟨rfl, trivial⟩ trivial rfl ?_) | (refine isd_ia ?_; refine ad_on rfl rfl (by assumption) (opx_ia_sl2 hsr (by omega)) ⟨rfl, rfl, trivial⟩ trivial rfl ?_) | (refine isd_call ?_; refine ad_callv_on2 rfl rfl (by assumption) (by (repeat (first | exact .nil | refine .one rfl rfl ?_ | refine .froz rfl rfl ?_ | refine .row rfl rfl ?_ | refine .rnil rfl ?_ | refine .agg rfl (by (repeat (first | exact .nil | refine .cons (.same rfl) ?_ | refine .cons (.froz rfl) ?_ | refine .cons (.rnil) ?_ | refine .cons (.row rfl rfl) ?_)); (first | done | fail)) ?_)); (first | done | fail)) rfl (hcp) rfl ?_))) | (refine isd_move ?_; (first | refine ad_v (opx_move (.raw _)) ⟨rfl, trivial⟩ trivial rfl ?_ | refine ad_v (opx_move (.sl _ _)) ⟨rfl, trivial⟩ trivial rfl ?_)) | (refine isd_load ?_; refine ad_v opx_ld_imm ⟨rfl, trivial⟩ trivial rfl ?_) | (refine isd_pick ?_; refine ad_v (opx_pick_f (.raw _) rfl) ⟨rfl, rfl, trivial⟩ trivial rfl ?_) | (refine isd_ia ?_; refine ad_v (opx_ia_sl2 hsr (by omega)) ⟨rfl, rfl, trivial⟩ trivial rfl ?_) | (refine isd_call ?_; refine ad_callv2 (by (repeat (first | exact .nil | refine .one rfl rfl ?_ | refine .froz rfl rfl ?_ | refine .row rfl rfl ?_ | refine .rnil rfl ?_ | refine .agg rfl (by (repeat (first | exact .nil | refine .cons (.same rfl) ?_ | refine .cons (.froz rfl) ?_ | refine .cons (.rnil) ?_ | refine .cons (.row rfl rfl) ?_)); (first | done | fail)) ?_)); (first | done | fail)) rfl (hcv) rfl ?_) | refine ad_v opx_not ⟨rfl, trivial⟩ trivial rfl ?_ | refine ad_nil (by kernel_rfl) ?_)) | (refine is_aw ?_; (first | refine aw_seq ?_ | refine aw_region ?_ | refine aw_skip ?_ | refine aw_block ?_ | refine aw_ret ?_ | (refine is_cond ?_; refine aw_cond_t rfl (by assumption) ?_) | refine aw_draw mixed ?_)) | refine thn_r ?_ | refine inb_r ?_)
        exact ret_raw trivial rfl ⟨congrArg (fun b => [rB b]) (hv.symm), rfl⟩
      · have e4 : decide (0 ≤ plI (c.take k) s) = false := decide_eq_false a3
        have hok : ctOk c k := fun z hz => by
          rw [hs] at hz; cases hz
          exact ⟨a1, fun j t hj ht e => a3 (hix.2 ⟨j, hj, e ▸ ht⟩)⟩
        repeat' (first | (refine is_al ?_; (first | refine ad_on rfl rfl (by assumption) (opx_cutH_sl (h := k) hcut rfl (by omega)) ⟨rfl, rfl, trivial⟩ trivial rfl ?_ | (refine is_move ?_; (first | refine al_v (opx_move (.raw _)) ⟨rfl, trivial⟩ trivial rfl ?_ | refine al_v (opx_move (.sl _ _)) ⟨rfl, trivial⟩ trivial rfl ?_)) | (refine is_bin ?_; (first | refine al_v opx_lss ⟨rfl, rfl, trivial⟩ trivial rfl ?_ | refine al_v (opx_add (by unfold InR; omega)) ⟨rfl, rfl, trivial⟩ trivial rfl ?_)) | (refine is_assign ?_; refine al_v (opx_assign (.raw _)) ⟨rfl, trivial⟩ trivial rfl ?_) | (refine is_bi ?_; refine al_v opx_len_sl ⟨rfl, trivial⟩ trivial rfl ?_) | refine al_nil ?_)) | (refine is_ad ?_; (first | refine ad_on rfl rfl (by assumption) (opx_cutH_sl (h := k) hcut rfl (by omega)) ⟨rfl, rfl, trivial⟩ trivial rfl ?_ | (refine isd_gd ?_; (first | (refine isd_move ?_; (first | refine ad_on rfl rfl (by assumption) (opx_move (.raw _)) ⟨rfl, trivial⟩ trivial rfl ?_ | refine ad_on rfl rfl (by assumption) (opx_move (.sl _ _)) ⟨rfl, trivial⟩ trivial rfl ?_)) | (refine isd_bin ?_; refine ad_on rfl rfl (by assumption) opx_geq ⟨rfl, rfl, trivial⟩ trivial rfl ?_) | (refine isd_load ?_; refine ad_on rfl rfl (by assumption) opx_ld_imm ⟨rfl, trivial⟩ trivial rfl ?_) | (refine isd_ia ?_; refine ad_on rfl rfl (by assumption) (opx_ia_sl2 hsr (by omega)) ⟨rfl, rfl, trivial⟩ trivial rfl ?_) | (refine isd_call ?_; refine ad_callv_on2 rfl rfl (by assumption) (by (repeat (first | exact .nil | refine .one rfl rfl ?_ | refine .froz rfl rfl ?_ | refine .row rfl rfl ?_ | refine .rnil rfl ?_ | refine .agg rfl (by (repeat (first | exact .nil | refine .cons (.same rfl) ?_ | refine .cons (.froz rfl) ?_ | refine .cons (.rnil) ?_ | refine .cons (.row rfl rfl) ?_)); (first | done | fail)) ?_)); (first | done | fail)) rfl (hcp) rfl ?_))) | (refine isd_move ?_; (first | refine ad_v (opx_move (.raw _)) ⟨rfl, trivial⟩ trivial rfl ?_ | refine ad_v (opx_move (.sl _ _)) ⟨rfl, trivial⟩ trivial rfl ?_)) | (refine isd_load ?_; refine ad_v opx_ld_imm ⟨rfl, trivial⟩ trivial rfl ?_) | (refine isd_pick ?_; refine ad_v (opx_pick_f (.raw _) rfl) ⟨rfl, rfl, trivial⟩ trivial rfl ?_) | (refine isd_ia ?_; refine ad_v (opx_ia_sl2 hsr (by omega)) ⟨rfl, rfl, trivial⟩ trivial rfl ?_) | (refine isd_call ?_; refine ad_callv2 (by (repeat (first | exact .nil | refine .one rfl rfl ?_ | refine .froz rfl rfl ?_ | refine .row rfl rfl ?_ | refine .rnil rfl ?_ | refine .agg rfl (by (repeat (first | exact .nil | refine .cons (.same rfl) ?_ | refine .cons (.froz rfl) ?_ | refine .cons (.rnil) ?_ | refine .cons (.row rfl rfl) ?_)); (first | done | fail)) ?_)); (first | done | fail)) rfl (hcv) rfl ?_) | refine ad_v opx_not ⟨rfl, trivial⟩ trivial rfl ?_ | refine ad_nil (by kernel_rfl) ?_)) | (refine is_aw ?_; (first | refine aw_seq ?_ | refine aw_region ?_ | refine aw_skip ?_ | refine aw_block ?_ | (refine is_cond ?_; (first | refine aw_cond_t rfl (by assumption) ?_ | refine aw_cond_f rfl (by assumption) ?_)) | refine aw_draw mixed ?_)) | refine thn_n ?_)
        exact ⟨k + 1, ⟨hlt, ct_next ha hok⟩, by omega, le_mk [] rfl rfl rfl rfl ⟨rfl, rfl, trivial⟩ trivial⟩
    · rw [vlB_f a1] at hcv
      have hv : vctB c = false := vct_bad (k := k) fun h => a1 (h s hs).1
      repeat' (first | (refine is_al ?_; (first | (refine is_move ?_; (first | refine al_v (opx_move (.raw _)) ⟨rfl, trivial⟩ trivial rfl ?_ | refine al_v (opx_move (.sl _ _)) ⟨rfl, trivial⟩ trivial rfl ?_)) | (refine is_bin ?_; refine al_v opx_lss ⟨rfl, rfl, trivial⟩ trivial rfl ?_) | (refine is_assign ?_; refine al_v (opx_assign (.raw _)) ⟨rfl, trivial⟩ trivial rfl ?_) | (refine is_bi ?_; refine al_v opx_len_sl ⟨rfl, trivial⟩ trivial rfl ?_) | refine al_nil ?_)) | (refine is_ad ?_; (first | (refine isd_gd ?_; refine ad_off rfl rfl (by assumption) rfl ?_) | (refine isd_move ?_; (first | refine ad_v (opx_move (.raw _)) ⟨rfl, trivial⟩ trivial rfl ?_ | refine ad_v (opx_move (.sl _ _)) ⟨rfl, trivial⟩ trivial rfl ?_)) | (refine isd_load ?_; refine ad_v opx_ld_imm ⟨rfl, trivial⟩ trivial rfl ?_) | (refine isd_pick ?_; refine ad_v (opx_pick_t (.raw _) rfl) ⟨rfl, rfl, trivial⟩ trivial rfl ?_) | (refine isd_ia ?_; refine ad_v (opx_ia_sl2 hsr (by omega)) ⟨rfl, rfl, trivial⟩ trivial rfl ?_) | (refine isd_call ?_; refine ad_callv2 (by (repeat (first | exact .nil | refine .one rfl rfl ?_ | refine .froz rfl rfl ?_ | refine .row rfl rfl ?_ | refine .rnil rfl ?_ | refine .agg rfl (by (repeat (first | exact .nil | refine .cons (.same rfl) ?_ | refine .cons (.froz rfl) ?_ | refine .cons (.rnil) ?_ | refine .cons (.row rfl rfl) ?_)); (first | done | fail)) ?_)); (first | done | fail)) rfl (hcv) rfl ?_) | refine ad_v opx_not ⟨rfl, trivial⟩ trivial rfl ?_ | refine ad_nil (by kernel_rfl) ?_)) | (refine is_aw ?_; (first | refine aw_seq ?_ | refine aw_region ?_ | refine aw_skip ?_ | refine aw_block ?_ | refine aw_ret ?_ | (refine is_cond ?_; (first | refine aw_cond_t rfl rfl ?_ | refine aw_cond_t rfl (by assumption) ?_)) | refine aw_draw mixed ?_)) | refine thn_r ?_ | refine inb_r ?_)
      exact ret_raw trivial rfl ⟨congrArg (fun b => [rB b]) (hv.symm), rfl⟩
  · have hc1 : decide ((k : Int) < ((lcRs c).length : Int)) = false := decide_eq_false (by omega)
    by_cases h8 : c.length ≤ 8
    · have hv : vctB c = true := vctB_t ⟨h8, ct_all ha hge⟩
      have e : decide (((lcRs c).length : Int) ≤ 8) = true := decide_eq_true (by omega)
      repeat' (first | (refine is_al ?_; (first | (refine is_move ?_; (first | refine al_v (opx_move (.raw _)) ⟨rfl, trivial⟩ trivial rfl ?_ | refine al_v (opx_move (.sl _ _)) ⟨rfl, trivial⟩ trivial rfl ?_)) | (refine is_bin ?_; (first | refine al_v opx_lss ⟨rfl, rfl, trivial⟩ trivial rfl ?_ | refine al_v opx_leq ⟨rfl, rfl, trivial⟩ trivial rfl ?_)) | (refine is_assign ?_; refine al_v (opx_assign (.raw _)) ⟨rfl, trivial⟩ trivial rfl ?_) | (refine is_bi ?_; refine al_v opx_len_sl ⟨rfl, trivial⟩ trivial rfl ?_) | refine al_nil ?_)) | (refine is_aw ?_; (first | refine aw_seq ?_ | refine aw_region ?_ | refine aw_ret ?_ | refine aw_exit ?_ | (refine is_cond ?_; refine aw_cond_f rfl (by assumption) ?_))))
      exact ret_raw trivial rfl ⟨congrArg (fun b => [rB b]) (by rw [hv, e]), rfl⟩
    · have e : decide (((lcRs c).length : Int) ≤ 8) = false := decide_eq_false (by omega)
      repeat' (first | (refine is_al ?_; (first | (refine is_move ?_; (first | refine al_v (opx_move (.raw _)) ⟨rfl, trivial⟩ trivial rfl ?_ | refine al_v (opx_move (.sl _ _)) ⟨rfl, trivial⟩ trivial rfl ?_)) | (refine is_bin ?_; (first | refine al_v opx_lss ⟨rfl, rfl, trivial⟩ trivial rfl ?_ | refine al_v opx_leq ⟨rfl, rfl, trivial⟩ trivial rfl ?_)) | (refine is_assign ?_; refine al_v (opx_assign (.raw _)) ⟨rfl, trivial⟩ trivial rfl ?_) | (refine is_bi ?_; refine al_v opx_len_sl ⟨rfl, trivial⟩ trivial rfl ?_) | refine al_nil ?_)) | (refine is_aw ?_; (first | refine aw_seq ?_ | refine aw_region ?_ | refine aw_ret ?_ | refine aw_exit ?_ | (refine is_cond ?_; refine aw_cond_f rfl (by assumption) ?_))))
      exact ret_raw trivial rfl ⟨congrArg (fun b => [rB b]) (by rw [vctB_f (fun h => h8 h.1), e]), rfl⟩
theorem take_snoc {α : Type} {c : List α} {k : Nat} {x : α} (h : c[k]? = some x) : c.take (k + 1) = c.take k ++ [x] := by rw [List.take_add_one, h]; rfl
theorem c_copyCatalog (c : List (List Lb)) (hc : c.length ≤ 1000000) (hb : ctBig c) : Con Try.prog 103 [.one (.own 0)] [.row 1 23 (lcRs c)] (fun rs all => rs = [.one (.own 1)] ∧ all = [.row 1 23 (lcRs c), .row 1 23 (lcRs c)]) := by
  have hlen := lcRs_len (xs := c)
  refine con_of_aw (vars := [.tmp 2]) [(0, .own 0)] [(0, .row 1 23 (lcRs c))] 1 Try.func103 (by kernel_rfl) rfl Try.ntmps103 rfl (by decide) rfl rfl rfl rfl rfl ?_
  intro B M w0 ρ0 Z0
  repeat' (first | (refine is_al ?_; (first | (refine is_assign ?_; (first | refine al_v (opx_assign (.raw _)) ⟨rfl, trivial⟩ trivial rfl ?_ | refine al_v (opx_assign (.own _)) ⟨rfl, trivial⟩ trivial rfl ?_)) | (refine is_bs ?_; refine al_n opx_lit0 trivial trivial rfl ?_) | refine al_nil ?_)) | (refine is_aw ?_; (first | refine aw_seq ?_ | refine aw_region ?_ | refine aw_block ?_)))
  refine aw_loop (γ := Nat) (fun k => [(0, .own 0), (3, .own 1), (4, .i (k : Int))]) (fun k => [(0, .row 1 23 (lcRs c)), (1, .row 1 23 (lcRs (c.take k)))]) (fun _ => 2) (fun k => k ≤ c.length) (fun k => c.length - k) 0 (Nat.zero_le _) (le_mk [0, 1] rfl rfl rfl rfl ⟨rfl, rfl, rfl, trivial⟩ ⟨rfl, rfl, trivial⟩) ?_
  intro k hk
  have hkl : (c.take k).length ≤ 1000000 := by rw [List.length_take]; omega
  rcases Nat.lt_or_ge k c.length with hlt | hge
  · have hc1 : decide ((k : Int) < ((lcRs c).length : Int)) = true := decide_eq_true (by omega)
    obtain ⟨x, hx⟩ : ∃ x, c[k]? = some x := ⟨_, List.getElem?_eq_getElem hlt⟩
    have hxr := lcRs_at hx
    have hx1 := (hb x (List.mem_of_getElem? hx)).1
    have hs := take_snoc hx
    have hkr : k < (lcRs c).length := by omega
    have hxl := lbRs_len (xs := x)
    have hnil : ([] : List Lb) ++ x = x := List.nil_append x
    repeat' (first | (refine is_al ?_; (first | (refine is_move ?_; (first | refine al_v (opx_move (.raw _)) ⟨rfl, trivial⟩ trivial rfl ?_ | refine al_v (opx_move (.own _)) ⟨rfl, trivial⟩ trivial rfl ?_)) | (refine is_bin ?_; (first | refine al_v opx_lss ⟨rfl, rfl, trivial⟩ trivial rfl ?_ | refine al_v (opx_add (by unfold InR; omega)) ⟨rfl, rfl, trivial⟩ trivial rfl ?_)) | (refine is_load ?_; refine al_v (opx_ld_el (by assumption) rfl) ⟨rfl, trivial⟩ ⟨rfl, trivial⟩ rfl ?_) | (refine is_assign ?_; (first | refine al_v (opx_assign (.raw _)) ⟨rfl, trivial⟩ trivial rfl ?_ | refine al_v (opx_assign (.own _)) ⟨rfl, trivial⟩ trivial rfl ?_)) | (refine is_bi ?_; (first | refine al_v opx_len_own ⟨rfl, trivial⟩ ⟨rfl, trivial⟩ rfl ?_ | refine al_appeLv rfl rfl rfl rfl rfl (by omega) ?_)) | (refine is_ia ?_; refine al_v (opx_ia_own2 hkr (by omega)) ⟨rfl, rfl, trivial⟩ ⟨rfl, trivial⟩ rfl ?_) | (refine is_bs ?_; (first | refine al_n opx_lit0 trivial trivial rfl ?_ | refine al_pushC ⟨rfl, trivial⟩ rfl rfl rfl rfl rfl (by omega) ?_)) | refine al_nil ?_ | refine al_litFrz rfl rfl ?_)) | (refine is_ad ?_; refine al_litFrz rfl rfl ?_) | (refine is_aw ?_; (first | refine aw_seq ?_ | refine aw_region ?_ | refine aw_skip ?_ | refine aw_block ?_ | (refine is_cond ?_; refine aw_cond_t rfl (by assumption) ?_))) | refine thn_n ?_)
    exact ⟨k + 1, hlt, by omega, le_mk [0, _] rfl rfl rfl rfl ⟨rfl, rfl, rfl, trivial⟩ ⟨rfl, by rw [hs]; rfl, trivial⟩⟩
  · have hc1 : decide ((k : Int) < ((lcRs c).length : Int)) = false := decide_eq_false (by omega)
    rw [List.take_of_length_le hge]
    repeat' (first | (refine is_al ?_; (first | (refine is_move ?_; (first | refine al_v (opx_move (.raw _)) ⟨rfl, trivial⟩ trivial rfl ?_ | refine al_v (opx_move (.own _)) ⟨rfl, trivial⟩ trivial rfl ?_)) | (refine is_bin ?_; refine al_v opx_lss ⟨rfl, rfl, trivial⟩ trivial rfl ?_) | (refine is_assign ?_; refine al_v (opx_assign (.own _)) ⟨rfl, trivial⟩ trivial rfl ?_) | (refine is_bi ?_; refine al_v opx_len_own ⟨rfl, trivial⟩ ⟨rfl, trivial⟩ rfl ?_) | refine al_nil ?_)) | (refine is_aw ?_; (first | refine aw_seq ?_ | refine aw_region ?_ | refine aw_ret ?_ | refine aw_exit ?_ | (refine is_cond ?_; refine aw_cond_f rfl (by assumption) ?_))))
    exact retm_row trivial rfl rfl rfl rfl rfl ⟨rfl, rfl⟩
noncomputable def adOk (c : List (List Lb)) (l : List Lb) : Bool := vctB c && (vlB l && (decide (plC c l < c.length) || decide (c.length < 8)))
noncomputable def adR (c : List (List Lb)) (l : List Lb) : List (List Lb) := if adOk c l = true then (if plC c l < c.length then c else c ++ [l]) else []
noncomputable def adN (c : List (List Lb)) (l : List Lb) : Int := if adOk c l = true then (plC c l : Int) else -1
abbrev AdP (c : List (List Lb)) (l : List Lb) (rs : List AR) (all : List OB) : Prop := rs = [.one (.own 1), rI (adN c l), rB (adOk c l)] ∧ all = [.row 1 23 (lcRs c), .row 1 23 (lcRs (adR c l))]
theorem c_sAddSeries (c : List (List Lb)) (l : List Lb) (hc : c.length ≤ 1000000) (hb : ctBig c) (hl : l.length ≤ 1000000) (hlb : ∀ y ∈ l, BIG y.1.length ∧ BIG y.2.length) : Con Try.prog 90 [.one (.own 0), slL l] [.row 1 23 (lcRs c)] (AdP c l) := by
  have hlen := lcRs_len (xs := c)
  have n1 : (!true) = false := rfl
  have n2 : (!false) = true := rfl
  have hcv := c_sValidCatalog c hc hb
  have hcl := c_sValidLabels l hlb (by unfold BIG; omega)
  have hcp := c_placeIn c l hc hb hl
  refine con_of_aw (vars := [.tmp 4, .tmp 5, .tmp 6]) [(0, .own 0), (1, .r (slL l))] [(0, .row 1 23 (lcRs c))] 1 Try.func90 (by kernel_rfl) rfl Try.ntmps90 rfl (by decide) rfl rfl rfl rfl rfl ?_
  intro B M w0 ρ0 Z0
  cases hv : vctB c
  · rw [hv] at hcv
    have f1 : adOk c l = false := by rw [adOk, hv]; rfl
    have f2 : adR c l = [] := by rw [adR, f1]; rfl
    have f3 : adN c l = -1 := by rw [adN, f1]; rfl
    repeat' (first | (refine is_al ?_; (first | (refine is_gd ?_; refine al_off rfl rfl rfl (by assumption) rfl ?_) | (refine is_move ?_; (first | refine al_v (opx_move (.raw _)) ⟨rfl, trivial⟩ trivial rfl ?_ | refine al_v (opx_move (.own _)) ⟨rfl, trivial⟩ trivial rfl ?_)) | (refine is_assign ?_; refine al_v (opx_assign (.raw _)) ⟨rfl, trivial⟩ trivial rfl ?_) | (refine is_pick ?_; refine al_v (opx_pick_t (.raw _) rfl) ⟨rfl, rfl, trivial⟩ trivial rfl ?_) | (refine is_call ?_; refine al_callv2 (by (repeat (first | exact .nil | refine .one rfl rfl ?_ | refine .froz rfl rfl ?_ | refine .row rfl rfl ?_ | refine .rnil rfl ?_ | refine .agg rfl (by (repeat (first | exact .nil | refine .cons (.same rfl) ?_ | refine .cons (.froz rfl) ?_ | refine .cons (.rnil) ?_ | refine .cons (.row rfl rfl) ?_)); (first | done | fail)) ?_)); (first | done | fail)) rfl (hcv) rfl ?_) | refine al_v opx_not ⟨rfl, trivial⟩ trivial rfl ?_ | refine al_nil ?_)) | (refine is_aw ?_; (first | refine aw_seq ?_ | refine aw_region ?_ | (refine is_cond ?_; refine aw_cond_t rfl rfl ?_))) | refine thn_n ?_)
    refine aw_le (le_ownNil 4 1 23 rfl) ?_
    repeat' (first | (refine is_aw ?_; refine aw_ret ?_) | refine thn_r ?_)
    exact retm_row_raw2 trivial rfl rfl rfl rfl rfl rfl rfl ⟨by rw [f1, f3], by rw [f2]; rfl⟩
  rw [hv] at hcv
  cases hw : vlB l
  · rw [hw] at hcl
    have f1 : adOk c l = false := by rw [adOk, hv, hw]; rfl
    have f2 : adR c l = [] := by rw [adR, f1]; rfl
    have f3 : adN c l = -1 := by rw [adN, f1]; rfl
    repeat' (first | (refine is_al ?_; (first | (refine is_gd ?_; refine al_on rfl rfl rfl (by assumption) ?_) | (refine is_move ?_; (first | refine al_v (opx_move (.raw _)) ⟨rfl, trivial⟩ trivial rfl ?_ | refine al_v (opx_move (.sl _ _)) ⟨rfl, trivial⟩ trivial rfl ?_ | refine al_v (opx_move (.own _)) ⟨rfl, trivial⟩ trivial rfl ?_)) | (refine is_assign ?_; refine al_v (opx_assign (.raw _)) ⟨rfl, trivial⟩ trivial rfl ?_) | (refine is_pick ?_; refine al_v (opx_pick_f (.raw _) rfl) ⟨rfl, rfl, trivial⟩ trivial rfl ?_) | (refine is_call ?_; (first | refine al_callv2 (by (repeat (first | exact .nil | refine .one rfl rfl ?_ | refine .froz rfl rfl ?_ | refine .row rfl rfl ?_ | refine .rnil rfl ?_ | refine .agg rfl (by (repeat (first | exact .nil | refine .cons (.same rfl) ?_ | refine .cons (.froz rfl) ?_ | refine .cons (.rnil) ?_ | refine .cons (.row rfl rfl) ?_)); (first | done | fail)) ?_)); (first | done | fail)) rfl (hcv) rfl ?_ | refine al_callv2 (by (repeat (first | exact .nil | refine .one rfl rfl ?_ | refine .froz rfl rfl ?_ | refine .row rfl rfl ?_ | refine .rnil rfl ?_ | refine .agg rfl (by (repeat (first | exact .nil | refine .cons (.same rfl) ?_ | refine .cons (.froz rfl) ?_ | refine .cons (.rnil) ?_ | refine .cons (.row rfl rfl) ?_)); (first | done | fail)) ?_)); (first | done | fail)) rfl (hcl) rfl ?_)) | refine al_v opx_not ⟨rfl, trivial⟩ trivial rfl ?_ | refine al_nil ?_)) | (refine is_aw ?_; (first | refine aw_seq ?_ | refine aw_region ?_ | (refine is_cond ?_; refine aw_cond_t rfl rfl ?_))) | refine thn_n ?_)
    refine aw_le (le_ownNil 4 1 23 rfl) ?_
    repeat' (first | (refine is_aw ?_; refine aw_ret ?_) | refine thn_r ?_)
    exact retm_row_raw2 trivial rfl rfl rfl rfl rfl rfl rfl ⟨by rw [f1, f3], by rw [f2]; rfl⟩
  rw [hw] at hcl
  by_cases hp : plC c l < c.length
  · have hpi : plI c l = (plC c l : Int) := by rw [plI, if_pos hp]
    rw [hpi] at hcp
    have e1 : decide (0 ≤ ((plC c l : Nat) : Int)) = true := decide_eq_true (by omega)
    have f1 : adOk c l = true := by rw [adOk, hv, hw, decide_eq_true hp]; rfl
    have f2 : adR c l = c := by rw [adR, if_pos f1, if_pos hp]
    have f3 : adN c l = (plC c l : Int) := by rw [adN, if_pos f1]
    repeat' (first | (refine is_al ?_; (first | (refine is_gd ?_; refine al_on rfl rfl rfl (by assumption) ?_) | (refine is_move ?_; (first | refine al_v (opx_move (.raw _)) ⟨rfl, trivial⟩ trivial rfl ?_ | refine al_v (opx_move (.sl _ _)) ⟨rfl, trivial⟩ trivial rfl ?_ | refine al_v (opx_move (.own _)) ⟨rfl, trivial⟩ trivial rfl ?_)) | (refine is_bin ?_; refine al_v opx_geq ⟨rfl, rfl, trivial⟩ trivial rfl ?_) | (refine is_assign ?_; (first | refine al_v (opx_assign (.raw _)) ⟨rfl, trivial⟩ trivial rfl ?_ | refine al_v (opx_assign (.own _)) ⟨rfl, trivial⟩ trivial rfl ?_)) | (refine is_pick ?_; refine al_v (opx_pick_f (.raw _) rfl) ⟨rfl, rfl, trivial⟩ trivial rfl ?_) | (refine is_call ?_; (first | refine al_callv2 (by (repeat (first | exact .nil | refine .one rfl rfl ?_ | refine .froz rfl rfl ?_ | refine .row rfl rfl ?_ | refine .rnil rfl ?_ | refine .agg rfl (by (repeat (first | exact .nil | refine .cons (.same rfl) ?_ | refine .cons (.froz rfl) ?_ | refine .cons (.rnil) ?_ | refine .cons (.row rfl rfl) ?_)); (first | done | fail)) ?_)); (first | done | fail)) rfl (hcv) rfl ?_ | refine al_callv2 (by (repeat (first | exact .nil | refine .one rfl rfl ?_ | refine .froz rfl rfl ?_ | refine .row rfl rfl ?_ | refine .rnil rfl ?_ | refine .agg rfl (by (repeat (first | exact .nil | refine .cons (.same rfl) ?_ | refine .cons (.froz rfl) ?_ | refine .cons (.rnil) ?_ | refine .cons (.row rfl rfl) ?_)); (first | done | fail)) ?_)); (first | done | fail)) rfl (hcl) rfl ?_ | refine al_callv2 (by (repeat (first | exact .nil | refine .one rfl rfl ?_ | refine .froz rfl rfl ?_ | refine .row rfl rfl ?_ | refine .rnil rfl ?_ | refine .agg rfl (by (repeat (first | exact .nil | refine .cons (.same rfl) ?_ | refine .cons (.froz rfl) ?_ | refine .cons (.rnil) ?_ | refine .cons (.row rfl rfl) ?_)); (first | done | fail)) ?_)); (first | done | fail)) rfl (hcp) rfl ?_ | refine al_mkr 0 rfl rfl (by (repeat (first | exact .nil | refine .one rfl rfl ?_ | refine .tag rfl ?_ | refine .froz rfl rfl ?_ | refine .rnil rfl ?_ | refine .agg rfl (by (repeat (first | exact .nil | refine .cons (.same rfl) ?_ | refine .cons (.froz rfl) ?_ | refine .cons (.rnil) ?_)); (first | done | fail)) ?_)); (first | done | fail)) rfl (c_copyCatalog c hc hb) ?_)) | refine al_v opx_not ⟨rfl, trivial⟩ trivial rfl ?_ | refine al_nil ?_)) | (refine is_aw ?_; (first | refine aw_seq ?_ | refine aw_region ?_ | refine aw_skip ?_ | refine aw_ret ?_ | (refine is_cond ?_; (first | refine aw_cond_t rfl rfl ?_ | refine aw_cond_f rfl rfl ?_)))) | refine thn_r ?_)
    exact retm_row_raw2 trivial rfl rfl rfl rfl rfl rfl rfl ⟨by rw [f1, f3], by rw [f2]⟩
  have hpi : plI c l = -1 := by rw [plI, if_neg hp]
  rw [hpi] at hcp
  have e1 : decide ((0 : Int) ≤ -1) = false := rfl
  have hpe : plC c l = c.length := by have := plC_le (c := c) (l := l); omega
  by_cases h8 : c.length = 8
  · have e2 : decide (((lcRs c).length : Int) = 8) = true := decide_eq_true (by omega)
    have f1 : adOk c l = false := by rw [adOk, hv, hw, decide_eq_false hp, decide_eq_false (by omega)]; rfl
    have f2 : adR c l = [] := by rw [adR, f1]; rfl
    have f3 : adN c l = -1 := by rw [adN, f1]; rfl
    repeat' (first | (refine is_al ?_; (first | (refine is_gd ?_; refine al_on rfl rfl rfl (by assumption) ?_) | (refine is_move ?_; (first | refine al_v (opx_move (.raw _)) ⟨rfl, trivial⟩ trivial rfl ?_ | refine al_v (opx_move (.sl _ _)) ⟨rfl, trivial⟩ trivial rfl ?_ | refine al_v (opx_move (.own _)) ⟨rfl, trivial⟩ trivial rfl ?_)) | (refine is_bin ?_; (first | refine al_v opx_eql ⟨rfl, rfl, trivial⟩ trivial rfl ?_ | refine al_v opx_geq ⟨rfl, rfl, trivial⟩ trivial rfl ?_)) | (refine is_assign ?_; refine al_v (opx_assign (.raw _)) ⟨rfl, trivial⟩ trivial rfl ?_) | (refine is_pick ?_; refine al_v (opx_pick_f (.raw _) rfl) ⟨rfl, rfl, trivial⟩ trivial rfl ?_) | (refine is_bi ?_; refine al_v opx_len_own ⟨rfl, trivial⟩ ⟨rfl, trivial⟩ rfl ?_) | (refine is_call ?_; (first | refine al_callv2 (by (repeat (first | exact .nil | refine .one rfl rfl ?_ | refine .froz rfl rfl ?_ | refine .row rfl rfl ?_ | refine .rnil rfl ?_ | refine .agg rfl (by (repeat (first | exact .nil | refine .cons (.same rfl) ?_ | refine .cons (.froz rfl) ?_ | refine .cons (.rnil) ?_ | refine .cons (.row rfl rfl) ?_)); (first | done | fail)) ?_)); (first | done | fail)) rfl (hcv) rfl ?_ | refine al_callv2 (by (repeat (first | exact .nil | refine .one rfl rfl ?_ | refine .froz rfl rfl ?_ | refine .row rfl rfl ?_ | refine .rnil rfl ?_ | refine .agg rfl (by (repeat (first | exact .nil | refine .cons (.same rfl) ?_ | refine .cons (.froz rfl) ?_ | refine .cons (.rnil) ?_ | refine .cons (.row rfl rfl) ?_)); (first | done | fail)) ?_)); (first | done | fail)) rfl (hcl) rfl ?_ | refine al_callv2 (by (repeat (first | exact .nil | refine .one rfl rfl ?_ | refine .froz rfl rfl ?_ | refine .row rfl rfl ?_ | refine .rnil rfl ?_ | refine .agg rfl (by (repeat (first | exact .nil | refine .cons (.same rfl) ?_ | refine .cons (.froz rfl) ?_ | refine .cons (.rnil) ?_ | refine .cons (.row rfl rfl) ?_)); (first | done | fail)) ?_)); (first | done | fail)) rfl (hcp) rfl ?_)) | refine al_v opx_not ⟨rfl, trivial⟩ trivial rfl ?_ | refine al_nil ?_)) | (refine is_aw ?_; (first | refine aw_seq ?_ | refine aw_region ?_ | refine aw_skip ?_ | (refine is_cond ?_; (first | refine aw_cond_f rfl rfl ?_ | refine aw_cond_t rfl (by assumption) ?_)))) | refine thn_n ?_)
    refine aw_le (le_ownNil 4 1 23 rfl) ?_
    repeat' (first | (refine is_aw ?_; refine aw_ret ?_) | refine thn_r ?_)
    exact retm_row_raw2 trivial rfl rfl rfl rfl rfl rfl rfl ⟨by rw [f1, f3], by rw [f2]; rfl⟩
  · have e2 : decide (((lcRs c).length : Int) = 8) = false := decide_eq_false (by omega)
    have hVC := (vctB_of hv).1
    have f1 : adOk c l = true := by rw [adOk, hv, hw, decide_eq_true (show c.length < 8 by omega), Bool.or_true]; rfl
    have f2 : adR c l = c ++ [l] := by rw [adR, if_pos f1, if_neg hp]
    have f3 : adN c l = ((lcRs c).length : Int) := by rw [adN, if_pos f1, hpe, hlen]
    have hxl := lbRs_len (xs := l)
    repeat' (first | (refine is_al ?_; (first | (refine is_gd ?_; refine al_on rfl rfl rfl (by assumption) ?_) | (refine is_move ?_; (first | refine al_v (opx_move (.raw _)) ⟨rfl, trivial⟩ trivial rfl ?_ | refine al_v (opx_move (.sl _ _)) ⟨rfl, trivial⟩ trivial rfl ?_ | refine al_v (opx_move (.own _)) ⟨rfl, trivial⟩ trivial rfl ?_)) | (refine is_bin ?_; (first | refine al_v opx_eql ⟨rfl, rfl, trivial⟩ trivial rfl ?_ | refine al_v opx_geq ⟨rfl, rfl, trivial⟩ trivial rfl ?_)) | (refine is_assign ?_; (first | refine al_v (opx_assign (.raw _)) ⟨rfl, trivial⟩ trivial rfl ?_ | refine al_v (opx_assign (.own _)) ⟨rfl, trivial⟩ trivial rfl ?_)) | (refine is_pick ?_; refine al_v (opx_pick_f (.raw _) rfl) ⟨rfl, rfl, trivial⟩ trivial rfl ?_) | (refine is_bi ?_; (first | refine al_v opx_len_own ⟨rfl, trivial⟩ ⟨rfl, trivial⟩ rfl ?_ | refine al_appeLv rfl rfl rfl rfl rfl (by omega) ?_)) | (refine is_call ?_; (first | refine al_callv2 (by (repeat (first | exact .nil | refine .one rfl rfl ?_ | refine .froz rfl rfl ?_ | refine .row rfl rfl ?_ | refine .rnil rfl ?_ | refine .agg rfl (by (repeat (first | exact .nil | refine .cons (.same rfl) ?_ | refine .cons (.froz rfl) ?_ | refine .cons (.rnil) ?_ | refine .cons (.row rfl rfl) ?_)); (first | done | fail)) ?_)); (first | done | fail)) rfl (hcv) rfl ?_ | refine al_callv2 (by (repeat (first | exact .nil | refine .one rfl rfl ?_ | refine .froz rfl rfl ?_ | refine .row rfl rfl ?_ | refine .rnil rfl ?_ | refine .agg rfl (by (repeat (first | exact .nil | refine .cons (.same rfl) ?_ | refine .cons (.froz rfl) ?_ | refine .cons (.rnil) ?_ | refine .cons (.row rfl rfl) ?_)); (first | done | fail)) ?_)); (first | done | fail)) rfl (hcl) rfl ?_ | refine al_callv2 (by (repeat (first | exact .nil | refine .one rfl rfl ?_ | refine .froz rfl rfl ?_ | refine .row rfl rfl ?_ | refine .rnil rfl ?_ | refine .agg rfl (by (repeat (first | exact .nil | refine .cons (.same rfl) ?_ | refine .cons (.froz rfl) ?_ | refine .cons (.rnil) ?_ | refine .cons (.row rfl rfl) ?_)); (first | done | fail)) ?_)); (first | done | fail)) rfl (hcp) rfl ?_ | refine al_mkr 0 rfl rfl (by (repeat (first | exact .nil | refine .one rfl rfl ?_ | refine .tag rfl ?_ | refine .froz rfl rfl ?_ | refine .rnil rfl ?_ | refine .agg rfl (by (repeat (first | exact .nil | refine .cons (.same rfl) ?_ | refine .cons (.froz rfl) ?_ | refine .cons (.rnil) ?_)); (first | done | fail)) ?_)); (first | done | fail)) rfl (c_copyCatalog c hc hb) ?_)) | refine al_v opx_not ⟨rfl, trivial⟩ trivial rfl ?_ | (refine is_bs ?_; (first | refine al_n opx_lit0 trivial trivial rfl ?_ | refine al_pushC ⟨rfl, trivial⟩ rfl rfl rfl rfl rfl (by omega) ?_)) | refine al_nil ?_ | refine al_litFrz rfl rfl ?_)) | (refine is_ad ?_; refine al_litFrz rfl rfl ?_) | (refine is_aw ?_; (first | refine aw_seq ?_ | refine aw_region ?_ | refine aw_skip ?_ | refine aw_ret ?_ | (refine is_cond ?_; (first | refine aw_cond_f rfl rfl ?_ | refine aw_cond_f rfl (by assumption) ?_)))))
    exact retm_row_raw2 trivial rfl rfl rfl rfl rfl rfl rfl ⟨by rw [f1, f3], by rw [f2]⟩
end Go.Proofs.Ytoalaimmgmehaaa
