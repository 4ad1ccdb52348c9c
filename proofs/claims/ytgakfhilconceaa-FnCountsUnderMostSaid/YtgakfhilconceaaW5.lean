/-
  The greatest of the last values: the walks.
-/
import Derived.Test.YtgakfhilconceaaW3
import Derived.Test.YtgakfhilconceaaPM
namespace Go.Proofs.Ytgakfhilconceaa
open Go.RowKit
set_option linter.unusedVariables false
set_option linter.unusedSimpArgs false
attribute [local irreducible] AL AW OpX Le AD

noncomputable def mmosts (ps : List (Int × Int)) (w : Int) : List Int := if vwB ps w = true then mmostTo ps w.toNat ps.length else []
/-- Places as numbers. -/
def plI (js : List Nat) : List Int := js.map fun j : Nat => (j : Int)
abbrev plR (js : List Nat) : List (List CV) := inRs (plI js)
theorem plR_len {js : List Nat} : (plR js).length = js.length := by simp [plI, inRs]
theorem plR_at {js : List Nat} {k j : Nat} (h : js[k]? = some j) : (plR js)[k]? = some (inR (j : Int)) := by simp [plI, inRs, h]
theorem plR_pop {js : List Nat} {j : Nat} : ((plR (js ++ [j])).take js.length).drop 0 = plR js := by simp [plI, inRs]
theorem plR_tail {j : Nat} {js : List Nat} : ((plR (j :: js)).take (plR (j :: js)).length).drop 1 = plR js := by
  rw [List.take_length]; simp [plI, inRs]
theorem plI_push {js : List Nat} {k : Nat} : plI js ++ [(k : Int)] = plI (js ++ [k]) := by simp [plI]
theorem plI_len {js : List Nat} : (plI js).length = js.length := by simp [plI]

set_option maxHeartbeats 400000 in
theorem c_movingMost (ps : List (Int × Int)) (w : Int) : Con Try.prog 21 [slP ps, rI w] [] (fun rs all => rs = [.one (.own 0)] ∧ all = [.row 1 3 (inRs (mmosts ps w))]) := by
  have hlen := ptRs_len (ps := ps)
  refine con_of_aw (vars := [.tmp 4]) [(0, .r (slP ps)), (1, .r (rI w))] [] 0 Try.func21 (by kernel_rfl) rfl Try.ntmps21 rfl (by decide) rfl rfl rfl rfl rfl ?_
  intro B M w0 ρ0 Z0
  repeat' (first | (refine is_al ?_; (first | (refine is_move ?_; (first | refine al_v (opx_move (.raw _)) ⟨rfl, trivial⟩ trivial rfl ?_ | refine al_v (opx_move (.sl _ _)) ⟨rfl, trivial⟩ trivial rfl ?_)) | (refine is_assign ?_; refine al_v (opx_assign (.raw _)) ⟨rfl, trivial⟩ trivial rfl ?_) | (refine is_bi ?_; refine al_v opx_len_sl ⟨rfl, trivial⟩ trivial rfl ?_) | (refine is_call ?_; refine al_callv2 (by (repeat (first | exact .nil | refine .one rfl rfl ?_ | refine .froz rfl rfl ?_ | refine .row rfl rfl ?_ | refine .rnil rfl ?_ | refine .agg rfl (by (repeat (first | exact .nil | refine .cons (.same rfl) ?_ | refine .cons (.froz rfl) ?_ | refine .cons (.rnil) ?_ | refine .cons (.row rfl rfl) ?_)); (first | done | fail)) ?_)); (first | done | fail)) rfl (c_validWindow _ _) rfl ?_) | refine al_v opx_not ⟨rfl, trivial⟩ trivial rfl ?_ | refine al_nil ?_)) | (refine is_aw ?_; (first | refine aw_seq ?_ | refine aw_region ?_ | refine aw_skip ?_ | refine aw_block ?_ | (refine is_cond ?_; (refine aw_cond rfl ?_ ?_ <;> ((intro hgd; try exact absurd hgd (by decide)); (try (have hz := hgd; simp only [decide_eq_true_eq, decide_eq_false_iff_not, Bool.not_eq_true', Bool.not_eq_false', Bool.not_true, Bool.not_false, beq_iff_eq, Int.not_le, Int.not_lt] at hz)); (try (exfalso; omega))))))) | refine thn_n ?_)
  · have hv : vwB ps w = false := by assumption
    refine aw_le (le_ownNil 4 1 3 rfl) ?_
    repeat' (first | (refine is_aw ?_; refine aw_ret ?_) | refine thn_r ?_)
    exact ret_row trivial rfl rfl ⟨rfl, by rw [mmosts, if_neg (by rw [hv]; simp)]; rfl⟩
  have hv : vwB ps w = true := by assumption
  obtain ⟨hv1, hv2⟩ : vsB ps = true ∧ (1 ≤ w ∧ w ≤ 16) := by simpa [vwB] using hv
  have hvs := vsB_iff.1 hv1
  have h16 := hvs.1
  obtain ⟨W, rfl⟩ : ∃ W : Nat, w = (W : Int) := ⟨w.toNat, by omega⟩
  have hW : 1 ≤ W := by omega
  refine aw_le (le_ownNil 5 1 3 rfl) ?_
  refine aw_le (le_ownNil 6 1 3 rfl) ?_
  refine aw_loop (γ := Nat × List Nat) (fun g => [(0, .r (slP ps)), (1, .r (rI (W : Int))), (4, .raw (.slice none 0 0)), (5, .own 0), (6, .own 1), (13, .r (slP ps)), (14, .i ((ptRs ps).length : Int)), (15, .i (g.1 : Int))])
    (fun g => [(0, .row 1 3 (inRs (mmostTo ps W g.1))), (1, .row 1 3 (plR g.2))]) (fun _ => 2) (fun g => g.1 ≤ ps.length ∧ Deq ps W g.1 g.2) (fun g => ps.length - g.1) (0, []) ⟨Nat.zero_le _, Deq.zero⟩ (le_mk [0, 1] rfl rfl rfl rfl ⟨rfl, rfl, rfl, rfl, rfl, rfl, rfl, rfl, trivial⟩ ⟨rfl, rfl, trivial⟩) ?_
  rintro ⟨k, js⟩ ⟨hk, hd⟩
  dsimp only at hk hd ⊢
  have hml := mmostTo_len (ps := ps) (w := W) (k := k)
  rcases Nat.lt_or_ge k ps.length with hlt | hge
  · have hc : decide ((k : Int) < ((ptRs ps).length : Int)) = true := decide_eq_true (by omega)
    obtain ⟨p, hp⟩ : ∃ p, ps[k]? = some p := ⟨_, List.getElem?_eq_getElem hlt⟩
    have hpr := ptRs_at hp
    have hpv := vAt_some hp
    repeat' (first | (refine is_al ?_; (first | (refine is_move ?_; refine al_v (opx_move (.raw _)) ⟨rfl, trivial⟩ trivial rfl ?_) | (refine is_bin ?_; refine al_v opx_lss ⟨rfl, rfl, trivial⟩ trivial rfl ?_) | (refine is_load ?_; refine al_v opx_ld2_imm ⟨rfl, trivial⟩ trivial rfl ?_) | (refine is_assign ?_; refine al_v (opx_assign (.raw _)) ⟨rfl, trivial⟩ trivial rfl ?_) | (refine is_ia ?_; refine al_v (opx_ia_sl2 hpr (by omega)) ⟨rfl, rfl, trivial⟩ trivial rfl ?_) | (refine is_st ?_; refine al_s (opx_sts_box (by rfl) (by rfl)) ⟨rfl, rfl, trivial⟩ ⟨rfl, trivial⟩ ?_) | refine al_n opx_alloc trivial trivial rfl ?_ | refine al_nil ?_)) | (refine is_aw ?_; (first | refine aw_seq ?_ | refine aw_region ?_ | refine aw_skip ?_ | refine aw_block ?_ | (refine is_cond ?_; refine aw_cond_t rfl (by assumption) ?_))))
    refine aw_loop (γ := List Nat) (fun js => [(0, .r (slP ps)), (1, .r (rI (W : Int))), (4, .raw (.slice none 0 0)), (5, .own 0), (6, .own 1), (7, .i (k : Int)), (8, .ref 2 0), (13, .r (slP ps)), (14, .i ((ptRs ps).length : Int)), (15, .i (k : Int))])
      (fun js => [(0, .row 1 3 (inRs (mmostTo ps W k))), (1, .row 1 3 (plR js)), (2, .box 30 [.c (cI p.1), .c (cI p.2)])]) (fun _ => 3) (fun js => Mid ps W k js) (fun js => js.length) js hd.mid (le_mk [0, 1, 2] rfl rfl rfl rfl ⟨rfl, rfl, rfl, rfl, rfl, rfl, rfl, rfl, rfl, rfl, trivial⟩ ⟨rfl, rfl, rfl, trivial⟩) ?_
    intro js hm
    have hplen := plI_len (js := js)
    have hmlen := hm.len
    rcases List.eq_nil_or_concat js with rfl | ⟨js, l, rfl⟩
    · have hc0 : decide (((plR []).length : Int) > 0) = false := rfl
      repeat' (first | (refine is_al ?_; (first | (refine is_move ?_; (first | refine al_v (opx_move (.raw _)) ⟨rfl, trivial⟩ trivial rfl ?_ | refine al_v (opx_move (.own _)) ⟨rfl, trivial⟩ trivial rfl ?_)) | (refine is_assign ?_; refine al_v (opx_assign (.own _)) ⟨rfl, trivial⟩ trivial rfl ?_) | (refine is_bs ?_; refine al_pushI ⟨rfl, trivial⟩ rfl rfl rfl rfl rfl (by omega) ?_) | refine al_nil ?_)) | (refine is_ad ?_; (first | (refine isd_gd ?_; refine ad_off rfl rfl (by assumption) rfl ?_) | (refine isd_move ?_; (first | refine ad_v (opx_move (.raw _)) ⟨rfl, trivial⟩ trivial rfl ?_ | refine ad_v (opx_move (.own _)) ⟨rfl, trivial⟩ trivial rfl ?_)) | (refine isd_bin ?_; refine ad_v opx_gtr ⟨rfl, rfl, trivial⟩ trivial rfl ?_) | (refine isd_pick ?_; refine ad_v (opx_pick_f (.raw _) rfl) ⟨rfl, rfl, trivial⟩ trivial rfl ?_) | (refine isd_bi ?_; refine ad_v opx_len_own ⟨rfl, trivial⟩ ⟨rfl, trivial⟩ rfl ?_) | refine ad_nil (by kernel_rfl) ?_)) | (refine is_aw ?_; (first | refine aw_seq ?_ | refine aw_region ?_ | refine aw_exit ?_ | (refine is_cond ?_; refine aw_cond_f rfl rfl ?_) | refine aw_draw mixed ?_)))
      have hn := hm.push fun j hj => (by cases hj)
      rw [plI_push]
      obtain ⟨h, t, he⟩ : ∃ h t, [] ++ [k] = h :: t := by cases hx : [] ++ [k] with | nil => simp at hx | cons h t => exact ⟨h, t, rfl⟩
      rw [he] at hn ⊢
      have hh := hn.lo h (by simp)
      have htl := plR_len (js := h :: t)
      have hcl : (h :: t).length = t.length + 1 := rfl
      have hin0 : 0 < (plR (h :: t)).length := by omega
      have hat0 : (plR (h :: t))[0]? = some (inR (h : Int)) := plR_at rfl
      obtain ⟨ph, hph⟩ : ∃ p, ps[h]? = some p := ⟨_, List.getElem?_eq_getElem (by omega)⟩
      have hphr := ptRs_at hph
      have hphv := vAt_some hph
      rcases Nat.lt_or_ge k (h + W) with hkw | hkw
      · have hc3 : decide ((h : Int) ≤ (k : Int) - (W : Int)) = false := decide_eq_false (by omega)
        have hd2 := hn.stay hkw
        repeat' (first | (refine is_al ?_; (first | (refine is_move ?_; (first | refine al_v (opx_move (.raw _)) ⟨rfl, trivial⟩ trivial rfl ?_ | refine al_v (opx_move (.sl _ _)) ⟨rfl, trivial⟩ trivial rfl ?_ | refine al_v (opx_move (.own _)) ⟨rfl, trivial⟩ trivial rfl ?_)) | (refine is_bin ?_; (first | refine al_v opx_leq ⟨rfl, rfl, trivial⟩ trivial rfl ?_ | refine al_v (opx_add (by unfold InR; omega)) ⟨rfl, rfl, trivial⟩ trivial rfl ?_ | refine al_v (opx_sub (by unfold InR; omega)) ⟨rfl, rfl, trivial⟩ trivial rfl ?_)) | (refine is_load ?_; (first | refine al_v opx_ld_imm ⟨rfl, trivial⟩ trivial rfl ?_ | refine al_v (opx_ld_el (by assumption) rfl) ⟨rfl, trivial⟩ ⟨rfl, trivial⟩ rfl ?_)) | (refine is_fa ?_; refine al_v opx_fa_imm1 ⟨rfl, trivial⟩ trivial rfl ?_) | (refine is_assign ?_; refine al_v (opx_assign (.own _)) ⟨rfl, trivial⟩ trivial rfl ?_) | (refine is_ia ?_; (first | refine al_v (opx_ia_own2 hin0 (by omega)) ⟨rfl, rfl, trivial⟩ ⟨rfl, trivial⟩ rfl ?_ | refine al_v (opx_ia_sl2 hphr (by omega)) ⟨rfl, rfl, trivial⟩ trivial rfl ?_)) | (refine is_bs ?_; refine al_pushI ⟨rfl, trivial⟩ rfl rfl rfl rfl rfl (by omega) ?_) | refine al_nil ?_)) | (refine is_aw ?_; (first | refine aw_region ?_ | refine aw_skip ?_ | (refine is_cond ?_; refine aw_cond_f rfl (by assumption) ?_))) | refine thn_n ?_)
        have e : ph.2 = mmost ps W k := by rw [← hphv]; exact (hd2.head hW).symm
        rw [e, ← mmostTo_succ]
        exact ⟨(k + 1, h :: t), ⟨hlt, hd2⟩, by dsimp only; omega, le_mk [6, 4] rfl rfl rfl rfl ⟨rfl, rfl, rfl, rfl, rfl, rfl, rfl, rfl, trivial⟩ ⟨rfl, rfl, trivial⟩⟩
      · have hc3 : decide ((h : Int) ≤ (k : Int) - (W : Int)) = true := decide_eq_true (by omega)
        have hd2 := hn.drop hkw
        obtain ⟨h2, t2, rfl⟩ : ∃ h2 t2, t = h2 :: t2 := by cases t with | nil => exact absurd rfl (hd2.ne hW) | cons h t => exact ⟨h, t, rfl⟩
        have hh2 := hd2.lo h2 (by simp)
        have htl2 := plR_len (js := h2 :: t2)
        have hcl2 : (h2 :: t2).length = t2.length + 1 := rfl
        have hin2 : 0 < (plR (h2 :: t2)).length := by omega
        have hat2 : (plR (h2 :: t2))[0]? = some (inR (h2 : Int)) := plR_at rfl
        obtain ⟨ph2, hph2⟩ : ∃ p, ps[h2]? = some p := ⟨_, List.getElem?_eq_getElem (by omega)⟩
        have hphr2 := ptRs_at hph2
        have hphv2 := vAt_some hph2
        repeat' (first | (refine is_al ?_; (first | (refine is_move ?_; (first | refine al_v (opx_move (.raw _)) ⟨rfl, trivial⟩ trivial rfl ?_ | refine al_v (opx_move (.sl _ _)) ⟨rfl, trivial⟩ trivial rfl ?_ | refine al_v (opx_move (.own _)) ⟨rfl, trivial⟩ trivial rfl ?_)) | (refine is_bin ?_; (first | refine al_v opx_leq ⟨rfl, rfl, trivial⟩ trivial rfl ?_ | refine al_v (opx_add (by unfold InR; omega)) ⟨rfl, rfl, trivial⟩ trivial rfl ?_ | refine al_v (opx_sub (by unfold InR; omega)) ⟨rfl, rfl, trivial⟩ trivial rfl ?_)) | (refine is_load ?_; (first | refine al_v opx_ld_imm ⟨rfl, trivial⟩ trivial rfl ?_ | refine al_v (opx_ld_el (by assumption) rfl) ⟨rfl, trivial⟩ ⟨rfl, trivial⟩ rfl ?_)) | (refine is_fa ?_; refine al_v opx_fa_imm1 ⟨rfl, trivial⟩ trivial rfl ?_) | (refine is_assign ?_; refine al_v (opx_assign (.own _)) ⟨rfl, trivial⟩ trivial rfl ?_) | (refine is_ia ?_; (first | refine al_v (opx_ia_own2 hin0 (by omega)) ⟨rfl, rfl, trivial⟩ ⟨rfl, trivial⟩ rfl ?_ | refine al_v (opx_ia_own2 hin2 (by omega)) ⟨rfl, rfl, trivial⟩ ⟨rfl, trivial⟩ rfl ?_ | refine al_v (opx_ia_sl2 hphr2 (by omega)) ⟨rfl, rfl, trivial⟩ trivial rfl ?_)) | (refine is_bs ?_; refine al_pushI ⟨rfl, trivial⟩ rfl rfl rfl rfl rfl (by omega) ?_) | refine al_nil ?_ | refine al_n (opx_cutL_own plR_tail rfl (by omega)) ⟨rfl, rfl, trivial⟩ ⟨rfl, trivial⟩ rfl ?_)) | (refine is_ad ?_; refine al_n (opx_cutL_own plR_tail rfl (by omega)) ⟨rfl, rfl, trivial⟩ ⟨rfl, trivial⟩ rfl ?_) | (refine is_aw ?_; (first | refine aw_region ?_ | (refine is_cond ?_; refine aw_cond_t rfl (by assumption) ?_))) | refine thn_n ?_)
        have e : ph2.2 = mmost ps W k := by rw [← hphv2]; exact (hd2.head hW).symm
        rw [e, ← mmostTo_succ]
        exact ⟨(k + 1, h2 :: t2), ⟨hlt, hd2⟩, by dsimp only; omega, le_mk [7, 5] rfl rfl rfl rfl ⟨rfl, rfl, rfl, rfl, rfl, rfl, rfl, rfl, trivial⟩ ⟨rfl, rfl, trivial⟩⟩
    · rw [List.concat_eq_append] at *
      have hpl := plR_len (js := js ++ [l])
      simp only [List.length_append, List.length_cons, List.length_nil] at hpl hmlen hplen
      have hlk := hm.lo l (by simp)
      obtain ⟨q, hq⟩ : ∃ q, ps[l]? = some q := ⟨_, List.getElem?_eq_getElem (by omega)⟩
      have hqr := ptRs_at hq
      have hqv := vAt_some hq
      have hlast : (plR (js ++ [l]))[js.length]? = some (inR (l : Int)) := plR_at (by simp)
      have hin : js.length < (plR (js ++ [l])).length := by omega
      have hc0 : decide ((0 : Int) < ((plR (js ++ [l])).length : Int)) = true := decide_eq_true (by omega)
      repeat' (first | (refine is_al ?_; (first | (refine is_move ?_; (first | refine al_v (opx_move (.raw _)) ⟨rfl, trivial⟩ trivial rfl ?_ | refine al_v (opx_move (.own _)) ⟨rfl, trivial⟩ trivial rfl ?_)) | (refine is_bin ?_; refine al_v (opx_sub (by unfold InR; omega)) ⟨rfl, rfl, trivial⟩ trivial rfl ?_) | (refine is_assign ?_; refine al_v (opx_assign (.own _)) ⟨rfl, trivial⟩ trivial rfl ?_) | (refine is_bi ?_; refine al_v opx_len_own ⟨rfl, trivial⟩ ⟨rfl, trivial⟩ rfl ?_) | (refine is_bs ?_; refine al_pushI ⟨rfl, trivial⟩ rfl rfl rfl rfl rfl (by omega) ?_) | refine al_nil ?_ | refine al_n (opx_cutH_own plR_pop (by omega) (by omega)) ⟨rfl, rfl, trivial⟩ ⟨rfl, trivial⟩ rfl ?_)) | (refine is_ad ?_; (first | (refine isd_gd ?_; (first | (refine isd_move ?_; (first | refine ad_on rfl rfl (by assumption) (opx_move (.sl _ _)) ⟨rfl, trivial⟩ trivial rfl ?_ | refine ad_on rfl rfl (by assumption) (opx_move (.own _)) ⟨rfl, trivial⟩ trivial rfl ?_)) | (refine isd_bin ?_; (first | refine ad_on rfl rfl (by assumption) opx_leq ⟨rfl, rfl, trivial⟩ trivial rfl ?_ | refine ad_on rfl rfl (by assumption) (opx_sub (by unfold InR; omega)) ⟨rfl, rfl, trivial⟩ trivial rfl ?_)) | (refine isd_load ?_; (first | refine ad_on rfl rfl (by assumption) opx_ld_imm ⟨rfl, trivial⟩ trivial rfl ?_ | refine ad_on rfl rfl (by assumption) (opx_ld_box rfl) ⟨rfl, trivial⟩ ⟨rfl, trivial⟩ rfl ?_ | refine ad_on rfl rfl (by assumption) (opx_ld_el (by assumption) rfl) ⟨rfl, trivial⟩ ⟨rfl, trivial⟩ rfl ?_)) | (refine isd_fa ?_; (first | refine ad_on rfl rfl (by assumption) opx_fa_ref ⟨rfl, trivial⟩ trivial rfl ?_ | refine ad_on rfl rfl (by assumption) opx_fa_imm1 ⟨rfl, trivial⟩ trivial rfl ?_)) | (refine isd_bi ?_; refine ad_on rfl rfl (by assumption) opx_len_own ⟨rfl, trivial⟩ ⟨rfl, trivial⟩ rfl ?_) | (refine isd_ia ?_; (first | refine ad_on rfl rfl (by assumption) (opx_ia_sl2 hqr (by omega)) ⟨rfl, rfl, trivial⟩ trivial rfl ?_ | refine ad_on rfl rfl (by assumption) (opx_ia_own2 hin (by omega)) ⟨rfl, rfl, trivial⟩ ⟨rfl, trivial⟩ rfl ?_)))) | (refine isd_move ?_; (first | refine ad_v (opx_move (.raw _)) ⟨rfl, trivial⟩ trivial rfl ?_ | refine ad_v (opx_move (.own _)) ⟨rfl, trivial⟩ trivial rfl ?_)) | (refine isd_bin ?_; refine ad_v opx_gtr ⟨rfl, rfl, trivial⟩ trivial rfl ?_) | (refine isd_pick ?_; refine ad_v (opx_pick_t (.raw _) (by assumption)) ⟨rfl, rfl, trivial⟩ trivial rfl ?_) | (refine isd_bi ?_; refine ad_v opx_len_own ⟨rfl, trivial⟩ ⟨rfl, trivial⟩ rfl ?_) | refine ad_nil (by kernel_rfl) ?_ | refine al_n (opx_cutH_own plR_pop (by omega) (by omega)) ⟨rfl, rfl, trivial⟩ ⟨rfl, trivial⟩ rfl ?_)) | (refine is_aw ?_; (first | refine aw_seq ?_ | refine aw_region ?_ | refine aw_skip ?_ | refine aw_block ?_ | refine aw_exit ?_ | (refine is_cond ?_; (refine aw_cond rfl ?_ ?_ <;> ((intro hgd; try exact absurd hgd (by decide)); (try (have hz := hgd; simp only [decide_eq_true_eq, decide_eq_false_iff_not, Bool.not_eq_true', Bool.not_eq_false', Bool.not_true, Bool.not_false, beq_iff_eq, Int.not_le, Int.not_lt] at hz)); (try (exfalso; omega))))) | refine aw_draw mixed ?_)) | refine thn_n ?_ | refine inb_n ?_)
      · exact ⟨js, hm.pop (by omega), by simp, le_mk [0, 3, 2] rfl rfl rfl rfl ⟨rfl, rfl, rfl, rfl, rfl, rfl, rfl, rfl, rfl, rfl, trivial⟩ ⟨rfl, rfl, rfl, trivial⟩⟩
      have hn := hm.push (last_least hm.inc (by omega))
      rw [plI_push]
      obtain ⟨h, t, he⟩ : ∃ h t, (js ++ [l]) ++ [k] = h :: t := by cases hx : (js ++ [l]) ++ [k] with | nil => simp at hx | cons h t => exact ⟨h, t, rfl⟩
      rw [he] at hn ⊢
      have hh := hn.lo h (by simp)
      have htl := plR_len (js := h :: t)
      have hcl : (h :: t).length = t.length + 1 := rfl
      have hin0 : 0 < (plR (h :: t)).length := by omega
      have hat0 : (plR (h :: t))[0]? = some (inR (h : Int)) := plR_at rfl
      obtain ⟨ph, hph⟩ : ∃ p, ps[h]? = some p := ⟨_, List.getElem?_eq_getElem (by omega)⟩
      have hphr := ptRs_at hph
      have hphv := vAt_some hph
      rcases Nat.lt_or_ge k (h + W) with hkw | hkw
      · have hc3 : decide ((h : Int) ≤ (k : Int) - (W : Int)) = false := decide_eq_false (by omega)
        have hd2 := hn.stay hkw
        repeat' (first | (refine is_al ?_; (first | (refine is_move ?_; (first | refine al_v (opx_move (.raw _)) ⟨rfl, trivial⟩ trivial rfl ?_ | refine al_v (opx_move (.sl _ _)) ⟨rfl, trivial⟩ trivial rfl ?_ | refine al_v (opx_move (.own _)) ⟨rfl, trivial⟩ trivial rfl ?_)) | (refine is_bin ?_; (first | refine al_v opx_leq ⟨rfl, rfl, trivial⟩ trivial rfl ?_ | refine al_v (opx_add (by unfold InR; omega)) ⟨rfl, rfl, trivial⟩ trivial rfl ?_ | refine al_v (opx_sub (by unfold InR; omega)) ⟨rfl, rfl, trivial⟩ trivial rfl ?_)) | (refine is_load ?_; (first | refine al_v opx_ld_imm ⟨rfl, trivial⟩ trivial rfl ?_ | refine al_v (opx_ld_el (by assumption) rfl) ⟨rfl, trivial⟩ ⟨rfl, trivial⟩ rfl ?_)) | (refine is_fa ?_; refine al_v opx_fa_imm1 ⟨rfl, trivial⟩ trivial rfl ?_) | (refine is_assign ?_; refine al_v (opx_assign (.own _)) ⟨rfl, trivial⟩ trivial rfl ?_) | (refine is_ia ?_; (first | refine al_v (opx_ia_own2 hin0 (by omega)) ⟨rfl, rfl, trivial⟩ ⟨rfl, trivial⟩ rfl ?_ | refine al_v (opx_ia_sl2 hphr (by omega)) ⟨rfl, rfl, trivial⟩ trivial rfl ?_)) | (refine is_bs ?_; refine al_pushI ⟨rfl, trivial⟩ rfl rfl rfl rfl rfl (by omega) ?_) | refine al_nil ?_)) | (refine is_aw ?_; (first | refine aw_region ?_ | refine aw_skip ?_ | (refine is_cond ?_; refine aw_cond_f rfl (by assumption) ?_))) | refine thn_n ?_)
        have e : ph.2 = mmost ps W k := by rw [← hphv]; exact (hd2.head hW).symm
        rw [e, ← mmostTo_succ]
        exact ⟨(k + 1, h :: t), ⟨hlt, hd2⟩, by dsimp only; omega, le_mk [6, 4] rfl rfl rfl rfl ⟨rfl, rfl, rfl, rfl, rfl, rfl, rfl, rfl, trivial⟩ ⟨rfl, rfl, trivial⟩⟩
      · have hc3 : decide ((h : Int) ≤ (k : Int) - (W : Int)) = true := decide_eq_true (by omega)
        have hd2 := hn.drop hkw
        obtain ⟨h2, t2, rfl⟩ : ∃ h2 t2, t = h2 :: t2 := by cases t with | nil => exact absurd rfl (hd2.ne hW) | cons h t => exact ⟨h, t, rfl⟩
        have hh2 := hd2.lo h2 (by simp)
        have htl2 := plR_len (js := h2 :: t2)
        have hcl2 : (h2 :: t2).length = t2.length + 1 := rfl
        have hin2 : 0 < (plR (h2 :: t2)).length := by omega
        have hat2 : (plR (h2 :: t2))[0]? = some (inR (h2 : Int)) := plR_at rfl
        obtain ⟨ph2, hph2⟩ : ∃ p, ps[h2]? = some p := ⟨_, List.getElem?_eq_getElem (by omega)⟩
        have hphr2 := ptRs_at hph2
        have hphv2 := vAt_some hph2
        repeat' (first | (refine is_al ?_; (first | (refine is_move ?_; (first | refine al_v (opx_move (.raw _)) ⟨rfl, trivial⟩ trivial rfl ?_ | refine al_v (opx_move (.sl _ _)) ⟨rfl, trivial⟩ trivial rfl ?_ | refine al_v (opx_move (.own _)) ⟨rfl, trivial⟩ trivial rfl ?_)) | (refine is_bin ?_; (first | refine al_v opx_leq ⟨rfl, rfl, trivial⟩ trivial rfl ?_ | refine al_v (opx_add (by unfold InR; omega)) ⟨rfl, rfl, trivial⟩ trivial rfl ?_ | refine al_v (opx_sub (by unfold InR; omega)) ⟨rfl, rfl, trivial⟩ trivial rfl ?_)) | (refine is_load ?_; (first | refine al_v opx_ld_imm ⟨rfl, trivial⟩ trivial rfl ?_ | refine al_v (opx_ld_el (by assumption) rfl) ⟨rfl, trivial⟩ ⟨rfl, trivial⟩ rfl ?_)) | (refine is_fa ?_; refine al_v opx_fa_imm1 ⟨rfl, trivial⟩ trivial rfl ?_) | (refine is_assign ?_; refine al_v (opx_assign (.own _)) ⟨rfl, trivial⟩ trivial rfl ?_) | (refine is_ia ?_; (first | refine al_v (opx_ia_own2 hin0 (by omega)) ⟨rfl, rfl, trivial⟩ ⟨rfl, trivial⟩ rfl ?_ | refine al_v (opx_ia_own2 hin2 (by omega)) ⟨rfl, rfl, trivial⟩ ⟨rfl, trivial⟩ rfl ?_ | refine al_v (opx_ia_sl2 hphr2 (by omega)) ⟨rfl, rfl, trivial⟩ trivial rfl ?_)) | (refine is_bs ?_; refine al_pushI ⟨rfl, trivial⟩ rfl rfl rfl rfl rfl (by omega) ?_) | refine al_nil ?_ | refine al_n (opx_cutL_own plR_tail rfl (by omega)) ⟨rfl, rfl, trivial⟩ ⟨rfl, trivial⟩ rfl ?_)) | (refine is_ad ?_; refine al_n (opx_cutL_own plR_tail rfl (by omega)) ⟨rfl, rfl, trivial⟩ ⟨rfl, trivial⟩ rfl ?_) | (refine is_aw ?_; (first | refine aw_region ?_ | (refine is_cond ?_; refine aw_cond_t rfl (by assumption) ?_))) | refine thn_n ?_)
        have e : ph2.2 = mmost ps W k := by rw [← hphv2]; exact (hd2.head hW).symm
        rw [e, ← mmostTo_succ]
        exact ⟨(k + 1, h2 :: t2), ⟨hlt, hd2⟩, by dsimp only; omega, le_mk [7, 5] rfl rfl rfl rfl ⟨rfl, rfl, rfl, rfl, rfl, rfl, rfl, rfl, trivial⟩ ⟨rfl, rfl, trivial⟩⟩
  · have hc : decide ((k : Int) < ((ptRs ps).length : Int)) = false := decide_eq_false (by omega)
    repeat' (first | (refine is_al ?_; (first | (refine is_move ?_; refine al_v (opx_move (.own _)) ⟨rfl, trivial⟩ trivial rfl ?_) | (refine is_bin ?_; refine al_v opx_lss ⟨rfl, rfl, trivial⟩ trivial rfl ?_) | (refine is_assign ?_; refine al_v (opx_assign (.own _)) ⟨rfl, trivial⟩ trivial rfl ?_) | refine al_nil ?_)) | (refine is_aw ?_; (first | refine aw_seq ?_ | refine aw_region ?_ | refine aw_ret ?_ | refine aw_exit ?_ | (refine is_cond ?_; refine aw_cond_f rfl (by assumption) ?_))))
    exact ret_row trivial rfl rfl ⟨rfl, by rw [mmosts, if_pos hv, show k = ps.length by omega]; rfl⟩

theorem c_sMovingMost (ps : List (Int × Int)) (w : Int) (hL : ps.length < 4611686018427387904) : Con Try.prog 19 [slP ps, rI w] [] (fun rs all => rs = [.one (.own 0)] ∧ all = [.row 1 3 (inRs (mmosts ps w))]) := by
  have hlen := ptRs_len (ps := ps)
  refine con_of_aw (vars := [.tmp 4]) [(0, .r (slP ps)), (1, .r (rI w))] [] 0 Try.func19 (by kernel_rfl) rfl Try.ntmps19 rfl (by decide) rfl rfl rfl rfl rfl ?_
  intro B M w0 ρ0 Z0
  repeat' (first | (refine is_al ?_; (first | (refine is_move ?_; (first | refine al_v (opx_move (.raw _)) ⟨rfl, trivial⟩ trivial rfl ?_ | refine al_v (opx_move (.sl _ _)) ⟨rfl, trivial⟩ trivial rfl ?_)) | (refine is_assign ?_; (first | refine al_v (opx_assign (.raw _)) ⟨rfl, trivial⟩ trivial rfl ?_ | refine al_v (opx_assign (.own _)) ⟨rfl, trivial⟩ trivial rfl ?_)) | (refine is_call ?_; refine al_callv2 (by (repeat (first | exact .nil | refine .one rfl rfl ?_ | refine .froz rfl rfl ?_ | refine .row rfl rfl ?_ | refine .rnil rfl ?_ | refine .agg rfl (by (repeat (first | exact .nil | refine .cons (.same rfl) ?_ | refine .cons (.froz rfl) ?_ | refine .cons (.rnil) ?_ | refine .cons (.row rfl rfl) ?_)); (first | done | fail)) ?_)); (first | done | fail)) rfl (c_sValidWindow _ _ hL) rfl ?_) | refine al_v opx_not ⟨rfl, trivial⟩ trivial rfl ?_ | (refine is_bs ?_; refine al_n opx_lit0 trivial trivial rfl ?_) | refine al_nil ?_)) | (refine is_aw ?_; (first | refine aw_seq ?_ | refine aw_region ?_ | refine aw_skip ?_ | refine aw_block ?_ | (refine is_cond ?_; (refine aw_cond rfl ?_ ?_ <;> ((intro hgd; try exact absurd hgd (by decide)); (try (have hz := hgd; simp only [decide_eq_true_eq, decide_eq_false_iff_not, Bool.not_eq_true', Bool.not_eq_false', Bool.not_true, Bool.not_false, beq_iff_eq, Int.not_le, Int.not_lt] at hz)); (try (exfalso; omega))))))) | refine thn_n ?_)
  · have hv : vwB ps w = false := by assumption
    refine aw_le (le_ownNil 4 1 3 rfl) ?_
    repeat' (first | (refine is_aw ?_; refine aw_ret ?_) | refine thn_r ?_)
    exact ret_row trivial rfl rfl ⟨rfl, by rw [mmosts, if_neg (by rw [hv]; simp)]; rfl⟩
  · have hv : vwB ps w = true := by assumption
    obtain ⟨hv1, hv2⟩ : vsB ps = true ∧ (1 ≤ w ∧ w ≤ 16) := by simpa [vwB] using hv
    have hvs := vsB_iff.1 hv1
    have h16 := hvs.1
    obtain ⟨W, rfl⟩ : ∃ W : Nat, w = (W : Int) := ⟨w.toNat, by omega⟩
    refine aw_loop (γ := Nat) (fun k => [(0, .r (slP ps)), (1, .r (rI (W : Int))), (4, .raw (.slice none 0 0)), (5, .own 0), (6, .i (k : Int))])
      (fun k => [(0, .row 1 3 (inRs (mmostTo ps W k)))]) (fun _ => 1) (fun k => k ≤ ps.length) (fun k => ps.length - k) 0 (Nat.zero_le _) (le_mk [0] rfl rfl rfl rfl ⟨rfl, rfl, rfl, rfl, rfl, trivial⟩ ⟨rfl, trivial⟩) ?_
    intro k hk
    have hml := mmostTo_len (ps := ps) (w := W) (k := k)
    rcases Nat.lt_or_ge k ps.length with hlt | hge
    · have hc : decide ((k : Int) < ((ptRs ps).length : Int)) = true := decide_eq_true (by omega)
      obtain ⟨p, hp⟩ : ∃ p, ps[k]? = some p := ⟨_, List.getElem?_eq_getElem hlt⟩
      have hpr := ptRs_at hp
      have hpv := vAt_some hp
      repeat' (first | (refine is_al ?_; (first | (refine is_move ?_; (first | refine al_v (opx_move (.raw _)) ⟨rfl, trivial⟩ trivial rfl ?_ | refine al_v (opx_move (.sl _ _)) ⟨rfl, trivial⟩ trivial rfl ?_)) | (refine is_bin ?_; (first | refine al_v opx_lss ⟨rfl, rfl, trivial⟩ trivial rfl ?_ | refine al_v (opx_add (by unfold InR; omega)) ⟨rfl, rfl, trivial⟩ trivial rfl ?_ | refine al_v (opx_sub (by unfold InR; omega)) ⟨rfl, rfl, trivial⟩ trivial rfl ?_)) | (refine is_load ?_; refine al_v opx_ld_imm ⟨rfl, trivial⟩ trivial rfl ?_) | (refine is_fa ?_; refine al_v opx_fa_imm1 ⟨rfl, trivial⟩ trivial rfl ?_) | (refine is_assign ?_; refine al_v (opx_assign (.raw _)) ⟨rfl, trivial⟩ trivial rfl ?_) | (refine is_bi ?_; (first | refine al_v opx_len_sl ⟨rfl, trivial⟩ trivial rfl ?_ | refine al_v opx_max2 ⟨rfl, rfl, trivial⟩ trivial rfl ?_)) | (refine is_ia ?_; refine al_v (opx_ia_sl2 hpr (by omega)) ⟨rfl, rfl, trivial⟩ trivial rfl ?_) | refine al_nil ?_)) | (refine is_aw ?_; (first | refine aw_seq ?_ | refine aw_region ?_ | refine aw_skip ?_ | refine aw_block ?_ | (refine is_cond ?_; refine aw_cond_t rfl (by assumption) ?_))))
      refine aw_loop (γ := Int × Nat) (fun g => [(0, .r (slP ps)), (1, .r (rI (W : Int))), (4, .raw (.slice none 0 0)), (5, .own 0), (6, .i (k : Int)), (7, .i (rmax ps k (k + 1 - W) g.2)), (8, .i g.1)])
        (fun _ => [(0, .row 1 3 (inRs (mmostTo ps W k)))]) (fun _ => 1) (fun g => g.1 = ((k + 1 - W + g.2 : Nat) : Int) ∧ g.2 ≤ k - (k + 1 - W)) (fun g => k - g.2) (max 0 ((k : Int) - (W : Int) + 1), 0)
        ⟨by dsimp only; omega, Nat.zero_le _⟩ (by rw [show rmax ps k (k + 1 - W) (max 0 ((k : Int) - (W : Int) + 1), 0).2 = p.2 from hpv]; exact le_mk [0] rfl rfl rfl rfl ⟨rfl, rfl, rfl, rfl, rfl, rfl, rfl, trivial⟩ ⟨rfl, trivial⟩) ?_
      rintro ⟨_, c⟩ ⟨hj, hc1⟩
      dsimp only at hj hc1 ⊢
      subst hj
      rcases Nat.lt_or_ge c (k - (k + 1 - W)) with hck | hck
      · have hc2 : decide (((k + 1 - W + c : Nat) : Int) < (k : Int)) = true := decide_eq_true (by omega)
        obtain ⟨q, hq⟩ : ∃ q, ps[k + 1 - W + c]? = some q := ⟨_, List.getElem?_eq_getElem (by omega)⟩
        have hqr := ptRs_at hq
        have hqv := vAt_some hq
        repeat' (first | (refine is_al ?_; (first | (refine is_move ?_; (first | refine al_v (opx_move (.raw _)) ⟨rfl, trivial⟩ trivial rfl ?_ | refine al_v (opx_move (.sl _ _)) ⟨rfl, trivial⟩ trivial rfl ?_)) | (refine is_bin ?_; (first | refine al_v opx_lss ⟨rfl, rfl, trivial⟩ trivial rfl ?_ | refine al_v (opx_add (by unfold InR; omega)) ⟨rfl, rfl, trivial⟩ trivial rfl ?_)) | (refine is_load ?_; refine al_v opx_ld_imm ⟨rfl, trivial⟩ trivial rfl ?_) | (refine is_fa ?_; refine al_v opx_fa_imm1 ⟨rfl, trivial⟩ trivial rfl ?_) | (refine is_assign ?_; refine al_v (opx_assign (.raw _)) ⟨rfl, trivial⟩ trivial rfl ?_) | (refine is_bi ?_; refine al_v opx_max2 ⟨rfl, rfl, trivial⟩ trivial rfl ?_) | (refine is_ia ?_; refine al_v (opx_ia_sl2 hqr (by omega)) ⟨rfl, rfl, trivial⟩ trivial rfl ?_) | refine al_nil ?_)) | (refine is_aw ?_; (first | refine aw_seq ?_ | refine aw_region ?_ | refine aw_skip ?_ | refine aw_block ?_ | (refine is_cond ?_; refine aw_cond_t rfl (by assumption) ?_))) | refine thn_n ?_)
        exact ⟨(((k + 1 - W + c : Nat) : Int) + 1, c + 1), ⟨by dsimp only; omega, by dsimp only; omega⟩, by dsimp only; omega, by rw [show rmax ps k (k + 1 - W) (((k + 1 - W + c : Nat) : Int) + 1, c + 1).2 = max (rmax ps k (k + 1 - W) c) q.2 by rw [← hqv]; rfl]; exact le_mk [0] rfl rfl rfl rfl ⟨rfl, rfl, rfl, rfl, rfl, rfl, rfl, trivial⟩ ⟨rfl, trivial⟩⟩
      · have hc2 : decide (((k + 1 - W + c : Nat) : Int) < (k : Int)) = false := decide_eq_false (by omega)
        repeat' (first | (refine is_al ?_; (first | (refine is_move ?_; (first | refine al_v (opx_move (.raw _)) ⟨rfl, trivial⟩ trivial rfl ?_ | refine al_v (opx_move (.own _)) ⟨rfl, trivial⟩ trivial rfl ?_)) | (refine is_bin ?_; (first | refine al_v opx_lss ⟨rfl, rfl, trivial⟩ trivial rfl ?_ | refine al_v (opx_add (by unfold InR; omega)) ⟨rfl, rfl, trivial⟩ trivial rfl ?_)) | (refine is_assign ?_; (first | refine al_v (opx_assign (.raw _)) ⟨rfl, trivial⟩ trivial rfl ?_ | refine al_v (opx_assign (.own _)) ⟨rfl, trivial⟩ trivial rfl ?_)) | (refine is_bs ?_; refine al_pushI ⟨rfl, trivial⟩ rfl rfl rfl rfl rfl (by omega) ?_) | refine al_nil ?_)) | (refine is_aw ?_; (first | refine aw_seq ?_ | refine aw_region ?_ | refine aw_exit ?_ | (refine is_cond ?_; refine aw_cond_f rfl (by assumption) ?_))) | refine thn_n ?_)
        have e : rmax ps k (k + 1 - W) c = mmost ps W k := by rw [show c = k - (k + 1 - W) by omega]; rfl
        rw [e, ← mmostTo_succ]
        exact ⟨k + 1, by omega, by omega, le_mk [2] rfl rfl rfl rfl ⟨rfl, rfl, rfl, rfl, rfl, trivial⟩ ⟨rfl, trivial⟩⟩
    · have hc : decide ((k : Int) < ((ptRs ps).length : Int)) = false := decide_eq_false (by omega)
      repeat' (first | (refine is_al ?_; (first | (refine is_move ?_; (first | refine al_v (opx_move (.raw _)) ⟨rfl, trivial⟩ trivial rfl ?_ | refine al_v (opx_move (.sl _ _)) ⟨rfl, trivial⟩ trivial rfl ?_ | refine al_v (opx_move (.own _)) ⟨rfl, trivial⟩ trivial rfl ?_)) | (refine is_bin ?_; refine al_v opx_lss ⟨rfl, rfl, trivial⟩ trivial rfl ?_) | (refine is_assign ?_; refine al_v (opx_assign (.own _)) ⟨rfl, trivial⟩ trivial rfl ?_) | (refine is_bi ?_; refine al_v opx_len_sl ⟨rfl, trivial⟩ trivial rfl ?_) | refine al_nil ?_)) | (refine is_aw ?_; (first | refine aw_seq ?_ | refine aw_region ?_ | refine aw_ret ?_ | refine aw_exit ?_ | (refine is_cond ?_; refine aw_cond_f rfl (by assumption) ?_))))
      exact ret_row trivial rfl rfl ⟨rfl, by rw [mmosts, if_pos hv, show k = ps.length by omega]; rfl⟩

theorem c_movingMost' (ps : List (Int × Int)) (w : Int) : Con Try.prog 21 [slP ps, rI w] [] (fun rs all => rs = [slI (mmosts ps w)] ∧ all = []) :=
  (c_movingMost ps w).froz fun rs all ⟨h1, h2⟩ => by subst h1 h2; exact ⟨⟨rfl, rfl⟩, rfl⟩
theorem c_sMovingMost' (ps : List (Int × Int)) (w : Int) (hL : ps.length < 4611686018427387904) : Con Try.prog 19 [slP ps, rI w] [] (fun rs all => rs = [slI (mmosts ps w)] ∧ all = []) :=
  (c_sMovingMost ps w hL).froz fun rs all ⟨h1, h2⟩ => by subst h1 h2; exact ⟨⟨rfl, rfl⟩, rfl⟩
theorem c_drawMovingMost' (bs : List UInt8) (hb : bs.length ≤ 1048576) :
    Con Try.prog 32 [slB bs] [] (fun rs all => ∃ g : List (Int × Int) × Int, rs = [slP g.1, rI g.2] ∧ all = [] ∧ noTags rs = true ∧ g.1.length ≤ 17 ∧ (∀ x ∈ g.1, okAny x) ∧ 0 ≤ g.2 ∧ g.2 ≤ 17) := by
  refine con_of_aw (vars := [.tmp 2, .tmp 3]) [(0, .r (slB bs))] [] 0 Try.func32 (by kernel_rfl) rfl Try.ntmps32 rfl (by decide) rfl rfl rfl rfl rfl ?_
  intro B M w0 ρ0 Z0
  repeat' (first | (refine is_al ?_; (first | (refine is_move ?_; refine al_v (opx_move (.sl _ _)) ⟨rfl, trivial⟩ trivial rfl ?_) | (refine is_assign ?_; (first | refine al_v (opx_assign (.raw _)) ⟨rfl, trivial⟩ trivial rfl ?_ | refine al_v (opx_assign (.sl _ _)) ⟨rfl, trivial⟩ trivial rfl ?_)) | (refine is_call ?_; (refine al_callE (by (repeat (first | exact .nil | refine .one rfl rfl ?_ | refine .froz rfl rfl ?_ | refine .rnil rfl ?_ | refine .agg rfl (by (repeat (first | exact .nil | refine .cons (.same rfl) ?_ | refine .cons (.froz rfl) ?_ | refine .cons (.rnil) ?_)); (first | done | fail)) ?_)); (first | done | fail)) rfl (c_drawMovingSums' _ hb) ?_; rintro ⟨ps, w⟩ ⟨h1, h2, h3, h4⟩; dsimp only at h1 h2 h3 h4 ⊢)) | refine al_v (opx_extract _ rfl) ⟨rfl, trivial⟩ trivial rfl ?_ | refine al_nil ?_)) | (refine is_aw ?_; (first | refine aw_seq ?_ | refine aw_region ?_ | refine aw_ret ?_)))
  exact retg_mk trivial [slP ps, rI w] [] [] ⟨(ps, w), rfl, rfl, rfl, h1, h2, h3, h4⟩ (Nat.le_refl _) rfl rfl rfl rfl ⟨rfl, rfl, trivial⟩ trivial

theorem mmosts_len {ps : List (Int × Int)} {w : Int} : (mmosts ps w).length ≤ ps.length := by
  unfold mmosts
  split
  · rw [mmostTo_len]; exact Nat.le_refl _
  · exact Nat.zero_le _
theorem mmosts_ok {ps : List (Int × Int)} {w : Int} (h : (mmosts ps w).length ≠ 0) : VS ps ∧ 1 ≤ w ∧ w ≤ 16 ∧ (mmosts ps w).length = ps.length := by
  by_cases hv : vwB ps w = true
  · obtain ⟨hv1, hv2⟩ : vsB ps = true ∧ (1 ≤ w ∧ w ≤ 16) := by simpa [vwB] using hv
    exact ⟨vsB_iff.1 hv1, hv2.1, hv2.2, by rw [mmosts, if_pos hv, mmostTo_len]⟩
  · rw [mmosts, if_neg hv] at h; exact absurd rfl h
theorem mmosts_at {ps : List (Int × Int)} (h : VS ps) {w k : Nat} (hw : 1 ≤ w ∧ w ≤ 16) (hk : k < ps.length) : (mmosts ps (w : Int))[k]? = some (mmost ps w k) := by
  have hv : vwB ps (w : Int) = true := by
    have h1 := vsB_iff.2 h
    simp [vwB, h1]; omega
  rw [mmosts, if_pos hv]
  simp [mmostTo, hk]
theorem mmost_mono {ps : List (Int × Int)} {w w' k : Nat} (h1 : 1 ≤ w) (h : w ≤ w') : mmost ps w k ≤ mmost ps w' k := by
  obtain ⟨i, h2, h3, h4⟩ := mmost_in (ps := ps) (k := k) h1
  rw [h4]
  exact mmost_ge (by omega) h3

/-- whether the greatest value was seen among c values from lo on -/
def seen (ps : List (Int × Int)) (lo c : Nat) (m : Int) (sb : Bool) : Prop := sb = true ↔ ∃ j, lo ≤ j ∧ j < lo + c ∧ vAt ps j = m
theorem seen_zero {ps : List (Int × Int)} {lo : Nat} {m : Int} : seen ps lo 0 m false := ⟨fun h => (by cases h), fun ⟨j, h1, h2, _⟩ => by omega⟩
theorem seen_old {ps : List (Int × Int)} {lo c : Nat} {m : Int} {sb : Bool} (h : seen ps lo c m sb) (hs : sb = true) : seen ps lo (c + 1) m true := ⟨fun _ => by obtain ⟨j, h1, h2, h3⟩ := h.1 hs; exact ⟨j, h1, by omega, h3⟩, fun _ => rfl⟩
theorem seen_new {ps : List (Int × Int)} {lo c : Nat} {m : Int} {sb : Bool} {p : Int × Int} (h : seen ps lo c m sb) (hs : sb = false) (hp : ps[lo + c]? = some p) : seen ps lo (c + 1) m (decide (p.2 = m)) := by
  have hv := vAt_some hp
  constructor
  · intro h1
    exact ⟨lo + c, by omega, by omega, by rw [hv]; exact of_decide_eq_true h1⟩
  · rintro ⟨j, h1, h2, h3⟩
    rcases Nat.lt_or_ge j (lo + c) with h4 | h4
    · have := h.2 ⟨j, h1, h4, h3⟩; rw [hs] at this; cases this
    · rw [show j = lo + c by omega, hv] at h3; exact decide_eq_true h3
theorem seen_all {ps : List (Int × Int)} {w k c : Nat} {sb : Bool} (h : seen ps (k + 1 - w) c (mmost ps w k) sb) (hw : 1 ≤ w) (hc : k + 1 - (k + 1 - w) ≤ c) : sb = true :=
  h.2 (by obtain ⟨j, h1, h2, h3⟩ := mmost_in (ps := ps) (w := w) (k := k) hw; exact ⟨j, h1, by omega, h3.symm⟩)

end Go.Proofs.Ytgakfhilconceaa
