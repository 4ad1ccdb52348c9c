/-
  The text of labels: the walks.
-/
import Derived.Test.YtllgddednlfhfaaDoorW61
import Derived.Test.YtllgddednlfhfaaDoorShelf
namespace Go.Proofs.YtllgddednlfhfaaDoor
open Go.RowKit
set_option linter.unusedVariables false
set_option linter.unusedSimpArgs false
attribute [local irreducible] AL AW OpX Le AD

theorem jn_lib : ∀ {l : List Str}, Lib.join l [44] = jn 44 l
  | [] => rfl
  | [x] => by rw [Lib.join_one]; rfl
  | x :: y :: r => by
    have ih := jn_lib (l := y :: r)
    rw [jn_cons (by simp), ← ih]
    simp [Lib.join, List.intercalate]
theorem stRs_cells {Z : Nat → Prop} {w : World} : ∀ {l : List Str} {us : List Value}, DL Z w (stRs l).flatten us → us = l.map fun s => Value.string ⟨s.toArray⟩
  | [], [], _ => rfl
  | [], _ :: _, h => h.elim
  | b :: bs, u :: us, h => by
    have h1 : DC Z w (cS b) u := h.1
    have h2 := stRs_cells (l := bs) (us := us) h.2
    cases h1
    rw [h2]; rfl
  | _ :: _, [], h => h.elim
theorem c_Join (l : List Str) (hn : l.length ≤ 1000) (hl : (jn 44 l).length ≤ 140737488355328) : Con Tryd.prog 38 [slS l, rStr [44]] [] (fun rs all => rs = [rStr (jn 44 l)] ∧ all = []) := by
  refine con_of_below (v := .string ⟨(jn 44 l).toArray⟩) rfl (by kernel_rfl) fun w ρ Z vs hd hz => ?_
  match vs, hd with
  | [u, v], hd =>
    have hv : v = .string ⟨#[44]⟩ := by
      have h : DC Z w (cS [44]) v := hd.2.1
      cases h; rfl
    subst hv
    have hu : DC Z w (.sl 1 (stRs l)) u := hd.1
    generalize hr : stRs l = rows at hu
    cases hu with
    | nil _ ao cap h =>
      have h0 : l = [] := by
        have := stRs_len (xs := l); rw [hr] at this; exact List.eq_nil_of_length_eq_zero this.symm
      subst h0
      exact (strings_Join_none ao cap ⟨#[44]⟩ w).mono fun e w' ⟨h1, h2⟩ => ⟨h1, h2 ▸ Below.refl _ _⟩
    | sl _ _ b off n cap us h1 hw hzb hc hm hl2 hcell hd2 =>
      subst hr
      have hnl : n = l.length := by rw [← h1, stRs_len]
      have hus := stRs_cells (DL.mk hl2 hd2)
      have e1 : (l.map fun s => (⟨s.toArray⟩ : ByteArray)).map (·.data.toList) = l := by rw [List.map_map]; simp [Function.comp_def]
      have hj := strings_Join b off cap (l.map fun s => ⟨s.toArray⟩) ⟨#[44]⟩ w (fun j x hx => hcell j _ (by
        rw [hus, List.getElem?_map]
        rw [List.getElem?_map] at hx
        cases h : l[j]? with
        | none => rw [h] at hx; cases hx
        | some y => rw [h] at hx; cases hx; rfl)) (hz b hzb) (by rw [List.length_map]; omega) (by rw [List.length_map]; omega) (by rw [e1]; show (Lib.join l [44]).length ≤ _; rw [jn_lib]; exact hl)
      rw [e1, List.length_map] at hj
      subst hnl
      exact hj.mono fun e w' ⟨g1, g2⟩ => ⟨g1.trans (by rw [← jn_lib]), g2⟩
/-! ### formatting -/
noncomputable def fmt (l : List Lb) : Str := if vlB l = true then txt l else []
theorem fmt_t {l : List Lb} (h : vlB l = true) : fmt l = txt l := by rw [fmt, if_pos h]
theorem fmt_f {l : List Lb} (h : vlB l = false) : fmt l = [] := by rw [fmt, h]; rfl
theorem jn_len {c : UInt8} {m : Nat} : ∀ {l : List Str}, (∀ p ∈ l, p.length ≤ m) → (jn c l).length ≤ (m + 1) * l.length
  | [], _ => Nat.zero_le _
  | [x], h => by have := h x (.head _); simp only [jn, List.length_singleton]; omega
  | x :: y :: r, h => by
    have h1 := h x (.head _)
    have h2 := jn_len (c := c) (l := y :: r) (fun p hp => h p (.tail _ hp))
    rw [jn_cons (by simp), List.length_append, List.length_cons, List.length_cons, Nat.mul_add]
    omega
theorem eqt_len {x : Lb} : (eqt x).length = x.1.length + x.2.length + 1 := by simp [eqt]; omega
theorem eqts_take {l : List Lb} {k : Nat} {x : Lb} (h : l[k]? = some x) : (l.take (k + 1)).map eqt = (l.take k).map eqt ++ [x.1 ++ [61] ++ x.2] := by
  rw [List.take_add_one, h, List.map_append]; simp [eqt]
theorem VL_jn {l : List Lb} (h : VL l) (k : Nat) : (jn 44 ((l.take k).map eqt)).length ≤ 40 := by
  have h1 := jn_len (c := 44) (m := 9) (l := (l.take k).map eqt) (fun p hp => by
    obtain ⟨x, hx, rfl⟩ := List.mem_map.1 hp
    obtain ⟨a1, a2⟩ := VL_mem h (List.mem_of_mem_take hx)
    have b1 := a1.2.1
    have b2 := a2.2.1
    rw [eqt_len]; omega)
  have h2 := h.1
  rw [List.length_map, List.length_take] at h1
  omega
theorem c_FormatLabels (l : List Lb) (hL : ∀ x ∈ l, BIG x.1.length ∧ BIG x.2.length) (hl : BIG l.length) : Con Tryd.prog 16 [slL l] [] (fun rs all => rs = [rStr (fmt l)] ∧ all = []) := by
  have hlr := lbRs_len (xs := l)
  refine con_of_aw (vars := [.tmp 2]) [(0, .r (slL l))] [] 0 Tryd.func16 (by kernel_rfl) rfl Tryd.ntmps16 rfl (by decide) rfl rfl rfl rfl rfl ?_; intro B M w0 ρ0 Z0
  have n1 : (!true) = false := rfl
  have n2 : (!false) = true := rfl
  have hcv := c_ValidLabels l hL hl
  cases hv : vlB l
  · rw [hv] at hcv
    repeat' (first | (refine is_al ?_; (first | (refine is_move ?_; refine al_v (opx_move (.sl _ _)) ⟨rfl, trivial⟩ trivial rfl ?_) | (refine is_assign ?_; refine al_v (opx_assign (.raw _)) ⟨rfl, trivial⟩ trivial rfl ?_) | (refine is_call ?_; refine al_callv2 (by (repeat (first | exact .nil | refine .one rfl rfl ?_ | refine .froz rfl rfl ?_ | refine .row rfl rfl ?_ | refine .rnil rfl ?_ | refine .agg rfl (by (repeat (first | exact .nil | refine .cons (.same rfl) ?_ | refine .cons (.froz rfl) ?_ | refine .cons (.rnil) ?_ | refine .cons (.row rfl rfl) ?_)); (first | done | fail)) ?_)); (first | done | fail)) rfl (hcv) rfl ?_) | refine al_v opx_not ⟨rfl, trivial⟩ trivial rfl ?_ | refine al_nil ?_)) | (refine is_aw ?_; (first | refine aw_seq ?_ | refine aw_region ?_ | refine aw_ret ?_ | (refine is_cond ?_; refine aw_cond_t rfl rfl ?_))) | refine thn_r ?_)
    exact ret_raw trivial rfl ⟨by rw [fmt_f hv], rfl⟩
  · rw [hv] at hcv
    have hV := vlB_of hv
    have h4 := hV.1
    repeat' (first | (refine is_al ?_; (first | (refine is_move ?_; (first | refine al_v (opx_move (.raw _)) ⟨rfl, trivial⟩ trivial rfl ?_ | refine al_v (opx_move (.sl _ _)) ⟨rfl, trivial⟩ trivial rfl ?_)) | (refine is_assign ?_; (first | refine al_v (opx_assign (.raw _)) ⟨rfl, trivial⟩ trivial rfl ?_ | refine al_v (opx_assign (.own _)) ⟨rfl, trivial⟩ trivial rfl ?_)) | (refine is_bi ?_; refine al_v opx_len_sl ⟨rfl, trivial⟩ trivial rfl ?_) | (refine is_call ?_; refine al_callv2 (by (repeat (first | exact .nil | refine .one rfl rfl ?_ | refine .froz rfl rfl ?_ | refine .row rfl rfl ?_ | refine .rnil rfl ?_ | refine .agg rfl (by (repeat (first | exact .nil | refine .cons (.same rfl) ?_ | refine .cons (.froz rfl) ?_ | refine .cons (.rnil) ?_ | refine .cons (.row rfl rfl) ?_)); (first | done | fail)) ?_)); (first | done | fail)) rfl (hcv) rfl ?_) | refine al_v opx_not ⟨rfl, trivial⟩ trivial rfl ?_ | refine al_mk0 rfl rfl rfl rfl (by omega) ?_ | refine al_nil ?_)) | (refine is_aw ?_; (first | refine aw_seq ?_ | refine aw_region ?_ | refine aw_skip ?_ | refine aw_block ?_ | (refine is_cond ?_; refine aw_cond_f rfl rfl ?_))))
    refine aw_loop (γ := Nat) (fun k => [(3, .own 0), (12, .sl 2 (lbRs l)), (13, .i ((lbRs l).length : Int)), (14, .i (k : Int))]) (fun k => [(0, .row 1 9 (stRs ((l.take k).map eqt)))]) (fun _ => 1)
      (fun k => k ≤ l.length) (fun k => l.length - k) 0 (Nat.zero_le _) (le_mk [0] rfl rfl rfl rfl ⟨rfl, rfl, rfl, rfl, trivial⟩ ⟨rfl, trivial⟩) ?_
    intro k hk
    have hkl : ((l.take k).map eqt).length ≤ 4 := by rw [List.length_map, List.length_take]; omega
    rcases Nat.lt_or_ge k l.length with hlt | hge
    · have hc1 : decide ((k : Int) < ((lbRs l).length : Int)) = true := decide_eq_true (by omega)
      obtain ⟨x, hx⟩ : ∃ x, l[k]? = some x := ⟨_, List.getElem?_eq_getElem hlt⟩
      have hxr := lbRs_at hx
      obtain ⟨a1, a2⟩ := VL_mem hV (List.mem_of_getElem? hx)
      have b1 := a1.2.1
      have b2 := a2.2.1
      have hs := eqts_take hx
      repeat' (first | (refine is_al ?_; (first | (refine is_move ?_; (first | refine al_v (opx_move (.raw _)) ⟨rfl, trivial⟩ trivial rfl ?_ | refine al_v (opx_move (.own _)) ⟨rfl, trivial⟩ trivial rfl ?_)) | (refine is_bin ?_; (first | refine al_v opx_lss ⟨rfl, rfl, trivial⟩ trivial rfl ?_ | refine al_v (opx_add (by unfold InR; omega)) ⟨rfl, rfl, trivial⟩ trivial rfl ?_)) | (refine is_load ?_; (first | refine al_v opx_ld2_imm ⟨rfl, trivial⟩ trivial rfl ?_ | refine al_v (opx_ld_box rfl) ⟨rfl, trivial⟩ ⟨rfl, trivial⟩ rfl ?_)) | (refine is_fa ?_; refine al_v opx_fa_ref ⟨rfl, trivial⟩ trivial rfl ?_) | (refine is_assign ?_; refine al_v (opx_assign (.own _)) ⟨rfl, trivial⟩ trivial rfl ?_) | (refine is_ia ?_; refine al_v (opx_ia_sl2 hxr (by omega)) ⟨rfl, rfl, trivial⟩ trivial rfl ?_) | (refine is_st ?_; refine al_s (opx_sts_box (by rfl) (by rfl)) ⟨rfl, rfl, trivial⟩ ⟨rfl, trivial⟩ ?_) | (refine is_bs ?_; refine al_pushS ⟨rfl, trivial⟩ rfl rfl rfl rfl rfl (by omega) ?_) | refine al_n opx_alloc trivial trivial rfl ?_ | refine al_nil ?_ | refine al_v (opx_cat (by first | omega | (simp only [List.length_append, List.length_cons, List.length_nil]; omega))) ⟨rfl, rfl, trivial⟩ trivial rfl ?_)) | (refine is_ad ?_; refine al_v (opx_cat (by first | omega | (simp only [List.length_append, List.length_cons, List.length_nil]; omega))) ⟨rfl, rfl, trivial⟩ trivial rfl ?_) | (refine is_aw ?_; (first | refine aw_seq ?_ | refine aw_region ?_ | refine aw_skip ?_ | refine aw_block ?_ | (refine is_cond ?_; refine aw_cond_t rfl (by assumption) ?_))) | refine thn_n ?_)
      exact ⟨k + 1, hlt, by omega, le_mk [_] rfl rfl rfl rfl ⟨rfl, rfl, rfl, rfl, trivial⟩ ⟨by rw [hs]; rfl, trivial⟩⟩
    · have hc1 : decide ((k : Int) < ((lbRs l).length : Int)) = false := decide_eq_false (by omega)
      have hjl := VL_jn hV k
      rw [List.take_of_length_le hge] at hjl hkl ⊢
      repeat' (first | (refine is_al ?_; (first | (refine is_move ?_; refine al_v (opx_move (.own _)) ⟨rfl, trivial⟩ trivial rfl ?_) | (refine is_bin ?_; refine al_v opx_lss ⟨rfl, rfl, trivial⟩ trivial rfl ?_) | (refine is_assign ?_; refine al_v (opx_assign (.raw _)) ⟨rfl, trivial⟩ trivial rfl ?_) | (refine is_call ?_; refine al_callv2 (by (repeat (first | exact .nil | refine .one rfl rfl ?_ | refine .froz rfl rfl ?_ | refine .row rfl rfl ?_ | refine .rnil rfl ?_ | refine .agg rfl (by (repeat (first | exact .nil | refine .cons (.same rfl) ?_ | refine .cons (.froz rfl) ?_ | refine .cons (.rnil) ?_ | refine .cons (.row rfl rfl) ?_)); (first | done | fail)) ?_)); (first | done | fail)) rfl (c_Join _ (by omega) (by omega)) rfl ?_) | refine al_nil ?_ | refine al_v (opx_cat (by first | omega | (simp only [List.length_append, List.length_cons, List.length_nil]; omega))) ⟨rfl, rfl, trivial⟩ trivial rfl ?_)) | (refine is_ad ?_; refine al_v (opx_cat (by first | omega | (simp only [List.length_append, List.length_cons, List.length_nil]; omega))) ⟨rfl, rfl, trivial⟩ trivial rfl ?_) | (refine is_aw ?_; (first | refine aw_seq ?_ | refine aw_region ?_ | refine aw_ret ?_ | refine aw_exit ?_ | (refine is_cond ?_; refine aw_cond_f rfl (by assumption) ?_))))
      exact ret_raw trivial rfl ⟨by rw [fmt_t hv]; rfl, rfl⟩
/-! ### the reference -/
theorem jn_step {l : List Lb} {k : Nat} {x : Lb} (h : l[k]? = some x) (h0 : 0 < k) : jn 44 ((l.take (k + 1)).map eqt) = jn 44 ((l.take k).map eqt) ++ [44] ++ x.1 ++ [61] ++ x.2 := by
  have hk := (List.getElem?_eq_some_iff.1 h).1
  rw [eqts_take h, jn_snoc (by
    intro e
    have := congrArg List.length e
    rw [List.length_map, List.length_take, List.length_nil] at this
    omega)]
  simp
theorem c_labelsText (l : List Lb) (hV : VL l) : Con Tryd.prog 29 [slL l] [] (fun rs all => rs = [rStr (txt l)] ∧ all = []) := by
  have hlr := lbRs_len (xs := l)
  have h4 := hV.1
  refine con_of_aw (vars := [.tmp 2]) [(0, .r (slL l))] [] 0 Tryd.func29 (by kernel_rfl) rfl Tryd.ntmps29 rfl (by decide) rfl rfl rfl rfl rfl ?_; intro B M w0 ρ0 Z0
  repeat' (first | (refine is_al ?_; (first | (refine is_assign ?_; refine al_v (opx_assign (.raw _)) ⟨rfl, trivial⟩ trivial rfl ?_) | refine al_nil ?_)) | (refine is_aw ?_; (first | refine aw_seq ?_ | refine aw_region ?_ | refine aw_block ?_)))
  refine aw_loop (γ := Nat) (fun k => [(0, .r (slL l)), (3, .str (123 :: jn 44 ((l.take k).map eqt))), (4, .i (k : Int))]) (fun k => []) (fun _ => 0)
    (fun k => k ≤ l.length) (fun k => l.length - k) 0 (Nat.zero_le _) (le_mk [] rfl rfl rfl rfl ⟨rfl, rfl, rfl, trivial⟩ trivial) ?_
  intro k hk
  have hjl := VL_jn hV k
  rcases Nat.lt_or_ge k l.length with hlt | hge
  · have hc1 : decide ((k : Int) < ((lbRs l).length : Int)) = true := decide_eq_true (by omega)
    obtain ⟨x, hx⟩ : ∃ x, l[k]? = some x := ⟨_, List.getElem?_eq_getElem hlt⟩
    have hxr := lbRs_at hx
    obtain ⟨a1, a2⟩ := VL_mem hV (List.mem_of_getElem? hx)
    have b1 := a1.2.1
    have b2 := a2.2.1
    by_cases k0 : 0 < k
    · have d1 : decide (0 < (k : Int)) = true := decide_eq_true (by omega)
      have hs := jn_step hx k0
      repeat' (first | (refine is_al ?_; (first | (refine is_move ?_; (first | refine al_v (opx_move (.raw _)) ⟨rfl, trivial⟩ trivial rfl ?_ | refine al_v (opx_move (.sl _ _)) ⟨rfl, trivial⟩ trivial rfl ?_)) | (refine is_bin ?_; (first | refine al_v opx_lss ⟨rfl, rfl, trivial⟩ trivial rfl ?_ | refine al_v opx_gtr ⟨rfl, rfl, trivial⟩ trivial rfl ?_ | refine al_v (opx_add (by unfold InR; omega)) ⟨rfl, rfl, trivial⟩ trivial rfl ?_)) | (refine is_assign ?_; refine al_v (opx_assign (.raw _)) ⟨rfl, trivial⟩ trivial rfl ?_) | (refine is_bi ?_; refine al_v opx_len_sl ⟨rfl, trivial⟩ trivial rfl ?_) | refine al_nil ?_ | refine al_v (opx_cat (by first | omega | (simp only [List.length_append, List.length_cons, List.length_nil]; omega))) ⟨rfl, rfl, trivial⟩ trivial rfl ?_ | refine ad_v (opx_cat (by first | omega | (simp only [List.length_append, List.length_cons, List.length_nil]; omega))) ⟨rfl, rfl, trivial⟩ trivial rfl ?_)) | (refine is_ad ?_; (first | (refine isd_move ?_; (first | refine ad_v (opx_move (.raw _)) ⟨rfl, trivial⟩ trivial rfl ?_ | refine ad_v (opx_move (.sl _ _)) ⟨rfl, trivial⟩ trivial rfl ?_)) | (refine isd_load ?_; refine ad_v opx_ld_imm ⟨rfl, trivial⟩ trivial rfl ?_) | (refine isd_fa ?_; (first | refine ad_v opx_fa_imm0 ⟨rfl, trivial⟩ trivial rfl ?_ | refine ad_v opx_fa_imm1 ⟨rfl, trivial⟩ trivial rfl ?_)) | (refine isd_assign ?_; refine ad_v (opx_assign (.raw _)) ⟨rfl, trivial⟩ trivial rfl ?_) | (refine isd_ia ?_; refine ad_v (opx_ia_sl2 hxr (by omega)) ⟨rfl, rfl, trivial⟩ trivial rfl ?_) | refine ad_nil (by kernel_rfl) ?_ | refine al_v (opx_cat (by first | omega | (simp only [List.length_append, List.length_cons, List.length_nil]; omega))) ⟨rfl, rfl, trivial⟩ trivial rfl ?_ | refine ad_v (opx_cat (by first | omega | (simp only [List.length_append, List.length_cons, List.length_nil]; omega))) ⟨rfl, rfl, trivial⟩ trivial rfl ?_)) | (refine is_aw ?_; (first | refine aw_seq ?_ | refine aw_region ?_ | refine aw_skip ?_ | refine aw_block ?_ | (refine is_cond ?_; refine aw_cond_t rfl (by assumption) ?_) | refine aw_draw mixed ?_)) | refine thn_n ?_)
      exact ⟨k + 1, hlt, by omega, le_mk [] rfl rfl rfl rfl ⟨rfl, by rw [hs]; rfl, rfl, trivial⟩ trivial⟩
    · have d1 : decide (0 < (k : Int)) = false := decide_eq_false (by omega)
      obtain rfl : k = 0 := by omega
      have hs : jn 44 ((l.take 1).map eqt) = x.1 ++ [61] ++ x.2 := by rw [eqts_take hx]; rfl
      repeat' (first | (refine is_al ?_; (first | (refine is_move ?_; (first | refine al_v (opx_move (.raw _)) ⟨rfl, trivial⟩ trivial rfl ?_ | refine al_v (opx_move (.sl _ _)) ⟨rfl, trivial⟩ trivial rfl ?_)) | (refine is_bin ?_; (first | refine al_v opx_lss ⟨rfl, rfl, trivial⟩ trivial rfl ?_ | refine al_v opx_gtr ⟨rfl, rfl, trivial⟩ trivial rfl ?_ | refine al_v (opx_add (by unfold InR; omega)) ⟨rfl, rfl, trivial⟩ trivial rfl ?_)) | (refine is_assign ?_; refine al_v (opx_assign (.raw _)) ⟨rfl, trivial⟩ trivial rfl ?_) | (refine is_bi ?_; refine al_v opx_len_sl ⟨rfl, trivial⟩ trivial rfl ?_) | refine al_nil ?_ | refine ad_v (opx_cat (by first | omega | (simp only [List.length_append, List.length_cons, List.length_nil]; omega))) ⟨rfl, rfl, trivial⟩ trivial rfl ?_)) | (refine is_ad ?_; (first | (refine isd_move ?_; (first | refine ad_v (opx_move (.raw _)) ⟨rfl, trivial⟩ trivial rfl ?_ | refine ad_v (opx_move (.sl _ _)) ⟨rfl, trivial⟩ trivial rfl ?_)) | (refine isd_load ?_; refine ad_v opx_ld_imm ⟨rfl, trivial⟩ trivial rfl ?_) | (refine isd_fa ?_; (first | refine ad_v opx_fa_imm0 ⟨rfl, trivial⟩ trivial rfl ?_ | refine ad_v opx_fa_imm1 ⟨rfl, trivial⟩ trivial rfl ?_)) | (refine isd_assign ?_; refine ad_v (opx_assign (.raw _)) ⟨rfl, trivial⟩ trivial rfl ?_) | (refine isd_ia ?_; refine ad_v (opx_ia_sl2 hxr (by omega)) ⟨rfl, rfl, trivial⟩ trivial rfl ?_) | refine ad_nil (by kernel_rfl) ?_ | refine ad_v (opx_cat (by first | omega | (simp only [List.length_append, List.length_cons, List.length_nil]; omega))) ⟨rfl, rfl, trivial⟩ trivial rfl ?_)) | (refine is_aw ?_; (first | refine aw_seq ?_ | refine aw_region ?_ | refine aw_skip ?_ | refine aw_block ?_ | (refine is_cond ?_; (first | refine aw_cond_f rfl rfl ?_ | refine aw_cond_t rfl (by assumption) ?_)) | refine aw_draw mixed ?_)) | refine thn_n ?_)
      exact ⟨1, hlt, by omega, le_mk [] rfl rfl rfl rfl ⟨rfl, by rw [hs]; rfl, rfl, trivial⟩ trivial⟩
  · have hc1 : decide ((k : Int) < ((lbRs l).length : Int)) = false := decide_eq_false (by omega)
    rw [List.take_of_length_le hge] at hjl ⊢
    repeat' (first | (refine is_al ?_; (first | (refine is_move ?_; (first | refine al_v (opx_move (.raw _)) ⟨rfl, trivial⟩ trivial rfl ?_ | refine al_v (opx_move (.sl _ _)) ⟨rfl, trivial⟩ trivial rfl ?_)) | (refine is_bin ?_; refine al_v opx_lss ⟨rfl, rfl, trivial⟩ trivial rfl ?_) | (refine is_assign ?_; refine al_v (opx_assign (.raw _)) ⟨rfl, trivial⟩ trivial rfl ?_) | (refine is_bi ?_; refine al_v opx_len_sl ⟨rfl, trivial⟩ trivial rfl ?_) | refine al_nil ?_ | refine al_v (opx_cat (by first | omega | (simp only [List.length_append, List.length_cons, List.length_nil]; omega))) ⟨rfl, rfl, trivial⟩ trivial rfl ?_)) | (refine is_ad ?_; refine al_v (opx_cat (by first | omega | (simp only [List.length_append, List.length_cons, List.length_nil]; omega))) ⟨rfl, rfl, trivial⟩ trivial rfl ?_) | (refine is_aw ?_; (first | refine aw_seq ?_ | refine aw_region ?_ | refine aw_ret ?_ | refine aw_exit ?_ | (refine is_cond ?_; refine aw_cond_f rfl (by assumption) ?_))))
    exact ret_raw trivial rfl ⟨rfl, rfl⟩
end Go.Proofs.YtllgddednlfhfaaDoor
