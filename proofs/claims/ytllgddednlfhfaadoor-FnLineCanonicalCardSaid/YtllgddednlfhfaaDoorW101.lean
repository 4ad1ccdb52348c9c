/-
  Lines have three words: the law.
-/
import Derived.Test.YtllgddednlfhfaaDoorW100
import Derived.Test.YtllgddednlfhfaaDoorWG
namespace Go.Proofs.YtllgddednlfhfaaDoor
open Go.RowKit
set_option linter.unusedVariables false
set_option linter.unusedSimpArgs false
attribute [local irreducible] AL AW OpX Le AD

theorem c_someTime (bs : List UInt8) (p : Int) (hb : bs.length ≤ 1048576) (hp : 0 ≤ p ∧ p ≤ 1099511627770) :
    Con Tryd.prog 46 [rdA] [rdO bs p] (RdV bs fun r q => p ≤ q ∧ q ≤ p + 3 ∧ 0 ≤ r ∧ r ≤ 1000) := by
  refine con_of_aw (vars := [.tmp 2]) [(0, .ref 0 0)] [(0, rdO bs p)] 1 Tryd.func46 (by kernel_rfl) rfl Tryd.ntmps46 rfl (by decide) rfl rfl rfl rfl rfl ?_; intro B M w0 ρ0 Z0
  repeat' (first | (refine is_al ?_; (first | (refine is_move ?_; refine al_v (opx_move (.ref _ _)) ⟨rfl, trivial⟩ trivial rfl ?_) | (refine is_bin ?_; refine al_v (opx_mul (by unfold InR; omega)) ⟨rfl, rfl, trivial⟩ trivial rfl ?_) | (refine is_assign ?_; refine al_v (opx_assign (.raw _)) ⟨rfl, trivial⟩ trivial rfl ?_) | (refine is_call ?_; (refine al_rdv 0 rfl rfl (by (repeat (first | exact .nil | refine .one rfl rfl ?_ | refine .tag rfl ?_ | refine .froz rfl rfl ?_ | refine .rnil rfl ?_ | refine .agg rfl (by (repeat (first | exact .nil | refine .cons (.same rfl) ?_ | refine .cons (.froz rfl) ?_ | refine .cons (.rnil) ?_)); (first | done | fail)) ?_)); (first | done | fail)) rfl (c_pick _ _ _ hb (by omega) (by omega)) ?_; rintro r q ⟨rfl, ha1, ha2, ha3⟩)) | refine al_nil ?_)) | (refine is_aw ?_; (first | refine aw_seq ?_ | refine aw_region ?_)))
  rename_i r1 hc1 hc2 hc3
  repeat' (first | (refine is_al ?_; (first | (refine is_assign ?_; refine al_v (opx_assign (.raw _)) ⟨rfl, trivial⟩ trivial rfl ?_) | (refine is_call ?_; (refine al_rdv 0 rfl rfl (by (repeat (first | exact .nil | refine .one rfl rfl ?_ | refine .tag rfl ?_ | refine .froz rfl rfl ?_ | refine .rnil rfl ?_ | refine .agg rfl (by (repeat (first | exact .nil | refine .cons (.same rfl) ?_ | refine .cons (.froz rfl) ?_ | refine .cons (.rnil) ?_)); (first | done | fail)) ?_)); (first | done | fail)) rfl (c_one _ _ _ hb (by omega) (by simp)) ?_; rintro r3 q3 ⟨rfl, hr⟩)) | refine al_nil ?_ | refine al_litI [0, 10, 20, 25, 100, 1000, r1, 4 * r, 30, 40] (by (repeat (first | exact .nil _ | refine .cons rfl ?_)); (first | done | fail)) rfl rfl rfl ?_)) | (refine is_ad ?_; refine al_litI [0, 10, 20, 25, 100, 1000, r1, 4 * r, 30, 40] (by (repeat (first | exact .nil _ | refine .cons rfl ?_)); (first | done | fail)) rfl rfl rfl ?_) | (refine is_aw ?_; refine aw_ret ?_))
  exact retm_raw trivial rfl rfl rfl ⟨_, _, rfl, rfl, by omega, by omega, by simp at hr; omega, by simp at hr; omega⟩
theorem c_anyPoint (bs : List UInt8) (p : Int) (hb : bs.length ≤ 1048576) (hp : 0 ≤ p ∧ p ≤ 1099511627000) :
    Con Tryd.prog 37 [rdA] [rdO bs p] (RdG bs (fun g : Int × Int => [ptA g.1 g.2]) fun g q => p ≤ q ∧ q ≤ p + 10) := by
  refine con_of_aw (vars := [.cell 2 29]) [(0, .ref 0 0)] [(0, rdO bs p)] 1 Tryd.func37 (by kernel_rfl) rfl Tryd.ntmps37 rfl (by decide) rfl rfl rfl rfl rfl ?_; intro B M w0 ρ0 Z0
  repeat' (first | (refine is_al ?_; (first | (refine is_move ?_; refine al_v (opx_move (.ref _ _)) ⟨rfl, trivial⟩ trivial rfl ?_) | (refine is_bin ?_; refine al_v opx_eql ⟨rfl, rfl, trivial⟩ trivial rfl ?_) | (refine is_load ?_; refine al_v opx_ld2_box ⟨rfl, trivial⟩ ⟨rfl, trivial⟩ rfl ?_) | (refine is_fa ?_; refine al_v opx_fa_ref ⟨rfl, trivial⟩ trivial rfl ?_) | (refine is_assign ?_; refine al_v (opx_assign (.raw _)) ⟨rfl, trivial⟩ trivial rfl ?_) | (refine is_call ?_; (first | (refine al_rdv 0 rfl rfl (by (repeat (first | exact .nil | refine .one rfl rfl ?_ | refine .tag rfl ?_ | refine .froz rfl rfl ?_ | refine .rnil rfl ?_ | refine .agg rfl (by (repeat (first | exact .nil | refine .cons (.same rfl) ?_ | refine .cons (.froz rfl) ?_ | refine .cons (.rnil) ?_)); (first | done | fail)) ?_)); (first | done | fail)) rfl (c_someTime _ _ hb (by omega)) ?_; rintro r q ⟨ha1, ha2, ha3, ha4⟩) | (refine al_rdv 0 rfl rfl (by (repeat (first | exact .nil | refine .one rfl rfl ?_ | refine .tag rfl ?_ | refine .froz rfl rfl ?_ | refine .rnil rfl ?_ | refine .agg rfl (by (repeat (first | exact .nil | refine .cons (.same rfl) ?_ | refine .cons (.froz rfl) ?_ | refine .cons (.rnil) ?_)); (first | done | fail)) ?_)); (first | done | fail)) rfl (c_someValue _ _ hb (by omega)) ?_; rintro r q ⟨hb1, hb2, hb3, hb4⟩) | (refine al_rdv 0 rfl rfl (by (repeat (first | exact .nil | refine .one rfl rfl ?_ | refine .tag rfl ?_ | refine .froz rfl rfl ?_ | refine .rnil rfl ?_ | refine .agg rfl (by (repeat (first | exact .nil | refine .cons (.same rfl) ?_ | refine .cons (.froz rfl) ?_ | refine .cons (.rnil) ?_)); (first | done | fail)) ?_)); (first | done | fail)) rfl (c_pick _ _ _ hb (by omega) (by omega)) ?_; rintro r q ⟨rfl, hc1, hc2, hc3⟩) | (refine al_rdv 0 rfl rfl (by (repeat (first | exact .nil | refine .one rfl rfl ?_ | refine .tag rfl ?_ | refine .froz rfl rfl ?_ | refine .rnil rfl ?_ | refine .agg rfl (by (repeat (first | exact .nil | refine .cons (.same rfl) ?_ | refine .cons (.froz rfl) ?_ | refine .cons (.rnil) ?_)); (first | done | fail)) ?_)); (first | done | fail)) rfl (c_one _ _ _ hb (by omega) (by simp)) ?_; rintro r3 q3 ⟨rfl, hr⟩))) | (refine is_st ?_; (first | refine al_s (opx_st1_box (by rfl)) ⟨rfl, rfl, trivial⟩ ⟨rfl, trivial⟩ ?_ | refine al_s (opx_sts_box (by rfl) (by rfl)) ⟨rfl, rfl, trivial⟩ ⟨rfl, trivial⟩ ?_)) | refine al_v (opx_build2 (res := [_, _]) rfl) ⟨rfl, rfl, trivial⟩ trivial rfl ?_ | refine al_n opx_alloc trivial trivial rfl ?_ | refine al_nil ?_ | refine al_litI [-1, 1001] (by (repeat (first | exact .nil _ | refine .cons rfl ?_)); (first | done | fail)) rfl rfl rfl ?_ | refine al_litI [-1001, 1001] (by (repeat (first | exact .nil _ | refine .cons rfl ?_)); (first | done | fail)) rfl rfl rfl ?_)) | (refine is_ad ?_; (first | refine al_litI [-1, 1001] (by (repeat (first | exact .nil _ | refine .cons rfl ?_)); (first | done | fail)) rfl rfl rfl ?_ | refine al_litI [-1001, 1001] (by (repeat (first | exact .nil _ | refine .cons rfl ?_)); (first | done | fail)) rfl rfl rfl ?_)) | (refine is_aw ?_; (first | refine aw_seq ?_ | refine aw_region ?_ | refine aw_skip ?_ | refine aw_block ?_ | refine aw_ret ?_ | (refine is_cond ?_; (refine aw_cond rfl ?_ ?_ <;> ((intro hgd; try exact absurd hgd (by decide)); (try (have hz := hgd; simp only [decide_eq_true_eq, decide_eq_false_iff_not, Bool.not_eq_true', Bool.not_eq_false', Bool.not_true, Bool.not_false, beq_iff_eq, Int.not_le, Int.not_lt] at hz)); (try (exfalso; omega))))))))
  all_goals exact retm_cell trivial rfl rfl (by kernel_rfl) rfl rfl rfl ⟨(_, _), _, rfl, rfl, rfl, by omega, by omega⟩
theorem c_drawFormatLine (bs : List UInt8) (hb : bs.length ≤ 1048576) : Con Tryd.prog 15 [slB bs] [] (fun rs all => ∃ g : List Lb × Int × Int, rs = [.one (.own 0), ptA g.2.1 g.2.2] ∧ all = [.row 2 52 (lbRs g.1)] ∧ g.1.length ≤ 5 ∧ ∀ x ∈ g.1, smL x) := by
  refine con_of_aw (vars := [.tmp 2, .cell 3 29]) [(0, .r (slB bs))] [] 0 Tryd.func15 (by kernel_rfl) rfl Tryd.ntmps15 rfl (by decide) rfl rfl rfl rfl rfl ?_; intro B M w0 ρ0 Z0
  repeat' (first | (refine is_al ?_; (first | (refine is_move ?_; (first | refine al_v (opx_move (.sl _ _)) ⟨rfl, trivial⟩ trivial rfl ?_ | refine al_v (opx_move (.own _)) ⟨rfl, trivial⟩ trivial rfl ?_ | refine al_v (opx_move (.ref _ _)) ⟨rfl, trivial⟩ trivial rfl ?_)) | (refine is_assign ?_; (first | refine al_v (opx_assign (.raw _)) ⟨rfl, trivial⟩ trivial rfl ?_ | refine al_v (opx_assign (.own _)) ⟨rfl, trivial⟩ trivial rfl ?_ | refine al_v (opx_assign (.ref _ _)) ⟨rfl, trivial⟩ trivial rfl ?_)) | (refine is_call ?_; (first | (refine al_newrd (by (repeat (first | exact .nil | refine .one rfl rfl ?_ | refine .froz rfl rfl ?_ | refine .rnil rfl ?_ | refine .agg rfl (by (repeat (first | exact .nil | refine .cons (.same rfl) ?_ | refine .cons (.froz rfl) ?_ | refine .cons (.rnil) ?_)); (first | done | fail)) ?_)); (first | done | fail)) rfl (c_newReader bs hb) ?_; rintro bs hbs) | (refine al_rdr 1 rfl rfl (by (repeat (first | exact .nil | refine .one rfl rfl ?_ | refine .tag rfl ?_ | refine .froz rfl rfl ?_ | refine .rnil rfl ?_ | refine .agg rfl (by (repeat (first | exact .nil | refine .cons (.same rfl) ?_ | refine .cons (.froz rfl) ?_ | refine .cons (.rnil) ?_)); (first | done | fail)) ?_)); (first | done | fail)) rfl (c_anyLabels _ _ hbs (by omega)) ?_; rintro _ q1 ⟨l, rfl, h1, h2, h3, h4⟩) | (refine al_rdg 1 rfl rfl (by (repeat (first | exact .nil | refine .one rfl rfl ?_ | refine .tag rfl ?_ | refine .froz rfl rfl ?_ | refine .rnil rfl ?_ | refine .agg rfl (by (repeat (first | exact .nil | refine .cons (.same rfl) ?_ | refine .cons (.froz rfl) ?_ | refine .cons (.rnil) ?_)); (first | done | fail)) ?_)); (first | done | fail)) rfl (c_anyPoint _ _ hbs (by omega)) ?_; rintro ⟨t, v⟩ q2 ⟨h5, h6⟩; dsimp only at h5 h6 ⊢))) | (refine is_st ?_; refine al_s (opx_sts_box (by rfl) (by rfl)) ⟨rfl, rfl, trivial⟩ ⟨rfl, trivial⟩ ?_) | refine al_n opx_alloc trivial trivial rfl ?_ | refine al_nil ?_)) | (refine is_aw ?_; (first | refine aw_seq ?_ | refine aw_region ?_ | refine aw_ret ?_)))
  exact ret_row_cell trivial rfl rfl rfl rfl (by kernel_rfl) rfl rfl ⟨(_, _, _), rfl, rfl, h3, h4⟩
theorem c_drawFormatLine' (bs : List UInt8) (hb : bs.length ≤ 1048576) : Con Tryd.prog 15 [slB bs] [] (fun rs all => ∃ g : List Lb × Int × Int, rs = [slL g.1, ptA g.2.1 g.2.2] ∧ all = [] ∧ noTags rs = true ∧ g.1.length ≤ 5 ∧ ∀ x ∈ g.1, smL x) :=
  (c_drawFormatLine bs hb).froz fun rs all ⟨g, h1, h2, h3⟩ => by
    subst h1 h2
    exact ⟨⟨g, rfl, rfl, rfl, h3⟩, rfl⟩
theorem bigSx {l : List Lb} (h : ∀ x ∈ l, smL x) : ∀ x ∈ l, BIG x.1.length ∧ BIG x.2.length := fun x hx => by have := h x hx; exact ⟨by unfold BIG; omega, by unfold BIG; omega⟩
/-! ### no spaces -/
theorem dec_low : ∀ (n : Nat) {u : Nat}, u ≤ n → ∀ c ∈ Lib.decDigits u, 48 ≤ c.toNat ∧ c.toNat ≤ 57
  | n, u, h, c, hc => by
    by_cases h1 : u < 10
    · rw [dec_small h1] at hc
      obtain rfl := List.mem_singleton.1 hc
      rw [UInt8.toNat_ofNat']; omega
    · rw [dec_big h1] at hc
      rcases List.mem_append.1 hc with hc | hc
      · match n with
        | 0 => omega
        | n + 1 => exact dec_low n (by omega) c hc
      · obtain rfl := List.mem_singleton.1 hc
        rw [UInt8.toNat_ofNat']; omega
theorem itoa_no (n : Int) : (32 : UInt8) ∉ Lib.itoa n := by
  intro h
  unfold Lib.itoa at h
  split at h
  · rcases List.mem_cons.1 h with h | h
    · cases h
    · have := dec_low _ (Nat.le_refl _) _ h
      exact absurd this (by decide)
  · have := dec_low _ (Nat.le_refl _) _ h
    exact absurd this (by decide)
theorem mem_jn {c d : UInt8} (hcd : d ≠ c) : ∀ {l : List Str}, (∀ p ∈ l, d ∉ p) → d ∉ jn c l
  | [], _, h => by cases h
  | [x], hl, h => hl x (.head _) h
  | x :: y :: r, hl, h => by
    rw [jn_cons (by simp)] at h
    rcases List.mem_append.1 h with h | h
    · exact hl x (.head _) h
    · rcases List.mem_cons.1 h with h | h
      · exact hcd h
      · exact mem_jn hcd (fun p hp => hl p (.tail _ hp)) h
theorem txt_no {l : List Lb} (h : VL l) : (32 : UInt8) ∉ txt l := by
  intro hm
  rw [txt] at hm
  rcases List.mem_cons.1 hm with hm | hm
  · cases hm
  · rcases List.mem_append.1 hm with hm | hm
    · refine mem_jn (by decide) (fun p hp => ?_) hm
      obtain ⟨x, hx, rfl⟩ := List.mem_map.1 hp
      obtain ⟨a, b⟩ := VL_mem h hx
      intro h1
      rcases List.mem_append.1 h1 with h1 | h1
      · exact vw_not a (by decide) h1
      · rcases List.mem_cons.1 h1 with h1 | h1
        · cases h1
        · exact vw_not b (by decide) h1
    · simp at hm
theorem lnT_count {l : List Lb} {t v : Int} (h : VL l) : (lnT l t v).count 32 = 2 := by
  rw [lnT, List.count_append, List.count_append, List.count_append, List.count_append, List.count_eq_zero.2 (txt_no h), List.count_eq_zero.2 (itoa_no v), List.count_eq_zero.2 (itoa_no t)]; rfl
theorem c_fnLineText (bs : List UInt8) : Con Tryd.prog 4 [slB bs] [] (fun rs all => rs = [rB true] ∧ all = []) := by
  have hlen := byRs_len (bs := bs)
  refine con_of_aw (vars := [.tmp 2]) [(0, .r (slB bs))] [] 0 Tryd.func4 (by kernel_rfl) rfl Tryd.ntmps4 rfl (by decide) rfl rfl rfl rfl rfl ?_; intro B M w0 ρ0 Z0
  repeat' (first | (refine is_al ?_; (first | (refine is_move ?_; (first | refine al_v (opx_move (.sl _ _)) ⟨rfl, trivial⟩ trivial rfl ?_ | refine al_v (opx_move (.tup _)) ⟨rfl, trivial⟩ trivial rfl ?_)) | (refine is_bin ?_; refine al_v opx_gtr ⟨rfl, rfl, trivial⟩ trivial rfl ?_) | (refine is_load ?_; refine al_v opx_ld2_box ⟨rfl, trivial⟩ ⟨rfl, trivial⟩ rfl ?_) | (refine is_assign ?_; (first | refine al_v (opx_assign (.raw _)) ⟨rfl, trivial⟩ trivial rfl ?_ | refine al_v (opx_assign (.sl _ _)) ⟨rfl, trivial⟩ trivial rfl ?_)) | (refine is_bi ?_; refine al_v opx_len_sl ⟨rfl, trivial⟩ trivial rfl ?_) | (refine is_call ?_; (refine al_callE (by (repeat (first | exact .nil | refine .one rfl rfl ?_ | refine .froz rfl rfl ?_ | refine .rnil rfl ?_ | refine .agg rfl (by (repeat (first | exact .nil | refine .cons (.same rfl) ?_ | refine .cons (.froz rfl) ?_ | refine .cons (.rnil) ?_)); (first | done | fail)) ?_)); (first | done | fail)) rfl (c_drawFormatLine' _ (by omega)) ?_; rintro ⟨l, t, v⟩ ⟨h1, h2⟩; dsimp only at h1 h2 ⊢)) | (refine is_st ?_; refine al_s (opx_sts_box (by rfl) (by rfl)) ⟨rfl, rfl, trivial⟩ ⟨rfl, trivial⟩ ?_) | refine al_v (opx_extract _ rfl) ⟨rfl, trivial⟩ trivial rfl ?_ | refine al_n opx_alloc trivial trivial rfl ?_ | refine al_nil ?_)) | (refine is_aw ?_; (first | refine aw_seq ?_ | refine aw_region ?_ | refine aw_skip ?_ | refine aw_ret ?_ | (refine is_cond ?_; (refine aw_cond rfl ?_ ?_ <;> ((intro hgd; try exact absurd hgd (by decide)); (try (have hz := hgd; simp only [decide_eq_true_eq, decide_eq_false_iff_not, Bool.not_eq_true', Bool.not_eq_false', Bool.not_true, Bool.not_false, beq_iff_eq, Int.not_le, Int.not_lt] at hz)); (try (exfalso; omega))))))) | refine thn_r ?_)
  · exact ret_raw trivial rfl ⟨congrArg (fun b => [rB b]) (rfl), rfl⟩
  clear hz hlen; repeat clear hgd
  have n1 : (!true) = false := rfl
  have n2 : (!false) = true := rfl
  have g3 := bigSx h2
  have hlr := lbRs_len (xs := l)
  have c1 := c_FormatLine l t v g3 (by unfold BIG; omega)
  have c2 := c_sFormatLine l t v g3 (by unfold BIG; omega)
  cases hv : lnB l t v
  · have e : lnF l t v = [] := by rw [lnF, hv]; rfl
    rw [e] at c1 c2
    have q1 : (!decide (([] : Str) = [])) = false := by rw [eqD]; rfl
    have q2 : decide (([] : Str) = []) = true := eqD _
    repeat' (first | (refine is_al ?_; (first | (refine is_gd ?_; refine al_on rfl rfl rfl (by assumption) ?_) | (refine is_move ?_; (first | refine al_v (opx_move (.raw _)) ⟨rfl, trivial⟩ trivial rfl ?_ | refine al_v (opx_move (.sl _ _)) ⟨rfl, trivial⟩ trivial rfl ?_)) | (refine is_bin ?_; (first | refine al_v opx_seql ⟨rfl, rfl, trivial⟩ trivial rfl ?_ | refine al_v opx_sneq ⟨rfl, rfl, trivial⟩ trivial rfl ?_)) | (refine is_load ?_; refine al_v opx_ld2_box ⟨rfl, trivial⟩ ⟨rfl, trivial⟩ rfl ?_) | (refine is_assign ?_; refine al_v (opx_assign (.raw _)) ⟨rfl, trivial⟩ trivial rfl ?_) | (refine is_pick ?_; refine al_v (opx_pick_f (.raw _) rfl) ⟨rfl, rfl, trivial⟩ trivial rfl ?_) | (refine is_call ?_; (first | refine al_callv2 (by (repeat (first | exact .nil | refine .one rfl rfl ?_ | refine .froz rfl rfl ?_ | refine .row rfl rfl ?_ | refine .rnil rfl ?_ | refine .agg rfl (by (repeat (first | exact .nil | refine .cons (.same rfl) ?_ | refine .cons (.froz rfl) ?_ | refine .cons (.rnil) ?_ | refine .cons (.row rfl rfl) ?_)); (first | done | fail)) ?_)); (first | done | fail)) rfl (c1) rfl ?_ | refine al_callv2 (by (repeat (first | exact .nil | refine .one rfl rfl ?_ | refine .froz rfl rfl ?_ | refine .row rfl rfl ?_ | refine .rnil rfl ?_ | refine .agg rfl (by (repeat (first | exact .nil | refine .cons (.same rfl) ?_ | refine .cons (.froz rfl) ?_ | refine .cons (.rnil) ?_ | refine .cons (.row rfl rfl) ?_)); (first | done | fail)) ?_)); (first | done | fail)) rfl (c2) rfl ?_)) | refine al_nil ?_)) | (refine is_aw ?_; (first | refine aw_seq ?_ | refine aw_region ?_ | refine aw_ret ?_ | (refine is_cond ?_; refine aw_cond_t rfl rfl ?_))) | refine thn_r ?_)
    exact ret_raw trivial rfl ⟨congrArg (fun b => [rB b]) (q2), rfl⟩
  · have e : lnF l t v = lnT l t v := by rw [lnF, if_pos hv]
    rw [e] at c1 c2
    unfold lnB at hv
    simp only [Bool.and_eq_true, decide_eq_true_eq] at hv
    obtain ⟨hvl, hvp⟩ := hv
    have hV := vlB_of hvl
    have hcnt := lnT_count (t := t) (v := v) hV
    have l1 := txt_len' hV
    have l2 := itoa_len (n := v) (by omega)
    have l3 := itoa_len (n := t) (by omega)
    have c3 := c_FormatLabels l g3 (by unfold BIG; omega)
    rw [fmt_t hvl] at c3
    have hT : lnT l t v = txt l ++ ([32] ++ Lib.itoa v ++ [32] ++ Lib.itoa t) := by simp only [lnT, List.append_assoc]
    have htl : (lnT l t v).length = (txt l).length + ((Lib.itoa v).length + (Lib.itoa t).length + 2) := by
      simp only [lnT, List.length_append, List.length_cons, List.length_nil]; omega
    have htk : ((lnT l t v).take (txt l).length).drop 0 = txt l := by rw [List.drop_zero, hT, List.take_left']; rfl
    have q1 : (!decide (lnT l t v = lnT l t v)) = false := by rw [eqD]; rfl
    have q2 : decide (lnT l t v = []) = false := decide_eq_false fun h => by rw [h] at htl; simp at htl
    clear hT
    repeat' (first | (refine is_al ?_; (first | (refine is_gd ?_; refine al_on rfl rfl rfl (by assumption) ?_) | (refine is_move ?_; (first | refine al_v (opx_move (.raw _)) ⟨rfl, trivial⟩ trivial rfl ?_ | refine al_v (opx_move (.sl _ _)) ⟨rfl, trivial⟩ trivial rfl ?_)) | (refine is_bin ?_; (first | refine al_v opx_seql ⟨rfl, rfl, trivial⟩ trivial rfl ?_ | refine al_v opx_sneq ⟨rfl, rfl, trivial⟩ trivial rfl ?_)) | (refine is_load ?_; refine al_v opx_ld2_box ⟨rfl, trivial⟩ ⟨rfl, trivial⟩ rfl ?_) | (refine is_assign ?_; refine al_v (opx_assign (.raw _)) ⟨rfl, trivial⟩ trivial rfl ?_) | (refine is_pick ?_; refine al_v (opx_pick_f (.raw _) (by assumption)) ⟨rfl, rfl, trivial⟩ trivial rfl ?_) | (refine is_call ?_; (first | refine al_callv2 (by (repeat (first | exact .nil | refine .one rfl rfl ?_ | refine .froz rfl rfl ?_ | refine .row rfl rfl ?_ | refine .rnil rfl ?_ | refine .agg rfl (by (repeat (first | exact .nil | refine .cons (.same rfl) ?_ | refine .cons (.froz rfl) ?_ | refine .cons (.rnil) ?_ | refine .cons (.row rfl rfl) ?_)); (first | done | fail)) ?_)); (first | done | fail)) rfl (c1) rfl ?_ | refine al_callv2 (by (repeat (first | exact .nil | refine .one rfl rfl ?_ | refine .froz rfl rfl ?_ | refine .row rfl rfl ?_ | refine .rnil rfl ?_ | refine .agg rfl (by (repeat (first | exact .nil | refine .cons (.same rfl) ?_ | refine .cons (.froz rfl) ?_ | refine .cons (.rnil) ?_ | refine .cons (.row rfl rfl) ?_)); (first | done | fail)) ?_)); (first | done | fail)) rfl (c2) rfl ?_)) | refine al_nil ?_)) | (refine is_aw ?_; (first | refine aw_seq ?_ | refine aw_region ?_ | refine aw_skip ?_ | refine aw_block ?_ | (refine is_cond ?_; refine aw_cond_f rfl rfl ?_))))
    generalize lnT l t v = T at hcnt htl htk q1 q2
    refine aw_loop (γ := Nat) (fun k => [(3, .r (slL l)), (5, .str T), (6, .i ((T.take k).count 32 : Int)), (7, .i (k : Int))]) (fun _ => []) (fun _ => 0) (fun k => k ≤ T.length) (fun k => T.length - k) 0 (Nat.zero_le _) (le_mk [] rfl rfl rfl rfl ⟨rfl, rfl, rfl, rfl, trivial⟩ trivial) ?_
    intro k hk
    have hcl := List.count_le_length (a := (32 : UInt8)) (l := T.take k)
    rw [List.length_take] at hcl
    rcases Nat.lt_or_ge k T.length with hlt | hge
    · have hc1 : decide ((k : Int) < (T.length : Int)) = true := decide_eq_true (by omega)
      obtain ⟨c, hc⟩ : ∃ c, T[k]? = some c := ⟨_, List.getElem?_eq_getElem hlt⟩
      have ht := count_take (a := 32) hc
      by_cases e : c = 32
      · have d1 : decide ((c.toNat : Int) = 32) = true := decide_eq_true (by rw [e]; rfl)
        rw [if_pos e] at ht
        repeat' (first | (refine is_al ?_; (first | (refine is_move ?_; refine al_v (opx_move (.raw _)) ⟨rfl, trivial⟩ trivial rfl ?_) | (refine is_bin ?_; (first | refine al_v opx_eql ⟨rfl, rfl, trivial⟩ trivial rfl ?_ | refine al_v opx_lss ⟨rfl, rfl, trivial⟩ trivial rfl ?_ | refine al_v (opx_add (by unfold InR; omega)) ⟨rfl, rfl, trivial⟩ trivial rfl ?_)) | (refine is_assign ?_; refine al_v (opx_assign (.raw _)) ⟨rfl, trivial⟩ trivial rfl ?_) | (refine is_bi ?_; refine al_v opx_len_str ⟨rfl, trivial⟩ trivial rfl ?_) | refine al_nil ?_ | refine al_v (opx_sidx (k := k) rfl hc) ⟨rfl, rfl, trivial⟩ trivial rfl ?_)) | (refine is_ad ?_; refine al_v (opx_sidx (k := k) rfl hc) ⟨rfl, rfl, trivial⟩ trivial rfl ?_) | (refine is_aw ?_; (first | refine aw_seq ?_ | refine aw_region ?_ | refine aw_skip ?_ | refine aw_block ?_ | (refine is_cond ?_; refine aw_cond_t rfl (by assumption) ?_))) | refine thn_n ?_)
        exact ⟨k + 1, hlt, by omega, le_mk [] rfl rfl rfl rfl ⟨rfl, rfl, by rw [ht]; rfl, rfl, trivial⟩ trivial⟩
      · have d1 : decide ((c.toNat : Int) = 32) = false := decide_eq_false fun h => e (UInt8.toNat_inj.1 (by show c.toNat = 32; omega))
        rw [if_neg e] at ht
        repeat' (first | (refine is_al ?_; (first | (refine is_move ?_; refine al_v (opx_move (.raw _)) ⟨rfl, trivial⟩ trivial rfl ?_) | (refine is_bin ?_; (first | refine al_v opx_eql ⟨rfl, rfl, trivial⟩ trivial rfl ?_ | refine al_v opx_lss ⟨rfl, rfl, trivial⟩ trivial rfl ?_ | refine al_v (opx_add (by unfold InR; omega)) ⟨rfl, rfl, trivial⟩ trivial rfl ?_)) | (refine is_assign ?_; refine al_v (opx_assign (.raw _)) ⟨rfl, trivial⟩ trivial rfl ?_) | (refine is_bi ?_; refine al_v opx_len_str ⟨rfl, trivial⟩ trivial rfl ?_) | refine al_nil ?_ | refine al_v (opx_sidx (k := k) rfl hc) ⟨rfl, rfl, trivial⟩ trivial rfl ?_)) | (refine is_ad ?_; refine al_v (opx_sidx (k := k) rfl hc) ⟨rfl, rfl, trivial⟩ trivial rfl ?_) | (refine is_aw ?_; (first | refine aw_seq ?_ | refine aw_region ?_ | refine aw_skip ?_ | refine aw_block ?_ | (refine is_cond ?_; (first | refine aw_cond_t rfl (by assumption) ?_ | refine aw_cond_f rfl (by assumption) ?_)))) | refine thn_n ?_)
        exact ⟨k + 1, hlt, by omega, le_mk [] rfl rfl rfl rfl ⟨rfl, rfl, by rw [ht]; rfl, rfl, trivial⟩ trivial⟩
    · have hc1 : decide ((k : Int) < (T.length : Int)) = false := decide_eq_false (by omega)
      rw [List.take_of_length_le hge, hcnt]
      have d1 : decide (((2 : Nat) : Int) = 2) = true := rfl
      have d2 : decide (((txt l).length : Int) < (T.length : Int)) = true := decide_eq_true (by omega)
      have d3 : decide (txt l = txt l) = true := eqD _
      repeat' (first | (refine is_al ?_; (first | refine al_on rfl rfl rfl (by assumption) ?_ | (refine is_gd ?_; refine al_on rfl rfl rfl (by assumption) ?_) | (refine is_move ?_; (first | refine al_v (opx_move (.raw _)) ⟨rfl, trivial⟩ trivial rfl ?_ | refine al_v (opx_move (.sl _ _)) ⟨rfl, trivial⟩ trivial rfl ?_)) | (refine is_bin ?_; (first | refine al_v opx_eql ⟨rfl, rfl, trivial⟩ trivial rfl ?_ | refine al_v opx_lss ⟨rfl, rfl, trivial⟩ trivial rfl ?_ | refine al_v opx_gtr ⟨rfl, rfl, trivial⟩ trivial rfl ?_ | refine al_v opx_seql ⟨rfl, rfl, trivial⟩ trivial rfl ?_)) | (refine is_assign ?_; refine al_v (opx_assign (.raw _)) ⟨rfl, trivial⟩ trivial rfl ?_) | (refine is_pick ?_; (first | refine al_v (opx_pick_t (.raw _) rfl) ⟨rfl, rfl, trivial⟩ trivial rfl ?_ | refine al_v (opx_pick_t (.raw _) (by assumption)) ⟨rfl, rfl, trivial⟩ trivial rfl ?_)) | (refine is_bi ?_; refine al_v opx_len_str ⟨rfl, trivial⟩ trivial rfl ?_) | (refine is_call ?_; refine al_callv2 (by (repeat (first | exact .nil | refine .one rfl rfl ?_ | refine .froz rfl rfl ?_ | refine .row rfl rfl ?_ | refine .rnil rfl ?_ | refine .agg rfl (by (repeat (first | exact .nil | refine .cons (.same rfl) ?_ | refine .cons (.froz rfl) ?_ | refine .cons (.rnil) ?_ | refine .cons (.row rfl rfl) ?_)); (first | done | fail)) ?_)); (first | done | fail)) rfl (c3) rfl ?_) | refine al_nil ?_ | refine al_v (opx_cutH_str (h := (txt l).length) htk rfl (by omega)) ⟨rfl, rfl, trivial⟩ trivial rfl ?_)) | (refine is_ad ?_; (first | refine al_on rfl rfl rfl (by assumption) ?_ | refine al_v (opx_cutH_str (h := (txt l).length) htk rfl (by omega)) ⟨rfl, rfl, trivial⟩ trivial rfl ?_)) | (refine is_aw ?_; (first | refine aw_seq ?_ | refine aw_region ?_ | refine aw_ret ?_ | refine aw_exit ?_ | (refine is_cond ?_; refine aw_cond_f rfl (by assumption) ?_))))
      exact ret_raw trivial rfl ⟨congrArg (fun b => [rB b]) (d3), rfl⟩
end Go.Proofs.YtllgddednlfhfaaDoor
