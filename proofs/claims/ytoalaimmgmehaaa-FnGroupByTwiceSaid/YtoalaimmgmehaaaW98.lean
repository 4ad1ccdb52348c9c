/-
  Groups without names, groups of groups: the laws.
-/
import Derived.Test.YtoalaimmgmehaaaW96
namespace Go.Proofs.Ytoalaimmgmehaaa
open Go.RowKit
set_option linter.unusedVariables false
set_option linter.unusedSimpArgs false
attribute [local irreducible] AL AW OpX Le AD

abbrev nm5 : List Str := [[97], [104, 111, 115, 116], [106, 111, 98], [122, 111, 110, 101], [122, 122]]
theorem nm_ok {s : Str} (h : s ∈ nm8) (hv : vw s) : s ∈ nm5 := by
  have hall : ∀ s ∈ nm8, vw s → s ∈ nm5 := by decide
  exact hall s h hv
theorem c_fnGroupByNone (bs : List UInt8) : Con Try.prog 10 [slB bs] [] (fun rs all => rs = [rB true] ∧ all = []) := by
  have hlen := byRs_len (bs := bs)
  refine con_of_aw (vars := [.tmp 2]) [(0, .r (slB bs))] [] 0 Try.func10 (by kernel_rfl) rfl Try.ntmps10 rfl (by decide) rfl rfl rfl rfl rfl ?_
  intro B M w0 ρ0 Z0
  repeat' (first | (refine is_al ?_; (first | (refine is_move ?_; (first | refine al_v (opx_move (.raw _)) ⟨rfl, trivial⟩ trivial rfl ?_ | refine al_v (opx_move (.sl _ _)) ⟨rfl, trivial⟩ trivial rfl ?_ | refine al_v (opx_move (.tup _)) ⟨rfl, trivial⟩ trivial rfl ?_)) | (refine is_bin ?_; refine al_v opx_gtr ⟨rfl, rfl, trivial⟩ trivial rfl ?_) | (refine is_assign ?_; (first | refine al_v (opx_assign (.raw _)) ⟨rfl, trivial⟩ trivial rfl ?_ | refine al_v (opx_assign (.sl _ _)) ⟨rfl, trivial⟩ trivial rfl ?_)) | (refine is_bi ?_; refine al_v opx_len_sl ⟨rfl, trivial⟩ trivial rfl ?_) | (refine is_call ?_; (refine al_callE (by (repeat (first | exact .nil | refine .one rfl rfl ?_ | refine .froz rfl rfl ?_ | refine .rnil rfl ?_ | refine .agg rfl (by (repeat (first | exact .nil | refine .cons (.same rfl) ?_ | refine .cons (.froz rfl) ?_ | refine .cons (.rnil) ?_)); (first | done | fail)) ?_)); (first | done | fail)) rfl (c_drawGroupBy' _ (by omega)) ?_; rintro ⟨l, ns, kind⟩ ⟨h1, h2, h3⟩; dsimp only at h1 h2 h3 ⊢)) | refine al_v (opx_extract _ rfl) ⟨rfl, trivial⟩ trivial rfl ?_ | refine al_nil ?_)) | (refine is_aw ?_; (first | refine aw_seq ?_ | refine aw_region ?_ | refine aw_skip ?_ | refine aw_ret ?_ | (refine is_cond ?_; (refine aw_cond rfl ?_ ?_ <;> ((intro hgd; try exact absurd hgd (by decide)); (try (have hz := hgd; simp only [decide_eq_true_eq, decide_eq_false_iff_not, Bool.not_eq_true', Bool.not_eq_false', Bool.not_true, Bool.not_false, beq_iff_eq, Int.not_le, Int.not_lt] at hz)); (try (exfalso; omega))))))) | refine thn_r ?_)
  · exact ret_raw trivial rfl ⟨congrArg (fun b => [rB b]) (rfl), rfl⟩
  clear hz hlen; repeat clear hgd
  have hb := okS_big h2
  have t0 : true = true := rfl
  have n1 : (!true) = false := rfl
  have n2 : (!false) = true := rfl
  have hE := eqD (grR ns kind l)
  have hE2 := neD (grR ns kind l)
  have hgl := grR_len (ns := ns) (k := kind) (l := l)
  have c1 := c_GroupBy' l ns kind (by omega) hb (by omega)
  have c2 := c_sGroupBy' l ns kind (by omega) hb (by omega)
  cases hv : grB l kind
  · rw [hv] at c1 c2
    have q1 := neBB false
    have q2 := eqBB false
    repeat' (first | (refine is_al ?_; (first | (refine is_gd ?_; refine al_on rfl rfl rfl (by assumption) ?_) | (refine is_move ?_; (first | refine al_v (opx_move (.raw _)) ⟨rfl, trivial⟩ trivial rfl ?_ | refine al_v (opx_move (.sl _ _)) ⟨rfl, trivial⟩ trivial rfl ?_ | refine al_v (opx_move (.tup _)) ⟨rfl, trivial⟩ trivial rfl ?_)) | (refine is_bin ?_; (first | refine al_v opx_beql ⟨rfl, rfl, trivial⟩ trivial rfl ?_ | refine al_v opx_bneq ⟨rfl, rfl, trivial⟩ trivial rfl ?_)) | (refine is_assign ?_; (first | refine al_v (opx_assign (.raw _)) ⟨rfl, trivial⟩ trivial rfl ?_ | refine al_v (opx_assign (.sl _ _)) ⟨rfl, trivial⟩ trivial rfl ?_)) | (refine is_pick ?_; (first | refine al_v (opx_pick_f (.raw _) rfl) ⟨rfl, rfl, trivial⟩ trivial rfl ?_ | refine al_v (opx_pick_t (.raw _) (by assumption)) ⟨rfl, rfl, trivial⟩ trivial rfl ?_ | refine al_v (opx_pick_f (.raw _) (by assumption)) ⟨rfl, rfl, trivial⟩ trivial rfl ?_)) | (refine is_call ?_; (first | refine al_callF (by (repeat (first | exact .nil | refine .one rfl rfl ?_ | refine .froz rfl rfl ?_ | refine .rnil rfl ?_ | refine .agg rfl (by (repeat (first | exact .nil | refine .cons (.same rfl) ?_ | refine .cons (.froz rfl) ?_ | refine .cons (.rnil) ?_)); (first | done | fail)) ?_)); (first | done | fail)) rfl (c1) rfl ?_ | refine al_callF (by (repeat (first | exact .nil | refine .one rfl rfl ?_ | refine .froz rfl rfl ?_ | refine .rnil rfl ?_ | refine .agg rfl (by (repeat (first | exact .nil | refine .cons (.same rfl) ?_ | refine .cons (.froz rfl) ?_ | refine .cons (.rnil) ?_)); (first | done | fail)) ?_)); (first | done | fail)) rfl (c2) rfl ?_ | refine al_callv2 (by (repeat (first | exact .nil | refine .one rfl rfl ?_ | refine .froz rfl rfl ?_ | refine .row rfl rfl ?_ | refine .rnil rfl ?_ | refine .agg rfl (by (repeat (first | exact .nil | refine .cons (.same rfl) ?_ | refine .cons (.froz rfl) ?_ | refine .cons (.rnil) ?_ | refine .cons (.row rfl rfl) ?_)); (first | done | fail)) ?_)); (first | done | fail)) rfl (c_equalSamples _ _ (by omega) grR_lab) rfl ?_)) | refine al_v opx_not ⟨rfl, trivial⟩ trivial rfl ?_ | refine al_v (opx_extract _ rfl) ⟨rfl, trivial⟩ trivial rfl ?_ | refine al_nil ?_)) | (refine is_aw ?_; (first | refine aw_seq ?_ | refine aw_region ?_ | refine aw_ret ?_ | (refine is_cond ?_; refine aw_cond_t rfl rfl ?_))) | refine thn_r ?_)
    exact ret_raw trivial rfl ⟨congrArg (fun b => [rB b]) (rfl), rfl⟩
  rw [hv] at c1 c2
  have q1 := neBB true
  obtain ⟨hV, hk⟩ := grB_of hv
  have h8 := hV.1
  have c3 := c_GroupBy' l [] kind (by omega) hb (Nat.zero_le _)
  have c4 := c_GroupBy' l nm5 0 (by omega) hb (by decide)
  rw [hv, grR_t hV hk] at c3
  rw [grB_t hV (by omega), grR_t hV (by omega)] at c4
  have hlr := smRs_len (xs := l)
  have l1 := grp_none (kind := kind) l
  have l2 := congrArg List.length (grp_full (ns := nm5) (kind := 0) l (VSm_nodup hV) fun s hs => keep_all fun x hx => nm_ok (((h2 s hs).1.2 x hx).2.2) (VL_mem (VSm_mem hV hs).1 hx).1)
  rw [List.length_map, List.length_map] at l2
  have l3 : grR ns kind l = grp ns kind l := grR_t hV hk
  have l4 : 0 < l.length → 0 < (grR ns kind l).length := fun h => by rw [l3]; exact grp_pos h
  generalize grp [] kind l = A at c3 l1
  generalize grp nm5 0 l = C at c4 l2
  have hA := smRs_len (xs := A)
  have hC := smRs_len (xs := C)
  have hR := smRs_len (xs := grR ns kind l)
  have d1 : decide (((smRs A).length : Int) = min 1 ((smRs l).length : Int)) = true := decide_eq_true (by omega)
  have d2 : decide (((smRs A).length : Int) ≤ ((smRs (grR ns kind l)).length : Int)) = true := decide_eq_true (by
    rcases Nat.eq_zero_or_pos l.length with h | h
    · omega
    · have := l4 h; omega)
  have d3 : decide (((smRs (grR ns kind l)).length : Int) ≤ ((smRs l).length : Int)) = true := decide_eq_true (by omega)
  have d4 : decide (((smRs C).length : Int) = ((smRs l).length : Int)) = true := decide_eq_true (by omega)
  repeat' (first | (refine is_al ?_; (first | (refine is_gd ?_; refine al_on rfl rfl rfl (by assumption) ?_) | (refine is_move ?_; (first | refine al_v (opx_move (.raw _)) ⟨rfl, trivial⟩ trivial rfl ?_ | refine al_v (opx_move (.sl _ _)) ⟨rfl, trivial⟩ trivial rfl ?_ | refine al_v (opx_move (.tup _)) ⟨rfl, trivial⟩ trivial rfl ?_)) | (refine is_bin ?_; (first | refine al_v opx_eql ⟨rfl, rfl, trivial⟩ trivial rfl ?_ | refine al_v opx_leq ⟨rfl, rfl, trivial⟩ trivial rfl ?_ | refine al_v opx_geq ⟨rfl, rfl, trivial⟩ trivial rfl ?_ | refine al_v opx_bneq ⟨rfl, rfl, trivial⟩ trivial rfl ?_)) | (refine is_assign ?_; (first | refine al_v (opx_assign (.raw _)) ⟨rfl, trivial⟩ trivial rfl ?_ | refine al_v (opx_assign (.sl _ _)) ⟨rfl, trivial⟩ trivial rfl ?_)) | (refine is_pick ?_; (first | refine al_v (opx_pick_t (.raw _) rfl) ⟨rfl, rfl, trivial⟩ trivial rfl ?_ | refine al_v (opx_pick_f (.raw _) rfl) ⟨rfl, rfl, trivial⟩ trivial rfl ?_ | refine al_v (opx_pick_t (.raw _) (by assumption)) ⟨rfl, rfl, trivial⟩ trivial rfl ?_ | refine al_v (opx_pick_f (.raw _) (by assumption)) ⟨rfl, rfl, trivial⟩ trivial rfl ?_)) | (refine is_bi ?_; (first | refine al_v opx_len_sl ⟨rfl, trivial⟩ trivial rfl ?_ | refine al_v opx_min2 ⟨rfl, rfl, trivial⟩ trivial rfl ?_)) | (refine is_call ?_; (first | refine al_callF (by (repeat (first | exact .nil | refine .one rfl rfl ?_ | refine .froz rfl rfl ?_ | refine .rnil rfl ?_ | refine .agg rfl (by (repeat (first | exact .nil | refine .cons (.same rfl) ?_ | refine .cons (.froz rfl) ?_ | refine .cons (.rnil) ?_)); (first | done | fail)) ?_)); (first | done | fail)) rfl (c1) rfl ?_ | refine al_callF (by (repeat (first | exact .nil | refine .one rfl rfl ?_ | refine .froz rfl rfl ?_ | refine .rnil rfl ?_ | refine .agg rfl (by (repeat (first | exact .nil | refine .cons (.same rfl) ?_ | refine .cons (.froz rfl) ?_ | refine .cons (.rnil) ?_)); (first | done | fail)) ?_)); (first | done | fail)) rfl (c2) rfl ?_ | refine al_callF (by (repeat (first | exact .nil | refine .one rfl rfl ?_ | refine .froz rfl rfl ?_ | refine .rnil rfl ?_ | refine .agg rfl (by (repeat (first | exact .nil | refine .cons (.same rfl) ?_ | refine .cons (.froz rfl) ?_ | refine .cons (.rnil) ?_)); (first | done | fail)) ?_)); (first | done | fail)) rfl (c3) rfl ?_ | refine al_callF (by (repeat (first | exact .nil | refine .one rfl rfl ?_ | refine .froz rfl rfl ?_ | refine .rnil rfl ?_ | refine .agg rfl (by (repeat (first | exact .nil | refine .cons (.same rfl) ?_ | refine .cons (.froz rfl) ?_ | refine .cons (.rnil) ?_)); (first | done | fail)) ?_)); (first | done | fail)) rfl (c4) rfl ?_ | refine al_callv2 (by (repeat (first | exact .nil | refine .one rfl rfl ?_ | refine .froz rfl rfl ?_ | refine .row rfl rfl ?_ | refine .rnil rfl ?_ | refine .agg rfl (by (repeat (first | exact .nil | refine .cons (.same rfl) ?_ | refine .cons (.froz rfl) ?_ | refine .cons (.rnil) ?_ | refine .cons (.row rfl rfl) ?_)); (first | done | fail)) ?_)); (first | done | fail)) rfl (c_equalSamples _ _ (by omega) grR_lab) rfl ?_)) | refine al_v opx_not ⟨rfl, trivial⟩ trivial rfl ?_ | refine al_v (opx_extract _ rfl) ⟨rfl, trivial⟩ trivial rfl ?_ | refine al_nil ?_ | refine al_litS nm5 (by (repeat (first | exact .nil _ | refine .cons rfl ?_)); (first | done | fail)) rfl rfl rfl ?_)) | (refine is_ad ?_; refine al_litS nm5 (by (repeat (first | exact .nil _ | refine .cons rfl ?_)); (first | done | fail)) rfl rfl rfl ?_) | (refine is_aw ?_; (first | refine aw_seq ?_ | refine aw_region ?_ | refine aw_skip ?_ | refine aw_ret ?_ | (refine is_cond ?_; refine aw_cond_f rfl rfl ?_))))
  exact ret_raw trivial rfl ⟨congrArg (fun b => [rB b]) (d4), rfl⟩
theorem grp_VS {ms : List Str} {l : List Sm} (hV : VSm l) : VSm (grp ms 2 l) :=
  VSm_mk (Nat.le_trans grp_len hV.1) (fun s hs => ⟨grp_VL l (fun t ht => (VSm_mem hV ht).1) s hs, grp_most_in l (fun t ht => (VSm_mem hV ht).2) s hs⟩) (grp_nodup l)
theorem VS_big {l : List Sm} (hV : VSm l) : smBig l := fun s hs => by
  obtain ⟨a, b, c⟩ := VSm_mem hV hs
  exact ⟨by have := a.1; omega, fun x hx => by obtain ⟨q1, q2⟩ := VL_mem a hx; exact ⟨by have := q1.2.1; unfold BIG; omega, by have := q2.2.1; unfold BIG; omega⟩, by omega, by omega⟩
theorem c_fnGroupByTwice (bs : List UInt8) : Con Try.prog 11 [slB bs] [] (fun rs all => rs = [rB true] ∧ all = []) := by
  have hlen := byRs_len (bs := bs)
  refine con_of_aw (vars := [.tmp 2]) [(0, .r (slB bs))] [] 0 Try.func11 (by kernel_rfl) rfl Try.ntmps11 rfl (by decide) rfl rfl rfl rfl rfl ?_
  intro B M w0 ρ0 Z0
  repeat' (first | (refine is_al ?_; (first | (refine is_move ?_; (first | refine al_v (opx_move (.raw _)) ⟨rfl, trivial⟩ trivial rfl ?_ | refine al_v (opx_move (.sl _ _)) ⟨rfl, trivial⟩ trivial rfl ?_ | refine al_v (opx_move (.tup _)) ⟨rfl, trivial⟩ trivial rfl ?_)) | (refine is_bin ?_; refine al_v opx_gtr ⟨rfl, rfl, trivial⟩ trivial rfl ?_) | (refine is_assign ?_; (first | refine al_v (opx_assign (.raw _)) ⟨rfl, trivial⟩ trivial rfl ?_ | refine al_v (opx_assign (.sl _ _)) ⟨rfl, trivial⟩ trivial rfl ?_)) | (refine is_bi ?_; refine al_v opx_len_sl ⟨rfl, trivial⟩ trivial rfl ?_) | (refine is_call ?_; (refine al_callE (by (repeat (first | exact .nil | refine .one rfl rfl ?_ | refine .froz rfl rfl ?_ | refine .rnil rfl ?_ | refine .agg rfl (by (repeat (first | exact .nil | refine .cons (.same rfl) ?_ | refine .cons (.froz rfl) ?_ | refine .cons (.rnil) ?_)); (first | done | fail)) ?_)); (first | done | fail)) rfl (c_drawGroupBy' _ (by omega)) ?_; rintro ⟨l, ns, kind⟩ ⟨h1, h2, h3⟩; dsimp only at h1 h2 h3 ⊢)) | refine al_v (opx_extract _ rfl) ⟨rfl, trivial⟩ trivial rfl ?_ | refine al_nil ?_)) | (refine is_aw ?_; (first | refine aw_seq ?_ | refine aw_region ?_ | refine aw_skip ?_ | refine aw_ret ?_ | (refine is_cond ?_; (refine aw_cond rfl ?_ ?_ <;> ((intro hgd; try exact absurd hgd (by decide)); (try (have hz := hgd; simp only [decide_eq_true_eq, decide_eq_false_iff_not, Bool.not_eq_true', Bool.not_eq_false', Bool.not_true, Bool.not_false, beq_iff_eq, Int.not_le, Int.not_lt] at hz)); (try (exfalso; omega))))))) | refine thn_r ?_)
  · exact ret_raw trivial rfl ⟨congrArg (fun b => [rB b]) (rfl), rfl⟩
  clear hz hlen; repeat clear hgd
  have hb := okS_big h2
  have t0 : true = true := rfl
  have n1 : (!true) = false := rfl
  have n2 : (!false) = true := rfl
  have hE := eqD (grR ns kind l)
  have hE2 := neD (grR ns kind l)
  have hgl := grR_len (ns := ns) (k := kind) (l := l)
  have c1 := c_GroupBy' l ns kind (by omega) hb (by omega)
  have c2 := c_sGroupBy' l ns kind (by omega) hb (by omega)
  cases hv : grB l kind
  · rw [hv] at c1 c2
    have q1 := neBB false
    have q2 := eqBB false
    repeat' (first | (refine is_al ?_; (first | (refine is_gd ?_; refine al_on rfl rfl rfl (by assumption) ?_) | (refine is_move ?_; (first | refine al_v (opx_move (.raw _)) ⟨rfl, trivial⟩ trivial rfl ?_ | refine al_v (opx_move (.sl _ _)) ⟨rfl, trivial⟩ trivial rfl ?_ | refine al_v (opx_move (.tup _)) ⟨rfl, trivial⟩ trivial rfl ?_)) | (refine is_bin ?_; (first | refine al_v opx_beql ⟨rfl, rfl, trivial⟩ trivial rfl ?_ | refine al_v opx_bneq ⟨rfl, rfl, trivial⟩ trivial rfl ?_)) | (refine is_assign ?_; (first | refine al_v (opx_assign (.raw _)) ⟨rfl, trivial⟩ trivial rfl ?_ | refine al_v (opx_assign (.sl _ _)) ⟨rfl, trivial⟩ trivial rfl ?_)) | (refine is_pick ?_; (first | refine al_v (opx_pick_f (.raw _) rfl) ⟨rfl, rfl, trivial⟩ trivial rfl ?_ | refine al_v (opx_pick_t (.raw _) (by assumption)) ⟨rfl, rfl, trivial⟩ trivial rfl ?_ | refine al_v (opx_pick_f (.raw _) (by assumption)) ⟨rfl, rfl, trivial⟩ trivial rfl ?_)) | (refine is_call ?_; (first | refine al_callF (by (repeat (first | exact .nil | refine .one rfl rfl ?_ | refine .froz rfl rfl ?_ | refine .rnil rfl ?_ | refine .agg rfl (by (repeat (first | exact .nil | refine .cons (.same rfl) ?_ | refine .cons (.froz rfl) ?_ | refine .cons (.rnil) ?_)); (first | done | fail)) ?_)); (first | done | fail)) rfl (c1) rfl ?_ | refine al_callF (by (repeat (first | exact .nil | refine .one rfl rfl ?_ | refine .froz rfl rfl ?_ | refine .rnil rfl ?_ | refine .agg rfl (by (repeat (first | exact .nil | refine .cons (.same rfl) ?_ | refine .cons (.froz rfl) ?_ | refine .cons (.rnil) ?_)); (first | done | fail)) ?_)); (first | done | fail)) rfl (c2) rfl ?_ | refine al_callv2 (by (repeat (first | exact .nil | refine .one rfl rfl ?_ | refine .froz rfl rfl ?_ | refine .row rfl rfl ?_ | refine .rnil rfl ?_ | refine .agg rfl (by (repeat (first | exact .nil | refine .cons (.same rfl) ?_ | refine .cons (.froz rfl) ?_ | refine .cons (.rnil) ?_ | refine .cons (.row rfl rfl) ?_)); (first | done | fail)) ?_)); (first | done | fail)) rfl (c_equalSamples _ _ (by omega) grR_lab) rfl ?_)) | refine al_v opx_not ⟨rfl, trivial⟩ trivial rfl ?_ | refine al_v (opx_extract _ rfl) ⟨rfl, trivial⟩ trivial rfl ?_ | refine al_nil ?_)) | (refine is_aw ?_; (first | refine aw_seq ?_ | refine aw_region ?_ | refine aw_ret ?_ | (refine is_cond ?_; refine aw_cond_t rfl rfl ?_))) | refine thn_r ?_)
    exact ret_raw trivial rfl ⟨congrArg (fun b => [rB b]) (rfl), rfl⟩
  rw [hv] at c1 c2
  have q1 := neBB true
  obtain ⟨hV, hk⟩ := grB_of hv
  have h8 := hV.1
  have hV2 := grp_VS (ms := ns ++ [[106, 111, 98]]) hV
  have c3 := c_GroupBy' l (ns ++ [[106, 111, 98]]) 2 (by omega) hb (by simp; omega)
  have c4 := c_GroupBy' (grp (ns ++ [[106, 111, 98]]) 2 l) ns 2 (by have := hV2.1; omega) (VS_big hV2) (by omega)
  have c5 := c_GroupBy' l ns 2 (by omega) hb (by omega)
  rw [grB_t hV (by omega), grR_t hV (by omega)] at c3 c5
  rw [grB_t hV2 (by omega), grR_t hV2 (by omega), grp_grp (fun x hx => List.mem_append_left _ hx)] at c4
  have hlr := smRs_len (xs := l)
  have hsr := stRs_len (xs := ns)
  have hg := grp_len (ns := ns) (kind := 2) (l := l)
  have hgL : ∀ s ∈ grp ns 2 l, s.1.length ≤ 1000000 := fun s hs => by have := (grp_VL l (fun t ht => (VSm_mem hV ht).1) s hs).1; omega
  generalize grp ns 2 l = B at c4 c5 hg hgL
  generalize grp (ns ++ [[106, 111, 98]]) 2 l = A at c3 c4
  have hB := eqD B
  have hnn : ([] : List Str) ++ ns = ns := List.nil_append ns
  repeat' (first | (refine is_al ?_; (first | refine al_frzAt 66 rfl rfl ?_ | (refine is_gd ?_; refine al_on rfl rfl rfl (by assumption) ?_) | (refine is_move ?_; (first | refine al_v (opx_move (.raw _)) ⟨rfl, trivial⟩ trivial rfl ?_ | refine al_v (opx_move (.sl _ _)) ⟨rfl, trivial⟩ trivial rfl ?_ | refine al_v (opx_move (.tup _)) ⟨rfl, trivial⟩ trivial rfl ?_)) | (refine is_bin ?_; refine al_v opx_bneq ⟨rfl, rfl, trivial⟩ trivial rfl ?_) | (refine is_assign ?_; (first | refine al_v (opx_assign (.raw _)) ⟨rfl, trivial⟩ trivial rfl ?_ | refine al_v (opx_assign (.sl _ _)) ⟨rfl, trivial⟩ trivial rfl ?_)) | (refine is_pick ?_; (first | refine al_v (opx_pick_t (.raw _) rfl) ⟨rfl, rfl, trivial⟩ trivial rfl ?_ | refine al_v (opx_pick_f (.raw _) rfl) ⟨rfl, rfl, trivial⟩ trivial rfl ?_ | refine al_v (opx_pick_f (.raw _) (by assumption)) ⟨rfl, rfl, trivial⟩ trivial rfl ?_)) | (refine is_bi ?_; refine al_appeSv rfl rfl rfl rfl rfl (by omega) ?_) | (refine is_call ?_; (first | refine al_callF (by (repeat (first | exact .nil | refine .one rfl rfl ?_ | refine .froz rfl rfl ?_ | refine .rnil rfl ?_ | refine .agg rfl (by (repeat (first | exact .nil | refine .cons (.same rfl) ?_ | refine .cons (.froz rfl) ?_ | refine .cons (.rnil) ?_)); (first | done | fail)) ?_)); (first | done | fail)) rfl (c1) rfl ?_ | refine al_callF (by (repeat (first | exact .nil | refine .one rfl rfl ?_ | refine .froz rfl rfl ?_ | refine .rnil rfl ?_ | refine .agg rfl (by (repeat (first | exact .nil | refine .cons (.same rfl) ?_ | refine .cons (.froz rfl) ?_ | refine .cons (.rnil) ?_)); (first | done | fail)) ?_)); (first | done | fail)) rfl (c2) rfl ?_ | refine al_callF (by (repeat (first | exact .nil | refine .one rfl rfl ?_ | refine .froz rfl rfl ?_ | refine .rnil rfl ?_ | refine .agg rfl (by (repeat (first | exact .nil | refine .cons (.same rfl) ?_ | refine .cons (.froz rfl) ?_ | refine .cons (.rnil) ?_)); (first | done | fail)) ?_)); (first | done | fail)) rfl (c3) rfl ?_ | refine al_callF (by (repeat (first | exact .nil | refine .one rfl rfl ?_ | refine .froz rfl rfl ?_ | refine .rnil rfl ?_ | refine .agg rfl (by (repeat (first | exact .nil | refine .cons (.same rfl) ?_ | refine .cons (.froz rfl) ?_ | refine .cons (.rnil) ?_)); (first | done | fail)) ?_)); (first | done | fail)) rfl (c4) rfl ?_ | refine al_callF (by (repeat (first | exact .nil | refine .one rfl rfl ?_ | refine .froz rfl rfl ?_ | refine .rnil rfl ?_ | refine .agg rfl (by (repeat (first | exact .nil | refine .cons (.same rfl) ?_ | refine .cons (.froz rfl) ?_ | refine .cons (.rnil) ?_)); (first | done | fail)) ?_)); (first | done | fail)) rfl (c5) rfl ?_ | refine al_callv2 (by (repeat (first | exact .nil | refine .one rfl rfl ?_ | refine .froz rfl rfl ?_ | refine .row rfl rfl ?_ | refine .rnil rfl ?_ | refine .agg rfl (by (repeat (first | exact .nil | refine .cons (.same rfl) ?_ | refine .cons (.froz rfl) ?_ | refine .cons (.rnil) ?_ | refine .cons (.row rfl rfl) ?_)); (first | done | fail)) ?_)); (first | done | fail)) rfl (c_equalSamples _ _ (by omega) grR_lab) rfl ?_ | refine al_callv2 (by (repeat (first | exact .nil | refine .one rfl rfl ?_ | refine .froz rfl rfl ?_ | refine .row rfl rfl ?_ | refine .rnil rfl ?_ | refine .agg rfl (by (repeat (first | exact .nil | refine .cons (.same rfl) ?_ | refine .cons (.froz rfl) ?_ | refine .cons (.rnil) ?_ | refine .cons (.row rfl rfl) ?_)); (first | done | fail)) ?_)); (first | done | fail)) rfl (c_equalSamples B B (by omega) hgL) rfl ?_)) | refine al_v opx_not ⟨rfl, trivial⟩ trivial rfl ?_ | refine al_v (opx_extract _ rfl) ⟨rfl, trivial⟩ trivial rfl ?_ | (refine is_bs ?_; (first | refine al_n opx_lit0 trivial trivial rfl ?_ | refine al_pushS ⟨rfl, trivial⟩ rfl rfl rfl rfl rfl (by omega) ?_)) | refine al_nil ?_)) | (refine is_ad ?_; refine al_frzAt 66 rfl rfl ?_) | (refine is_aw ?_; (first | refine aw_seq ?_ | refine aw_region ?_ | refine aw_skip ?_ | refine aw_ret ?_ | (refine is_cond ?_; refine aw_cond_f rfl rfl ?_))))
  exact ret_raw trivial rfl ⟨congrArg (fun b => [rB b]) (hB), rfl⟩
end Go.Proofs.Ytoalaimmgmehaaa
