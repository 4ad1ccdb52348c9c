/-
  Least and greatest values of groups: the law.
-/
import Derived.Test.YtoalaimmgmehaaaW96
namespace Go.Proofs.Ytoalaimmgmehaaa
open Go.RowKit
set_option linter.unusedVariables false
set_option linter.unusedSimpArgs false
attribute [local irreducible] AL AW OpX Le AD

/-- Whether a group has been met. -/
def met (A : List Sm) (key : List Lb) (j : Nat) : Bool := (A.take j).any fun t => decide (t.1 = key)
theorem met_next {A : List Sm} {key : List Lb} {j : Nat} {t : Sm} (h : A[j]? = some t) : met A key (j + 1) = (met A key j || decide (t.1 = key)) := by
  rw [met, List.take_add_one, h, List.any_append]; simp [met]
theorem met_all {A : List Sm} {key : List Lb} {j : Nat} (h : key ∈ A.map (·.1)) (hj : A.length ≤ j) : met A key j = true := by
  rw [met, List.take_of_length_le hj, List.any_eq_true]
  obtain ⟨t, h1, h2⟩ := List.mem_map.1 h
  exact ⟨t, h1, decide_eq_true h2⟩
theorem c_fnGroupByBounds (bs : List UInt8) : Con Try.prog 9 [slB bs] [] (fun rs all => rs = [rB true] ∧ all = []) := by
  have hlen := byRs_len (bs := bs)
  refine con_of_aw (vars := [.tmp 2]) [(0, .r (slB bs))] [] 0 Try.func9 (by kernel_rfl) rfl Try.ntmps9 rfl (by decide) rfl rfl rfl rfl rfl ?_
  intro B M w0 ρ0 Z0
  repeat' (first | (refine is_al ?_; (first | (refine is_move ?_; (first | refine al_v (opx_move (.raw _)) ⟨rfl, trivial⟩ trivial rfl ?_ | refine al_v (opx_move (.sl _ _)) ⟨rfl, trivial⟩ trivial rfl ?_ | refine al_v (opx_move (.tup _)) ⟨rfl, trivial⟩ trivial rfl ?_)) | (refine is_bin ?_; refine al_v opx_gtr ⟨rfl, rfl, trivial⟩ trivial rfl ?_) | (refine is_assign ?_; (first | refine al_v (opx_assign (.raw _)) ⟨rfl, trivial⟩ trivial rfl ?_ | refine al_v (opx_assign (.sl _ _)) ⟨rfl, trivial⟩ trivial rfl ?_)) | (refine is_bi ?_; refine al_v opx_len_sl ⟨rfl, trivial⟩ trivial rfl ?_) | (refine is_call ?_; (refine al_callE (by (repeat (first | exact .nil | refine .one rfl rfl ?_ | refine .froz rfl rfl ?_ | refine .rnil rfl ?_ | refine .agg rfl (by (repeat (first | exact .nil | refine .cons (.same rfl) ?_ | refine .cons (.froz rfl) ?_ | refine .cons (.rnil) ?_)); (first | done | fail)) ?_)); (first | done | fail)) rfl (c_drawGroupBy' _ (by omega)) ?_; rintro ⟨l, ns, kind⟩ ⟨h1, h2, h3⟩; dsimp only at h1 h2 h3 ⊢)) | refine al_v (opx_extract _ rfl) ⟨rfl, trivial⟩ trivial rfl ?_ | refine al_nil ?_)) | (refine is_aw ?_; (first | refine aw_seq ?_ | refine aw_region ?_ | refine aw_skip ?_ | refine aw_ret ?_ | (refine is_cond ?_; (refine aw_cond rfl ?_ ?_ <;> ((intro hgd; try exact absurd hgd (by decide)); (try (have hz := hgd; simp only [decide_eq_true_eq, decide_eq_false_iff_not, Bool.not_eq_true', Bool.not_eq_false', Bool.not_true, Bool.not_false, beq_iff_eq, Int.not_le, Int.not_lt] at hz)); (try (exfalso; omega))))))) | refine thn_r ?_)
  · exact ret_raw trivial rfl ⟨congrArg (fun b => [rB b]) (rfl), rfl⟩
  clear hz hlen; repeat clear hgd
  have hb := okS_big h2
  have t0 : true = true := rfl
  have n1 : (!true) = false := rfl
  have n2 : (!false) = true := rfl
  have hE := eqD (grR ns kind l)
  have hE2 := neD (grR ns kind l)
  have hgl := grR_len (ns := ns) (k := kind) (l := l)
  have c1 := c_GroupBy' l ns kind (by omega) hb (by omega)
  have c2 := c_sGroupBy' l ns kind (by omega) hb (by omega)
  cases hv : grB l kind
  · rw [hv] at c1 c2
    have q1 := neBB false
    have q2 := eqBB false
    repeat' (first | (refine is_al ?_; (first | (refine is_gd ?_; refine al_on rfl rfl rfl (by assumption) ?_) | (refine is_move ?_; (first | refine al_v (opx_move (.raw _)) ⟨rfl, trivial⟩ trivial rfl ?_ | refine al_v (opx_move (.sl _ _)) ⟨rfl, trivial⟩ trivial rfl ?_ | refine al_v (opx_move (.tup _)) ⟨rfl, trivial⟩ trivial rfl ?_)) | (refine is_bin ?_; (first | refine al_v opx_beql ⟨rfl, rfl, trivial⟩ trivial rfl ?_ | refine al_v opx_bneq ⟨rfl, rfl, trivial⟩ trivial rfl ?_)) | (refine is_assign ?_; (first | refine al_v (opx_assign (.raw _)) ⟨rfl, trivial⟩ trivial rfl ?_ | refine al_v (opx_assign (.sl _ _)) ⟨rfl, trivial⟩ trivial rfl ?_)) | (refine is_pick ?_; (first | refine al_v (opx_pick_f (.raw _) rfl) ⟨rfl, rfl, trivial⟩ trivial rfl ?_ | refine al_v (opx_pick_t (.raw _) (by assumption)) ⟨rfl, rfl, trivial⟩ trivial rfl ?_ | refine al_v (opx_pick_f (.raw _) (by assumption)) ⟨rfl, rfl, trivial⟩ trivial rfl ?_)) | (refine is_call ?_; (first | refine al_callF (by (repeat (first | exact .nil | refine .one rfl rfl ?_ | refine .froz rfl rfl ?_ | refine .rnil rfl ?_ | refine .agg rfl (by (repeat (first | exact .nil | refine .cons (.same rfl) ?_ | refine .cons (.froz rfl) ?_ | refine .cons (.rnil) ?_)); (first | done | fail)) ?_)); (first | done | fail)) rfl (c1) rfl ?_ | refine al_callF (by (repeat (first | exact .nil | refine .one rfl rfl ?_ | refine .froz rfl rfl ?_ | refine .rnil rfl ?_ | refine .agg rfl (by (repeat (first | exact .nil | refine .cons (.same rfl) ?_ | refine .cons (.froz rfl) ?_ | refine .cons (.rnil) ?_)); (first | done | fail)) ?_)); (first | done | fail)) rfl (c2) rfl ?_ | refine al_callv2 (by (repeat (first | exact .nil | refine .one rfl rfl ?_ | refine .froz rfl rfl ?_ | refine .row rfl rfl ?_ | refine .rnil rfl ?_ | refine .agg rfl (by (repeat (first | exact .nil | refine .cons (.same rfl) ?_ | refine .cons (.froz rfl) ?_ | refine .cons (.rnil) ?_ | refine .cons (.row rfl rfl) ?_)); (first | done | fail)) ?_)); (first | done | fail)) rfl (c_equalSamples _ _ (by omega) grR_lab) rfl ?_)) | refine al_v opx_not ⟨rfl, trivial⟩ trivial rfl ?_ | refine al_v (opx_extract _ rfl) ⟨rfl, trivial⟩ trivial rfl ?_ | refine al_nil ?_)) | (refine is_aw ?_; (first | refine aw_seq ?_ | refine aw_region ?_ | refine aw_ret ?_ | (refine is_cond ?_; refine aw_cond_t rfl rfl ?_))) | refine thn_r ?_)
    exact ret_raw trivial rfl ⟨congrArg (fun b => [rB b]) (rfl), rfl⟩
  rw [hv] at c1 c2
  have q1 := neBB true
  obtain ⟨hV, hk⟩ := grB_of hv
  have h8 := hV.1
  have c3 := c_GroupBy' l ns 1 (by omega) hb (by omega)
  have c4 := c_GroupBy' l ns 2 (by omega) hb (by omega)
  rw [grB_t hV (by omega), grR_t hV (by omega)] at c3 c4
  have hlr := smRs_len (xs := l)
  have hlow := grp_low (ns := ns) l
  have hhigh := grp_high (ns := ns) l
  have hkk := grp_keys (ns := ns) (kind := 1) (kind' := 2) l
  have hkl := congrArg List.length hkk
  rw [List.length_map, List.length_map] at hkl
  have hmem := grp_mem (ns := ns) (kind := 1) l
  have hg1 := grp_len (ns := ns) (kind := 1) (l := l)
  have hA4 : ∀ t ∈ grp ns 1 l, t.1.length ≤ 4 := fun t ht => (grp_VL l (fun s hs => (VSm_mem hV hs).1) t ht).1
  have hC4 : ∀ t ∈ grp ns 2 l, t.1.length ≤ 4 := fun t ht => (grp_VL l (fun s hs => (VSm_mem hV hs).1) t ht).1
  generalize grp ns 1 l = A at c3 hlow hkk hkl hmem hg1 hA4
  generalize grp ns 2 l = C at c4 hhigh hkk hkl hC4
  have hA := smRs_len (xs := A)
  have hC := smRs_len (xs := C)
  repeat' (first | (refine is_al ?_; (first | (refine is_gd ?_; refine al_on rfl rfl rfl (by assumption) ?_) | (refine is_move ?_; (first | refine al_v (opx_move (.raw _)) ⟨rfl, trivial⟩ trivial rfl ?_ | refine al_v (opx_move (.sl _ _)) ⟨rfl, trivial⟩ trivial rfl ?_ | refine al_v (opx_move (.tup _)) ⟨rfl, trivial⟩ trivial rfl ?_)) | (refine is_bin ?_; refine al_v opx_bneq ⟨rfl, rfl, trivial⟩ trivial rfl ?_) | (refine is_assign ?_; (first | refine al_v (opx_assign (.raw _)) ⟨rfl, trivial⟩ trivial rfl ?_ | refine al_v (opx_assign (.sl _ _)) ⟨rfl, trivial⟩ trivial rfl ?_)) | (refine is_pick ?_; (first | refine al_v (opx_pick_f (.raw _) rfl) ⟨rfl, rfl, trivial⟩ trivial rfl ?_ | refine al_v (opx_pick_f (.raw _) (by assumption)) ⟨rfl, rfl, trivial⟩ trivial rfl ?_)) | (refine is_call ?_; (first | refine al_callF (by (repeat (first | exact .nil | refine .one rfl rfl ?_ | refine .froz rfl rfl ?_ | refine .rnil rfl ?_ | refine .agg rfl (by (repeat (first | exact .nil | refine .cons (.same rfl) ?_ | refine .cons (.froz rfl) ?_ | refine .cons (.rnil) ?_)); (first | done | fail)) ?_)); (first | done | fail)) rfl (c1) rfl ?_ | refine al_callF (by (repeat (first | exact .nil | refine .one rfl rfl ?_ | refine .froz rfl rfl ?_ | refine .rnil rfl ?_ | refine .agg rfl (by (repeat (first | exact .nil | refine .cons (.same rfl) ?_ | refine .cons (.froz rfl) ?_ | refine .cons (.rnil) ?_)); (first | done | fail)) ?_)); (first | done | fail)) rfl (c2) rfl ?_ | refine al_callF (by (repeat (first | exact .nil | refine .one rfl rfl ?_ | refine .froz rfl rfl ?_ | refine .rnil rfl ?_ | refine .agg rfl (by (repeat (first | exact .nil | refine .cons (.same rfl) ?_ | refine .cons (.froz rfl) ?_ | refine .cons (.rnil) ?_)); (first | done | fail)) ?_)); (first | done | fail)) rfl (c3) rfl ?_ | refine al_callF (by (repeat (first | exact .nil | refine .one rfl rfl ?_ | refine .froz rfl rfl ?_ | refine .rnil rfl ?_ | refine .agg rfl (by (repeat (first | exact .nil | refine .cons (.same rfl) ?_ | refine .cons (.froz rfl) ?_ | refine .cons (.rnil) ?_)); (first | done | fail)) ?_)); (first | done | fail)) rfl (c4) rfl ?_ | refine al_callv2 (by (repeat (first | exact .nil | refine .one rfl rfl ?_ | refine .froz rfl rfl ?_ | refine .row rfl rfl ?_ | refine .rnil rfl ?_ | refine .agg rfl (by (repeat (first | exact .nil | refine .cons (.same rfl) ?_ | refine .cons (.froz rfl) ?_ | refine .cons (.rnil) ?_ | refine .cons (.row rfl rfl) ?_)); (first | done | fail)) ?_)); (first | done | fail)) rfl (c_equalSamples _ _ (by omega) grR_lab) rfl ?_)) | refine al_v opx_not ⟨rfl, trivial⟩ trivial rfl ?_ | refine al_v (opx_extract _ rfl) ⟨rfl, trivial⟩ trivial rfl ?_ | refine al_nil ?_)) | (refine is_aw ?_; (first | refine aw_seq ?_ | refine aw_region ?_ | refine aw_skip ?_ | refine aw_block ?_ | (refine is_cond ?_; refine aw_cond_f rfl rfl ?_))))
  refine aw_loop (γ := Nat) (fun k => [(3, .r (slM l)), (4, .r (slS ns)), (10, .r (slM A)), (11, .b true), (12, .r (slM C)), (13, .b true), (14, .i (k : Int))]) (fun _ => []) (fun _ => 0) (fun k => k ≤ l.length) (fun k => l.length - k) 0 (Nat.zero_le _) (le_mk [] rfl rfl rfl rfl ⟨rfl, rfl, rfl, rfl, rfl, rfl, rfl, trivial⟩ trivial) ?_
  intro k hk1
  rcases Nat.lt_or_ge k l.length with hlt | hge
  · have hc1 : decide ((k : Int) < ((smRs l).length : Int)) = true := decide_eq_true (by omega)
    obtain ⟨s, hs⟩ : ∃ s, l[k]? = some s := ⟨_, List.getElem?_eq_getElem hlt⟩
    have hsr := smRs_at hs
    have hsm := List.mem_of_getElem? hs
    have hck := c_KeepLabels' s.1 ns (VSm_mem hV hsm).1 (by omega)
    have hlow := hlow s hsm
    have hhigh := hhigh s hsm
    have hmem := hmem s hsm
    generalize keepL ns s.1 = key at hck hlow hhigh hmem
    repeat' (first | (refine is_al ?_; (first | (refine is_move ?_; (first | refine al_v (opx_move (.raw _)) ⟨rfl, trivial⟩ trivial rfl ?_ | refine al_v (opx_move (.sl _ _)) ⟨rfl, trivial⟩ trivial rfl ?_)) | (refine is_bin ?_; refine al_v opx_lss ⟨rfl, rfl, trivial⟩ trivial rfl ?_) | (refine is_load ?_; refine al_v opx_ld_imm ⟨rfl, trivial⟩ trivial rfl ?_) | (refine is_fa ?_; refine al_v opx_fa_imm0 ⟨rfl, trivial⟩ trivial rfl ?_) | (refine is_assign ?_; (first | refine al_v (opx_assign (.raw _)) ⟨rfl, trivial⟩ trivial rfl ?_ | refine al_v (opx_assign (.sl _ _)) ⟨rfl, trivial⟩ trivial rfl ?_)) | (refine is_bi ?_; refine al_v opx_len_sl ⟨rfl, trivial⟩ trivial rfl ?_) | (refine is_ia ?_; refine al_v (opx_ia_sl2 hsr (by omega)) ⟨rfl, rfl, trivial⟩ trivial rfl ?_) | (refine is_call ?_; refine al_callF (by (repeat (first | exact .nil | refine .one rfl rfl ?_ | refine .froz rfl rfl ?_ | refine .rnil rfl ?_ | refine .agg rfl (by (repeat (first | exact .nil | refine .cons (.same rfl) ?_ | refine .cons (.froz rfl) ?_ | refine .cons (.rnil) ?_)); (first | done | fail)) ?_)); (first | done | fail)) rfl (hck) rfl ?_) | refine al_nil ?_)) | (refine is_aw ?_; (first | refine aw_seq ?_ | refine aw_region ?_ | refine aw_skip ?_ | refine aw_block ?_ | (refine is_cond ?_; refine aw_cond_t rfl (by assumption) ?_))))
    refine aw_loop (γ := Nat) (fun j => [(3, .r (slM l)), (4, .r (slS ns)), (10, .r (slM A)), (11, .b true), (12, .r (slM C)), (13, .b true), (14, .i (k : Int)), (15, .r (slL key)), (16, .b (met A key j)), (17, .i (j : Int))]) (fun _ => []) (fun _ => 0) (fun j => j ≤ A.length) (fun j => A.length - j) 0 (Nat.zero_le _) (le_mk [] rfl rfl rfl rfl ⟨rfl, rfl, rfl, rfl, rfl, rfl, rfl, rfl, rfl, rfl, trivial⟩ trivial) ?_
    intro j hj1
    rcases Nat.lt_or_ge j A.length with hjt | hjg
    · have hc2 : decide ((j : Int) < ((smRs A).length : Int)) = true := decide_eq_true (by omega)
      have hc3 : decide ((j : Int) < ((smRs C).length : Int)) = true := decide_eq_true (by omega)
      obtain ⟨t, ht⟩ : ∃ t, A[j]? = some t := ⟨_, List.getElem?_eq_getElem hjt⟩
      obtain ⟨u, hu⟩ : ∃ u, C[j]? = some u := ⟨_, List.getElem?_eq_getElem (by omega)⟩
      have htr := smRs_at ht
      have hur := smRs_at hu
      have htu : t.1 = u.1 := by
        have h := congrArg (fun x => x[j]?) hkk
        simp only [List.getElem?_map, ht, hu, Option.map_some] at h
        exact Option.some.inj h
      have ht4 := hA4 t (List.mem_of_getElem? ht)
      have hu4 := hC4 u (List.mem_of_getElem? hu)
      have hm := met_next (key := key) ht
      by_cases he : t.1 = key
      · have d1 : decide (t.1 = key) = true := decide_eq_true he
        have d2 : (!decide (u.1 = key)) = false := by rw [decide_eq_true (htu.symm.trans he)]; rfl
        rw [d1, Bool.or_true] at hm
        have hl := hlow t (List.mem_of_getElem? ht) he
        have hh := hhigh u (List.mem_of_getElem? hu) (htu.symm.trans he)
        have d3 : decide (s.2 < t.2) = false := decide_eq_false (by omega)
        have d4 : decide (u.2 < s.2) = false := decide_eq_false (by omega)
        repeat' (first | (refine is_al ?_; (first | (refine is_gd ?_; refine al_on rfl rfl rfl (by assumption) ?_) | (refine is_move ?_; (first | refine al_v (opx_move (.raw _)) ⟨rfl, trivial⟩ trivial rfl ?_ | refine al_v (opx_move (.sl _ _)) ⟨rfl, trivial⟩ trivial rfl ?_)) | (refine is_bin ?_; (first | refine al_v opx_lss ⟨rfl, rfl, trivial⟩ trivial rfl ?_ | refine al_v (opx_add (by unfold InR; omega)) ⟨rfl, rfl, trivial⟩ trivial rfl ?_)) | (refine is_load ?_; refine al_v opx_ld_imm ⟨rfl, trivial⟩ trivial rfl ?_) | (refine is_fa ?_; refine al_v opx_fa_imm0 ⟨rfl, trivial⟩ trivial rfl ?_) | (refine is_assign ?_; refine al_v (opx_assign (.raw _)) ⟨rfl, trivial⟩ trivial rfl ?_) | (refine is_pick ?_; refine al_v (opx_pick_t (.raw _) (by assumption)) ⟨rfl, rfl, trivial⟩ trivial rfl ?_) | (refine is_bi ?_; refine al_v opx_len_sl ⟨rfl, trivial⟩ trivial rfl ?_) | (refine is_ia ?_; refine al_v (opx_ia_sl2 htr (by omega)) ⟨rfl, rfl, trivial⟩ trivial rfl ?_) | (refine is_call ?_; refine al_callv2 (by (repeat (first | exact .nil | refine .one rfl rfl ?_ | refine .froz rfl rfl ?_ | refine .row rfl rfl ?_ | refine .rnil rfl ?_ | refine .agg rfl (by (repeat (first | exact .nil | refine .cons (.same rfl) ?_ | refine .cons (.froz rfl) ?_ | refine .cons (.rnil) ?_ | refine .cons (.row rfl rfl) ?_)); (first | done | fail)) ?_)); (first | done | fail)) rfl (c_equalLabels _ _ (by omega)) rfl ?_) | refine al_nil ?_)) | (refine is_ad ?_; (first | (refine isd_gd ?_; (first | (refine isd_move ?_; (first | refine ad_on rfl rfl (by assumption) (opx_move (.raw _)) ⟨rfl, trivial⟩ trivial rfl ?_ | refine ad_on rfl rfl (by assumption) (opx_move (.sl _ _)) ⟨rfl, trivial⟩ trivial rfl ?_)) | (refine isd_bin ?_; refine ad_on rfl rfl (by assumption) opx_gtr ⟨rfl, rfl, trivial⟩ trivial rfl ?_) | (refine isd_load ?_; refine ad_on rfl rfl (by assumption) opx_ld_imm ⟨rfl, trivial⟩ trivial rfl ?_) | (refine isd_fa ?_; (first | refine ad_on rfl rfl (by assumption) opx_fa_imm0 ⟨rfl, trivial⟩ trivial rfl ?_ | refine ad_on rfl rfl (by assumption) opx_fa_imm1 ⟨rfl, trivial⟩ trivial rfl ?_)) | (refine isd_ia ?_; (first | refine ad_on rfl rfl (by assumption) (opx_ia_sl2 hsr (by omega)) ⟨rfl, rfl, trivial⟩ trivial rfl ?_ | refine ad_on rfl rfl (by assumption) (opx_ia_sl2 hur (by omega)) ⟨rfl, rfl, trivial⟩ trivial rfl ?_)) | (refine isd_call ?_; refine ad_callv_on2 rfl rfl (by assumption) (by (repeat (first | exact .nil | refine .one rfl rfl ?_ | refine .froz rfl rfl ?_ | refine .row rfl rfl ?_ | refine .rnil rfl ?_ | refine .agg rfl (by (repeat (first | exact .nil | refine .cons (.same rfl) ?_ | refine .cons (.froz rfl) ?_ | refine .cons (.rnil) ?_ | refine .cons (.row rfl rfl) ?_)); (first | done | fail)) ?_)); (first | done | fail)) rfl (c_equalLabels _ _ (by omega)) rfl ?_) | refine ad_on rfl rfl (by assumption) opx_not ⟨rfl, trivial⟩ trivial rfl ?_)) | (refine isd_move ?_; (first | refine ad_v (opx_move (.raw _)) ⟨rfl, trivial⟩ trivial rfl ?_ | refine ad_v (opx_move (.sl _ _)) ⟨rfl, trivial⟩ trivial rfl ?_)) | (refine isd_bin ?_; refine ad_v opx_lss ⟨rfl, rfl, trivial⟩ trivial rfl ?_) | (refine isd_load ?_; refine ad_v opx_ld_imm ⟨rfl, trivial⟩ trivial rfl ?_) | (refine isd_fa ?_; refine ad_v opx_fa_imm1 ⟨rfl, trivial⟩ trivial rfl ?_) | (refine isd_pick ?_; refine ad_v (opx_pick_f (.raw _) (by assumption)) ⟨rfl, rfl, trivial⟩ trivial rfl ?_) | (refine isd_ia ?_; (first | refine ad_v (opx_ia_sl2 hsr (by omega)) ⟨rfl, rfl, trivial⟩ trivial rfl ?_ | refine ad_v (opx_ia_sl2 htr (by omega)) ⟨rfl, rfl, trivial⟩ trivial rfl ?_)) | refine ad_nil (by kernel_rfl) ?_)) | (refine is_aw ?_; (first | refine aw_seq ?_ | refine aw_region ?_ | refine aw_skip ?_ | refine aw_block ?_ | (refine is_cond ?_; (first | refine aw_cond_t rfl (by assumption) ?_ | refine aw_cond_f rfl (by assumption) ?_)) | refine aw_draw mixed ?_)) | refine thn_n ?_)
        exact ⟨j + 1, hjt, by omega, le_mk [] rfl rfl rfl rfl ⟨rfl, rfl, rfl, rfl, rfl, rfl, rfl, rfl, by rw [hm]; rfl, rfl, trivial⟩ trivial⟩
      · have d1 : decide (t.1 = key) = false := decide_eq_false he
        rw [d1, Bool.or_false] at hm
        repeat' (first | (refine is_al ?_; (first | (refine is_gd ?_; refine al_on rfl rfl rfl (by assumption) ?_) | (refine is_move ?_; (first | refine al_v (opx_move (.raw _)) ⟨rfl, trivial⟩ trivial rfl ?_ | refine al_v (opx_move (.sl _ _)) ⟨rfl, trivial⟩ trivial rfl ?_)) | (refine is_bin ?_; (first | refine al_v opx_lss ⟨rfl, rfl, trivial⟩ trivial rfl ?_ | refine al_v (opx_add (by unfold InR; omega)) ⟨rfl, rfl, trivial⟩ trivial rfl ?_)) | (refine is_load ?_; refine al_v opx_ld_imm ⟨rfl, trivial⟩ trivial rfl ?_) | (refine is_fa ?_; refine al_v opx_fa_imm0 ⟨rfl, trivial⟩ trivial rfl ?_) | (refine is_assign ?_; refine al_v (opx_assign (.raw _)) ⟨rfl, trivial⟩ trivial rfl ?_) | (refine is_pick ?_; refine al_v (opx_pick_t (.raw _) (by assumption)) ⟨rfl, rfl, trivial⟩ trivial rfl ?_) | (refine is_bi ?_; refine al_v opx_len_sl ⟨rfl, trivial⟩ trivial rfl ?_) | (refine is_ia ?_; refine al_v (opx_ia_sl2 htr (by omega)) ⟨rfl, rfl, trivial⟩ trivial rfl ?_) | (refine is_call ?_; refine al_callv2 (by (repeat (first | exact .nil | refine .one rfl rfl ?_ | refine .froz rfl rfl ?_ | refine .row rfl rfl ?_ | refine .rnil rfl ?_ | refine .agg rfl (by (repeat (first | exact .nil | refine .cons (.same rfl) ?_ | refine .cons (.froz rfl) ?_ | refine .cons (.rnil) ?_ | refine .cons (.row rfl rfl) ?_)); (first | done | fail)) ?_)); (first | done | fail)) rfl (c_equalLabels _ _ (by omega)) rfl ?_) | refine al_nil ?_)) | (refine is_aw ?_; (first | refine aw_seq ?_ | refine aw_region ?_ | refine aw_skip ?_ | refine aw_block ?_ | (refine is_cond ?_; (first | refine aw_cond_t rfl (by assumption) ?_ | refine aw_cond_f rfl (by assumption) ?_)))) | refine thn_n ?_)
        exact ⟨j + 1, hjt, by omega, le_mk [] rfl rfl rfl rfl ⟨rfl, rfl, rfl, rfl, rfl, rfl, rfl, rfl, by rw [hm]; rfl, rfl, trivial⟩ trivial⟩
    · have hc2 : decide ((j : Int) < ((smRs A).length : Int)) = false := decide_eq_false (by omega)
      have hm := met_all hmem hjg
      rw [hm]
      repeat' (first | (refine is_al ?_; (first | (refine is_gd ?_; refine al_off rfl rfl rfl (by assumption) rfl ?_) | (refine is_move ?_; (first | refine al_v (opx_move (.raw _)) ⟨rfl, trivial⟩ trivial rfl ?_ | refine al_v (opx_move (.sl _ _)) ⟨rfl, trivial⟩ trivial rfl ?_)) | (refine is_bin ?_; (first | refine al_v opx_lss ⟨rfl, rfl, trivial⟩ trivial rfl ?_ | refine al_v (opx_add (by unfold InR; omega)) ⟨rfl, rfl, trivial⟩ trivial rfl ?_)) | (refine is_assign ?_; refine al_v (opx_assign (.raw _)) ⟨rfl, trivial⟩ trivial rfl ?_) | (refine is_pick ?_; refine al_v (opx_pick_f (.raw _) (by assumption)) ⟨rfl, rfl, trivial⟩ trivial rfl ?_) | (refine is_bi ?_; refine al_v opx_len_sl ⟨rfl, trivial⟩ trivial rfl ?_) | refine al_v opx_not ⟨rfl, trivial⟩ trivial rfl ?_ | refine al_nil ?_)) | (refine is_aw ?_; (first | refine aw_seq ?_ | refine aw_region ?_ | refine aw_skip ?_ | refine aw_exit ?_ | (refine is_cond ?_; refine aw_cond_f rfl rfl ?_))) | refine thn_n ?_)
      exact ⟨k + 1, hlt, by omega, le_mk [] rfl rfl rfl rfl ⟨rfl, rfl, rfl, rfl, rfl, rfl, rfl, trivial⟩ trivial⟩
  · have hc1 : decide ((k : Int) < ((smRs l).length : Int)) = false := decide_eq_false (by omega)
    repeat' (first | (refine is_al ?_; (first | (refine is_gd ?_; refine al_on rfl rfl rfl (by assumption) ?_) | (refine is_move ?_; (first | refine al_v (opx_move (.raw _)) ⟨rfl, trivial⟩ trivial rfl ?_ | refine al_v (opx_move (.sl _ _)) ⟨rfl, trivial⟩ trivial rfl ?_)) | (refine is_bin ?_; refine al_v opx_lss ⟨rfl, rfl, trivial⟩ trivial rfl ?_) | (refine is_assign ?_; refine al_v (opx_assign (.raw _)) ⟨rfl, trivial⟩ trivial rfl ?_) | (refine is_pick ?_; refine al_v (opx_pick_t (.raw _) rfl) ⟨rfl, rfl, trivial⟩ trivial rfl ?_) | (refine is_bi ?_; refine al_v opx_len_sl ⟨rfl, trivial⟩ trivial rfl ?_) | refine al_nil ?_)) | (refine is_aw ?_; (first | refine aw_seq ?_ | refine aw_region ?_ | refine aw_ret ?_ | refine aw_exit ?_ | (refine is_cond ?_; refine aw_cond_f rfl (by assumption) ?_))))
    exact ret_raw trivial rfl ⟨congrArg (fun b => [rB b]) (rfl), rfl⟩
end Go.Proofs.Ytoalaimmgmehaaa
