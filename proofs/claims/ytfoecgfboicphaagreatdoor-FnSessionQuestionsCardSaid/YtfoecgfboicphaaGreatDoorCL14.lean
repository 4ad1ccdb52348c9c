/- Texts: W2 W28 Eng31 W64 -/
import Derived.Test.YtfoecgfboicphaaGreatDoorCL13
import Derived.Test.YtfoecgfboicphaaGreatDoorCL8
import Derived.Test.YtfoecgfboicphaaGreatDoorCL9
/-
  The reader of the drawn bytes: the walks.
-/
namespace Go.Proofs.YtfoecgfboicphaaGreatDoor
open Go.RowKit
set_option linter.unusedVariables false
set_option linter.unusedSimpArgs false
attribute [local irreducible] AL AW OpX Le AD

/-- What a reader's answer below n is. -/
abbrev PickP (p n : Int) (r q : Int) : Prop := q = p + 1 ∧ 0 ≤ r ∧ (1 ≤ n → r < n) ∧ (n < 1 → r = 0)

theorem c_pick (bs : List UInt8) (p n : Int) (hb : bs.length ≤ 1048576) (hp : 0 ≤ p ∧ p ≤ 1099511627776) (hn : n ≤ 1099511627776) : Con Tryz.prog 17 [rdA, rI n] [rdO bs p] (RdV bs (PickP p n)) := by
  have hlen := byRs_len (bs := bs)
  refine con_of_aw (vars := [.tmp 4]) [(0, .ref 0 0), (1, .r (rI n))] [(0, rdO bs p)] 1 Tryz.func17 (by kernel_rfl) rfl Tryz.ntmps17 rfl (by decide) rfl rfl rfl rfl rfl ?_; intro B M w0 ρ0 Z0
  rcases Nat.eq_zero_or_pos bs.length with h0 | h0
  · have hz0 : decide (((byRs bs).length : Int) = 0) = true := decide_eq_true (by omega)
    repeat' (first | (refine is_al ?_; (first | (refine is_gd ?_; (first | refine al_on rfl rfl rfl (by assumption) ?_ | refine al_off rfl rfl rfl (by assumption) rfl ?_ | (refine al_g rfl rfl rfl rfl ?_ ?_ <;> ((intro hgd; try exact absurd hgd (by decide)); (try (have hz := hgd; simp only [decide_eq_true_eq, decide_eq_false_iff_not, Bool.not_eq_true', Bool.not_eq_false', Bool.not_true, Bool.not_false, beq_iff_eq, Int.not_le, Int.not_lt] at hz)); (try (exfalso; omega)))))) | (refine is_move ?_; (first | refine al_v (opx_move (.raw _)) ⟨rfl, trivial⟩ trivial rfl ?_ | refine al_v (opx_move (.ref _ _)) ⟨rfl, trivial⟩ trivial rfl ?_)) | (refine is_bin ?_; (first | refine al_v opx_eql ⟨rfl, rfl, trivial⟩ trivial rfl ?_ | refine al_v opx_lss ⟨rfl, rfl, trivial⟩ trivial rfl ?_ | refine al_v (opx_add (by unfold InR; omega)) ⟨rfl, rfl, trivial⟩ trivial rfl ?_)) | (refine is_load ?_; refine al_v (opx_ld_box rfl) ⟨rfl, trivial⟩ ⟨rfl, trivial⟩ rfl ?_) | (refine is_fa ?_; refine al_v opx_fa_ref ⟨rfl, trivial⟩ trivial rfl ?_) | (refine is_assign ?_; refine al_v (opx_assign (.raw _)) ⟨rfl, trivial⟩ trivial rfl ?_) | (refine is_pick ?_; (first | refine al_v (opx_pick_t (.raw _) (by assumption)) ⟨rfl, rfl, trivial⟩ trivial rfl ?_ | refine al_v (opx_pick_f (.raw _) (by assumption)) ⟨rfl, rfl, trivial⟩ trivial rfl ?_)) | (refine is_bi ?_; refine al_v opx_len_sl ⟨rfl, trivial⟩ trivial rfl ?_) | (refine is_st ?_; refine al_s (opx_st1_box (by rfl)) ⟨rfl, rfl, trivial⟩ ⟨rfl, trivial⟩ ?_) | refine al_v opx_nilck ⟨rfl, trivial⟩ trivial rfl ?_ | refine al_nil ?_)) | (refine is_aw ?_; (first | refine aw_seq ?_ | refine aw_region ?_ | refine aw_ret ?_ | (refine is_cond ?_; (first | refine aw_cond_t rfl rfl ?_ | refine aw_cond_t rfl (by assumption) ?_)))) | refine thn_r ?_)
    all_goals exact retm_raw trivial rfl rfl rfl ⟨0, _, rfl, rfl, rfl, Int.le_refl _, fun h => by omega, fun _ => rfl⟩
  obtain ⟨k1, hk1, hk1'⟩ : ∃ k : Nat, (p + 1 - 1) % ((byRs bs).length : Int) = (k : Int) ∧ k < bs.length :=
    ⟨((p + 1 - 1) % ((byRs bs).length : Int)).toNat, by have := Int.emod_nonneg (p + 1 - 1) (b := ((byRs bs).length : Int)) (by omega); omega, by have := Int.emod_lt_of_pos (p + 1 - 1) (b := ((byRs bs).length : Int)) (by omega); have := Int.emod_nonneg (p + 1 - 1) (b := ((byRs bs).length : Int)) (by omega); omega⟩
  obtain ⟨k2, hk2, hk2'⟩ : ∃ k : Nat, ((p + 1 - 1) * 7 + 3) % ((byRs bs).length : Int) = (k : Int) ∧ k < bs.length :=
    ⟨(((p + 1 - 1) * 7 + 3) % ((byRs bs).length : Int)).toNat, by have := Int.emod_nonneg ((p + 1 - 1) * 7 + 3) (b := ((byRs bs).length : Int)) (by omega); omega, by have := Int.emod_lt_of_pos ((p + 1 - 1) * 7 + 3) (b := ((byRs bs).length : Int)) (by omega); have := Int.emod_nonneg ((p + 1 - 1) * 7 + 3) (b := ((byRs bs).length : Int)) (by omega); omega⟩
  have hd0 := Int.ediv_nonneg (a := p + 1 - 1) (b := ((byRs bs).length : Int)) (by omega) (by omega)
  have hd1 := Int.ediv_le_self (a := p + 1 - 1) ((byRs bs).length : Int) (by omega)
  obtain ⟨b1, h1⟩ : ∃ b, bs[k1]? = some b := ⟨_, List.getElem?_eq_getElem hk1'⟩
  obtain ⟨b2, h2⟩ : ∃ b, bs[k2]? = some b := ⟨_, List.getElem?_eq_getElem hk2'⟩
  have l1 := b1.toNat_lt
  have l2 := b2.toNat_lt
  have r1 := byRs_at h1
  have r2 := byRs_at h2
  have hz0 : decide (((byRs bs).length : Int) = 0) = false := decide_eq_false (by omega)
  by_cases hlt : p + 1 - 1 < ((byRs bs).length : Int)
  · obtain ⟨k3, hk3⟩ : ∃ k : Nat, p + 1 - 1 = (k : Int) := ⟨(p + 1 - 1).toNat, by omega⟩
    obtain ⟨b3, h3⟩ : ∃ b, bs[k3]? = some b := ⟨_, List.getElem?_eq_getElem (by omega)⟩
    have r3 := byRs_at h3
    have hc : decide (p + 1 - 1 < ((byRs bs).length : Int)) = true := decide_eq_true hlt
    repeat' (first | (refine is_al ?_; (first | (refine is_gd ?_; (first | refine al_on rfl rfl rfl (by assumption) ?_ | refine al_off rfl rfl rfl (by assumption) rfl ?_ | (refine al_g rfl rfl rfl rfl ?_ ?_ <;> ((intro hgd; try exact absurd hgd (by decide)); (try (have hz := hgd; simp only [decide_eq_true_eq, decide_eq_false_iff_not, Bool.not_eq_true', Bool.not_eq_false', Bool.not_true, Bool.not_false, beq_iff_eq, Int.not_le, Int.not_lt] at hz)); (try (exfalso; omega)))))) | (refine is_move ?_; (first | refine al_v (opx_move (.raw _)) ⟨rfl, trivial⟩ trivial rfl ?_ | refine al_v (opx_move (.ref _ _)) ⟨rfl, trivial⟩ trivial rfl ?_)) | (refine is_bin ?_; (first | refine al_v opx_eql ⟨rfl, rfl, trivial⟩ trivial rfl ?_ | refine al_v opx_lss ⟨rfl, rfl, trivial⟩ trivial rfl ?_ | refine al_v (opx_add (by unfold InR; omega)) ⟨rfl, rfl, trivial⟩ trivial rfl ?_ | refine al_v (opx_sub (by unfold InR; omega)) ⟨rfl, rfl, trivial⟩ trivial rfl ?_ | refine al_v (opx_rem (by omega) (by omega)) ⟨rfl, rfl, trivial⟩ trivial rfl ?_)) | (refine is_load ?_; (first | refine al_v opx_ld_imm ⟨rfl, trivial⟩ trivial rfl ?_ | refine al_v (opx_ld_box rfl) ⟨rfl, trivial⟩ ⟨rfl, trivial⟩ rfl ?_)) | (refine is_fa ?_; refine al_v opx_fa_ref ⟨rfl, trivial⟩ trivial rfl ?_) | (refine is_assign ?_; refine al_v (opx_assign (.raw _)) ⟨rfl, trivial⟩ trivial rfl ?_) | (refine is_pick ?_; (first | refine al_v (opx_pick_t (.raw _) (by assumption)) ⟨rfl, rfl, trivial⟩ trivial rfl ?_ | refine al_v (opx_pick_f (.raw _) (by assumption)) ⟨rfl, rfl, trivial⟩ trivial rfl ?_)) | (refine is_bi ?_; refine al_v opx_len_sl ⟨rfl, trivial⟩ trivial rfl ?_) | (refine is_ia ?_; refine al_v (opx_ia_sl2 r3 (by omega)) ⟨rfl, rfl, trivial⟩ trivial rfl ?_) | (refine is_st ?_; refine al_s (opx_st1_box (by rfl)) ⟨rfl, rfl, trivial⟩ ⟨rfl, trivial⟩ ?_) | refine al_v opx_nilck ⟨rfl, trivial⟩ trivial rfl ?_ | refine al_nil ?_ | refine al_v (opx_conv (wrap_u8 _)) ⟨rfl, trivial⟩ trivial rfl ?_)) | (refine is_ad ?_; refine al_v (opx_conv (wrap_u8 _)) ⟨rfl, trivial⟩ trivial rfl ?_) | (refine is_aw ?_; (first | refine aw_seq ?_ | refine aw_region ?_ | refine aw_skip ?_ | refine aw_ret ?_ | (refine is_cond ?_; (first | refine aw_cond_t rfl rfl ?_ | refine aw_cond_t rfl (by assumption) ?_ | refine aw_cond_f rfl (by assumption) ?_)))) | refine thn_r ?_)
    · exact retm_raw trivial rfl rfl rfl ⟨_, _, rfl, rfl, rfl, Int.emod_nonneg _ (by omega), fun _ => Int.emod_lt_of_pos _ (by omega), fun h => by omega⟩
    · exact retm_raw trivial rfl rfl rfl ⟨0, _, rfl, rfl, rfl, Int.le_refl _, fun h => by omega, fun _ => rfl⟩
  · have hc : decide (p + 1 - 1 < ((byRs bs).length : Int)) = false := decide_eq_false hlt
    repeat' (first | (refine is_al ?_; (first | (refine is_gd ?_; (first | refine al_on rfl rfl rfl (by assumption) ?_ | refine al_off rfl rfl rfl (by assumption) rfl ?_ | (refine al_g rfl rfl rfl rfl ?_ ?_ <;> ((intro hgd; try exact absurd hgd (by decide)); (try (have hz := hgd; simp only [decide_eq_true_eq, decide_eq_false_iff_not, Bool.not_eq_true', Bool.not_eq_false', Bool.not_true, Bool.not_false, beq_iff_eq, Int.not_le, Int.not_lt] at hz)); (try (exfalso; omega)))))) | (refine is_move ?_; (first | refine al_v (opx_move (.raw _)) ⟨rfl, trivial⟩ trivial rfl ?_ | refine al_v (opx_move (.ref _ _)) ⟨rfl, trivial⟩ trivial rfl ?_)) | (refine is_bin ?_; (first | refine al_v opx_eql ⟨rfl, rfl, trivial⟩ trivial rfl ?_ | refine al_v opx_lss ⟨rfl, rfl, trivial⟩ trivial rfl ?_ | refine al_v (opx_add (by unfold InR; omega)) ⟨rfl, rfl, trivial⟩ trivial rfl ?_ | refine al_v (opx_sub (by unfold InR; omega)) ⟨rfl, rfl, trivial⟩ trivial rfl ?_ | refine al_v (opx_quo (by unfold InR; omega) (by omega) (by omega)) ⟨rfl, rfl, trivial⟩ trivial rfl ?_ | refine al_v (opx_rem (by omega) (by omega)) ⟨rfl, rfl, trivial⟩ trivial rfl ?_)) | (refine is_load ?_; refine al_v (opx_ld_box rfl) ⟨rfl, trivial⟩ ⟨rfl, trivial⟩ rfl ?_) | (refine is_fa ?_; refine al_v opx_fa_ref ⟨rfl, trivial⟩ trivial rfl ?_) | (refine is_assign ?_; refine al_v (opx_assign (.raw _)) ⟨rfl, trivial⟩ trivial rfl ?_) | (refine is_pick ?_; (first | refine al_v (opx_pick_t (.raw _) (by assumption)) ⟨rfl, rfl, trivial⟩ trivial rfl ?_ | refine al_v (opx_pick_f (.raw _) (by assumption)) ⟨rfl, rfl, trivial⟩ trivial rfl ?_)) | (refine is_bi ?_; refine al_v opx_len_sl ⟨rfl, trivial⟩ trivial rfl ?_) | (refine is_st ?_; refine al_s (opx_st1_box (by rfl)) ⟨rfl, rfl, trivial⟩ ⟨rfl, trivial⟩ ?_) | refine al_v opx_nilck ⟨rfl, trivial⟩ trivial rfl ?_ | refine al_nil ?_ | refine ad_v (opx_conv (wrap_u8 _)) ⟨rfl, trivial⟩ trivial rfl ?_ | refine al_xor ⟨rfl, rfl, trivial⟩ (by omega) (by omega) rfl (fun z hz => ?_))) | (refine is_ad ?_; (first | (refine isd_move ?_; (first | refine ad_v (opx_move (.raw _)) ⟨rfl, trivial⟩ trivial rfl ?_ | refine ad_v (opx_move (.ref _ _)) ⟨rfl, trivial⟩ trivial rfl ?_)) | (refine isd_bin ?_; (first | refine ad_v (opx_add (by unfold InR; omega)) ⟨rfl, rfl, trivial⟩ trivial rfl ?_ | refine ad_v (opx_mul (by unfold InR; omega)) ⟨rfl, rfl, trivial⟩ trivial rfl ?_ | refine ad_v (opx_quo (by unfold InR; omega) (by omega) (by omega)) ⟨rfl, rfl, trivial⟩ trivial rfl ?_ | refine ad_v (opx_rem (by omega) (by omega)) ⟨rfl, rfl, trivial⟩ trivial rfl ?_)) | (refine isd_load ?_; (first | refine ad_v opx_ld_imm ⟨rfl, trivial⟩ trivial rfl ?_ | refine ad_v (opx_ld_box rfl) ⟨rfl, trivial⟩ ⟨rfl, trivial⟩ rfl ?_)) | (refine isd_fa ?_; refine ad_v opx_fa_ref ⟨rfl, trivial⟩ trivial rfl ?_) | (refine isd_assign ?_; refine ad_v (opx_assign (.raw _)) ⟨rfl, trivial⟩ trivial rfl ?_) | (refine isd_bi ?_; refine ad_v opx_len_sl ⟨rfl, trivial⟩ trivial rfl ?_) | (refine isd_ia ?_; (first | refine ad_v (opx_ia_sl2 r1 (by omega)) ⟨rfl, rfl, trivial⟩ trivial rfl ?_ | refine ad_v (opx_ia_sl2 r2 (by omega)) ⟨rfl, rfl, trivial⟩ trivial rfl ?_)) | refine ad_v opx_nilck ⟨rfl, trivial⟩ trivial rfl ?_ | refine ad_nil (by kernel_rfl) ?_ | refine ad_v (opx_conv (wrap_u8 _)) ⟨rfl, trivial⟩ trivial rfl ?_ | refine al_xor ⟨rfl, rfl, trivial⟩ (by omega) (by omega) rfl (fun z hz => ?_))) | (refine is_aw ?_; (first | refine aw_seq ?_ | refine aw_region ?_ | refine aw_skip ?_ | refine aw_ret ?_ | (refine is_cond ?_; (first | refine aw_cond_t rfl rfl ?_ | refine aw_cond_f rfl (by assumption) ?_)) | refine aw_draw mixed ?_)) | refine thn_r ?_)
    · exact retm_raw trivial rfl rfl rfl ⟨_, _, rfl, rfl, rfl, Int.emod_nonneg _ (by omega), fun _ => Int.emod_lt_of_pos _ (by omega), fun h => by omega⟩
    · exact retm_raw trivial rfl rfl rfl ⟨0, _, rfl, rfl, rfl, Int.le_refl _, fun h => by omega, fun _ => rfl⟩

theorem c_one (bs : List UInt8) (p : Int) (ns : List Int) (hb : bs.length ≤ 1048576) (hp : 0 ≤ p ∧ p ≤ 1099511627776) (hn : 1 ≤ ns.length ∧ ns.length ≤ 100) :
    Con Tryz.prog 15 [rdA, slI ns] [rdO bs p] (RdV bs fun r q => q = p + 1 ∧ r ∈ ns) := by
  have hlen := inRs_len (ns := ns)
  refine con_of_aw (vars := [.tmp 4]) [(0, .ref 0 0), (1, .r (slI ns))] [(0, rdO bs p)] 1 Tryz.func15 (by kernel_rfl) rfl Tryz.ntmps15 rfl (by decide) rfl rfl rfl rfl rfl ?_; intro B M w0 ρ0 Z0
  repeat' (first | (refine is_al ?_; (first | (refine is_move ?_; (first | refine al_v (opx_move (.sl _ _)) ⟨rfl, trivial⟩ trivial rfl ?_ | refine al_v (opx_move (.ref _ _)) ⟨rfl, trivial⟩ trivial rfl ?_)) | (refine is_load ?_; refine al_v opx_ld_imm ⟨rfl, trivial⟩ trivial rfl ?_) | (refine is_assign ?_; refine al_v (opx_assign (.raw _)) ⟨rfl, trivial⟩ trivial rfl ?_) | (refine is_bi ?_; refine al_v opx_len_sl ⟨rfl, trivial⟩ trivial rfl ?_) | (refine is_call ?_; (refine al_rdv 0 rfl rfl (by (repeat (first | exact .nil | refine .one rfl rfl ?_ | refine .tag rfl ?_ | refine .froz rfl rfl ?_ | refine .rnil rfl ?_ | refine .agg rfl (by (repeat (first | exact .nil | refine .cons (.same rfl) ?_ | refine .cons (.froz rfl) ?_ | refine .cons (.rnil) ?_)); (first | done | fail)) ?_)); (first | done | fail)) rfl (c_pick _ _ _ hb hp (by omega)) ?_; rintro r q ⟨rfl, hr1, hr2, hr3⟩)) | refine al_nil ?_ | refine al_iaI ⟨rfl, rfl, trivial⟩ (by omega) rfl (fun v hv => ?_))) | (refine is_ad ?_; refine al_iaI ⟨rfl, rfl, trivial⟩ (by omega) rfl (fun v hv => ?_)) | (refine is_aw ?_; (first | refine aw_seq ?_ | refine aw_region ?_ | refine aw_ret ?_)))
  exact retm_raw trivial rfl rfl rfl ⟨_, _, rfl, rfl, rfl, by assumption⟩

theorem c_someValue (bs : List UInt8) (p : Int) (hb : bs.length ≤ 1048576) (hp : 0 ≤ p ∧ p ≤ 1099511627770) :
    Con Tryz.prog 19 [rdA] [rdO bs p] (RdV bs fun r q => p ≤ q ∧ q ≤ p + 3 ∧ -1000 ≤ r ∧ r ≤ 1000) := by
  refine con_of_aw (vars := [.tmp 2]) [(0, .ref 0 0)] [(0, rdO bs p)] 1 Tryz.func19 (by kernel_rfl) rfl Tryz.ntmps19 rfl (by decide) rfl rfl rfl rfl rfl ?_; intro B M w0 ρ0 Z0
  repeat' (first | (refine is_al ?_; (first | (refine is_move ?_; refine al_v (opx_move (.ref _ _)) ⟨rfl, trivial⟩ trivial rfl ?_) | (refine is_bin ?_; (first | refine al_v (opx_sub (by unfold InR; omega)) ⟨rfl, rfl, trivial⟩ trivial rfl ?_ | refine al_v (opx_mul (by unfold InR; omega)) ⟨rfl, rfl, trivial⟩ trivial rfl ?_)) | (refine is_assign ?_; refine al_v (opx_assign (.raw _)) ⟨rfl, trivial⟩ trivial rfl ?_) | (refine is_call ?_; (refine al_rdv 0 rfl rfl (by (repeat (first | exact .nil | refine .one rfl rfl ?_ | refine .tag rfl ?_ | refine .froz rfl rfl ?_ | refine .rnil rfl ?_ | refine .agg rfl (by (repeat (first | exact .nil | refine .cons (.same rfl) ?_ | refine .cons (.froz rfl) ?_ | refine .cons (.rnil) ?_)); (first | done | fail)) ?_)); (first | done | fail)) rfl (c_pick _ _ _ hb (by omega) (by omega)) ?_; rintro r q ⟨rfl, ha1, ha2, ha3⟩)) | refine al_nil ?_)) | (refine is_aw ?_; (first | refine aw_seq ?_ | refine aw_region ?_)))
  rename_i r1 hc1 hc2 hc3
  repeat' (first | (refine is_al ?_; (first | (refine is_assign ?_; refine al_v (opx_assign (.raw _)) ⟨rfl, trivial⟩ trivial rfl ?_) | (refine is_call ?_; (refine al_rdv 0 rfl rfl (by (repeat (first | exact .nil | refine .one rfl rfl ?_ | refine .tag rfl ?_ | refine .froz rfl rfl ?_ | refine .rnil rfl ?_ | refine .agg rfl (by (repeat (first | exact .nil | refine .cons (.same rfl) ?_ | refine .cons (.froz rfl) ?_ | refine .cons (.rnil) ?_)); (first | done | fail)) ?_)); (first | done | fail)) rfl (c_one _ _ _ hb (by omega) (by simp)) ?_; rintro r3 q3 ⟨rfl, hr⟩)) | refine al_nil ?_ | refine al_litI [0, 1, -1, 5, 10, 100, 1000, -1000, r1, 4 * r - 500] (by (repeat (first | exact .nil _ | refine .cons rfl ?_)); (first | done | fail)) rfl rfl rfl ?_)) | (refine is_ad ?_; refine al_litI [0, 1, -1, 5, 10, 100, 1000, -1000, r1, 4 * r - 500] (by (repeat (first | exact .nil _ | refine .cons rfl ?_)); (first | done | fail)) rfl rfl rfl ?_) | (refine is_aw ?_; refine aw_ret ?_))
  exact retm_raw trivial rfl rfl rfl ⟨_, _, rfl, rfl, by omega, by omega, by simp at hr; omega, by simp at hr; omega⟩

theorem c_newReader (bs : List UInt8) (hb : bs.length ≤ 1048576) :
    Con Tryz.prog 14 [slB bs] [] (fun rs all => ∃ bs : List UInt8, rs = [rdA] ∧ all = [rdO bs 0] ∧ bs.length ≤ 1048576) := by
  have hlen := byRs_len (bs := bs)
  refine con_of_aw (vars := [.tmp 2]) [(0, .r (slB bs))] [] 0 Tryz.func14 (by kernel_rfl) rfl Tryz.ntmps14 rfl (by decide) rfl rfl rfl rfl rfl ?_; intro B M w0 ρ0 Z0
  repeat' (first | (refine is_al ?_; (first | (refine is_move ?_; refine al_v (opx_move (.sl _ _)) ⟨rfl, trivial⟩ trivial rfl ?_) | (refine is_bin ?_; refine al_v opx_gtr ⟨rfl, rfl, trivial⟩ trivial rfl ?_) | (refine is_assign ?_; (first | refine al_v (opx_assign (.raw _)) ⟨rfl, trivial⟩ trivial rfl ?_ | refine al_v (opx_assign (.sl _ _)) ⟨rfl, trivial⟩ trivial rfl ?_ | refine al_v (opx_assign (.ref _ _)) ⟨rfl, trivial⟩ trivial rfl ?_)) | (refine is_bi ?_; refine al_v opx_len_sl ⟨rfl, trivial⟩ trivial rfl ?_) | refine al_v (opx_build1 (res := [_, _]) rfl) ⟨rfl, trivial⟩ trivial rfl ?_ | refine al_n opx_boxs ⟨rfl, trivial⟩ trivial rfl ?_ | refine al_nil ?_ | refine al_v (opx_slice_sl (l := 0) (h := 2000) (fun _ => rfl) (fun h => by cases h) (by omega) (by omega)) ⟨rfl, rfl, trivial⟩ trivial rfl ?_)) | (refine is_ad ?_; refine al_v (opx_slice_sl (l := 0) (h := 2000) (fun _ => rfl) (fun h => by cases h) (by omega) (by omega)) ⟨rfl, rfl, trivial⟩ trivial rfl ?_) | (refine is_aw ?_; (first | refine aw_seq ?_ | refine aw_region ?_ | refine aw_skip ?_ | refine aw_ret ?_ | (refine is_cond ?_; (refine aw_cond rfl ?_ ?_ <;> ((intro hgd; try exact absurd hgd (by decide)); (try (have hz := hgd; simp only [decide_eq_true_eq, decide_eq_false_iff_not, Bool.not_eq_true', Bool.not_eq_false', Bool.not_true, Bool.not_false, beq_iff_eq, Int.not_le, Int.not_lt] at hz)); (try (exfalso; omega))))))))
  · exact ret_ref (ob := rdO (bs.take 2000) 0) trivial rfl (by show OB.box _ [.c (.sl 1 (((byRs bs).take 2000).drop 0)), _] = OB.box _ [_, _]; rw [byRs_take]; rfl) rfl ⟨_, rfl, rfl, by simp; omega⟩
  · exact ret_ref (ob := rdO bs 0) trivial rfl rfl rfl ⟨_, rfl, rfl, hb⟩

end Go.Proofs.YtfoecgfboicphaaGreatDoor
/-
  The reader, its answers known.
-/
namespace Go.Proofs.YtfoecgfboicphaaGreatDoor
open Go.RowKit
set_option linter.unusedVariables false
set_option linter.unusedSimpArgs false
attribute [local irreducible] AL AW OpX Le AD

theorem al_xorE {P : Program} {ops : Array Oper} {cx : Cx} {Q : APost} {rest : List Oper} {l : SL} {mm : OL} {nn d : Nat} {t t' : TypeId} {x y : Operand} {ty : TypeId} {pos : String} {af : Array Edge} {m n : Int}
    (hR : AgL (lk .dead l) [(x, .i m), (y, .i n)]) (h1 : 0 ≤ m ∧ m < 4611686018427387904) (h2 : 0 ≤ n ∧ n < 4611686018427387904) (hd : Nat.blt d cx.N = true)
    (k : ∀ z : Int, bits .xor .i64 m n = z → 0 ≤ z → AL P ops cx Q rest ((d, .i z) :: l) mm nn) : AL P ops cx Q (⟨some d, .binOp .xor t x y t', ty, pos, af, none⟩ :: rest) l mm nn :=
  al_v (opx_bits (.inl rfl)) hR trivial hd (k _ rfl (xor_nn h1.1 h1.2 h2.1 h2.2))
def pkU (bs : List UInt8) (p : Int) : Int :=
  ((bs.getD (p % (bs.length : Int)).toNat 0).toNat : Int) * 131 + ((bs.getD ((p * 7 + 3) % (bs.length : Int)).toNat 0).toNat : Int) * 1117 + p * 29 + p / (bs.length : Int) * 53
def pkV (bs : List UInt8) (p n : Int) : Int :=
  if bs.length = 0 ∨ n < 1 then 0 else if p < (bs.length : Int) then ((bs.getD p.toNat 0).toNat : Int) % n else bits .xor .i64 (pkU bs p) (pkU bs p / 64) % n
theorem c_pickX (bs : List UInt8) (p n : Int) (hb : bs.length ≤ 1048576) (hp : 0 ≤ p ∧ p ≤ 1099511627776) (hn : n ≤ 1099511627776) : Con Tryz.prog 17 [rdA, rI n] [rdO bs p] (fun rs all => rs = [rI (pkV bs p n)] ∧ all = [rdO bs (p + 1)]) := by
  have hlen := byRs_len (bs := bs)
  refine con_of_aw (vars := [.tmp 4]) [(0, .ref 0 0), (1, .r (rI n))] [(0, rdO bs p)] 1 Tryz.func17 (by kernel_rfl) rfl Tryz.ntmps17 rfl (by decide) rfl rfl rfl rfl rfl ?_; intro B M w0 ρ0 Z0
  rcases Nat.eq_zero_or_pos bs.length with h0 | h0
  · have hz0 : decide (((byRs bs).length : Int) = 0) = true := decide_eq_true (by omega)
    have e : pkV bs p n = 0 := by rw [pkV, if_pos (.inl h0)]
    rw [e]
    repeat' (first | (refine is_al ?_; (first | (refine is_gd ?_; (first | refine al_on rfl rfl rfl (by assumption) ?_ | refine al_off rfl rfl rfl (by assumption) rfl ?_ | (refine al_g rfl rfl rfl rfl ?_ ?_ <;> ((intro hgd; try exact absurd hgd (by decide)); (try (have hz := hgd; simp only [decide_eq_true_eq, decide_eq_false_iff_not, Bool.not_eq_true', Bool.not_eq_false', Bool.not_true, Bool.not_false, beq_iff_eq, Int.not_le, Int.not_lt] at hz)); (try (exfalso; omega)))))) | (refine is_move ?_; (first | refine al_v (opx_move (.raw _)) ⟨rfl, trivial⟩ trivial rfl ?_ | refine al_v (opx_move (.ref _ _)) ⟨rfl, trivial⟩ trivial rfl ?_)) | (refine is_bin ?_; (first | refine al_v opx_eql ⟨rfl, rfl, trivial⟩ trivial rfl ?_ | refine al_v opx_lss ⟨rfl, rfl, trivial⟩ trivial rfl ?_ | refine al_v (opx_add (by unfold InR; omega)) ⟨rfl, rfl, trivial⟩ trivial rfl ?_)) | (refine is_load ?_; refine al_v (opx_ld_box rfl) ⟨rfl, trivial⟩ ⟨rfl, trivial⟩ rfl ?_) | (refine is_fa ?_; refine al_v opx_fa_ref ⟨rfl, trivial⟩ trivial rfl ?_) | (refine is_assign ?_; refine al_v (opx_assign (.raw _)) ⟨rfl, trivial⟩ trivial rfl ?_) | (refine is_pick ?_; (first | refine al_v (opx_pick_t (.raw _) (by assumption)) ⟨rfl, rfl, trivial⟩ trivial rfl ?_ | refine al_v (opx_pick_f (.raw _) (by assumption)) ⟨rfl, rfl, trivial⟩ trivial rfl ?_)) | (refine is_bi ?_; refine al_v opx_len_sl ⟨rfl, trivial⟩ trivial rfl ?_) | (refine is_st ?_; refine al_s (opx_st1_box (by rfl)) ⟨rfl, rfl, trivial⟩ ⟨rfl, trivial⟩ ?_) | refine al_v opx_nilck ⟨rfl, trivial⟩ trivial rfl ?_ | refine al_nil ?_)) | (refine is_aw ?_; (first | refine aw_seq ?_ | refine aw_region ?_ | refine aw_ret ?_ | (refine is_cond ?_; (first | refine aw_cond_t rfl rfl ?_ | refine aw_cond_t rfl (by assumption) ?_)))) | refine thn_r ?_)
    all_goals exact retm_raw trivial rfl rfl rfl ⟨rfl, rfl⟩
  by_cases hn1 : n < 1
  · have d1 : decide (n < 1) = true := decide_eq_true hn1
    have e : pkV bs p n = 0 := by rw [pkV, if_pos (.inr hn1)]
    rw [e]
    repeat' (first | (refine is_al ?_; (first | (refine is_gd ?_; refine al_off rfl rfl rfl (by assumption) rfl ?_) | (refine is_move ?_; (first | refine al_v (opx_move (.raw _)) ⟨rfl, trivial⟩ trivial rfl ?_ | refine al_v (opx_move (.ref _ _)) ⟨rfl, trivial⟩ trivial rfl ?_)) | (refine is_bin ?_; (first | refine al_v opx_lss ⟨rfl, rfl, trivial⟩ trivial rfl ?_ | refine al_v (opx_add (by unfold InR; omega)) ⟨rfl, rfl, trivial⟩ trivial rfl ?_)) | (refine is_load ?_; refine al_v (opx_ld_box rfl) ⟨rfl, trivial⟩ ⟨rfl, trivial⟩ rfl ?_) | (refine is_fa ?_; refine al_v opx_fa_ref ⟨rfl, trivial⟩ trivial rfl ?_) | (refine is_assign ?_; refine al_v (opx_assign (.raw _)) ⟨rfl, trivial⟩ trivial rfl ?_) | (refine is_pick ?_; refine al_v (opx_pick_t (.raw _) (by assumption)) ⟨rfl, rfl, trivial⟩ trivial rfl ?_) | (refine is_st ?_; refine al_s (opx_st1_box (by rfl)) ⟨rfl, rfl, trivial⟩ ⟨rfl, trivial⟩ ?_) | refine al_v opx_nilck ⟨rfl, trivial⟩ trivial rfl ?_ | refine al_nil ?_)) | (refine is_aw ?_; (first | refine aw_seq ?_ | refine aw_region ?_ | refine aw_ret ?_ | (refine is_cond ?_; refine aw_cond_t rfl rfl ?_))) | refine thn_r ?_)
    all_goals exact retm_raw trivial rfl rfl rfl ⟨rfl, rfl⟩
  have d1 : decide (n < 1) = false := decide_eq_false hn1
  obtain ⟨k1, hk1, hk1'⟩ : ∃ k : Nat, (p + 1 - 1) % ((byRs bs).length : Int) = (k : Int) ∧ k < bs.length :=
    ⟨((p + 1 - 1) % ((byRs bs).length : Int)).toNat, by have := Int.emod_nonneg (p + 1 - 1) (b := ((byRs bs).length : Int)) (by omega); omega, by have := Int.emod_lt_of_pos (p + 1 - 1) (b := ((byRs bs).length : Int)) (by omega); have := Int.emod_nonneg (p + 1 - 1) (b := ((byRs bs).length : Int)) (by omega); omega⟩
  obtain ⟨k2, hk2, hk2'⟩ : ∃ k : Nat, ((p + 1 - 1) * 7 + 3) % ((byRs bs).length : Int) = (k : Int) ∧ k < bs.length :=
    ⟨(((p + 1 - 1) * 7 + 3) % ((byRs bs).length : Int)).toNat, by have := Int.emod_nonneg ((p + 1 - 1) * 7 + 3) (b := ((byRs bs).length : Int)) (by omega); omega, by have := Int.emod_lt_of_pos ((p + 1 - 1) * 7 + 3) (b := ((byRs bs).length : Int)) (by omega); have := Int.emod_nonneg ((p + 1 - 1) * 7 + 3) (b := ((byRs bs).length : Int)) (by omega); omega⟩
  have hd0 := Int.ediv_nonneg (a := p + 1 - 1) (b := ((byRs bs).length : Int)) (by omega) (by omega)
  have hd1 := Int.ediv_le_self (a := p + 1 - 1) ((byRs bs).length : Int) (by omega)
  obtain ⟨b1, h1⟩ : ∃ b, bs[k1]? = some b := ⟨_, List.getElem?_eq_getElem hk1'⟩
  obtain ⟨b2, h2⟩ : ∃ b, bs[k2]? = some b := ⟨_, List.getElem?_eq_getElem hk2'⟩
  have l1 := b1.toNat_lt
  have l2 := b2.toNat_lt
  have r1 := byRs_at h1
  have r2 := byRs_at h2
  have hz0 : decide (((byRs bs).length : Int) = 0) = false := decide_eq_false (by omega)
  have hno : ¬ (bs.length = 0 ∨ n < 1) := by omega
  have ep : p + 1 - 1 = p := by omega
  by_cases hlt : p + 1 - 1 < ((byRs bs).length : Int)
  · obtain ⟨k3, hk3⟩ : ∃ k : Nat, p + 1 - 1 = (k : Int) := ⟨(p + 1 - 1).toNat, by omega⟩
    obtain ⟨b3, h3⟩ : ∃ b, bs[k3]? = some b := ⟨_, List.getElem?_eq_getElem (by omega)⟩
    have r3 := byRs_at h3
    have hc : decide (p + 1 - 1 < ((byRs bs).length : Int)) = true := decide_eq_true hlt
    have e : pkV bs p n = (b3.toNat : Int) % n := by
      rw [pkV, if_neg hno, if_pos (by omega), show p.toNat = k3 by omega, List.getD, h3]; rfl
    repeat' (first | (refine is_al ?_; (first | (refine is_gd ?_; refine al_on rfl rfl rfl (by assumption) ?_) | (refine is_move ?_; (first | refine al_v (opx_move (.raw _)) ⟨rfl, trivial⟩ trivial rfl ?_ | refine al_v (opx_move (.ref _ _)) ⟨rfl, trivial⟩ trivial rfl ?_)) | (refine is_bin ?_; (first | refine al_v opx_eql ⟨rfl, rfl, trivial⟩ trivial rfl ?_ | refine al_v opx_lss ⟨rfl, rfl, trivial⟩ trivial rfl ?_ | refine al_v (opx_add (by unfold InR; omega)) ⟨rfl, rfl, trivial⟩ trivial rfl ?_ | refine al_v (opx_sub (by unfold InR; omega)) ⟨rfl, rfl, trivial⟩ trivial rfl ?_ | refine al_v (opx_rem (by omega) (by omega)) ⟨rfl, rfl, trivial⟩ trivial rfl ?_)) | (refine is_load ?_; (first | refine al_v opx_ld_imm ⟨rfl, trivial⟩ trivial rfl ?_ | refine al_v (opx_ld_box rfl) ⟨rfl, trivial⟩ ⟨rfl, trivial⟩ rfl ?_)) | (refine is_fa ?_; refine al_v opx_fa_ref ⟨rfl, trivial⟩ trivial rfl ?_) | (refine is_assign ?_; refine al_v (opx_assign (.raw _)) ⟨rfl, trivial⟩ trivial rfl ?_) | (refine is_pick ?_; refine al_v (opx_pick_f (.raw _) (by assumption)) ⟨rfl, rfl, trivial⟩ trivial rfl ?_) | (refine is_bi ?_; refine al_v opx_len_sl ⟨rfl, trivial⟩ trivial rfl ?_) | (refine is_ia ?_; refine al_v (opx_ia_sl2 r3 (by omega)) ⟨rfl, rfl, trivial⟩ trivial rfl ?_) | (refine is_st ?_; refine al_s (opx_st1_box (by rfl)) ⟨rfl, rfl, trivial⟩ ⟨rfl, trivial⟩ ?_) | refine al_v opx_nilck ⟨rfl, trivial⟩ trivial rfl ?_ | refine al_nil ?_ | refine al_v (opx_conv (wrap_u8 _)) ⟨rfl, trivial⟩ trivial rfl ?_)) | (refine is_ad ?_; refine al_v (opx_conv (wrap_u8 _)) ⟨rfl, trivial⟩ trivial rfl ?_) | (refine is_aw ?_; (first | refine aw_seq ?_ | refine aw_region ?_ | refine aw_skip ?_ | refine aw_ret ?_ | (refine is_cond ?_; (first | refine aw_cond_t rfl (by assumption) ?_ | refine aw_cond_f rfl (by assumption) ?_)))) | refine thn_r ?_)
    · exact retm_raw trivial rfl rfl rfl ⟨by rw [e], rfl⟩
  · have hc : decide (p + 1 - 1 < ((byRs bs).length : Int)) = false := decide_eq_false hlt
    have eU : (b1.toNat : Int) * 131 + (b2.toNat : Int) * 1117 + (p + 1 - 1) * 29 + (p + 1 - 1) / ((byRs bs).length : Int) * 53 = pkU bs p := by
      rw [ep, hlen] at hk1 hk2
      rw [pkU, hk1, hk2, ep, hlen, List.getD, List.getD, Int.toNat_natCast, Int.toNat_natCast, h1, h2]; rfl
    have e : pkV bs p n = bits .xor .i64 (pkU bs p) (pkU bs p / 64) % n := by
      rw [pkV, if_neg hno, if_neg (by omega)]
    rw [e, ← eU]
    repeat' (first | (refine is_al ?_; (first | (refine is_gd ?_; refine al_on rfl rfl rfl (by assumption) ?_) | (refine is_move ?_; (first | refine al_v (opx_move (.raw _)) ⟨rfl, trivial⟩ trivial rfl ?_ | refine al_v (opx_move (.ref _ _)) ⟨rfl, trivial⟩ trivial rfl ?_)) | (refine is_bin ?_; (first | refine al_v opx_eql ⟨rfl, rfl, trivial⟩ trivial rfl ?_ | refine al_v opx_lss ⟨rfl, rfl, trivial⟩ trivial rfl ?_ | refine al_v (opx_add (by unfold InR; omega)) ⟨rfl, rfl, trivial⟩ trivial rfl ?_ | refine al_v (opx_sub (by unfold InR; omega)) ⟨rfl, rfl, trivial⟩ trivial rfl ?_ | refine al_v (opx_quo (by unfold InR; omega) (by omega) (by omega)) ⟨rfl, rfl, trivial⟩ trivial rfl ?_ | refine al_v (opx_rem (by omega) (by omega)) ⟨rfl, rfl, trivial⟩ trivial rfl ?_)) | (refine is_load ?_; refine al_v (opx_ld_box rfl) ⟨rfl, trivial⟩ ⟨rfl, trivial⟩ rfl ?_) | (refine is_fa ?_; refine al_v opx_fa_ref ⟨rfl, trivial⟩ trivial rfl ?_) | (refine is_assign ?_; refine al_v (opx_assign (.raw _)) ⟨rfl, trivial⟩ trivial rfl ?_) | (refine is_pick ?_; refine al_v (opx_pick_f (.raw _) (by assumption)) ⟨rfl, rfl, trivial⟩ trivial rfl ?_) | (refine is_bi ?_; refine al_v opx_len_sl ⟨rfl, trivial⟩ trivial rfl ?_) | (refine is_st ?_; refine al_s (opx_st1_box (by rfl)) ⟨rfl, rfl, trivial⟩ ⟨rfl, trivial⟩ ?_) | refine al_v opx_nilck ⟨rfl, trivial⟩ trivial rfl ?_ | refine al_nil ?_ | refine ad_v (opx_conv (wrap_u8 _)) ⟨rfl, trivial⟩ trivial rfl ?_ | refine al_xorE ⟨rfl, rfl, trivial⟩ (by omega) (by omega) rfl (fun z hz hz0 => ?_))) | (refine is_ad ?_; (first | (refine isd_move ?_; (first | refine ad_v (opx_move (.raw _)) ⟨rfl, trivial⟩ trivial rfl ?_ | refine ad_v (opx_move (.ref _ _)) ⟨rfl, trivial⟩ trivial rfl ?_)) | (refine isd_bin ?_; (first | refine ad_v (opx_add (by unfold InR; omega)) ⟨rfl, rfl, trivial⟩ trivial rfl ?_ | refine ad_v (opx_mul (by unfold InR; omega)) ⟨rfl, rfl, trivial⟩ trivial rfl ?_ | refine ad_v (opx_quo (by unfold InR; omega) (by omega) (by omega)) ⟨rfl, rfl, trivial⟩ trivial rfl ?_ | refine ad_v (opx_rem (by omega) (by omega)) ⟨rfl, rfl, trivial⟩ trivial rfl ?_)) | (refine isd_load ?_; (first | refine ad_v opx_ld_imm ⟨rfl, trivial⟩ trivial rfl ?_ | refine ad_v (opx_ld_box rfl) ⟨rfl, trivial⟩ ⟨rfl, trivial⟩ rfl ?_)) | (refine isd_fa ?_; refine ad_v opx_fa_ref ⟨rfl, trivial⟩ trivial rfl ?_) | (refine isd_assign ?_; refine ad_v (opx_assign (.raw _)) ⟨rfl, trivial⟩ trivial rfl ?_) | (refine isd_bi ?_; refine ad_v opx_len_sl ⟨rfl, trivial⟩ trivial rfl ?_) | (refine isd_ia ?_; (first | refine ad_v (opx_ia_sl2 r1 (by omega)) ⟨rfl, rfl, trivial⟩ trivial rfl ?_ | refine ad_v (opx_ia_sl2 r2 (by omega)) ⟨rfl, rfl, trivial⟩ trivial rfl ?_)) | refine ad_v opx_nilck ⟨rfl, trivial⟩ trivial rfl ?_ | refine ad_nil (by kernel_rfl) ?_ | refine ad_v (opx_conv (wrap_u8 _)) ⟨rfl, trivial⟩ trivial rfl ?_ | refine al_xorE ⟨rfl, rfl, trivial⟩ (by omega) (by omega) rfl (fun z hz hz0 => ?_))) | (refine is_aw ?_; (first | refine aw_seq ?_ | refine aw_region ?_ | refine aw_skip ?_ | refine aw_ret ?_ | (refine is_cond ?_; refine aw_cond_f rfl (by assumption) ?_) | refine aw_draw mixed ?_)))
    · exact retm_raw trivial rfl rfl rfl ⟨by rw [hz], rfl⟩
theorem pkV_ok {bs : List UInt8} {p n : Int} (hb : bs.length ≤ 1048576) (hp : 0 ≤ p ∧ p ≤ 1099511627776) : 0 ≤ pkV bs p n ∧ (1 ≤ n → pkV bs p n < n) ∧ (n < 1 → pkV bs p n = 0) := by
  by_cases h : bs.length = 0 ∨ n < 1
  · rw [pkV, if_pos h]; exact ⟨Int.le_refl _, fun h1 => by omega, fun _ => rfl⟩
  · have hn : 0 < n := by omega
    refine ⟨?_, fun _ => ?_, fun h1 => absurd (.inr h1) h⟩ <;> rw [pkV, if_neg h] <;> split
    · exact Int.emod_nonneg _ (by omega)
    · exact Int.emod_nonneg _ (by omega)
    · exact Int.emod_lt_of_pos _ hn
    · exact Int.emod_lt_of_pos _ hn
theorem c_pickQ (bs : List UInt8) (p n : Int) (hb : bs.length ≤ 1048576) (hp : 0 ≤ p ∧ p ≤ 1099511627776) (hn : n ≤ 1099511627776) : Con Tryz.prog 17 [rdA, rI n] [rdO bs p] (RdV bs fun r q => q = p + 1 ∧ r = pkV bs p n) :=
  (c_pickX bs p n hb hp hn).mono fun rs all ⟨h1, h2⟩ => ⟨_, _, h1, h2, rfl, rfl⟩
end Go.Proofs.YtfoecgfboicphaaGreatDoor
/-
  Lists of texts, written out.
-/
namespace Go.Proofs.YtfoecgfboicphaaGreatDoor
open Go.RowKit
set_option linter.unusedVariables false
set_option linter.unusedSimpArgs false
section
variable {P : Program} {ops : Array Oper} {cx : Cx} {Q : APost} {rest : List Oper} {l : SL} {m : OL} {n d : Nat} {t t' : TypeId} {x y : Operand} {ty : TypeId} {pos : String} {af : Array Edge}
theorem al_litS {T e bytes cnt : Nat} {zs : List Value} [hT : SlT P T e 1 bytes zs] (ns : List Str) {ps : List (Nat × Operand)} (h : P1 (lk .dead l) 0 ps (ns.map cS)) (hn : ns.length = cnt) (hb : Nat.ble cnt 16777216 = true) (hd : Nat.blt d cx.N = true)
    (k : AL P ops cx Q rest ((d, .sl 1 (stRs ns)) :: (d, .own n) :: l) ((n, .froz 1 (stRs ns)) :: (n, .row 1 e (stRs ns)) :: m) (n + 1)) :
    AL P ops cx Q (⟨some d, .buildSlice T cnt ps.toArray, ty, pos, af, none⟩ :: rest) l m n := by
  have e1 : (ns.map cS).map (fun c => [c]) = stRs ns := by simp [stRs]
  have hx := opx_lit1 (hT := hT) (d := d) (ty := ty) (pos := pos) (af := af) (gd := none) (u := n) h (by simpa using hn) hb
  rw [e1] at hx
  refine al_n hx h.ag trivial hd ?_
  refine al_le (le_freeze n (wd := 1) (e := e) (rows := stRs ns) (by simp [lk])) ?_
  exact al_le (le_frozSl d (t := n) (wd := 1) (rows := stRs ns) (by simp [lk]) (by simp [lk])) k
variable {ol : List Oper} {done : List Keys}
theorem ad_litS {T e bytes cnt : Nat} {zs : List Value} [hT : SlT P T e 1 bytes zs] (ns : List Str) {ps : List (Nat × Operand)} (h : P1 (lk .dead l) 0 ps (ns.map cS)) (hn : ns.length = cnt) (hb : Nat.ble cnt 16777216 = true) (hd : Nat.blt d cx.N = true)
    (k : AD P ol cx Q (⟨rtmps (rdParts ps ((ns.map cS).map fun c => .one (.c c))), [d], [], [n], [n]⟩ :: done) rest ((d, .sl 1 (stRs ns)) :: l) ((n, .froz 1 (stRs ns)) :: m) (n + 1)) :
    AD P ol cx Q done (⟨some d, .buildSlice T cnt ps.toArray, ty, pos, af, none⟩ :: rest) l m n := by
  have e1 : (ns.map cS).map (fun c => [c]) = stRs ns := by simp [stRs]
  have hx := opx_lit1 (hT := hT) (d := d) (ty := ty) (pos := pos) (af := af) (gd := none) (u := n) h (by simpa using hn) hb
  rw [e1] at hx
  exact ad_n hx.frz h.ag trivial hd k
end
end Go.Proofs.YtfoecgfboicphaaGreatDoor
/-
  Labels that are drawn: the walks.
-/
namespace Go.Proofs.YtfoecgfboicphaaGreatDoor
open Go.RowKit
set_option linter.unusedVariables false
set_option linter.unusedSimpArgs false
attribute [local irreducible] AL AW OpX Le AD

def ofV (bs : List UInt8) (p : Int) (ss : List Str) : Str := ss.getD (pkV bs p ss.length).toNat []
theorem ofV_mem {bs : List UInt8} {p : Int} {ss : List Str} (hb : bs.length ≤ 1048576) (hp : 0 ≤ p ∧ p ≤ 1099511627776) (hn : 1 ≤ ss.length) : ofV bs p ss ∈ ss := by
  obtain ⟨h1, h2, _⟩ := pkV_ok (n := (ss.length : Int)) hb hp
  have h2 := h2 (by omega)
  rw [ofV, List.getD, List.getElem?_eq_getElem (show (pkV bs p ss.length).toNat < ss.length by omega)]
  exact List.getElem_mem _
theorem c_ofX (bs : List UInt8) (p : Int) (ss : List Str) (hb : bs.length ≤ 1048576) (hp : 0 ≤ p ∧ p ≤ 1099511627776) (hn : 1 ≤ ss.length ∧ ss.length ≤ 100) :
    Con Tryz.prog 16 [rdA, slS ss] [rdO bs p] (fun rs all => rs = [rStr (ofV bs p ss)] ∧ all = [rdO bs (p + 1)]) := by
  have hlen := stRs_len (xs := ss)
  obtain ⟨k1, k2, _⟩ := pkV_ok (n := (ss.length : Int)) hb hp
  have k2 := k2 (by omega)
  obtain ⟨k, hk⟩ : ∃ k : Nat, pkV bs p (ss.length : Int) = (k : Int) := ⟨(pkV bs p (ss.length : Int)).toNat, by omega⟩
  obtain ⟨x, hx⟩ : ∃ x, ss[k]? = some x := ⟨_, List.getElem?_eq_getElem (by omega)⟩
  have hxr := stRs_at hx
  have e : ofV bs p ss = x := by rw [ofV, hk, Int.toNat_natCast, List.getD, hx]; rfl
  refine con_of_aw (vars := [.tmp 4]) [(0, .ref 0 0), (1, .r (slS ss))] [(0, rdO bs p)] 1 Tryz.func16 (by kernel_rfl) rfl Tryz.ntmps16 rfl (by decide) rfl rfl rfl rfl rfl ?_; intro B M w0 ρ0 Z0
  rw [← hlen] at hk
  repeat' (first | (refine is_al ?_; (first | (refine is_move ?_; (first | refine al_v (opx_move (.sl _ _)) ⟨rfl, trivial⟩ trivial rfl ?_ | refine al_v (opx_move (.ref _ _)) ⟨rfl, trivial⟩ trivial rfl ?_)) | (refine is_load ?_; refine al_v opx_ld_imm ⟨rfl, trivial⟩ trivial rfl ?_) | (refine is_assign ?_; refine al_v (opx_assign (.raw _)) ⟨rfl, trivial⟩ trivial rfl ?_) | (refine is_bi ?_; refine al_v opx_len_sl ⟨rfl, trivial⟩ trivial rfl ?_) | (refine is_ia ?_; refine al_v (opx_ia_sl2 hxr (by omega)) ⟨rfl, rfl, trivial⟩ trivial rfl ?_) | (refine is_call ?_; (refine al_rdv 0 rfl rfl (by (repeat (first | exact .nil | refine .one rfl rfl ?_ | refine .tag rfl ?_ | refine .froz rfl rfl ?_ | refine .rnil rfl ?_ | refine .agg rfl (by (repeat (first | exact .nil | refine .cons (.same rfl) ?_ | refine .cons (.froz rfl) ?_ | refine .cons (.rnil) ?_)); (first | done | fail)) ?_)); (first | done | fail)) rfl (c_pickQ _ _ _ hb hp (by omega)) ?_; rintro r q ⟨rfl, rfl⟩)) | refine al_nil ?_)) | (refine is_aw ?_; (first | refine aw_seq ?_ | refine aw_region ?_ | refine aw_ret ?_)))
  exact retm_raw trivial rfl rfl rfl ⟨by rw [e], rfl⟩
theorem c_of (bs : List UInt8) (p : Int) (ss : List Str) (hb : bs.length ≤ 1048576) (hp : 0 ≤ p ∧ p ≤ 1099511627776) (hn : 1 ≤ ss.length ∧ ss.length ≤ 100) :
    Con Tryz.prog 16 [rdA, slS ss] [rdO bs p] (RdG bs (fun s : Str => [rStr s]) fun s q => q = p + 1 ∧ s ∈ ss) :=
  (c_ofX bs p ss hb hp hn).mono fun rs all ⟨h1, h2⟩ => ⟨_, _, h1, h2, rfl, rfl, ofV_mem hb hp hn.1⟩
end Go.Proofs.YtfoecgfboicphaaGreatDoor
