/-
  The steps of moving sums: the law's walk.
-/
import Derived.Test.YtnmiflnokhgadaaW3
namespace Go.Proofs.Ytnmiflnokhgadaa
open Go.RowKit
set_option linter.unusedVariables false
set_option linter.unusedSimpArgs false
attribute [local irreducible] AL AW OpX Le AD

theorem c_fnMovingSumsStep (bs : List UInt8) : Con Try.prog 5 [slB bs] [] (fun rs all => rs = [rB true] ∧ all = []) := by
  have hlen := byRs_len (bs := bs)
  refine con_of_aw (vars := [.tmp 2]) [(0, .r (slB bs))] [] 0 Try.func5 (by kernel_rfl) rfl Try.ntmps5 rfl (by decide) rfl rfl rfl rfl rfl ?_
  intro B M w0 ρ0 Z0
  repeat' (first | (refine is_al ?_; (first | (refine is_move ?_; (first | refine al_v (opx_move (.raw _)) ⟨rfl, trivial⟩ trivial rfl ?_ | refine al_v (opx_move (.sl _ _)) ⟨rfl, trivial⟩ trivial rfl ?_ | refine al_v (opx_move (.tup _)) ⟨rfl, trivial⟩ trivial rfl ?_)) | (refine is_bin ?_; refine al_v opx_gtr ⟨rfl, rfl, trivial⟩ trivial rfl ?_) | (refine is_assign ?_; (first | refine al_v (opx_assign (.raw _)) ⟨rfl, trivial⟩ trivial rfl ?_ | refine al_v (opx_assign (.sl _ _)) ⟨rfl, trivial⟩ trivial rfl ?_)) | (refine is_bi ?_; refine al_v opx_len_sl ⟨rfl, trivial⟩ trivial rfl ?_) | (refine is_call ?_; (refine al_callE (by repeat (first | exact .nil | refine .one rfl rfl ?_ | refine .froz rfl rfl ?_ | refine .rnil rfl ?_)) rfl (c_drawMovingSums' _ (by omega)) ?_; rintro ⟨ps, w⟩ ⟨h1, h2, h3, h4⟩; dsimp only at h1 h2 h3 h4 ⊢)) | refine al_v (opx_extract _ rfl) ⟨rfl, trivial⟩ trivial rfl ?_ | refine al_nil ?_)) | (refine is_aw ?_; (first | refine aw_seq ?_ | refine aw_region ?_ | refine aw_skip ?_ | refine aw_ret ?_ | (refine is_cond ?_; (refine aw_cond rfl ?_ ?_ <;> ((intro hgd; try exact absurd hgd (by decide)); (try (have hz := hgd; simp only [decide_eq_true_eq, decide_eq_false_iff_not, Bool.not_eq_true', Bool.not_eq_false', Bool.not_true, Bool.not_false, beq_iff_eq, Int.not_le, Int.not_lt] at hz)); (try (exfalso; omega))))))) | refine thn_r ?_)
  · exact ret_raw trivial rfl ⟨congrArg (fun b => [rB b]) (rfl), rfl⟩
  have hE : (!decide (msums ps w = msums ps w)) = false := by simp
  have hE2 : decide (msums ps w = msums ps w) = true := by simp
  have hl1 := msums_len (ps := ps) (w := w)
  have hr1 := inRs_len (ns := msums ps w)
  have hr4 := ptRs_len (ps := ps)
  repeat' (first | (refine is_al ?_; (first | (refine is_gd ?_; refine al_on rfl rfl rfl (by assumption) ?_) | (refine is_move ?_; (first | refine al_v (opx_move (.raw _)) ⟨rfl, trivial⟩ trivial rfl ?_ | refine al_v (opx_move (.sl _ _)) ⟨rfl, trivial⟩ trivial rfl ?_)) | (refine is_bin ?_; refine al_v opx_neq ⟨rfl, rfl, trivial⟩ trivial rfl ?_) | (refine is_assign ?_; (first | refine al_v (opx_assign (.raw _)) ⟨rfl, trivial⟩ trivial rfl ?_ | refine al_v (opx_assign (.sl _ _)) ⟨rfl, trivial⟩ trivial rfl ?_)) | (refine is_pick ?_; refine al_v (opx_pick_f (.raw _) (by assumption)) ⟨rfl, rfl, trivial⟩ trivial rfl ?_) | (refine is_bi ?_; refine al_v opx_len_sl ⟨rfl, trivial⟩ trivial rfl ?_) | (refine is_call ?_; (first | refine al_callF (by repeat (first | exact .nil | refine .one rfl rfl ?_ | refine .froz rfl rfl ?_ | refine .rnil rfl ?_)) rfl (c_movingSums' _ _) rfl ?_ | refine al_callF (by repeat (first | exact .nil | refine .one rfl rfl ?_ | refine .froz rfl rfl ?_ | refine .rnil rfl ?_)) rfl (c_sMovingSums' _ _ (by omega)) rfl ?_ | refine al_callv2 (by repeat (first | exact .nil | refine .one rfl rfl ?_ | refine .froz rfl rfl ?_ | refine .row rfl rfl ?_ | refine .rnil rfl ?_)) rfl (c_equalInts _ _ (by omega)) rfl ?_)) | refine al_v opx_not ⟨rfl, trivial⟩ trivial rfl ?_ | refine al_nil ?_)) | (refine is_aw ?_; (first | refine aw_seq ?_ | refine aw_region ?_ | refine aw_skip ?_ | refine aw_block ?_ | refine aw_ret ?_ | (refine is_cond ?_; (refine aw_cond rfl ?_ ?_ <;> ((intro hgd; try exact absurd hgd (by decide)); (try (have hz := hgd; simp only [decide_eq_true_eq, decide_eq_false_iff_not, Bool.not_eq_true', Bool.not_eq_false', Bool.not_true, Bool.not_false, beq_iff_eq, Int.not_le, Int.not_lt] at hz)); (try (exfalso; omega))))))) | refine thn_r ?_)
  · exact ret_raw trivial rfl ⟨congrArg (fun b => [rB b]) (hE2), rfl⟩
  refine aw_loop (γ := Nat) (fun k => [(2, .b false), (3, .r (slP ps)), (4, .r (rI w)), (5, .r (slI (msums ps w))), (6, .i (k : Int))]) (fun _ => []) (fun _ => 0)
    (fun k => 1 ≤ k ∧ k ≤ ps.length + 1) (fun k => ps.length + 1 - k) 1 ⟨Nat.le_refl _, by omega⟩ (le_mk [] rfl rfl rfl rfl ⟨rfl, rfl, rfl, rfl, rfl, trivial⟩ trivial) ?_
  rintro k ⟨hk, hk2⟩
  rcases Nat.lt_or_ge k ps.length with hlt | hge
  · have hc : decide ((k : Int) < ((ptRs ps).length : Int)) = true := decide_eq_true (by omega)
    obtain ⟨hvs, hw1, hw2, hl⟩ := msums_ok (ps := ps) (w := w) (by omega)
    have h16 := hvs.1
    obtain ⟨W, rfl⟩ : ∃ W : Nat, w = (W : Int) := ⟨w.toNat, by omega⟩
    obtain ⟨j, rfl⟩ : ∃ j : Nat, k = j + 1 := ⟨k - 1, by omega⟩
    obtain ⟨p, hp⟩ : ∃ p, ps[j + 1]? = some p := ⟨_, List.getElem?_eq_getElem hlt⟩
    have hpr := ptRs_at hp
    obtain ⟨o1, o2, o3, o4⟩ := VS_val hvs hp
    have hs := pre_succ hp
    have hx := inRs_at (msums_at hvs (w := W) (by omega) hlt)
    have hy := inRs_at (msums_at hvs (w := W) (k := j) (by omega) (by omega))
    have b1 := pre_bound hvs (j + 1) (by omega)
    have b2 := pre_bound hvs (j + 1 - W) (by omega)
    have e1 : msum ps W j = pre ps (j + 1) - pre ps (j + 1 - W) := rfl
    have e2 : msum ps W (j + 1) = pre ps (j + 1 + 1) - pre ps (j + 1 + 1 - W) := rfl
    rcases Nat.lt_or_ge (j + 1) W with hkw | hkw
    · have hc2 : decide ((W : Int) ≤ ((j + 1 : Nat) : Int)) = false := decide_eq_false (by omega)
      rw [show j + 1 + 1 - W = j + 1 - W by omega] at e2
      repeat' (first | (refine is_al ?_; (first | (refine is_move ?_; (first | refine al_v (opx_move (.raw _)) ⟨rfl, trivial⟩ trivial rfl ?_ | refine al_v (opx_move (.sl _ _)) ⟨rfl, trivial⟩ trivial rfl ?_)) | (refine is_bin ?_; (first | refine al_v opx_lss ⟨rfl, rfl, trivial⟩ trivial rfl ?_ | refine al_v opx_geq ⟨rfl, rfl, trivial⟩ trivial rfl ?_ | refine al_v (opx_add (by unfold InR; omega)) ⟨rfl, rfl, trivial⟩ trivial rfl ?_)) | (refine is_load ?_; refine al_v opx_ld_imm ⟨rfl, trivial⟩ trivial rfl ?_) | (refine is_fa ?_; refine al_v opx_fa_imm1 ⟨rfl, trivial⟩ trivial rfl ?_) | (refine is_assign ?_; refine al_v (opx_assign (.raw _)) ⟨rfl, trivial⟩ trivial rfl ?_) | (refine is_bi ?_; refine al_v opx_len_sl ⟨rfl, trivial⟩ trivial rfl ?_) | (refine is_ia ?_; refine al_v (opx_ia_sl2 hpr (by omega)) ⟨rfl, rfl, trivial⟩ trivial rfl ?_) | refine al_nil ?_)) | (refine is_ad ?_; (first | (refine isd_move ?_; (first | refine ad_v (opx_move (.raw _)) ⟨rfl, trivial⟩ trivial rfl ?_ | refine ad_v (opx_move (.sl _ _)) ⟨rfl, trivial⟩ trivial rfl ?_)) | (refine isd_bin ?_; (first | refine ad_v opx_neq ⟨rfl, rfl, trivial⟩ trivial rfl ?_ | refine ad_v (opx_add (by unfold InR; omega)) ⟨rfl, rfl, trivial⟩ trivial rfl ?_ | refine ad_v (opx_sub (by unfold InR; omega)) ⟨rfl, rfl, trivial⟩ trivial rfl ?_)) | (refine isd_load ?_; refine ad_v opx_ld_imm ⟨rfl, trivial⟩ trivial rfl ?_) | (refine isd_ia ?_; (first | refine ad_v (opx_ia_sl2 hx (by omega)) ⟨rfl, rfl, trivial⟩ trivial rfl ?_ | refine ad_v (opx_ia_sl2 hy (by omega)) ⟨rfl, rfl, trivial⟩ trivial rfl ?_)) | refine ad_nil (by kernel_rfl) ?_)) | (refine is_aw ?_; (first | refine aw_seq ?_ | refine aw_region ?_ | refine aw_skip ?_ | refine aw_block ?_ | (refine is_cond ?_; (first | refine aw_cond_t rfl (by assumption) ?_ | refine aw_cond_f rfl (by assumption) ?_ | (refine aw_cond rfl ?_ ?_ <;> ((intro hgd; try exact absurd hgd (by decide)); (try (have hz := hgd; simp only [decide_eq_true_eq, decide_eq_false_iff_not, Bool.not_eq_true', Bool.not_eq_false', Bool.not_true, Bool.not_false, beq_iff_eq, Int.not_le, Int.not_lt] at hz)); (try (exfalso; omega)))))) | refine aw_draw mixed ?_)) | refine thn_n ?_)
      exact ⟨j + 1 + 1, ⟨by omega, by omega⟩, by omega, le_mk [] rfl rfl rfl rfl ⟨rfl, rfl, rfl, rfl, rfl, trivial⟩ trivial⟩
    · have hc2 : decide ((W : Int) ≤ ((j + 1 : Nat) : Int)) = true := decide_eq_true (by omega)
      obtain ⟨q, hq⟩ : ∃ q, ps[j + 1 - W]? = some q := ⟨_, List.getElem?_eq_getElem (by omega)⟩
      have hqr := ptRs_at hq
      obtain ⟨u1, u2, u3, u4⟩ := VS_val hvs hq
      have hs2 := pre_succ hq
      rw [show j + 1 + 1 - W = j + 1 - W + 1 by omega] at e2
      repeat' (first | (refine is_al ?_; (first | (refine is_move ?_; (first | refine al_v (opx_move (.raw _)) ⟨rfl, trivial⟩ trivial rfl ?_ | refine al_v (opx_move (.sl _ _)) ⟨rfl, trivial⟩ trivial rfl ?_)) | (refine is_bin ?_; (first | refine al_v opx_lss ⟨rfl, rfl, trivial⟩ trivial rfl ?_ | refine al_v opx_geq ⟨rfl, rfl, trivial⟩ trivial rfl ?_ | refine al_v (opx_add (by unfold InR; omega)) ⟨rfl, rfl, trivial⟩ trivial rfl ?_ | refine al_v (opx_sub (by unfold InR; omega)) ⟨rfl, rfl, trivial⟩ trivial rfl ?_)) | (refine is_load ?_; refine al_v opx_ld_imm ⟨rfl, trivial⟩ trivial rfl ?_) | (refine is_fa ?_; refine al_v opx_fa_imm1 ⟨rfl, trivial⟩ trivial rfl ?_) | (refine is_assign ?_; refine al_v (opx_assign (.raw _)) ⟨rfl, trivial⟩ trivial rfl ?_) | (refine is_bi ?_; refine al_v opx_len_sl ⟨rfl, trivial⟩ trivial rfl ?_) | (refine is_ia ?_; (first | refine al_v (opx_ia_sl2 hpr (by omega)) ⟨rfl, rfl, trivial⟩ trivial rfl ?_ | refine al_v (opx_ia_sl2 hqr (by omega)) ⟨rfl, rfl, trivial⟩ trivial rfl ?_)) | refine al_nil ?_)) | (refine is_ad ?_; (first | (refine isd_move ?_; (first | refine ad_v (opx_move (.raw _)) ⟨rfl, trivial⟩ trivial rfl ?_ | refine ad_v (opx_move (.sl _ _)) ⟨rfl, trivial⟩ trivial rfl ?_)) | (refine isd_bin ?_; (first | refine ad_v opx_neq ⟨rfl, rfl, trivial⟩ trivial rfl ?_ | refine ad_v (opx_add (by unfold InR; omega)) ⟨rfl, rfl, trivial⟩ trivial rfl ?_ | refine ad_v (opx_sub (by unfold InR; omega)) ⟨rfl, rfl, trivial⟩ trivial rfl ?_)) | (refine isd_load ?_; refine ad_v opx_ld_imm ⟨rfl, trivial⟩ trivial rfl ?_) | (refine isd_ia ?_; (first | refine ad_v (opx_ia_sl2 hx (by omega)) ⟨rfl, rfl, trivial⟩ trivial rfl ?_ | refine ad_v (opx_ia_sl2 hy (by omega)) ⟨rfl, rfl, trivial⟩ trivial rfl ?_)) | refine ad_nil (by kernel_rfl) ?_)) | (refine is_aw ?_; (first | refine aw_seq ?_ | refine aw_region ?_ | refine aw_skip ?_ | refine aw_block ?_ | (refine is_cond ?_; (first | refine aw_cond_t rfl (by assumption) ?_ | (refine aw_cond rfl ?_ ?_ <;> ((intro hgd; try exact absurd hgd (by decide)); (try (have hz := hgd; simp only [decide_eq_true_eq, decide_eq_false_iff_not, Bool.not_eq_true', Bool.not_eq_false', Bool.not_true, Bool.not_false, beq_iff_eq, Int.not_le, Int.not_lt] at hz)); (try (exfalso; omega)))))) | refine aw_draw mixed ?_)) | refine thn_n ?_)
      exact ⟨j + 1 + 1, ⟨by omega, by omega⟩, by omega, le_mk [] rfl rfl rfl rfl ⟨rfl, rfl, rfl, rfl, rfl, trivial⟩ trivial⟩
  · have hc : decide ((k : Int) < ((ptRs ps).length : Int)) = false := decide_eq_false (by omega)
    repeat' (first | (refine is_al ?_; (first | (refine is_move ?_; (first | refine al_v (opx_move (.raw _)) ⟨rfl, trivial⟩ trivial rfl ?_ | refine al_v (opx_move (.sl _ _)) ⟨rfl, trivial⟩ trivial rfl ?_)) | (refine is_bin ?_; refine al_v opx_lss ⟨rfl, rfl, trivial⟩ trivial rfl ?_) | (refine is_assign ?_; refine al_v (opx_assign (.raw _)) ⟨rfl, trivial⟩ trivial rfl ?_) | (refine is_bi ?_; refine al_v opx_len_sl ⟨rfl, trivial⟩ trivial rfl ?_) | refine al_nil ?_)) | (refine is_aw ?_; (first | refine aw_seq ?_ | refine aw_region ?_ | refine aw_ret ?_ | refine aw_exit ?_ | (refine is_cond ?_; refine aw_cond_f rfl (by assumption) ?_))))
    exact ret_raw trivial rfl ⟨congrArg (fun b => [rB b]) (rfl), rfl⟩

/-! ### greater values -/
def up3 (ps : List (Int × Int)) : List (Int × Int) := ps.map fun p => (p.1, p.2 + 3)
theorem up3_len {ps : List (Int × Int)} : (up3 ps).length = ps.length := by simp [up3]
theorem up3_at {ps : List (Int × Int)} {k : Nat} : (up3 ps)[k]? = (ps[k]?).map fun p => (p.1, p.2 + 3) := by simp [up3]
theorem up3_VS {ps : List (Int × Int)} (h : VS ps) (h3 : ∀ (k : Nat) (p : Int × Int), ps[k]? = some p → p.2 + 3 ≤ 1000) : VS (up3 ps) := by
  refine ⟨by rw [up3_len]; exact h.1, fun k p hp => ?_⟩
  rw [up3_at, Option.map_eq_some_iff] at hp
  obtain ⟨p', hp', rfl⟩ := hp
  have h1 := h.2 k p' hp'
  refine ⟨⟨h1.1.1, h1.1.2.1, by have := h1.1.2.2.1; dsimp only; omega, h3 k p' hp'⟩, ?_⟩
  rcases h1.2 with h2 | h2
  · exact .inl h2
  · refine .inr fun q hq => ?_
    rw [up3_at, Option.map_eq_some_iff] at hq
    obtain ⟨q', hq', rfl⟩ := hq
    exact h2 q' hq'
theorem up3_pre {ps : List (Int × Int)} : ∀ k : Nat, k ≤ ps.length → pre (up3 ps) k = pre ps k + 3 * (k : Int)
  | 0, _ => by simp [pre_zero]
  | k + 1, hk => by
    obtain ⟨p, hp⟩ : ∃ p, ps[k]? = some p := ⟨_, List.getElem?_eq_getElem (by omega)⟩
    have h1 := up3_pre (ps := ps) k (by omega)
    rw [pre_succ hp, pre_succ (ps := up3 ps) (p := (p.1, p.2 + 3)) (by rw [up3_at, hp]; rfl), h1]
    dsimp only
    omega
theorem up3_msum {ps : List (Int × Int)} {w k : Nat} (hk : k < ps.length) : msum (up3 ps) w k = msum ps w k + 3 * (min (k + 1) w : Nat) := by
  unfold msum
  rw [up3_pre (k + 1) (by omega), up3_pre (k + 1 - w) (by omega)]
  omega
theorem up3_take {ps : List (Int × Int)} {k : Nat} {p : Int × Int} (h : ps[k]? = some p) : up3 (ps.take k) ++ [(p.1, p.2 + 3)] = up3 (ps.take (k + 1)) := by
  rw [List.take_add_one, h]; simp [up3]

theorem c_fnMovingSumsMany (bs : List UInt8) : Con Try.prog 4 [slB bs] [] (fun rs all => rs = [rB true] ∧ all = []) := by
  have hlen := byRs_len (bs := bs)
  refine con_of_aw (vars := [.tmp 2]) [(0, .r (slB bs))] [] 0 Try.func4 (by kernel_rfl) rfl Try.ntmps4 rfl (by decide) rfl rfl rfl rfl rfl ?_
  intro B M w0 ρ0 Z0
  repeat' (first | (refine is_al ?_; (first | (refine is_move ?_; (first | refine al_v (opx_move (.raw _)) ⟨rfl, trivial⟩ trivial rfl ?_ | refine al_v (opx_move (.sl _ _)) ⟨rfl, trivial⟩ trivial rfl ?_ | refine al_v (opx_move (.tup _)) ⟨rfl, trivial⟩ trivial rfl ?_)) | (refine is_bin ?_; refine al_v opx_gtr ⟨rfl, rfl, trivial⟩ trivial rfl ?_) | (refine is_assign ?_; (first | refine al_v (opx_assign (.raw _)) ⟨rfl, trivial⟩ trivial rfl ?_ | refine al_v (opx_assign (.sl _ _)) ⟨rfl, trivial⟩ trivial rfl ?_)) | (refine is_bi ?_; refine al_v opx_len_sl ⟨rfl, trivial⟩ trivial rfl ?_) | (refine is_call ?_; (refine al_callE (by repeat (first | exact .nil | refine .one rfl rfl ?_ | refine .froz rfl rfl ?_ | refine .rnil rfl ?_)) rfl (c_drawMovingSums' _ (by omega)) ?_; rintro ⟨ps, w⟩ ⟨h1, h2, h3, h4⟩; dsimp only at h1 h2 h3 h4 ⊢)) | refine al_v (opx_extract _ rfl) ⟨rfl, trivial⟩ trivial rfl ?_ | refine al_nil ?_)) | (refine is_aw ?_; (first | refine aw_seq ?_ | refine aw_region ?_ | refine aw_skip ?_ | refine aw_ret ?_ | (refine is_cond ?_; (refine aw_cond rfl ?_ ?_ <;> ((intro hgd; try exact absurd hgd (by decide)); (try (have hz := hgd; simp only [decide_eq_true_eq, decide_eq_false_iff_not, Bool.not_eq_true', Bool.not_eq_false', Bool.not_true, Bool.not_false, beq_iff_eq, Int.not_le, Int.not_lt] at hz)); (try (exfalso; omega))))))) | refine thn_r ?_)
  · exact ret_raw trivial rfl ⟨congrArg (fun b => [rB b]) (rfl), rfl⟩
  have hE : (!decide (msums ps w = msums ps w)) = false := by simp
  have hE2 : decide (msums ps w = msums ps w) = true := by simp
  have hl1 := msums_len (ps := ps) (w := w)
  have hr1 := inRs_len (ns := msums ps w)
  have hr4 := ptRs_len (ps := ps)
  repeat' (first | (refine is_al ?_; (first | (refine is_gd ?_; refine al_on rfl rfl rfl (by assumption) ?_) | (refine is_move ?_; (first | refine al_v (opx_move (.raw _)) ⟨rfl, trivial⟩ trivial rfl ?_ | refine al_v (opx_move (.sl _ _)) ⟨rfl, trivial⟩ trivial rfl ?_)) | (refine is_bin ?_; refine al_v opx_neq ⟨rfl, rfl, trivial⟩ trivial rfl ?_) | (refine is_assign ?_; (first | refine al_v (opx_assign (.raw _)) ⟨rfl, trivial⟩ trivial rfl ?_ | refine al_v (opx_assign (.sl _ _)) ⟨rfl, trivial⟩ trivial rfl ?_ | refine al_v (opx_assign (.own _)) ⟨rfl, trivial⟩ trivial rfl ?_)) | (refine is_pick ?_; refine al_v (opx_pick_f (.raw _) (by assumption)) ⟨rfl, rfl, trivial⟩ trivial rfl ?_) | (refine is_bi ?_; refine al_v opx_len_sl ⟨rfl, trivial⟩ trivial rfl ?_) | (refine is_call ?_; (first | refine al_callF (by repeat (first | exact .nil | refine .one rfl rfl ?_ | refine .froz rfl rfl ?_ | refine .rnil rfl ?_)) rfl (c_movingSums' _ _) rfl ?_ | refine al_callF (by repeat (first | exact .nil | refine .one rfl rfl ?_ | refine .froz rfl rfl ?_ | refine .rnil rfl ?_)) rfl (c_sMovingSums' _ _ (by omega)) rfl ?_ | refine al_callv2 (by repeat (first | exact .nil | refine .one rfl rfl ?_ | refine .froz rfl rfl ?_ | refine .row rfl rfl ?_ | refine .rnil rfl ?_)) rfl (c_equalInts _ _ (by omega)) rfl ?_)) | refine al_v opx_not ⟨rfl, trivial⟩ trivial rfl ?_ | refine al_n opx_lit0 trivial trivial rfl ?_ | refine al_nil ?_)) | (refine is_aw ?_; (first | refine aw_seq ?_ | refine aw_region ?_ | refine aw_skip ?_ | refine aw_block ?_ | refine aw_ret ?_ | (refine is_cond ?_; (refine aw_cond rfl ?_ ?_ <;> ((intro hgd; try exact absurd hgd (by decide)); (try (have hz := hgd; simp only [decide_eq_true_eq, decide_eq_false_iff_not, Bool.not_eq_true', Bool.not_eq_false', Bool.not_true, Bool.not_false, beq_iff_eq, Int.not_le, Int.not_lt] at hz)); (try (exfalso; omega))))))) | refine thn_r ?_)
  · exact ret_raw trivial rfl ⟨congrArg (fun b => [rB b]) (hE2), rfl⟩
  refine aw_loop (γ := Nat) (fun k => [(2, .b false), (3, .r (slP ps)), (4, .r (rI w)), (5, .r (slI (msums ps w))), (6, .own 0), (7, .i (k : Int))]) (fun k => [(0, .row 2 30 (ptRs (up3 (ps.take k))))]) (fun _ => 1)
    (fun k => k ≤ ps.length ∧ ∀ j p, j < k → ps[j]? = some p → p.2 + 3 ≤ 1000) (fun k => ps.length - k) 0 ⟨Nat.zero_le _, fun j p hj => by omega⟩ (le_mk [0] rfl rfl rfl rfl ⟨rfl, rfl, rfl, rfl, rfl, rfl, trivial⟩ ⟨rfl, trivial⟩) ?_
  rintro k ⟨hk, h3k⟩
  have hul : (up3 (ps.take k)).length = k := by rw [up3_len]; simp; omega
  rcases Nat.lt_or_ge k ps.length with hlt | hge
  · have hc : decide ((k : Int) < ((ptRs ps).length : Int)) = true := decide_eq_true (by omega)
    obtain ⟨p, hp⟩ : ∃ p, ps[k]? = some p := ⟨_, List.getElem?_eq_getElem hlt⟩
    have hpr := ptRs_at hp
    obtain ⟨o1, o2, o3, o4⟩ := h2 p (List.mem_of_getElem? hp)
    repeat' (first | (refine is_al ?_; (first | (refine is_move ?_; (first | refine al_v (opx_move (.raw _)) ⟨rfl, trivial⟩ trivial rfl ?_ | refine al_v (opx_move (.sl _ _)) ⟨rfl, trivial⟩ trivial rfl ?_)) | (refine is_bin ?_; (first | refine al_v opx_lss ⟨rfl, rfl, trivial⟩ trivial rfl ?_ | refine al_v opx_gtr ⟨rfl, rfl, trivial⟩ trivial rfl ?_ | refine al_v (opx_add (by unfold InR; omega)) ⟨rfl, rfl, trivial⟩ trivial rfl ?_)) | (refine is_load ?_; refine al_v opx_ld_imm ⟨rfl, trivial⟩ trivial rfl ?_) | (refine is_fa ?_; refine al_v opx_fa_imm1 ⟨rfl, trivial⟩ trivial rfl ?_) | (refine is_assign ?_; refine al_v (opx_assign (.raw _)) ⟨rfl, trivial⟩ trivial rfl ?_) | (refine is_bi ?_; refine al_v opx_len_sl ⟨rfl, trivial⟩ trivial rfl ?_) | (refine is_ia ?_; refine al_v (opx_ia_sl2 hpr (by omega)) ⟨rfl, rfl, trivial⟩ trivial rfl ?_) | refine al_nil ?_)) | (refine is_ad ?_; (first | (refine isd_move ?_; (first | refine ad_v (opx_move (.raw _)) ⟨rfl, trivial⟩ trivial rfl ?_ | refine ad_v (opx_move (.sl _ _)) ⟨rfl, trivial⟩ trivial rfl ?_ | refine ad_v (opx_move (.own _)) ⟨rfl, trivial⟩ trivial rfl ?_)) | (refine isd_bin ?_; refine ad_v (opx_add (by unfold InR; omega)) ⟨rfl, rfl, trivial⟩ trivial rfl ?_) | (refine isd_load ?_; refine ad_v opx_ld_imm ⟨rfl, trivial⟩ trivial rfl ?_) | (refine isd_fa ?_; (first | refine ad_v opx_fa_imm0 ⟨rfl, trivial⟩ trivial rfl ?_ | refine ad_v opx_fa_imm1 ⟨rfl, trivial⟩ trivial rfl ?_)) | (refine isd_assign ?_; refine ad_v (opx_assign (.own _)) ⟨rfl, trivial⟩ trivial rfl ?_) | (refine isd_ia ?_; refine ad_v (opx_ia_sl2 hpr (by omega)) ⟨rfl, rfl, trivial⟩ trivial rfl ?_) | refine ad_v (opx_build2 (res := [_, _]) rfl) ⟨rfl, rfl, trivial⟩ trivial rfl ?_ | refine ad_pushP ⟨rfl, trivial⟩ rfl rfl rfl rfl rfl (by omega) ?_ | refine ad_nil (by kernel_rfl) ?_)) | (refine is_aw ?_; (first | refine aw_seq ?_ | refine aw_region ?_ | refine aw_skip ?_ | refine aw_block ?_ | refine aw_ret ?_ | (refine is_cond ?_; (first | refine aw_cond_t rfl (by assumption) ?_ | (refine aw_cond rfl ?_ ?_ <;> ((intro hgd; try exact absurd hgd (by decide)); (try (have hz := hgd; simp only [decide_eq_true_eq, decide_eq_false_iff_not, Bool.not_eq_true', Bool.not_eq_false', Bool.not_true, Bool.not_false, beq_iff_eq, Int.not_le, Int.not_lt] at hz)); (try (exfalso; omega)))))) | refine aw_draw mixed ?_)) | refine thn_n ?_ | refine thn_r ?_ | refine inb_r ?_)
    · exact ret_raw trivial rfl ⟨congrArg (fun b => [rB b]) (rfl), rfl⟩
    · rw [up3_take hp]
      exact ⟨k + 1, ⟨hlt, fun j p' hj hp' => by
        rcases Nat.lt_or_ge j k with h | h
        · exact h3k j p' h hp'
        · rw [show j = k by omega, hp] at hp'; cases hp'; assumption⟩, by omega, le_mk [2] rfl rfl rfl rfl ⟨rfl, rfl, rfl, rfl, rfl, rfl, trivial⟩ ⟨rfl, trivial⟩⟩
  · have hc : decide ((k : Int) < ((ptRs ps).length : Int)) = false := decide_eq_false (by omega)
    obtain rfl : k = ps.length := by omega
    rw [List.take_length] at *
    repeat' (first | (refine is_al ?_; (first | (refine is_move ?_; (first | refine al_v (opx_move (.raw _)) ⟨rfl, trivial⟩ trivial rfl ?_ | refine al_v (opx_move (.sl _ _)) ⟨rfl, trivial⟩ trivial rfl ?_ | refine al_v (opx_move (.own _)) ⟨rfl, trivial⟩ trivial rfl ?_)) | (refine is_bin ?_; refine al_v opx_lss ⟨rfl, rfl, trivial⟩ trivial rfl ?_) | (refine is_bi ?_; refine al_v opx_len_sl ⟨rfl, trivial⟩ trivial rfl ?_) | refine al_nil ?_)) | (refine is_aw ?_; (first | refine aw_seq ?_ | refine aw_region ?_ | refine aw_exit ?_ | (refine is_cond ?_; refine aw_cond_f rfl (by assumption) ?_))))
    refine al_le (le_freeze 0 rfl) ?_
    have hl3 := msums_len (ps := up3 ps) (w := w)
    rw [up3_len] at hl3
    have hr3 := inRs_len (ns := msums (up3 ps) w)
    repeat' (first | (refine is_al ?_; (first | (refine is_assign ?_; (first | refine al_v (opx_assign (.raw _)) ⟨rfl, trivial⟩ trivial rfl ?_ | refine al_v (opx_assign (.sl _ _)) ⟨rfl, trivial⟩ trivial rfl ?_)) | (refine is_call ?_; refine al_callF (by repeat (first | exact .nil | refine .one rfl rfl ?_ | refine .froz rfl rfl ?_ | refine .rnil rfl ?_)) rfl (c_movingSums' _ _) rfl ?_) | refine al_nil ?_)) | (refine is_aw ?_; (first | refine aw_seq ?_ | refine aw_region ?_ | refine aw_block ?_)))
    refine aw_loop (γ := Nat) (fun k => [(2, .b false), (4, .r (rI w)), (5, .r (slI (msums ps w))), (8, .r (slI (msums (up3 ps) w))), (9, .i (k : Int))]) (fun _ => []) (fun _ => 0)
      (fun k => k ≤ (msums ps w).length) (fun k => (msums ps w).length - k) 0 (Nat.zero_le _) (le_mk [] rfl rfl rfl rfl ⟨rfl, rfl, rfl, rfl, rfl, trivial⟩ trivial) ?_
    intro k hk
    rcases Nat.lt_or_ge k (msums ps w).length with hlt | hge
    · have hc : decide ((k : Int) < ((inRs (msums ps w)).length : Int)) = true := decide_eq_true (by omega)
      obtain ⟨hvs, hw1, hw2, hl⟩ := msums_ok (ps := ps) (w := w) (by omega)
      have h16 := hvs.1
      have hvs2 := up3_VS hvs fun j p hp => h3k j p (List.getElem?_eq_some_iff.1 hp).1 hp
      obtain ⟨W, rfl⟩ : ∃ W : Nat, w = (W : Int) := ⟨w.toNat, by omega⟩
      have hx := inRs_at (msums_at hvs (w := W) (k := k) (by omega) (by omega))
      have hy' := msums_at hvs2 (w := W) (k := k) (by omega) (by rw [up3_len]; omega)
      have hy := inRs_at hy'
      have hyl := (List.getElem?_eq_some_iff.1 hy').1
      have hm := up3_msum (ps := ps) (w := W) (k := k) (by omega)
      have b1 := pre_bound hvs (k + 1) (by omega)
      have b2 := pre_bound hvs (k + 1 - W) (by omega)
      have e2 : msum ps W k = pre ps (k + 1) - pre ps (k + 1 - W) := rfl
      have hc1 : decide (((inRs (msums (up3 ps) (W : Int))).length : Int) ≤ (k : Int)) = false := decide_eq_false (by omega)
      repeat' (first | (refine is_al ?_; (first | (refine is_move ?_; (first | refine al_v (opx_move (.raw _)) ⟨rfl, trivial⟩ trivial rfl ?_ | refine al_v (opx_move (.sl _ _)) ⟨rfl, trivial⟩ trivial rfl ?_)) | (refine is_bin ?_; (first | refine al_v opx_lss ⟨rfl, rfl, trivial⟩ trivial rfl ?_ | refine al_v (opx_add (by unfold InR; omega)) ⟨rfl, rfl, trivial⟩ trivial rfl ?_)) | (refine is_assign ?_; refine al_v (opx_assign (.raw _)) ⟨rfl, trivial⟩ trivial rfl ?_) | (refine is_bi ?_; refine al_v opx_len_sl ⟨rfl, trivial⟩ trivial rfl ?_) | refine al_nil ?_)) | (refine is_ad ?_; (first | (refine isd_gd ?_; (first | (refine isd_move ?_; (first | refine ad_on rfl rfl (by assumption) (opx_move (.raw _)) ⟨rfl, trivial⟩ trivial rfl ?_ | refine ad_on rfl rfl (by assumption) (opx_move (.sl _ _)) ⟨rfl, trivial⟩ trivial rfl ?_)) | (refine isd_bin ?_; (first | refine ad_on rfl rfl (by assumption) opx_neq ⟨rfl, rfl, trivial⟩ trivial rfl ?_ | refine ad_on rfl rfl (by assumption) (opx_add (by unfold InR; omega)) ⟨rfl, rfl, trivial⟩ trivial rfl ?_ | refine ad_on rfl rfl (by assumption) (opx_mul (by unfold InR; omega)) ⟨rfl, rfl, trivial⟩ trivial rfl ?_)) | (refine isd_load ?_; refine ad_on rfl rfl (by assumption) opx_ld_imm ⟨rfl, trivial⟩ trivial rfl ?_) | (refine isd_bi ?_; refine ad_on rfl rfl (by assumption) opx_min2 ⟨rfl, rfl, trivial⟩ trivial rfl ?_) | (refine isd_ia ?_; (first | refine ad_on rfl rfl (by assumption) (opx_ia_sl2 hx (by omega)) ⟨rfl, rfl, trivial⟩ trivial rfl ?_ | refine ad_on rfl rfl (by assumption) (opx_ia_sl2 hy (by omega)) ⟨rfl, rfl, trivial⟩ trivial rfl ?_)))) | (refine isd_move ?_; (first | refine ad_v (opx_move (.raw _)) ⟨rfl, trivial⟩ trivial rfl ?_ | refine ad_v (opx_move (.sl _ _)) ⟨rfl, trivial⟩ trivial rfl ?_)) | (refine isd_bin ?_; refine ad_v opx_geq ⟨rfl, rfl, trivial⟩ trivial rfl ?_) | (refine isd_pick ?_; refine ad_v (opx_pick_f (.raw _) (by assumption)) ⟨rfl, rfl, trivial⟩ trivial rfl ?_) | (refine isd_bi ?_; refine ad_v opx_len_sl ⟨rfl, trivial⟩ trivial rfl ?_) | refine ad_nil (by kernel_rfl) ?_)) | (refine is_aw ?_; (first | refine aw_seq ?_ | refine aw_region ?_ | refine aw_skip ?_ | refine aw_block ?_ | (refine is_cond ?_; (first | refine aw_cond_t rfl (by assumption) ?_ | (refine aw_cond rfl ?_ ?_ <;> ((intro hgd; try exact absurd hgd (by decide)); (try (have hz := hgd; simp only [decide_eq_true_eq, decide_eq_false_iff_not, Bool.not_eq_true', Bool.not_eq_false', Bool.not_true, Bool.not_false, beq_iff_eq, Int.not_le, Int.not_lt] at hz)); (try (exfalso; omega)))))) | refine aw_draw mixed ?_)) | refine thn_n ?_)
      exact ⟨k + 1, by omega, by omega, le_mk [] rfl rfl rfl rfl ⟨rfl, rfl, rfl, rfl, rfl, trivial⟩ trivial⟩
    · have hc : decide ((k : Int) < ((inRs (msums ps w)).length : Int)) = false := decide_eq_false (by omega)
      repeat' (first | (refine is_al ?_; (first | (refine is_move ?_; (first | refine al_v (opx_move (.raw _)) ⟨rfl, trivial⟩ trivial rfl ?_ | refine al_v (opx_move (.sl _ _)) ⟨rfl, trivial⟩ trivial rfl ?_)) | (refine is_bin ?_; refine al_v opx_lss ⟨rfl, rfl, trivial⟩ trivial rfl ?_) | (refine is_assign ?_; refine al_v (opx_assign (.raw _)) ⟨rfl, trivial⟩ trivial rfl ?_) | (refine is_bi ?_; refine al_v opx_len_sl ⟨rfl, trivial⟩ trivial rfl ?_) | refine al_nil ?_)) | (refine is_aw ?_; (first | refine aw_seq ?_ | refine aw_region ?_ | refine aw_ret ?_ | refine aw_exit ?_ | (refine is_cond ?_; refine aw_cond_f rfl (by assumption) ?_))))
      exact ret_raw trivial rfl ⟨congrArg (fun b => [rB b]) (rfl), rfl⟩
end Go.Proofs.Ytnmiflnokhgadaa
