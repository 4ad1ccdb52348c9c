/-
  Moving sums: the walks.
-/
import Derived.Test.YtmdlgeimcdpgaaaW2
import Derived.Test.YtmdlgeimcdpgaaaW1
namespace Go.Proofs.Ytmdlgeimcdpgaaa
open Go.RowKit
set_option linter.unusedVariables false
set_option linter.unusedSimpArgs false
attribute [local irreducible] AL AW OpX Le AD

/-- The sum of the first k values. -/
def pre (ps : List (Int × Int)) (k : Nat) : Int := ((ps.take k).map (·.2)).sum
theorem pre_zero {ps : List (Int × Int)} : pre ps 0 = 0 := rfl
theorem pre_succ {ps : List (Int × Int)} {k : Nat} {p : Int × Int} (h : ps[k]? = some p) : pre ps (k + 1) = pre ps k + p.2 := by
  unfold pre
  rw [List.take_add_one, h]
  simp
theorem VS_val {ps : List (Int × Int)} (h : VS ps) {k : Nat} {p : Int × Int} (hk : ps[k]? = some p) : okPt p := (h.2 k p hk).1
theorem pre_bound {ps : List (Int × Int)} (h : VS ps) : ∀ k, k ≤ ps.length → -1000 * (k : Int) ≤ pre ps k ∧ pre ps k ≤ 1000 * (k : Int)
  | 0, _ => by simp [pre_zero]
  | k + 1, hk => by
    obtain ⟨p, hp⟩ : ∃ p, ps[k]? = some p := ⟨_, List.getElem?_eq_getElem (by omega)⟩
    have h1 := pre_bound h k (by omega)
    have h2 := VS_val h hp
    rw [pre_succ hp]
    obtain ⟨_, _, _, _⟩ := h2
    omega
def msum (ps : List (Int × Int)) (w k : Nat) : Int := pre ps (k + 1) - pre ps (k + 1 - w)
def msumsTo (ps : List (Int × Int)) (w k : Nat) : List Int := (List.range k).map (msum ps w)
theorem msumsTo_succ {ps : List (Int × Int)} {w k : Nat} : msumsTo ps w (k + 1) = msumsTo ps w k ++ [msum ps w k] := by simp [msumsTo, List.range_succ]
theorem msumsTo_len {ps : List (Int × Int)} {w k : Nat} : (msumsTo ps w k).length = k := by simp [msumsTo]
noncomputable def msums (ps : List (Int × Int)) (w : Int) : List Int := if vwB ps w = true then msumsTo ps w.toNat ps.length else []

theorem c_movingSums (ps : List (Int × Int)) (w : Int) : Con Try.prog 10 [slP ps, rI w] [] (fun rs all => rs = [.one (.own 0)] ∧ all = [.row 1 3 (inRs (msums ps w))]) := by
  have hlen := ptRs_len (ps := ps)
  refine con_of_aw (vars := [.tmp 4]) [(0, .r (slP ps)), (1, .r (rI w))] [] 0 Try.func10 (by kernel_rfl) rfl Try.ntmps10 rfl (by decide) rfl rfl rfl rfl rfl ?_
  intro B M w0 ρ0 Z0
  repeat' (first | (refine is_al ?_; (first | (refine is_move ?_; (first | refine al_v (opx_move (.raw _)) ⟨rfl, trivial⟩ trivial rfl ?_ | refine al_v (opx_move (.sl _ _)) ⟨rfl, trivial⟩ trivial rfl ?_)) | (refine is_assign ?_; refine al_v (opx_assign (.raw _)) ⟨rfl, trivial⟩ trivial rfl ?_) | (refine is_bi ?_; refine al_v opx_len_sl ⟨rfl, trivial⟩ trivial rfl ?_) | (refine is_call ?_; refine al_callv2 (by (repeat (first | exact .nil | refine .one rfl rfl ?_ | refine .froz rfl rfl ?_ | refine .row rfl rfl ?_ | refine .rnil rfl ?_ | refine .agg rfl (by (repeat (first | exact .nil | refine .cons (.same rfl) ?_ | refine .cons (.froz rfl) ?_ | refine .cons (.rnil) ?_ | refine .cons (.row rfl rfl) ?_)); (first | done | fail)) ?_)); (first | done | fail)) rfl (c_validWindow _ _) rfl ?_) | refine al_v opx_not ⟨rfl, trivial⟩ trivial rfl ?_ | refine al_nil ?_)) | (refine is_aw ?_; (first | refine aw_seq ?_ | refine aw_region ?_ | refine aw_skip ?_ | refine aw_block ?_ | (refine is_cond ?_; (refine aw_cond rfl ?_ ?_ <;> ((intro hgd; try exact absurd hgd (by decide)); (try (have hz := hgd; simp only [decide_eq_true_eq, decide_eq_false_iff_not, Bool.not_eq_true', Bool.not_eq_false', Bool.not_true, Bool.not_false, beq_iff_eq, Int.not_le, Int.not_lt] at hz)); (try (exfalso; omega))))))) | refine thn_n ?_)
  · have hv : vwB ps w = false := by assumption
    refine aw_le (le_ownNil 4 1 3 rfl) ?_
    repeat' (first | (refine is_aw ?_; refine aw_ret ?_) | refine thn_r ?_)
    exact ret_row trivial rfl rfl ⟨rfl, by rw [msums, if_neg (by rw [hv]; simp)]; rfl⟩
  · have hv : vwB ps w = true := by assumption
    obtain ⟨hv1, hv2⟩ : vsB ps = true ∧ (1 ≤ w ∧ w ≤ 16) := by simpa [vwB] using hv
    have hvs := vsB_iff.1 hv1
    have h16 := hvs.1
    obtain ⟨W, rfl⟩ : ∃ W : Nat, w = (W : Int) := ⟨w.toNat, by omega⟩
    refine aw_le (le_ownNil 5 1 3 rfl) ?_
    refine aw_loop (γ := Nat × Int) (fun g => [(0, .r (slP ps)), (1, .r (rI (W : Int))), (4, .raw (.slice none 0 0)), (5, .own 0), (6, .i g.2), (13, .r (slP ps)), (14, .i ((ptRs ps).length : Int)), (15, .i (g.1 : Int))])
      (fun g => [(0, .row 1 3 (inRs (msumsTo ps W g.1)))]) (fun _ => 1) (fun g => g.1 ≤ ps.length ∧ g.2 = pre ps g.1 - pre ps (g.1 - W)) (fun g => ps.length - g.1) (0, 0) ⟨Nat.zero_le _, by dsimp only; rw [show 0 - W = 0 by omega]; rfl⟩ (le_mk [0] rfl rfl rfl rfl ⟨rfl, rfl, rfl, rfl, rfl, rfl, rfl, rfl, trivial⟩ ⟨rfl, trivial⟩) ?_
    rintro ⟨k, z⟩ ⟨hk, hz⟩
    dsimp only at hk hz ⊢
    have hml := msumsTo_len (ps := ps) (w := W) (k := k)
    have hb1 := pre_bound hvs k hk
    have hb2 := pre_bound hvs (k - W) (by omega)
    rcases Nat.lt_or_ge k ps.length with hlt | hge
    · have hc : decide ((k : Int) < ((ptRs ps).length : Int)) = true := decide_eq_true (by omega)
      obtain ⟨p, hp⟩ : ∃ p, ps[k]? = some p := ⟨_, List.getElem?_eq_getElem hlt⟩
      have hpr := ptRs_at hp
      obtain ⟨o1, o2, o3, o4⟩ := VS_val hvs hp
      have hs := pre_succ hp
      rcases Nat.lt_or_ge k W with hkw | hkw
      · have hc2 : decide ((W : Int) ≤ (k : Int)) = false := decide_eq_false (by omega)
        repeat' (first | (refine is_al ?_; (first | (refine is_move ?_; (first | refine al_v (opx_move (.raw _)) ⟨rfl, trivial⟩ trivial rfl ?_ | refine al_v (opx_move (.own _)) ⟨rfl, trivial⟩ trivial rfl ?_)) | (refine is_bin ?_; (first | refine al_v opx_lss ⟨rfl, rfl, trivial⟩ trivial rfl ?_ | refine al_v opx_geq ⟨rfl, rfl, trivial⟩ trivial rfl ?_ | refine al_v (opx_add (by unfold InR; omega)) ⟨rfl, rfl, trivial⟩ trivial rfl ?_)) | (refine is_load ?_; (first | refine al_v opx_ld2_imm ⟨rfl, trivial⟩ trivial rfl ?_ | refine al_v (opx_ld_box rfl) ⟨rfl, trivial⟩ ⟨rfl, trivial⟩ rfl ?_)) | (refine is_fa ?_; refine al_v opx_fa_ref ⟨rfl, trivial⟩ trivial rfl ?_) | (refine is_assign ?_; (first | refine al_v (opx_assign (.raw _)) ⟨rfl, trivial⟩ trivial rfl ?_ | refine al_v (opx_assign (.own _)) ⟨rfl, trivial⟩ trivial rfl ?_)) | (refine is_ia ?_; refine al_v (opx_ia_sl2 hpr (by omega)) ⟨rfl, rfl, trivial⟩ trivial rfl ?_) | (refine is_st ?_; refine al_s (opx_sts_box (by rfl) (by rfl)) ⟨rfl, rfl, trivial⟩ ⟨rfl, trivial⟩ ?_) | (refine is_bs ?_; refine al_pushI ⟨rfl, trivial⟩ rfl rfl rfl rfl rfl (by omega) ?_) | refine al_n opx_alloc trivial trivial rfl ?_ | refine al_nil ?_)) | (refine is_aw ?_; (first | refine aw_seq ?_ | refine aw_region ?_ | refine aw_skip ?_ | refine aw_block ?_ | (refine is_cond ?_; (first | refine aw_cond_t rfl (by assumption) ?_ | refine aw_cond_f rfl (by assumption) ?_)))) | refine thn_n ?_)
        have e : z + p.2 = msum ps W k := by unfold msum; rw [show k + 1 - W = k - W by omega]; omega
        rw [e, ← msumsTo_succ]
        exact ⟨(k + 1, msum ps W k), ⟨by dsimp only; omega, rfl⟩, by dsimp only; omega, le_mk [3] rfl rfl rfl rfl ⟨rfl, rfl, rfl, rfl, rfl, rfl, rfl, rfl, trivial⟩ ⟨rfl, trivial⟩⟩
      · have hc2 : decide ((W : Int) ≤ (k : Int)) = true := decide_eq_true (by omega)
        obtain ⟨q, hq⟩ : ∃ q, ps[k - W]? = some q := ⟨_, List.getElem?_eq_getElem (by omega)⟩
        have hqr := ptRs_at hq
        obtain ⟨u1, u2, u3, u4⟩ := VS_val hvs hq
        have hs2 := pre_succ hq
        repeat' (first | (refine is_al ?_; (first | (refine is_move ?_; (first | refine al_v (opx_move (.raw _)) ⟨rfl, trivial⟩ trivial rfl ?_ | refine al_v (opx_move (.sl _ _)) ⟨rfl, trivial⟩ trivial rfl ?_ | refine al_v (opx_move (.own _)) ⟨rfl, trivial⟩ trivial rfl ?_)) | (refine is_bin ?_; (first | refine al_v opx_lss ⟨rfl, rfl, trivial⟩ trivial rfl ?_ | refine al_v opx_geq ⟨rfl, rfl, trivial⟩ trivial rfl ?_ | refine al_v (opx_add (by unfold InR; omega)) ⟨rfl, rfl, trivial⟩ trivial rfl ?_ | refine al_v (opx_sub (by unfold InR; omega)) ⟨rfl, rfl, trivial⟩ trivial rfl ?_)) | (refine is_load ?_; (first | refine al_v opx_ld_imm ⟨rfl, trivial⟩ trivial rfl ?_ | refine al_v opx_ld2_imm ⟨rfl, trivial⟩ trivial rfl ?_ | refine al_v (opx_ld_box rfl) ⟨rfl, trivial⟩ ⟨rfl, trivial⟩ rfl ?_)) | (refine is_fa ?_; (first | refine al_v opx_fa_ref ⟨rfl, trivial⟩ trivial rfl ?_ | refine al_v opx_fa_imm1 ⟨rfl, trivial⟩ trivial rfl ?_)) | (refine is_assign ?_; (first | refine al_v (opx_assign (.raw _)) ⟨rfl, trivial⟩ trivial rfl ?_ | refine al_v (opx_assign (.own _)) ⟨rfl, trivial⟩ trivial rfl ?_)) | (refine is_ia ?_; (first | refine al_v (opx_ia_sl2 hpr (by omega)) ⟨rfl, rfl, trivial⟩ trivial rfl ?_ | refine al_v (opx_ia_sl2 hqr (by omega)) ⟨rfl, rfl, trivial⟩ trivial rfl ?_)) | (refine is_st ?_; refine al_s (opx_sts_box (by rfl) (by rfl)) ⟨rfl, rfl, trivial⟩ ⟨rfl, trivial⟩ ?_) | (refine is_bs ?_; refine al_pushI ⟨rfl, trivial⟩ rfl rfl rfl rfl rfl (by omega) ?_) | refine al_n opx_alloc trivial trivial rfl ?_ | refine al_nil ?_)) | (refine is_aw ?_; (first | refine aw_seq ?_ | refine aw_region ?_ | refine aw_skip ?_ | refine aw_block ?_ | (refine is_cond ?_; refine aw_cond_t rfl (by assumption) ?_))) | refine thn_n ?_)
        have e : z + p.2 - q.2 = msum ps W k := by unfold msum; rw [show k + 1 - W = k - W + 1 by omega]; omega
        rw [e, ← msumsTo_succ]
        exact ⟨(k + 1, msum ps W k), ⟨by dsimp only; omega, rfl⟩, by dsimp only; omega, le_mk [3] rfl rfl rfl rfl ⟨rfl, rfl, rfl, rfl, rfl, rfl, rfl, rfl, trivial⟩ ⟨rfl, trivial⟩⟩
    · have hc : decide ((k : Int) < ((ptRs ps).length : Int)) = false := decide_eq_false (by omega)
      repeat' (first | (refine is_al ?_; (first | (refine is_move ?_; refine al_v (opx_move (.own _)) ⟨rfl, trivial⟩ trivial rfl ?_) | (refine is_bin ?_; refine al_v opx_lss ⟨rfl, rfl, trivial⟩ trivial rfl ?_) | (refine is_assign ?_; refine al_v (opx_assign (.own _)) ⟨rfl, trivial⟩ trivial rfl ?_) | refine al_nil ?_)) | (refine is_aw ?_; (first | refine aw_seq ?_ | refine aw_region ?_ | refine aw_ret ?_ | refine aw_exit ?_ | (refine is_cond ?_; refine aw_cond_f rfl (by assumption) ?_))))
      exact ret_row trivial rfl rfl ⟨rfl, by rw [msums, if_pos hv, show k = ps.length by omega]; rfl⟩

theorem c_sMovingSums (ps : List (Int × Int)) (w : Int) (hL : ps.length < 4611686018427387904) : Con Try.prog 12 [slP ps, rI w] [] (fun rs all => rs = [.one (.own 0)] ∧ all = [.row 1 3 (inRs (msums ps w))]) := by
  have hlen := ptRs_len (ps := ps)
  refine con_of_aw (vars := [.tmp 4]) [(0, .r (slP ps)), (1, .r (rI w))] [] 0 Try.func12 (by kernel_rfl) rfl Try.ntmps12 rfl (by decide) rfl rfl rfl rfl rfl ?_
  intro B M w0 ρ0 Z0
  repeat' (first | (refine is_al ?_; (first | (refine is_move ?_; (first | refine al_v (opx_move (.raw _)) ⟨rfl, trivial⟩ trivial rfl ?_ | refine al_v (opx_move (.sl _ _)) ⟨rfl, trivial⟩ trivial rfl ?_)) | (refine is_assign ?_; (first | refine al_v (opx_assign (.raw _)) ⟨rfl, trivial⟩ trivial rfl ?_ | refine al_v (opx_assign (.own _)) ⟨rfl, trivial⟩ trivial rfl ?_)) | (refine is_call ?_; refine al_callv2 (by (repeat (first | exact .nil | refine .one rfl rfl ?_ | refine .froz rfl rfl ?_ | refine .row rfl rfl ?_ | refine .rnil rfl ?_ | refine .agg rfl (by (repeat (first | exact .nil | refine .cons (.same rfl) ?_ | refine .cons (.froz rfl) ?_ | refine .cons (.rnil) ?_ | refine .cons (.row rfl rfl) ?_)); (first | done | fail)) ?_)); (first | done | fail)) rfl (c_sValidWindow _ _ hL) rfl ?_) | refine al_v opx_not ⟨rfl, trivial⟩ trivial rfl ?_ | (refine is_bs ?_; refine al_n opx_lit0 trivial trivial rfl ?_) | refine al_nil ?_)) | (refine is_aw ?_; (first | refine aw_seq ?_ | refine aw_region ?_ | refine aw_skip ?_ | refine aw_block ?_ | (refine is_cond ?_; (refine aw_cond rfl ?_ ?_ <;> ((intro hgd; try exact absurd hgd (by decide)); (try (have hz := hgd; simp only [decide_eq_true_eq, decide_eq_false_iff_not, Bool.not_eq_true', Bool.not_eq_false', Bool.not_true, Bool.not_false, beq_iff_eq, Int.not_le, Int.not_lt] at hz)); (try (exfalso; omega))))))) | refine thn_n ?_)
  · have hv : vwB ps w = false := by assumption
    refine aw_le (le_ownNil 4 1 3 rfl) ?_
    repeat' (first | (refine is_aw ?_; refine aw_ret ?_) | refine thn_r ?_)
    exact ret_row trivial rfl rfl ⟨rfl, by rw [msums, if_neg (by rw [hv]; simp)]; rfl⟩
  · have hv : vwB ps w = true := by assumption
    obtain ⟨hv1, hv2⟩ : vsB ps = true ∧ (1 ≤ w ∧ w ≤ 16) := by simpa [vwB] using hv
    have hvs := vsB_iff.1 hv1
    have h16 := hvs.1
    obtain ⟨W, rfl⟩ : ∃ W : Nat, w = (W : Int) := ⟨w.toNat, by omega⟩
    refine aw_loop (γ := Nat) (fun k => [(0, .r (slP ps)), (1, .r (rI (W : Int))), (4, .raw (.slice none 0 0)), (5, .own 0), (6, .i (k : Int))])
      (fun k => [(0, .row 1 3 (inRs (msumsTo ps W k)))]) (fun _ => 1) (fun k => k ≤ ps.length) (fun k => ps.length - k) 0 (Nat.zero_le _) (le_mk [0] rfl rfl rfl rfl ⟨rfl, rfl, rfl, rfl, rfl, trivial⟩ ⟨rfl, trivial⟩) ?_
    intro k hk
    have hml := msumsTo_len (ps := ps) (w := W) (k := k)
    rcases Nat.lt_or_ge k ps.length with hlt | hge
    · have hc : decide ((k : Int) < ((ptRs ps).length : Int)) = true := decide_eq_true (by omega)
      repeat' (first | (refine is_al ?_; (first | (refine is_move ?_; (first | refine al_v (opx_move (.raw _)) ⟨rfl, trivial⟩ trivial rfl ?_ | refine al_v (opx_move (.sl _ _)) ⟨rfl, trivial⟩ trivial rfl ?_)) | (refine is_bin ?_; (first | refine al_v opx_lss ⟨rfl, rfl, trivial⟩ trivial rfl ?_ | refine al_v (opx_add (by unfold InR; omega)) ⟨rfl, rfl, trivial⟩ trivial rfl ?_ | refine al_v (opx_sub (by unfold InR; omega)) ⟨rfl, rfl, trivial⟩ trivial rfl ?_)) | (refine is_assign ?_; refine al_v (opx_assign (.raw _)) ⟨rfl, trivial⟩ trivial rfl ?_) | (refine is_bi ?_; (first | refine al_v opx_len_sl ⟨rfl, trivial⟩ trivial rfl ?_ | refine al_v opx_max2 ⟨rfl, rfl, trivial⟩ trivial rfl ?_)) | refine al_nil ?_)) | (refine is_aw ?_; (first | refine aw_seq ?_ | refine aw_region ?_ | refine aw_skip ?_ | refine aw_block ?_ | (refine is_cond ?_; refine aw_cond_t rfl (by assumption) ?_))))
      refine aw_loop (γ := Int × Int) (fun g => [(0, .r (slP ps)), (1, .r (rI (W : Int))), (4, .raw (.slice none 0 0)), (5, .own 0), (6, .i (k : Int)), (7, .i g.2), (8, .i g.1)])
        (fun _ => [(0, .row 1 3 (inRs (msumsTo ps W k)))]) (fun _ => 1) (fun g => ∃ j : Nat, g.1 = (j : Int) ∧ k + 1 - W ≤ j ∧ j ≤ k + 1 ∧ g.2 = pre ps j - pre ps (k + 1 - W)) (fun g => k + 1 - g.1.toNat) (max 0 ((k : Int) - (W : Int) + 1), 0)
        ⟨k + 1 - W, by dsimp only; omega, Nat.le_refl _, by omega, by dsimp only; omega⟩ (le_mk [0] rfl rfl rfl rfl ⟨rfl, rfl, rfl, rfl, rfl, rfl, rfl, trivial⟩ ⟨rfl, trivial⟩) ?_
      rintro ⟨_, z⟩ ⟨j, rfl, hj1, hj2, hz⟩
      dsimp only at hz ⊢
      have hb1 := pre_bound hvs j (by omega)
      have hb2 := pre_bound hvs (k + 1 - W) (by omega)
      rcases Nat.lt_or_ge k j with hjk | hjk
      · have hc2 : decide ((j : Int) ≤ (k : Int)) = false := decide_eq_false (by omega)
        repeat' (first | (refine is_al ?_; (first | (refine is_move ?_; (first | refine al_v (opx_move (.raw _)) ⟨rfl, trivial⟩ trivial rfl ?_ | refine al_v (opx_move (.own _)) ⟨rfl, trivial⟩ trivial rfl ?_)) | (refine is_bin ?_; (first | refine al_v opx_leq ⟨rfl, rfl, trivial⟩ trivial rfl ?_ | refine al_v (opx_add (by unfold InR; omega)) ⟨rfl, rfl, trivial⟩ trivial rfl ?_)) | (refine is_assign ?_; (first | refine al_v (opx_assign (.raw _)) ⟨rfl, trivial⟩ trivial rfl ?_ | refine al_v (opx_assign (.own _)) ⟨rfl, trivial⟩ trivial rfl ?_)) | (refine is_bs ?_; refine al_pushI ⟨rfl, trivial⟩ rfl rfl rfl rfl rfl (by omega) ?_) | refine al_nil ?_)) | (refine is_aw ?_; (first | refine aw_seq ?_ | refine aw_region ?_ | refine aw_exit ?_ | (refine is_cond ?_; refine aw_cond_f rfl (by assumption) ?_))) | refine thn_n ?_)
        have e : z = msum ps W k := by unfold msum; rw [hz, show j = k + 1 by omega]
        rw [e, ← msumsTo_succ]
        exact ⟨k + 1, by omega, by omega, le_mk [2] rfl rfl rfl rfl ⟨rfl, rfl, rfl, rfl, rfl, trivial⟩ ⟨rfl, trivial⟩⟩
      · have hc2 : decide ((j : Int) ≤ (k : Int)) = true := decide_eq_true (by omega)
        obtain ⟨p, hp⟩ : ∃ p, ps[j]? = some p := ⟨_, List.getElem?_eq_getElem (by omega)⟩
        have hpr := ptRs_at hp
        obtain ⟨o1, o2, o3, o4⟩ := VS_val hvs hp
        have hs := pre_succ hp
        repeat' (first | (refine is_al ?_; (first | (refine is_move ?_; (first | refine al_v (opx_move (.raw _)) ⟨rfl, trivial⟩ trivial rfl ?_ | refine al_v (opx_move (.sl _ _)) ⟨rfl, trivial⟩ trivial rfl ?_)) | (refine is_bin ?_; (first | refine al_v opx_leq ⟨rfl, rfl, trivial⟩ trivial rfl ?_ | refine al_v (opx_add (by unfold InR; omega)) ⟨rfl, rfl, trivial⟩ trivial rfl ?_)) | (refine is_load ?_; refine al_v opx_ld_imm ⟨rfl, trivial⟩ trivial rfl ?_) | (refine is_fa ?_; refine al_v opx_fa_imm1 ⟨rfl, trivial⟩ trivial rfl ?_) | (refine is_assign ?_; refine al_v (opx_assign (.raw _)) ⟨rfl, trivial⟩ trivial rfl ?_) | (refine is_ia ?_; refine al_v (opx_ia_sl2 hpr (by omega)) ⟨rfl, rfl, trivial⟩ trivial rfl ?_) | refine al_nil ?_)) | (refine is_aw ?_; (first | refine aw_seq ?_ | refine aw_region ?_ | refine aw_skip ?_ | refine aw_block ?_ | (refine is_cond ?_; refine aw_cond_t rfl (by assumption) ?_))) | refine thn_n ?_)
        exact ⟨((j : Int) + 1, z + p.2), ⟨j + 1, rfl, by omega, by omega, by dsimp only; omega⟩, by dsimp only; omega, le_mk [0] rfl rfl rfl rfl ⟨rfl, rfl, rfl, rfl, rfl, rfl, rfl, trivial⟩ ⟨rfl, trivial⟩⟩
    · have hc : decide ((k : Int) < ((ptRs ps).length : Int)) = false := decide_eq_false (by omega)
      repeat' (first | (refine is_al ?_; (first | (refine is_move ?_; (first | refine al_v (opx_move (.raw _)) ⟨rfl, trivial⟩ trivial rfl ?_ | refine al_v (opx_move (.sl _ _)) ⟨rfl, trivial⟩ trivial rfl ?_ | refine al_v (opx_move (.own _)) ⟨rfl, trivial⟩ trivial rfl ?_)) | (refine is_bin ?_; refine al_v opx_lss ⟨rfl, rfl, trivial⟩ trivial rfl ?_) | (refine is_assign ?_; refine al_v (opx_assign (.own _)) ⟨rfl, trivial⟩ trivial rfl ?_) | (refine is_bi ?_; refine al_v opx_len_sl ⟨rfl, trivial⟩ trivial rfl ?_) | refine al_nil ?_)) | (refine is_aw ?_; (first | refine aw_seq ?_ | refine aw_region ?_ | refine aw_ret ?_ | refine aw_exit ?_ | (refine is_cond ?_; refine aw_cond_f rfl (by assumption) ?_))))
      exact ret_row trivial rfl rfl ⟨rfl, by rw [msums, if_pos hv, show k = ps.length by omega]; rfl⟩

/-! as values -/
theorem c_movingSums' (ps : List (Int × Int)) (w : Int) : Con Try.prog 10 [slP ps, rI w] [] (fun rs all => rs = [slI (msums ps w)] ∧ all = []) :=
  (c_movingSums ps w).froz fun rs all ⟨h1, h2⟩ => by subst h1 h2; exact ⟨⟨rfl, rfl⟩, rfl⟩
theorem c_sMovingSums' (ps : List (Int × Int)) (w : Int) (hL : ps.length < 4611686018427387904) : Con Try.prog 12 [slP ps, rI w] [] (fun rs all => rs = [slI (msums ps w)] ∧ all = []) :=
  (c_sMovingSums ps w hL).froz fun rs all ⟨h1, h2⟩ => by subst h1 h2; exact ⟨⟨rfl, rfl⟩, rfl⟩

theorem c_equalInts (a b : List Int) (hL : a.length < 4611686018427387904) : Con Try.prog 11 [slI a, slI b] [] (fun rs all => rs = [rB (decide (a = b))] ∧ all = []) := by
  have hla := inRs_len (ns := a)
  have hlb := inRs_len (ns := b)
  refine con_of_aw (vars := [.tmp 4]) [(0, .r (slI a)), (1, .r (slI b))] [] 0 Try.func11 (by kernel_rfl) rfl Try.ntmps11 rfl (by decide) rfl rfl rfl rfl rfl ?_
  intro B M w0 ρ0 Z0
  repeat' (first | (refine is_al ?_; (first | (refine is_move ?_; refine al_v (opx_move (.sl _ _)) ⟨rfl, trivial⟩ trivial rfl ?_) | (refine is_bin ?_; refine al_v opx_neq ⟨rfl, rfl, trivial⟩ trivial rfl ?_) | (refine is_assign ?_; refine al_v (opx_assign (.raw _)) ⟨rfl, trivial⟩ trivial rfl ?_) | (refine is_bi ?_; refine al_v opx_len_sl ⟨rfl, trivial⟩ trivial rfl ?_) | refine al_nil ?_)) | (refine is_aw ?_; (first | refine aw_seq ?_ | refine aw_region ?_ | refine aw_skip ?_ | refine aw_block ?_ | refine aw_ret ?_ | (refine is_cond ?_; (refine aw_cond rfl ?_ ?_ <;> ((intro hgd; try exact absurd hgd (by decide)); (try (have hz := hgd; simp only [decide_eq_true_eq, decide_eq_false_iff_not, Bool.not_eq_true', Bool.not_eq_false', Bool.not_true, Bool.not_false, beq_iff_eq, Int.not_le, Int.not_lt] at hz)); (try (exfalso; omega))))))) | refine thn_r ?_)
  · exact ret_raw trivial rfl ⟨congrArg (fun b => [rB b]) ((decide_eq_false (fun h => by subst h; omega)).symm), rfl⟩
  have hl : b.length = a.length := by omega
  refine aw_loop (γ := Nat) (fun k => [(0, .r (slI a)), (1, .r (slI b)), (4, .b false), (5, .i (k : Int))]) (fun _ => []) (fun _ => 0) (fun k => k ≤ a.length ∧ ∀ j, j < k → a[j]? = b[j]?) (fun k => a.length - k) 0 ⟨Nat.zero_le _, fun j hj => by omega⟩ (le_mk [] rfl rfl rfl rfl ⟨rfl, rfl, rfl, rfl, trivial⟩ trivial) ?_
  rintro k ⟨hk, hok⟩
  rcases Nat.lt_or_ge k a.length with hlt | hge
  · have hc : decide ((k : Int) < ((inRs a).length : Int)) = true := decide_eq_true (by omega)
    obtain ⟨x, hx⟩ : ∃ x, a[k]? = some x := ⟨_, List.getElem?_eq_getElem hlt⟩
    obtain ⟨y, hy⟩ : ∃ y, b[k]? = some y := ⟨_, List.getElem?_eq_getElem (by omega)⟩
    have hxr := inRs_at hx
    have hyr := inRs_at hy
    repeat' (first | (refine is_al ?_; (first | (refine is_move ?_; (first | refine al_v (opx_move (.raw _)) ⟨rfl, trivial⟩ trivial rfl ?_ | refine al_v (opx_move (.sl _ _)) ⟨rfl, trivial⟩ trivial rfl ?_)) | (refine is_bin ?_; (first | refine al_v opx_lss ⟨rfl, rfl, trivial⟩ trivial rfl ?_ | refine al_v (opx_add (by unfold InR; omega)) ⟨rfl, rfl, trivial⟩ trivial rfl ?_)) | (refine is_assign ?_; refine al_v (opx_assign (.raw _)) ⟨rfl, trivial⟩ trivial rfl ?_) | (refine is_bi ?_; refine al_v opx_len_sl ⟨rfl, trivial⟩ trivial rfl ?_) | refine al_nil ?_)) | (refine is_ad ?_; (first | (refine isd_move ?_; (first | refine ad_v (opx_move (.raw _)) ⟨rfl, trivial⟩ trivial rfl ?_ | refine ad_v (opx_move (.sl _ _)) ⟨rfl, trivial⟩ trivial rfl ?_)) | (refine isd_bin ?_; refine ad_v opx_neq ⟨rfl, rfl, trivial⟩ trivial rfl ?_) | (refine isd_load ?_; refine ad_v opx_ld_imm ⟨rfl, trivial⟩ trivial rfl ?_) | (refine isd_ia ?_; (first | refine ad_v (opx_ia_sl2 hxr (by omega)) ⟨rfl, rfl, trivial⟩ trivial rfl ?_ | refine ad_v (opx_ia_sl2 hyr (by omega)) ⟨rfl, rfl, trivial⟩ trivial rfl ?_)) | refine ad_nil (by kernel_rfl) ?_)) | (refine is_aw ?_; (first | refine aw_seq ?_ | refine aw_region ?_ | refine aw_skip ?_ | refine aw_block ?_ | refine aw_ret ?_ | (refine is_cond ?_; (first | refine aw_cond_t rfl (by assumption) ?_ | (refine aw_cond rfl ?_ ?_ <;> ((intro hgd; try exact absurd hgd (by decide)); (try (have hz := hgd; simp only [decide_eq_true_eq, decide_eq_false_iff_not, Bool.not_eq_true', Bool.not_eq_false', Bool.not_true, Bool.not_false, beq_iff_eq, Int.not_le, Int.not_lt] at hz)); (try (exfalso; omega)))))) | refine aw_draw mixed ?_)) | refine thn_n ?_ | refine thn_r ?_ | refine inb_r ?_)
    · exact ret_raw trivial rfl ⟨congrArg (fun b => [rB b]) ((decide_eq_false (fun h => by subst h; rw [hx] at hy; cases hy; contradiction)).symm), rfl⟩
    · exact ⟨k + 1, ⟨hlt, fun j hj => by
        rcases Nat.lt_or_ge j k with h | h
        · exact hok j h
        · rw [show j = k by omega, hx, hy]; congr 1⟩, by omega, le_mk [] rfl rfl rfl rfl ⟨rfl, rfl, rfl, rfl, trivial⟩ trivial⟩
  · have hc : decide ((k : Int) < ((inRs a).length : Int)) = false := decide_eq_false (by omega)
    repeat' (first | (refine is_al ?_; (first | (refine is_move ?_; (first | refine al_v (opx_move (.raw _)) ⟨rfl, trivial⟩ trivial rfl ?_ | refine al_v (opx_move (.sl _ _)) ⟨rfl, trivial⟩ trivial rfl ?_)) | (refine is_bin ?_; refine al_v opx_lss ⟨rfl, rfl, trivial⟩ trivial rfl ?_) | (refine is_assign ?_; refine al_v (opx_assign (.raw _)) ⟨rfl, trivial⟩ trivial rfl ?_) | (refine is_bi ?_; refine al_v opx_len_sl ⟨rfl, trivial⟩ trivial rfl ?_) | refine al_nil ?_)) | (refine is_aw ?_; (first | refine aw_seq ?_ | refine aw_region ?_ | refine aw_ret ?_ | refine aw_exit ?_ | (refine is_cond ?_; refine aw_cond_f rfl (by assumption) ?_))))
    exact ret_raw trivial rfl ⟨congrArg (fun b => [rB b]) ((decide_eq_true (List.ext_getElem? fun j => by
      rcases Nat.lt_or_ge j a.length with h | h
      · exact hok j (by omega)
      · rw [List.getElem?_eq_none h, List.getElem?_eq_none (by omega)])).symm), rfl⟩

theorem msums_len {ps : List (Int × Int)} {w : Int} : (msums ps w).length ≤ ps.length := by
  unfold msums
  split
  · rw [msumsTo_len]; exact Nat.le_refl _
  · exact Nat.zero_le _
theorem msums_ok {ps : List (Int × Int)} {w : Int} (h : (msums ps w).length ≠ 0) : VS ps ∧ 1 ≤ w ∧ w ≤ 16 ∧ (msums ps w).length = ps.length := by
  by_cases hv : vwB ps w = true
  · obtain ⟨hv1, hv2⟩ : vsB ps = true ∧ (1 ≤ w ∧ w ≤ 16) := by simpa [vwB] using hv
    exact ⟨vsB_iff.1 hv1, hv2.1, hv2.2, by rw [msums, if_pos hv, msumsTo_len]⟩
  · rw [msums, if_neg hv] at h; exact absurd rfl h
theorem msums_at {ps : List (Int × Int)} (h : VS ps) {w k : Nat} (hw : 1 ≤ w ∧ w ≤ 16) (hk : k < ps.length) : (msums ps (w : Int))[k]? = some (msum ps w k) := by
  have hv : vwB ps (w : Int) = true := by
    have h1 := vsB_iff.2 h
    simp [vwB, h1]; omega
  rw [msums, if_pos hv]
  simp [msumsTo, hk]
theorem msum_one {ps : List (Int × Int)} {k : Nat} {p : Int × Int} (h : ps[k]? = some p) : msum ps 1 k = p.2 := by
  unfold msum; rw [pre_succ h, show k + 1 - 1 = k from rfl]; omega
theorem msum_all {ps : List (Int × Int)} {w k : Nat} (h : k < w) : msum ps w k = pre ps (k + 1) := by
  unfold msum; rw [show k + 1 - w = 0 by omega, pre_zero]; omega

theorem c_fnMovingSums (bs : List UInt8) : Con Try.prog 3 [slB bs] [] (fun rs all => rs = [rB true] ∧ all = []) := by
  have hlen := byRs_len (bs := bs)
  refine con_of_aw (vars := [.tmp 2]) [(0, .r (slB bs))] [] 0 Try.func3 (by kernel_rfl) rfl Try.ntmps3 rfl (by decide) rfl rfl rfl rfl rfl ?_
  intro B M w0 ρ0 Z0
  repeat' (first | (refine is_al ?_; (first | (refine is_move ?_; (first | refine al_v (opx_move (.raw _)) ⟨rfl, trivial⟩ trivial rfl ?_ | refine al_v (opx_move (.sl _ _)) ⟨rfl, trivial⟩ trivial rfl ?_ | refine al_v (opx_move (.tup _)) ⟨rfl, trivial⟩ trivial rfl ?_)) | (refine is_bin ?_; refine al_v opx_gtr ⟨rfl, rfl, trivial⟩ trivial rfl ?_) | (refine is_assign ?_; (first | refine al_v (opx_assign (.raw _)) ⟨rfl, trivial⟩ trivial rfl ?_ | refine al_v (opx_assign (.sl _ _)) ⟨rfl, trivial⟩ trivial rfl ?_)) | (refine is_bi ?_; refine al_v opx_len_sl ⟨rfl, trivial⟩ trivial rfl ?_) | (refine is_call ?_; (refine al_callE (by (repeat (first | exact .nil | refine .one rfl rfl ?_ | refine .froz rfl rfl ?_ | refine .rnil rfl ?_ | refine .agg rfl (by (repeat (first | exact .nil | refine .cons (.same rfl) ?_ | refine .cons (.froz rfl) ?_ | refine .cons (.rnil) ?_)); (first | done | fail)) ?_)); (first | done | fail)) rfl (c_drawMovingSums' _ (by omega)) ?_; rintro ⟨ps, w⟩ ⟨h1, h2, h3, h4⟩; dsimp only at h1 h2 h3 h4 ⊢)) | refine al_v (opx_extract _ rfl) ⟨rfl, trivial⟩ trivial rfl ?_ | refine al_nil ?_)) | (refine is_aw ?_; (first | refine aw_seq ?_ | refine aw_region ?_ | refine aw_skip ?_ | refine aw_ret ?_ | (refine is_cond ?_; (refine aw_cond rfl ?_ ?_ <;> ((intro hgd; try exact absurd hgd (by decide)); (try (have hz := hgd; simp only [decide_eq_true_eq, decide_eq_false_iff_not, Bool.not_eq_true', Bool.not_eq_false', Bool.not_true, Bool.not_false, beq_iff_eq, Int.not_le, Int.not_lt] at hz)); (try (exfalso; omega))))))) | refine thn_r ?_)
  · exact ret_raw trivial rfl ⟨congrArg (fun b => [rB b]) (rfl), rfl⟩
  have hE : (!decide (msums ps w = msums ps w)) = false := by simp
  have hE2 : decide (msums ps w = msums ps w) = true := by simp
  have hl1 := msums_len (ps := ps) (w := w)
  have hl2 := msums_len (ps := ps) (w := 1)
  have hl3 := msums_len (ps := ps) (w := 16)
  have hr1 := inRs_len (ns := msums ps w)
  have hr2 := inRs_len (ns := msums ps 1)
  have hr3 := inRs_len (ns := msums ps 16)
  have hr4 := ptRs_len (ps := ps)
  repeat' (first | (refine is_al ?_; (first | (refine is_gd ?_; refine al_on rfl rfl rfl (by assumption) ?_) | (refine is_move ?_; (first | refine al_v (opx_move (.raw _)) ⟨rfl, trivial⟩ trivial rfl ?_ | refine al_v (opx_move (.sl _ _)) ⟨rfl, trivial⟩ trivial rfl ?_)) | (refine is_bin ?_; refine al_v opx_eql ⟨rfl, rfl, trivial⟩ trivial rfl ?_) | (refine is_assign ?_; (first | refine al_v (opx_assign (.raw _)) ⟨rfl, trivial⟩ trivial rfl ?_ | refine al_v (opx_assign (.sl _ _)) ⟨rfl, trivial⟩ trivial rfl ?_)) | (refine is_pick ?_; refine al_v (opx_pick_f (.raw _) (by assumption)) ⟨rfl, rfl, trivial⟩ trivial rfl ?_) | (refine is_bi ?_; refine al_v opx_len_sl ⟨rfl, trivial⟩ trivial rfl ?_) | (refine is_call ?_; (first | refine al_callF (by (repeat (first | exact .nil | refine .one rfl rfl ?_ | refine .froz rfl rfl ?_ | refine .rnil rfl ?_ | refine .agg rfl (by (repeat (first | exact .nil | refine .cons (.same rfl) ?_ | refine .cons (.froz rfl) ?_ | refine .cons (.rnil) ?_)); (first | done | fail)) ?_)); (first | done | fail)) rfl (c_movingSums' _ _) rfl ?_ | refine al_callF (by (repeat (first | exact .nil | refine .one rfl rfl ?_ | refine .froz rfl rfl ?_ | refine .rnil rfl ?_ | refine .agg rfl (by (repeat (first | exact .nil | refine .cons (.same rfl) ?_ | refine .cons (.froz rfl) ?_ | refine .cons (.rnil) ?_)); (first | done | fail)) ?_)); (first | done | fail)) rfl (c_sMovingSums' _ _ (by omega)) rfl ?_ | refine al_callv2 (by (repeat (first | exact .nil | refine .one rfl rfl ?_ | refine .froz rfl rfl ?_ | refine .row rfl rfl ?_ | refine .rnil rfl ?_ | refine .agg rfl (by (repeat (first | exact .nil | refine .cons (.same rfl) ?_ | refine .cons (.froz rfl) ?_ | refine .cons (.rnil) ?_ | refine .cons (.row rfl rfl) ?_)); (first | done | fail)) ?_)); (first | done | fail)) rfl (c_equalInts _ _ (by omega)) rfl ?_)) | refine al_v opx_not ⟨rfl, trivial⟩ trivial rfl ?_ | refine al_nil ?_)) | (refine is_aw ?_; (first | refine aw_seq ?_ | refine aw_region ?_ | refine aw_skip ?_ | refine aw_block ?_ | refine aw_ret ?_ | (refine is_cond ?_; (refine aw_cond rfl ?_ ?_ <;> ((intro hgd; try exact absurd hgd (by decide)); (try (have hz := hgd; simp only [decide_eq_true_eq, decide_eq_false_iff_not, Bool.not_eq_true', Bool.not_eq_false', Bool.not_true, Bool.not_false, beq_iff_eq, Int.not_le, Int.not_lt] at hz)); (try (exfalso; omega))))))) | refine thn_r ?_)
  · exact ret_raw trivial rfl ⟨congrArg (fun b => [rB b]) (hE2), rfl⟩
  obtain ⟨hvs, hw1, hw2, hl⟩ := msums_ok (ps := ps) (w := w) (by omega)
  refine aw_loop (γ := Nat × Int) (fun g => [(2, .b false), (3, .r (slP ps)), (5, .r (slI (msums ps w))), (6, .r (slI (msums ps 1))), (7, .r (slI (msums ps 16))), (8, .i g.2), (9, .i (g.1 : Int))]) (fun _ => []) (fun _ => 0)
    (fun g => g.1 ≤ ps.length ∧ g.2 = pre ps g.1) (fun g => ps.length - g.1) (0, 0) ⟨Nat.zero_le _, rfl⟩ (le_mk [] rfl rfl rfl rfl ⟨rfl, rfl, rfl, rfl, rfl, rfl, rfl, trivial⟩ trivial) ?_
  rintro ⟨k, z⟩ ⟨hk, hz⟩
  dsimp only at hk hz ⊢
  have hb := pre_bound hvs k hk
  rcases Nat.lt_or_ge k ps.length with hlt | hge
  · have hc : decide ((k : Int) < ((ptRs ps).length : Int)) = true := decide_eq_true (by omega)
    have h16 := hvs.1
    obtain ⟨p, hp⟩ : ∃ p, ps[k]? = some p := ⟨_, List.getElem?_eq_getElem hlt⟩
    have hpr := ptRs_at hp
    obtain ⟨o1, o2, o3, o4⟩ := VS_val hvs hp
    have hs := pre_succ hp
    have hx : (msums ps 1)[k]? = _ := msums_at hvs (w := 1) (by omega) hlt
    have hy : (msums ps 16)[k]? = _ := msums_at hvs (w := 16) (by omega) hlt
    rw [msum_one hp] at hx
    rw [msum_all (by omega)] at hy
    have hxr := inRs_at hx
    have hyr := inRs_at hy
    have hx1 : (msums ps 1).length = ps.length := (msums_ok (w := 1) (ps := ps) (by have := (List.getElem?_eq_some_iff.1 hx).1; omega)).2.2.2
    have hy1 : (msums ps 16).length = ps.length := (msums_ok (w := 16) (ps := ps) (by have := (List.getElem?_eq_some_iff.1 hy).1; omega)).2.2.2
    have hc1 : decide (((inRs (msums ps 1)).length : Int) ≤ (k : Int)) = false := decide_eq_false (by omega)
    have hc2 : decide (((inRs (msums ps 16)).length : Int) ≤ (k : Int)) = false := decide_eq_false (by omega)
    have hc3 : (!decide (p.2 = p.2)) = false := by simp
    have hc4 : (!decide (pre ps (k + 1) = z + p.2)) = false := by simp; omega
    repeat' (first | (refine is_al ?_; (first | (refine is_move ?_; (first | refine al_v (opx_move (.raw _)) ⟨rfl, trivial⟩ trivial rfl ?_ | refine al_v (opx_move (.sl _ _)) ⟨rfl, trivial⟩ trivial rfl ?_)) | (refine is_bin ?_; (first | refine al_v opx_lss ⟨rfl, rfl, trivial⟩ trivial rfl ?_ | refine al_v (opx_add (by unfold InR; omega)) ⟨rfl, rfl, trivial⟩ trivial rfl ?_)) | (refine is_load ?_; refine al_v opx_ld_imm ⟨rfl, trivial⟩ trivial rfl ?_) | (refine is_fa ?_; refine al_v opx_fa_imm1 ⟨rfl, trivial⟩ trivial rfl ?_) | (refine is_assign ?_; refine al_v (opx_assign (.raw _)) ⟨rfl, trivial⟩ trivial rfl ?_) | (refine is_bi ?_; refine al_v opx_len_sl ⟨rfl, trivial⟩ trivial rfl ?_) | (refine is_ia ?_; refine al_v (opx_ia_sl2 hpr (by omega)) ⟨rfl, rfl, trivial⟩ trivial rfl ?_) | refine al_nil ?_)) | (refine is_ad ?_; (first | (refine isd_gd ?_; (first | (refine isd_move ?_; (first | refine ad_on rfl rfl (by assumption) (opx_move (.raw _)) ⟨rfl, trivial⟩ trivial rfl ?_ | refine ad_on rfl rfl (by assumption) (opx_move (.sl _ _)) ⟨rfl, trivial⟩ trivial rfl ?_)) | (refine isd_bin ?_; (first | refine ad_on rfl rfl (by assumption) opx_neq ⟨rfl, rfl, trivial⟩ trivial rfl ?_ | refine ad_on rfl rfl (by assumption) opx_geq ⟨rfl, rfl, trivial⟩ trivial rfl ?_)) | (refine isd_load ?_; refine ad_on rfl rfl (by assumption) opx_ld_imm ⟨rfl, trivial⟩ trivial rfl ?_) | (refine isd_fa ?_; refine ad_on rfl rfl (by assumption) opx_fa_imm1 ⟨rfl, trivial⟩ trivial rfl ?_) | (refine isd_bi ?_; refine ad_on rfl rfl (by assumption) opx_len_sl ⟨rfl, trivial⟩ trivial rfl ?_) | (refine isd_ia ?_; (first | refine ad_on rfl rfl (by assumption) (opx_ia_sl2 hpr (by omega)) ⟨rfl, rfl, trivial⟩ trivial rfl ?_ | refine ad_on rfl rfl (by assumption) (opx_ia_sl2 hxr (by omega)) ⟨rfl, rfl, trivial⟩ trivial rfl ?_ | refine ad_on rfl rfl (by assumption) (opx_ia_sl2 hyr (by omega)) ⟨rfl, rfl, trivial⟩ trivial rfl ?_)))) | (refine isd_move ?_; (first | refine ad_v (opx_move (.raw _)) ⟨rfl, trivial⟩ trivial rfl ?_ | refine ad_v (opx_move (.sl _ _)) ⟨rfl, trivial⟩ trivial rfl ?_)) | (refine isd_bin ?_; refine ad_v opx_geq ⟨rfl, rfl, trivial⟩ trivial rfl ?_) | (refine isd_pick ?_; refine ad_v (opx_pick_f (.raw _) (by assumption)) ⟨rfl, rfl, trivial⟩ trivial rfl ?_) | (refine isd_bi ?_; refine ad_v opx_len_sl ⟨rfl, trivial⟩ trivial rfl ?_) | refine ad_nil (by kernel_rfl) ?_)) | (refine is_aw ?_; (first | refine aw_seq ?_ | refine aw_region ?_ | refine aw_skip ?_ | refine aw_block ?_ | (refine is_cond ?_; (first | refine aw_cond_t rfl (by assumption) ?_ | refine aw_cond_f rfl (by assumption) ?_)) | refine aw_draw mixed ?_)) | refine thn_n ?_)
    exact ⟨(k + 1, z + p.2), ⟨by dsimp only; omega, by dsimp only; omega⟩, by dsimp only; omega, le_mk [] rfl rfl rfl rfl ⟨rfl, rfl, rfl, rfl, rfl, rfl, rfl, trivial⟩ trivial⟩
  · have hc : decide ((k : Int) < ((ptRs ps).length : Int)) = false := decide_eq_false (by omega)
    repeat' (first | (refine is_al ?_; (first | (refine is_move ?_; (first | refine al_v (opx_move (.raw _)) ⟨rfl, trivial⟩ trivial rfl ?_ | refine al_v (opx_move (.sl _ _)) ⟨rfl, trivial⟩ trivial rfl ?_)) | (refine is_bin ?_; (first | refine al_v opx_eql ⟨rfl, rfl, trivial⟩ trivial rfl ?_ | refine al_v opx_lss ⟨rfl, rfl, trivial⟩ trivial rfl ?_)) | (refine is_assign ?_; refine al_v (opx_assign (.raw _)) ⟨rfl, trivial⟩ trivial rfl ?_) | (refine is_bi ?_; refine al_v opx_len_sl ⟨rfl, trivial⟩ trivial rfl ?_) | refine al_nil ?_)) | (refine is_aw ?_; (first | refine aw_seq ?_ | refine aw_region ?_ | refine aw_ret ?_ | refine aw_exit ?_ | (refine is_cond ?_; refine aw_cond_f rfl (by assumption) ?_))))
    exact ret_raw trivial rfl ⟨congrArg (fun b => [rB b]) (decide_eq_true (by omega)), rfl⟩
end Go.Proofs.Ytmdlgeimcdpgaaa
