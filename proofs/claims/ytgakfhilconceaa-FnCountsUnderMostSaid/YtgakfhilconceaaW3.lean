/-
  Moving sums: the walks.
-/
import Derived.Test.YtgakfhilconceaaW2
import Derived.Test.YtgakfhilconceaaW1
namespace Go.Proofs.Ytgakfhilconceaa
open Go.RowKit
set_option linter.unusedVariables false
set_option linter.unusedSimpArgs false
attribute [local irreducible] AL AW OpX Le AD

/-- The sum of the first k values. -/
def pre (ps : List (Int × Int)) (k : Nat) : Int := ((ps.take k).map (·.2)).sum
theorem pre_zero {ps : List (Int × Int)} : pre ps 0 = 0 := rfl
theorem pre_succ {ps : List (Int × Int)} {k : Nat} {p : Int × Int} (h : ps[k]? = some p) : pre ps (k + 1) = pre ps k + p.2 := by
  unfold pre
  rw [List.take_add_one, h]
  simp
theorem VS_val {ps : List (Int × Int)} (h : VS ps) {k : Nat} {p : Int × Int} (hk : ps[k]? = some p) : okPt p := (h.2 k p hk).1
theorem pre_bound {ps : List (Int × Int)} (h : VS ps) : ∀ k, k ≤ ps.length → -1000 * (k : Int) ≤ pre ps k ∧ pre ps k ≤ 1000 * (k : Int)
  | 0, _ => by simp [pre_zero]
  | k + 1, hk => by
    obtain ⟨p, hp⟩ : ∃ p, ps[k]? = some p := ⟨_, List.getElem?_eq_getElem (by omega)⟩
    have h1 := pre_bound h k (by omega)
    have h2 := VS_val h hp
    rw [pre_succ hp]
    obtain ⟨_, _, _, _⟩ := h2
    omega
def msum (ps : List (Int × Int)) (w k : Nat) : Int := pre ps (k + 1) - pre ps (k + 1 - w)
def msumsTo (ps : List (Int × Int)) (w k : Nat) : List Int := (List.range k).map (msum ps w)
theorem msumsTo_succ {ps : List (Int × Int)} {w k : Nat} : msumsTo ps w (k + 1) = msumsTo ps w k ++ [msum ps w k] := by simp [msumsTo, List.range_succ]
theorem msumsTo_len {ps : List (Int × Int)} {w k : Nat} : (msumsTo ps w k).length = k := by simp [msumsTo]
noncomputable def msums (ps : List (Int × Int)) (w : Int) : List Int := if vwB ps w = true then msumsTo ps w.toNat ps.length else []

/-! as values -/
theorem c_equalInts (a b : List Int) (hL : a.length < 4611686018427387904) : Con Try.prog 16 [slI a, slI b] [] (fun rs all => rs = [rB (decide (a = b))] ∧ all = []) := by
  have hla := inRs_len (ns := a)
  have hlb := inRs_len (ns := b)
  refine con_of_aw (vars := [.tmp 4]) [(0, .r (slI a)), (1, .r (slI b))] [] 0 Try.func16 (by kernel_rfl) rfl Try.ntmps16 rfl (by decide) rfl rfl rfl rfl rfl ?_
  intro B M w0 ρ0 Z0
  repeat' (first | (refine is_al ?_; (first | (refine is_move ?_; refine al_v (opx_move (.sl _ _)) ⟨rfl, trivial⟩ trivial rfl ?_) | (refine is_bin ?_; refine al_v opx_neq ⟨rfl, rfl, trivial⟩ trivial rfl ?_) | (refine is_assign ?_; refine al_v (opx_assign (.raw _)) ⟨rfl, trivial⟩ trivial rfl ?_) | (refine is_bi ?_; refine al_v opx_len_sl ⟨rfl, trivial⟩ trivial rfl ?_) | refine al_nil ?_)) | (refine is_aw ?_; (first | refine aw_seq ?_ | refine aw_region ?_ | refine aw_skip ?_ | refine aw_block ?_ | refine aw_ret ?_ | (refine is_cond ?_; (refine aw_cond rfl ?_ ?_ <;> ((intro hgd; try exact absurd hgd (by decide)); (try (have hz := hgd; simp only [decide_eq_true_eq, decide_eq_false_iff_not, Bool.not_eq_true', Bool.not_eq_false', Bool.not_true, Bool.not_false, beq_iff_eq, Int.not_le, Int.not_lt] at hz)); (try (exfalso; omega))))))) | refine thn_r ?_)
  · exact ret_raw trivial rfl ⟨congrArg (fun b => [rB b]) ((decide_eq_false (fun h => by subst h; omega)).symm), rfl⟩
  have hl : b.length = a.length := by omega
  refine aw_loop (γ := Nat) (fun k => [(0, .r (slI a)), (1, .r (slI b)), (4, .b false), (5, .i (k : Int))]) (fun _ => []) (fun _ => 0) (fun k => k ≤ a.length ∧ ∀ j, j < k → a[j]? = b[j]?) (fun k => a.length - k) 0 ⟨Nat.zero_le _, fun j hj => by omega⟩ (le_mk [] rfl rfl rfl rfl ⟨rfl, rfl, rfl, rfl, trivial⟩ trivial) ?_
  rintro k ⟨hk, hok⟩
  rcases Nat.lt_or_ge k a.length with hlt | hge
  · have hc : decide ((k : Int) < ((inRs a).length : Int)) = true := decide_eq_true (by omega)
    obtain ⟨x, hx⟩ : ∃ x, a[k]? = some x := ⟨_, List.getElem?_eq_getElem hlt⟩
    obtain ⟨y, hy⟩ : ∃ y, b[k]? = some y := ⟨_, List.getElem?_eq_getElem (by omega)⟩
    have hxr := inRs_at hx
    have hyr := inRs_at hy
    repeat' (first | (refine is_al ?_; (first | (refine is_move ?_; (first | refine al_v (opx_move (.raw _)) ⟨rfl, trivial⟩ trivial rfl ?_ | refine al_v (opx_move (.sl _ _)) ⟨rfl, trivial⟩ trivial rfl ?_)) | (refine is_bin ?_; (first | refine al_v opx_lss ⟨rfl, rfl, trivial⟩ trivial rfl ?_ | refine al_v (opx_add (by unfold InR; omega)) ⟨rfl, rfl, trivial⟩ trivial rfl ?_)) | (refine is_assign ?_; refine al_v (opx_assign (.raw _)) ⟨rfl, trivial⟩ trivial rfl ?_) | (refine is_bi ?_; refine al_v opx_len_sl ⟨rfl, trivial⟩ trivial rfl ?_) | refine al_nil ?_)) | (refine is_ad ?_; (first | (refine isd_move ?_; (first | refine ad_v (opx_move (.raw _)) ⟨rfl, trivial⟩ trivial rfl ?_ | refine ad_v (opx_move (.sl _ _)) ⟨rfl, trivial⟩ trivial rfl ?_)) | (refine isd_bin ?_; refine ad_v opx_neq ⟨rfl, rfl, trivial⟩ trivial rfl ?_) | (refine isd_load ?_; refine ad_v opx_ld_imm ⟨rfl, trivial⟩ trivial rfl ?_) | (refine isd_ia ?_; (first | refine ad_v (opx_ia_sl2 hxr (by omega)) ⟨rfl, rfl, trivial⟩ trivial rfl ?_ | refine ad_v (opx_ia_sl2 hyr (by omega)) ⟨rfl, rfl, trivial⟩ trivial rfl ?_)) | refine ad_nil (by kernel_rfl) ?_)) | (refine is_aw ?_; (first | refine aw_seq ?_ | refine aw_region ?_ | refine aw_skip ?_ | refine aw_block ?_ | refine aw_ret ?_ | (refine is_cond ?_; (first | refine aw_cond_t rfl (by assumption) ?_ | (refine aw_cond rfl ?_ ?_ <;> ((intro hgd; try exact absurd hgd (by decide)); (try (have hz := hgd; simp only [decide_eq_true_eq, decide_eq_false_iff_not, Bool.not_eq_true', Bool.not_eq_false', Bool.not_true, Bool.not_false, beq_iff_eq, Int.not_le, Int.not_lt] at hz)); (try (exfalso; omega)))))) | refine aw_draw mixed ?_)) | refine thn_n ?_ | refine thn_r ?_ | refine inb_r ?_)
    · exact ret_raw trivial rfl ⟨congrArg (fun b => [rB b]) ((decide_eq_false (fun h => by subst h; rw [hx] at hy; cases hy; contradiction)).symm), rfl⟩
    · exact ⟨k + 1, ⟨hlt, fun j hj => by
        rcases Nat.lt_or_ge j k with h | h
        · exact hok j h
        · rw [show j = k by omega, hx, hy]; congr 1⟩, by omega, le_mk [] rfl rfl rfl rfl ⟨rfl, rfl, rfl, rfl, trivial⟩ trivial⟩
  · have hc : decide ((k : Int) < ((inRs a).length : Int)) = false := decide_eq_false (by omega)
    repeat' (first | (refine is_al ?_; (first | (refine is_move ?_; (first | refine al_v (opx_move (.raw _)) ⟨rfl, trivial⟩ trivial rfl ?_ | refine al_v (opx_move (.sl _ _)) ⟨rfl, trivial⟩ trivial rfl ?_)) | (refine is_bin ?_; refine al_v opx_lss ⟨rfl, rfl, trivial⟩ trivial rfl ?_) | (refine is_assign ?_; refine al_v (opx_assign (.raw _)) ⟨rfl, trivial⟩ trivial rfl ?_) | (refine is_bi ?_; refine al_v opx_len_sl ⟨rfl, trivial⟩ trivial rfl ?_) | refine al_nil ?_)) | (refine is_aw ?_; (first | refine aw_seq ?_ | refine aw_region ?_ | refine aw_ret ?_ | refine aw_exit ?_ | (refine is_cond ?_; refine aw_cond_f rfl (by assumption) ?_))))
    exact ret_raw trivial rfl ⟨congrArg (fun b => [rB b]) ((decide_eq_true (List.ext_getElem? fun j => by
      rcases Nat.lt_or_ge j a.length with h | h
      · exact hok j (by omega)
      · rw [List.getElem?_eq_none h, List.getElem?_eq_none (by omega)])).symm), rfl⟩

theorem msums_len {ps : List (Int × Int)} {w : Int} : (msums ps w).length ≤ ps.length := by
  unfold msums
  split
  · rw [msumsTo_len]; exact Nat.le_refl _
  · exact Nat.zero_le _
theorem msums_ok {ps : List (Int × Int)} {w : Int} (h : (msums ps w).length ≠ 0) : VS ps ∧ 1 ≤ w ∧ w ≤ 16 ∧ (msums ps w).length = ps.length := by
  by_cases hv : vwB ps w = true
  · obtain ⟨hv1, hv2⟩ : vsB ps = true ∧ (1 ≤ w ∧ w ≤ 16) := by simpa [vwB] using hv
    exact ⟨vsB_iff.1 hv1, hv2.1, hv2.2, by rw [msums, if_pos hv, msumsTo_len]⟩
  · rw [msums, if_neg hv] at h; exact absurd rfl h
theorem msums_at {ps : List (Int × Int)} (h : VS ps) {w k : Nat} (hw : 1 ≤ w ∧ w ≤ 16) (hk : k < ps.length) : (msums ps (w : Int))[k]? = some (msum ps w k) := by
  have hv : vwB ps (w : Int) = true := by
    have h1 := vsB_iff.2 h
    simp [vwB, h1]; omega
  rw [msums, if_pos hv]
  simp [msumsTo, hk]
theorem msum_one {ps : List (Int × Int)} {k : Nat} {p : Int × Int} (h : ps[k]? = some p) : msum ps 1 k = p.2 := by
  unfold msum; rw [pre_succ h, show k + 1 - 1 = k from rfl]; omega
theorem msum_all {ps : List (Int × Int)} {w k : Nat} (h : k < w) : msum ps w k = pre ps (k + 1) := by
  unfold msum; rw [show k + 1 - w = 0 by omega, pre_zero]; omega

end Go.Proofs.Ytgakfhilconceaa
