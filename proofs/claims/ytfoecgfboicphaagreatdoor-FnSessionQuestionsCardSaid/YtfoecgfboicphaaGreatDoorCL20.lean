/- Texts: W8 W3 PM W5 W23 PX -/
import Derived.Test.YtfoecgfboicphaaGreatDoorCL19
import Derived.Test.YtfoecgfboicphaaGreatDoorCL14
import Derived.Test.YtfoecgfboicphaaGreatDoorCL10
import Derived.Test.YtfoecgfboicphaaGreatDoorCL8
import Derived.Test.YtfoecgfboicphaaGreatDoorCL16
import Derived.Test.YtfoecgfboicphaaGreatDoorCL17
/-
  Merged series: the walks; the reference's functions on series.
-/
namespace Go.Proofs.YtfoecgfboicphaaGreatDoor
open Go.RowKit
set_option linter.unusedVariables false
set_option linter.unusedSimpArgs false
attribute [local irreducible] AL AW OpX Le AD

theorem c_sPut (ps : List Pt) (t v : Int) (hL : ps.length ≤ 400000000) : Con Tryz.prog 98 [slP ps, ptA t v] [] (fun rs all => rs = [.one (.own 0)] ∧ all = [.row 2 66 (ptRs (put ps (t, v)))]) := by
  have hlen := ptRs_len (ps := ps)
  let lo := fun k : Nat => (ps.take k).filter (fun x => decide (x.1 < t))
  let hi := fun k : Nat => ps.filter (fun x => decide (x.1 < t)) ++ (t, v) :: (ps.take k).filter (fun x => decide (t < x.1))
  have hlo : ∀ k, (lo k).length ≤ ps.length := fun k => Nat.le_trans (List.length_filter_le _ _) (by simp; omega)
  have hhi : ∀ k, (hi k).length ≤ 2 * ps.length + 1 := fun k => by
    have h1 := List.length_filter_le (fun x : Pt => decide (x.1 < t)) ps
    have h2 := List.length_filter_le (fun x : Pt => decide (t < x.1)) (ps.take k)
    rw [List.length_take] at h2
    show (List.filter (fun x : Pt => decide (x.1 < t)) ps ++ (t, v) :: List.filter (fun x : Pt => decide (t < x.1)) (ps.take k)).length ≤ _
    rw [List.length_append, List.length_cons]
    omega
  have hlo0 : lo 0 = [] := rfl
  have hlos : ∀ {k p}, ps[k]? = some p → p.1 < t → lo (k + 1) = lo k ++ [p] := fun hp h => by simp only [lo]; rw [List.take_add_one, hp, List.filter_append]; simp [h]
  have hlon : ∀ {k p}, ps[k]? = some p → ¬ p.1 < t → lo (k + 1) = lo k := fun hp h => by simp only [lo]; rw [List.take_add_one, hp, List.filter_append]; simp [h]
  have hloe : lo ps.length = ps.filter (fun x => decide (x.1 < t)) := by simp [lo]
  have hhi0 : hi 0 = ps.filter (fun x => decide (x.1 < t)) ++ [(t, v)] := rfl
  have hhis : ∀ {k p}, ps[k]? = some p → t < p.1 → hi (k + 1) = hi k ++ [p] := fun hp h => by simp only [hi]; rw [List.take_add_one, hp, List.filter_append]; simp [h]
  have hhin : ∀ {k p}, ps[k]? = some p → ¬ t < p.1 → hi (k + 1) = hi k := fun hp h => by simp only [hi]; rw [List.take_add_one, hp, List.filter_append]; simp [h]
  have hhie : hi ps.length = put ps (t, v) := by simp [hi, put]
  clear_value lo hi
  refine con_of_aw (vars := [.tmp 4]) [(0, .r (slP ps)), (1, .r (ptA t v))] [] 0 Tryz.func98 (by kernel_rfl) rfl Tryz.ntmps98 rfl (by decide) rfl rfl rfl rfl rfl ?_; intro B M w0 ρ0 Z0
  repeat' (first | (refine is_al ?_; (first | (refine is_assign ?_; (first | refine al_v (opx_assign (.raw _)) ⟨rfl, trivial⟩ trivial rfl ?_ | refine al_v (opx_assign (.own _)) ⟨rfl, trivial⟩ trivial rfl ?_)) | (refine is_bs ?_; refine al_n opx_lit0 trivial trivial rfl ?_) | refine al_n opx_boxs ⟨rfl, trivial⟩ trivial rfl ?_ | refine al_nil ?_)) | (refine is_aw ?_; (first | refine aw_seq ?_ | refine aw_region ?_ | refine aw_block ?_)))
  refine aw_loop (γ := Nat) (fun k => [(0, .r (slP ps)), (3, .ref 0 0), (5, .own 1), (6, .i (k : Int))]) (fun k => [(0, .box 66 [.c (cI t), .c (cI v)]), (1, .row 2 66 (ptRs (lo k)))]) (fun _ => 2)
    (fun k => k ≤ ps.length) (fun k => ps.length - k) 0 (Nat.zero_le _) (le_mk [0, 1] rfl rfl rfl rfl ⟨rfl, rfl, rfl, rfl, trivial⟩ ⟨rfl, by rw [hlo0]; rfl, trivial⟩) ?_
  intro k hk
  have hl := hlo k
  rcases Nat.lt_or_ge k ps.length with hlt | hge
  · have hc : decide ((k : Int) < ((ptRs ps).length : Int)) = true := decide_eq_true (by omega)
    obtain ⟨p, hp⟩ : ∃ p, ps[k]? = some p := ⟨_, List.getElem?_eq_getElem hlt⟩
    have hpr := ptRs_at hp
    by_cases h : p.1 < t
    · have hd : decide (p.1 < t) = true := decide_eq_true h
      have e := hlos hp h
      repeat' (first | (refine is_al ?_; (first | (refine is_move ?_; (first | refine al_v (opx_move (.raw _)) ⟨rfl, trivial⟩ trivial rfl ?_ | refine al_v (opx_move (.sl _ _)) ⟨rfl, trivial⟩ trivial rfl ?_ | refine al_v (opx_move (.own _)) ⟨rfl, trivial⟩ trivial rfl ?_)) | (refine is_bin ?_; (first | refine al_v opx_lss ⟨rfl, rfl, trivial⟩ trivial rfl ?_ | refine al_v (opx_add (by unfold InR; omega)) ⟨rfl, rfl, trivial⟩ trivial rfl ?_)) | (refine is_load ?_; refine al_v opx_ld2_imm ⟨rfl, trivial⟩ trivial rfl ?_) | (refine is_assign ?_; (first | refine al_v (opx_assign (.raw _)) ⟨rfl, trivial⟩ trivial rfl ?_ | refine al_v (opx_assign (.own _)) ⟨rfl, trivial⟩ trivial rfl ?_)) | (refine is_bi ?_; refine al_v opx_len_sl ⟨rfl, trivial⟩ trivial rfl ?_) | (refine is_ia ?_; refine al_v (opx_ia_sl2 hpr (by omega)) ⟨rfl, rfl, trivial⟩ trivial rfl ?_) | (refine is_bs ?_; refine al_pushP ⟨rfl, trivial⟩ rfl rfl rfl rfl rfl (by omega) ?_) | refine al_nil ?_)) | (refine is_ad ?_; (first | (refine isd_move ?_; (first | refine ad_v (opx_move (.raw _)) ⟨rfl, trivial⟩ trivial rfl ?_ | refine ad_v (opx_move (.sl _ _)) ⟨rfl, trivial⟩ trivial rfl ?_)) | (refine isd_bin ?_; refine ad_v opx_lss ⟨rfl, rfl, trivial⟩ trivial rfl ?_) | (refine isd_load ?_; (first | refine ad_v opx_ld_imm ⟨rfl, trivial⟩ trivial rfl ?_ | refine ad_v (opx_ld_box rfl) ⟨rfl, trivial⟩ ⟨rfl, trivial⟩ rfl ?_)) | (refine isd_fa ?_; (first | refine ad_v opx_fa_ref ⟨rfl, trivial⟩ trivial rfl ?_ | refine ad_v opx_fa_imm0 ⟨rfl, trivial⟩ trivial rfl ?_)) | (refine isd_ia ?_; refine ad_v (opx_ia_sl2 hpr (by omega)) ⟨rfl, rfl, trivial⟩ trivial rfl ?_) | refine ad_nil (by kernel_rfl) ?_)) | (refine is_aw ?_; (first | refine aw_seq ?_ | refine aw_region ?_ | refine aw_skip ?_ | refine aw_block ?_ | (refine is_cond ?_; refine aw_cond_t rfl (by assumption) ?_) | refine aw_draw mixed ?_)) | refine thn_n ?_)
      exact ⟨k + 1, hlt, by omega, le_mk [0, 3] rfl rfl rfl rfl ⟨rfl, rfl, rfl, rfl, trivial⟩ ⟨rfl, by rw [e]; rfl, trivial⟩⟩
    · have hd : decide (p.1 < t) = false := decide_eq_false h
      have e := hlon hp h
      repeat' (first | (refine is_al ?_; (first | (refine is_move ?_; (first | refine al_v (opx_move (.raw _)) ⟨rfl, trivial⟩ trivial rfl ?_ | refine al_v (opx_move (.sl _ _)) ⟨rfl, trivial⟩ trivial rfl ?_)) | (refine is_bin ?_; (first | refine al_v opx_lss ⟨rfl, rfl, trivial⟩ trivial rfl ?_ | refine al_v (opx_add (by unfold InR; omega)) ⟨rfl, rfl, trivial⟩ trivial rfl ?_)) | (refine is_assign ?_; refine al_v (opx_assign (.raw _)) ⟨rfl, trivial⟩ trivial rfl ?_) | (refine is_bi ?_; refine al_v opx_len_sl ⟨rfl, trivial⟩ trivial rfl ?_) | refine al_nil ?_)) | (refine is_ad ?_; (first | (refine isd_move ?_; (first | refine ad_v (opx_move (.raw _)) ⟨rfl, trivial⟩ trivial rfl ?_ | refine ad_v (opx_move (.sl _ _)) ⟨rfl, trivial⟩ trivial rfl ?_)) | (refine isd_bin ?_; refine ad_v opx_lss ⟨rfl, rfl, trivial⟩ trivial rfl ?_) | (refine isd_load ?_; (first | refine ad_v opx_ld_imm ⟨rfl, trivial⟩ trivial rfl ?_ | refine ad_v (opx_ld_box rfl) ⟨rfl, trivial⟩ ⟨rfl, trivial⟩ rfl ?_)) | (refine isd_fa ?_; (first | refine ad_v opx_fa_ref ⟨rfl, trivial⟩ trivial rfl ?_ | refine ad_v opx_fa_imm0 ⟨rfl, trivial⟩ trivial rfl ?_)) | (refine isd_ia ?_; refine ad_v (opx_ia_sl2 hpr (by omega)) ⟨rfl, rfl, trivial⟩ trivial rfl ?_) | refine ad_nil (by kernel_rfl) ?_)) | (refine is_aw ?_; (first | refine aw_seq ?_ | refine aw_region ?_ | refine aw_skip ?_ | refine aw_block ?_ | (refine is_cond ?_; (first | refine aw_cond_t rfl (by assumption) ?_ | refine aw_cond_f rfl (by assumption) ?_)) | refine aw_draw mixed ?_)) | refine thn_n ?_)
      exact ⟨k + 1, hlt, by omega, le_mk [0, 1] rfl rfl rfl rfl ⟨rfl, rfl, rfl, rfl, trivial⟩ ⟨rfl, by rw [e]; rfl, trivial⟩⟩
  · have hc : decide ((k : Int) < ((ptRs ps).length : Int)) = false := decide_eq_false (by omega)
    obtain rfl : k = ps.length := by omega
    have hh0 := hhi 0
    repeat' (first | (refine is_al ?_; (first | (refine is_move ?_; (first | refine al_v (opx_move (.raw _)) ⟨rfl, trivial⟩ trivial rfl ?_ | refine al_v (opx_move (.sl _ _)) ⟨rfl, trivial⟩ trivial rfl ?_ | refine al_v (opx_move (.own _)) ⟨rfl, trivial⟩ trivial rfl ?_)) | (refine is_bin ?_; refine al_v opx_lss ⟨rfl, rfl, trivial⟩ trivial rfl ?_) | (refine is_load ?_; refine al_v opx_ld2_box ⟨rfl, trivial⟩ ⟨rfl, trivial⟩ rfl ?_) | (refine is_assign ?_; (first | refine al_v (opx_assign (.raw _)) ⟨rfl, trivial⟩ trivial rfl ?_ | refine al_v (opx_assign (.own _)) ⟨rfl, trivial⟩ trivial rfl ?_)) | (refine is_bi ?_; refine al_v opx_len_sl ⟨rfl, trivial⟩ trivial rfl ?_) | (refine is_bs ?_; refine al_pushP ⟨rfl, trivial⟩ rfl rfl rfl rfl rfl (by omega) ?_) | refine al_nil ?_)) | (refine is_aw ?_; (first | refine aw_seq ?_ | refine aw_region ?_ | refine aw_block ?_ | refine aw_exit ?_ | (refine is_cond ?_; refine aw_cond_f rfl (by assumption) ?_))))
    refine aw_loop (γ := Nat) (fun k => [(0, .r (slP ps)), (3, .ref 0 0), (5, .own 1), (7, .i (k : Int))]) (fun k => [(0, .box 66 [.c (cI t), .c (cI v)]), (1, .row 2 66 (ptRs (hi k)))]) (fun _ => 2)
      (fun k => k ≤ ps.length) (fun k => ps.length - k) 0 (Nat.zero_le _) (le_mk [0, 3] rfl rfl rfl rfl ⟨rfl, rfl, rfl, rfl, trivial⟩ ⟨rfl, by rw [hhi0, ← hloe]; rfl, trivial⟩) ?_
    intro k hk
    have hl := hhi k
    rcases Nat.lt_or_ge k ps.length with hlt | hge
    · have hc : decide ((k : Int) < ((ptRs ps).length : Int)) = true := decide_eq_true (by omega)
      obtain ⟨p, hp⟩ : ∃ p, ps[k]? = some p := ⟨_, List.getElem?_eq_getElem hlt⟩
      have hpr := ptRs_at hp
      by_cases h : t < p.1
      · have hd : decide (t < p.1) = true := decide_eq_true h
        have e := hhis hp h
        repeat' (first | (refine is_al ?_; (first | (refine is_move ?_; (first | refine al_v (opx_move (.raw _)) ⟨rfl, trivial⟩ trivial rfl ?_ | refine al_v (opx_move (.sl _ _)) ⟨rfl, trivial⟩ trivial rfl ?_ | refine al_v (opx_move (.own _)) ⟨rfl, trivial⟩ trivial rfl ?_)) | (refine is_bin ?_; (first | refine al_v opx_lss ⟨rfl, rfl, trivial⟩ trivial rfl ?_ | refine al_v (opx_add (by unfold InR; omega)) ⟨rfl, rfl, trivial⟩ trivial rfl ?_)) | (refine is_load ?_; refine al_v opx_ld2_imm ⟨rfl, trivial⟩ trivial rfl ?_) | (refine is_assign ?_; (first | refine al_v (opx_assign (.raw _)) ⟨rfl, trivial⟩ trivial rfl ?_ | refine al_v (opx_assign (.own _)) ⟨rfl, trivial⟩ trivial rfl ?_)) | (refine is_bi ?_; refine al_v opx_len_sl ⟨rfl, trivial⟩ trivial rfl ?_) | (refine is_ia ?_; refine al_v (opx_ia_sl2 hpr (by omega)) ⟨rfl, rfl, trivial⟩ trivial rfl ?_) | (refine is_bs ?_; refine al_pushP ⟨rfl, trivial⟩ rfl rfl rfl rfl rfl (by omega) ?_) | refine al_nil ?_)) | (refine is_ad ?_; (first | (refine isd_move ?_; (first | refine ad_v (opx_move (.raw _)) ⟨rfl, trivial⟩ trivial rfl ?_ | refine ad_v (opx_move (.sl _ _)) ⟨rfl, trivial⟩ trivial rfl ?_)) | (refine isd_bin ?_; refine ad_v opx_gtr ⟨rfl, rfl, trivial⟩ trivial rfl ?_) | (refine isd_load ?_; (first | refine ad_v opx_ld_imm ⟨rfl, trivial⟩ trivial rfl ?_ | refine ad_v (opx_ld_box rfl) ⟨rfl, trivial⟩ ⟨rfl, trivial⟩ rfl ?_)) | (refine isd_fa ?_; (first | refine ad_v opx_fa_ref ⟨rfl, trivial⟩ trivial rfl ?_ | refine ad_v opx_fa_imm0 ⟨rfl, trivial⟩ trivial rfl ?_)) | (refine isd_ia ?_; refine ad_v (opx_ia_sl2 hpr (by omega)) ⟨rfl, rfl, trivial⟩ trivial rfl ?_) | refine ad_nil (by kernel_rfl) ?_)) | (refine is_aw ?_; (first | refine aw_seq ?_ | refine aw_region ?_ | refine aw_skip ?_ | refine aw_block ?_ | (refine is_cond ?_; refine aw_cond_t rfl (by assumption) ?_) | refine aw_draw mixed ?_)) | refine thn_n ?_)
        exact ⟨k + 1, hlt, by omega, le_mk [0, 3] rfl rfl rfl rfl ⟨rfl, rfl, rfl, rfl, trivial⟩ ⟨rfl, by rw [e]; rfl, trivial⟩⟩
      · have hd : decide (t < p.1) = false := decide_eq_false h
        have e := hhin hp h
        repeat' (first | (refine is_al ?_; (first | (refine is_move ?_; (first | refine al_v (opx_move (.raw _)) ⟨rfl, trivial⟩ trivial rfl ?_ | refine al_v (opx_move (.sl _ _)) ⟨rfl, trivial⟩ trivial rfl ?_)) | (refine is_bin ?_; (first | refine al_v opx_lss ⟨rfl, rfl, trivial⟩ trivial rfl ?_ | refine al_v (opx_add (by unfold InR; omega)) ⟨rfl, rfl, trivial⟩ trivial rfl ?_)) | (refine is_assign ?_; refine al_v (opx_assign (.raw _)) ⟨rfl, trivial⟩ trivial rfl ?_) | (refine is_bi ?_; refine al_v opx_len_sl ⟨rfl, trivial⟩ trivial rfl ?_) | refine al_nil ?_)) | (refine is_ad ?_; (first | (refine isd_move ?_; (first | refine ad_v (opx_move (.raw _)) ⟨rfl, trivial⟩ trivial rfl ?_ | refine ad_v (opx_move (.sl _ _)) ⟨rfl, trivial⟩ trivial rfl ?_)) | (refine isd_bin ?_; refine ad_v opx_gtr ⟨rfl, rfl, trivial⟩ trivial rfl ?_) | (refine isd_load ?_; (first | refine ad_v opx_ld_imm ⟨rfl, trivial⟩ trivial rfl ?_ | refine ad_v (opx_ld_box rfl) ⟨rfl, trivial⟩ ⟨rfl, trivial⟩ rfl ?_)) | (refine isd_fa ?_; (first | refine ad_v opx_fa_ref ⟨rfl, trivial⟩ trivial rfl ?_ | refine ad_v opx_fa_imm0 ⟨rfl, trivial⟩ trivial rfl ?_)) | (refine isd_ia ?_; refine ad_v (opx_ia_sl2 hpr (by omega)) ⟨rfl, rfl, trivial⟩ trivial rfl ?_) | refine ad_nil (by kernel_rfl) ?_)) | (refine is_aw ?_; (first | refine aw_seq ?_ | refine aw_region ?_ | refine aw_skip ?_ | refine aw_block ?_ | (refine is_cond ?_; (first | refine aw_cond_t rfl (by assumption) ?_ | refine aw_cond_f rfl (by assumption) ?_)) | refine aw_draw mixed ?_)) | refine thn_n ?_)
        exact ⟨k + 1, hlt, by omega, le_mk [0, 1] rfl rfl rfl rfl ⟨rfl, rfl, rfl, rfl, trivial⟩ ⟨rfl, by rw [e]; rfl, trivial⟩⟩
    · have hc : decide ((k : Int) < ((ptRs ps).length : Int)) = false := decide_eq_false (by omega)
      obtain rfl : k = ps.length := by omega
      repeat' (first | (refine is_al ?_; (first | (refine is_move ?_; (first | refine al_v (opx_move (.raw _)) ⟨rfl, trivial⟩ trivial rfl ?_ | refine al_v (opx_move (.sl _ _)) ⟨rfl, trivial⟩ trivial rfl ?_ | refine al_v (opx_move (.own _)) ⟨rfl, trivial⟩ trivial rfl ?_)) | (refine is_bin ?_; refine al_v opx_lss ⟨rfl, rfl, trivial⟩ trivial rfl ?_) | (refine is_assign ?_; refine al_v (opx_assign (.own _)) ⟨rfl, trivial⟩ trivial rfl ?_) | (refine is_bi ?_; refine al_v opx_len_sl ⟨rfl, trivial⟩ trivial rfl ?_) | refine al_nil ?_)) | (refine is_aw ?_; (first | refine aw_seq ?_ | refine aw_region ?_ | refine aw_ret ?_ | refine aw_exit ?_ | (refine is_cond ?_; refine aw_cond_f rfl (by assumption) ?_))))
      exact ret_row trivial rfl rfl ⟨rfl, by rw [hhie]⟩
end Go.Proofs.YtfoecgfboicphaaGreatDoor
/-
  Moving sums: the walks.
-/
namespace Go.Proofs.YtfoecgfboicphaaGreatDoor
open Go.RowKit
set_option linter.unusedVariables false
set_option linter.unusedSimpArgs false
attribute [local irreducible] AL AW OpX Le AD

/-- The sum of the first k values. -/
def pre (ps : List (Int × Int)) (k : Nat) : Int := ((ps.take k).map (·.2)).sum
end Go.Proofs.YtfoecgfboicphaaGreatDoor
/-
  The greatest of the last values: the plain law.
-/
namespace Go.Proofs.YtfoecgfboicphaaGreatDoor

/-- The value at a place. -/
def vAt (ps : List (Int × Int)) (i : Nat) : Int := (ps.getD i (0, 0)).2
/-- The greatest of the value at k and of c values from lo on. -/
def rmax (ps : List (Int × Int)) (k lo : Nat) : Nat → Int
  | 0 => vAt ps k
  | c + 1 => max (rmax ps k lo c) (vAt ps (lo + c))
theorem rmax_ge {ps : List (Int × Int)} {k lo : Nat} : ∀ c, vAt ps k ≤ rmax ps k lo c ∧ ∀ i, i < c → vAt ps (lo + i) ≤ rmax ps k lo c
  | 0 => ⟨Int.le_refl _, fun i hi => by omega⟩
  | c + 1 => by
    obtain ⟨h1, h2⟩ := rmax_ge (ps := ps) (k := k) (lo := lo) c
    refine ⟨by simp only [rmax]; omega, fun i hi => ?_⟩
    simp only [rmax]
    rcases Nat.lt_or_ge i c with h | h
    · have := h2 i h; omega
    · rw [show i = c by omega]; omega
theorem rmax_in {ps : List (Int × Int)} {k lo : Nat} : ∀ c, rmax ps k lo c = vAt ps k ∨ ∃ i, i < c ∧ rmax ps k lo c = vAt ps (lo + i)
  | 0 => .inl rfl
  | c + 1 => by
    simp only [rmax]
    rcases Int.le_total (rmax ps k lo c) (vAt ps (lo + c)) with h | h
    · exact .inr ⟨c, by omega, by omega⟩
    · rcases rmax_in (ps := ps) (k := k) (lo := lo) c with h1 | ⟨i, h1, h2⟩
      · exact .inl (by omega)
      · exact .inr ⟨i, by omega, by omega⟩

/-- The greatest of at most w values that end at k. -/
def mmost (ps : List (Int × Int)) (w k : Nat) : Int := rmax ps k (k + 1 - w) (k - (k + 1 - w))
theorem mmost_ge {ps : List (Int × Int)} {w k i : Nat} (h1 : k + 1 - w ≤ i) (h2 : i ≤ k) : vAt ps i ≤ mmost ps w k := by
  obtain ⟨h3, h4⟩ := rmax_ge (ps := ps) (k := k) (lo := k + 1 - w) (k - (k + 1 - w))
  rcases Nat.lt_or_ge i k with h | h
  · have := h4 (i - (k + 1 - w)) (by omega)
    rw [show k + 1 - w + (i - (k + 1 - w)) = i by omega] at this
    exact this
  · rw [show i = k by omega]; exact h3
theorem mmost_in {ps : List (Int × Int)} {w k : Nat} (hw : 1 ≤ w) : ∃ i, k + 1 - w ≤ i ∧ i ≤ k ∧ mmost ps w k = vAt ps i := by
  rcases rmax_in (ps := ps) (k := k) (lo := k + 1 - w) (k - (k + 1 - w)) with h | ⟨i, h1, h2⟩
  · exact ⟨k, by omega, Nat.le_refl _, h⟩
  · exact ⟨k + 1 - w + i, by omega, by omega, h2⟩
theorem mmost_eq {ps : List (Int × Int)} {w k h : Nat} (hw : 1 ≤ w) (h1 : k + 1 - w ≤ h) (h2 : h ≤ k) (h3 : ∀ i, k + 1 - w ≤ i → i ≤ k → vAt ps i ≤ vAt ps h) : mmost ps w k = vAt ps h := by
  obtain ⟨i, h4, h5, h6⟩ := mmost_in (ps := ps) (k := k) hw
  have := h3 i h4 h5
  have := mmost_ge (ps := ps) (w := w) h1 h2
  omega

/-- The places that are kept: falling values, and each value in the window is at most a later kept one. -/
structure Deq (ps : List (Int × Int)) (w k : Nat) (js : List Nat) : Prop where
  inc : js.Pairwise fun a b => a < b ∧ vAt ps b < vAt ps a
  lo : ∀ j ∈ js, j < k ∧ k ≤ j + w
  dom : ∀ i, k - w ≤ i → i < k → (∃ j ∈ js, i ≤ j ∧ vAt ps i ≤ vAt ps j)
/-- The same while the last ones are taken off. -/
structure Mid (ps : List (Int × Int)) (w k : Nat) (js : List Nat) : Prop where
  inc : js.Pairwise fun a b => a < b ∧ vAt ps b < vAt ps a
  lo : ∀ j ∈ js, j < k ∧ k ≤ j + w
  dom : ∀ i, k - w ≤ i → i < k → (∃ j ∈ js, i ≤ j ∧ vAt ps i ≤ vAt ps j) ∨ vAt ps i ≤ vAt ps k
theorem Deq.mid {ps : List (Int × Int)} {w k : Nat} {js : List Nat} (h : Deq ps w k js) : Mid ps w k js := ⟨h.inc, h.lo, fun i h1 h2 => .inl (h.dom i h1 h2)⟩
theorem Deq.zero {ps : List (Int × Int)} {w : Nat} : Deq ps w 0 [] := ⟨.nil, fun j hj => (by cases hj), fun i _ h => by omega⟩
/-- What is kept behind 'append': the next window, but for its first place. -/
structure Nxt (ps : List (Int × Int)) (w k : Nat) (js : List Nat) : Prop where
  inc : js.Pairwise fun a b => a < b ∧ vAt ps b < vAt ps a
  lo : ∀ j ∈ js, j < k + 1 ∧ k ≤ j + w
  dom : ∀ i, k + 1 - w ≤ i → i < k + 1 → (∃ j ∈ js, i ≤ j ∧ vAt ps i ≤ vAt ps j)
theorem Mid.push {ps : List (Int × Int)} {w k : Nat} {js : List Nat} (h : Mid ps w k js) (hv : ∀ j ∈ js, vAt ps k < vAt ps j) : Nxt ps w k (js ++ [k]) := by
  refine ⟨List.pairwise_append.2 ⟨h.inc, List.pairwise_singleton _ _, fun a ha b hb => ?_⟩, fun j hj => ?_, fun i h1 h2 => ?_⟩
  · rw [List.mem_singleton] at hb; subst hb; exact ⟨(h.lo a ha).1, hv a ha⟩
  · rcases List.mem_append.1 hj with h6 | h6
    · have := h.lo j h6; omega
    · rw [List.mem_singleton] at h6; omega
  · rcases Nat.lt_or_ge i k with h3 | h3
    · rcases h.dom i (by omega) h3 with ⟨j, h4, h5, h6⟩ | h4
      · exact ⟨j, by simp [h4], h5, h6⟩
      · exact ⟨k, by simp, by omega, h4⟩
    · exact ⟨k, by simp, by omega, by rw [show i = k by omega]; exact Int.le_refl _⟩
theorem Nxt.stay {ps : List (Int × Int)} {w k h : Nat} {js : List Nat} (hd : Nxt ps w k (h :: js)) (hh : k < h + w) : Deq ps w (k + 1) (h :: js) := by
  refine ⟨hd.inc, fun j hj => ?_, hd.dom⟩
  have := hd.lo j hj
  rcases List.mem_cons.1 hj with rfl | h1
  · omega
  · have := (List.pairwise_cons.1 hd.inc).1 j h1; omega
theorem Nxt.drop {ps : List (Int × Int)} {w k h : Nat} {js : List Nat} (hd : Nxt ps w k (h :: js)) (hh : h + w ≤ k) : Deq ps w (k + 1) js := by
  have h0 := hd.lo h (by simp)
  refine ⟨(List.pairwise_cons.1 hd.inc).2, fun j hj => ?_, fun i h1 h2 => ?_⟩
  · have := hd.lo j (by simp [hj])
    have := (List.pairwise_cons.1 hd.inc).1 j hj
    omega
  · obtain ⟨j, h3, h4, h5⟩ := hd.dom i h1 h2
    rcases List.mem_cons.1 h3 with rfl | h6
    · omega
    · exact ⟨j, h6, h4, h5⟩
/-- The first kept place has the greatest value. -/
theorem Deq.head {ps : List (Int × Int)} {w k h : Nat} {js : List Nat} (hw : 1 ≤ w) (hd : Deq ps w (k + 1) (h :: js)) : mmost ps w k = vAt ps h := by
  have h0 := hd.lo h (by simp)
  refine mmost_eq hw (by omega) (by omega) fun i h1 h2 => ?_
  obtain ⟨j, h3, h4, h5⟩ := hd.dom i h1 (by omega)
  rcases List.mem_cons.1 h3 with rfl | h6
  · exact h5
  · have := (List.pairwise_cons.1 hd.inc).1 j h6; omega
theorem inc_len {k : Nat} : ∀ {js : List Nat} {lo : Nat}, js.Pairwise (· < ·) → (∀ j ∈ js, lo ≤ j ∧ j < k) → js.length ≤ k - lo
  | [], _, _, _ => Nat.zero_le _
  | j :: js, lo, h, hj => by
    have h1 := hj j (by simp)
    have h2 := (List.pairwise_cons.1 h)
    have h3 := inc_len (k := k) (lo := j + 1) h2.2 fun i hi => ⟨h2.1 i hi, (hj i (by simp [hi])).2⟩
    rw [List.length_cons]; omega
theorem Mid.len {ps : List (Int × Int)} {w k : Nat} {js : List Nat} (h : Mid ps w k js) : js.length ≤ k := by
  have := inc_len (k := k) (lo := 0) (h.inc.imp fun h => h.1) fun j hj => ⟨Nat.zero_le _, (h.lo j hj).1⟩
  omega
theorem Deq.len {ps : List (Int × Int)} {w k : Nat} {js : List Nat} (h : Deq ps w k js) : js.length ≤ k := h.mid.len

end Go.Proofs.YtfoecgfboicphaaGreatDoor
/-
  The greatest of the last values: the walks.
-/
namespace Go.Proofs.YtfoecgfboicphaaGreatDoor
open Go.RowKit
set_option linter.unusedVariables false
set_option linter.unusedSimpArgs false
attribute [local irreducible] AL AW OpX Le AD

/-- whether the greatest value was seen among c values from lo on -/
def seen (ps : List (Int × Int)) (lo c : Nat) (m : Int) (sb : Bool) : Prop := sb = true ↔ ∃ j, lo ≤ j ∧ j < lo + c ∧ vAt ps j = m
end Go.Proofs.YtfoecgfboicphaaGreatDoor
/-
  Resets: the walks, the law.
-/
namespace Go.Proofs.YtfoecgfboicphaaGreatDoor
open Go.RowKit
set_option linter.unusedVariables false
set_option linter.unusedSimpArgs false
attribute [local irreducible] AL AW OpX Le AD

theorem c_sValidRange (lo hi : Int) : Con Tryz.prog 70 [rI lo, rI hi] [] (fun rs all => rs = [rB (irB lo && irB hi)] ∧ all = []) := by
  refine con_of_aw (vars := [.tmp 4]) [(0, .r (rI lo)), (1, .r (rI hi))] [] 0 Tryz.func70 (by kernel_rfl) rfl Tryz.ntmps70 rfl (by decide) rfl rfl rfl rfl rfl ?_; intro B M w0 ρ0 Z0
  have e1 : decide (-2000 ≤ lo ∧ lo ≤ 2000) = irB lo := rfl
  have e2 : decide (-2000 ≤ hi ∧ hi ≤ 2000) = irB hi := rfl
  cases h1 : irB lo
  · rw [h1] at e1
    repeat' (first | (refine is_al ?_; (first | (refine is_gd ?_; refine al_off rfl rfl rfl (by assumption) rfl ?_) | (refine is_move ?_; refine al_v (opx_move (.raw _)) ⟨rfl, trivial⟩ trivial rfl ?_) | (refine is_assign ?_; refine al_v (opx_assign (.raw _)) ⟨rfl, trivial⟩ trivial rfl ?_) | (refine is_pick ?_; refine al_v (opx_pick_f (.raw _) (by assumption)) ⟨rfl, rfl, trivial⟩ trivial rfl ?_) | (refine is_call ?_; refine al_callv2 (by (repeat (first | exact .nil | refine .one rfl rfl ?_ | refine .froz rfl rfl ?_ | refine .row rfl rfl ?_ | refine .rnil rfl ?_ | refine .agg rfl (by (repeat (first | exact .nil | refine .cons (.same rfl) ?_ | refine .cons (.froz rfl) ?_ | refine .cons (.rnil) ?_ | refine .cons (.row rfl rfl) ?_)); (first | done | fail)) ?_)); (first | done | fail)) rfl (c_inRange _ _ _) rfl ?_) | refine al_nil ?_)) | (refine is_aw ?_; (first | refine aw_seq ?_ | refine aw_region ?_ | refine aw_ret ?_)))
    exact ret_raw trivial rfl ⟨congrArg (fun b => [rB b]) (rfl), rfl⟩
  · rw [h1] at e1
    repeat' (first | (refine is_al ?_; (first | (refine is_gd ?_; refine al_on rfl rfl rfl (by assumption) ?_) | (refine is_move ?_; refine al_v (opx_move (.raw _)) ⟨rfl, trivial⟩ trivial rfl ?_) | (refine is_assign ?_; refine al_v (opx_assign (.raw _)) ⟨rfl, trivial⟩ trivial rfl ?_) | (refine is_pick ?_; refine al_v (opx_pick_t (.raw _) (by assumption)) ⟨rfl, rfl, trivial⟩ trivial rfl ?_) | (refine is_call ?_; refine al_callv2 (by (repeat (first | exact .nil | refine .one rfl rfl ?_ | refine .froz rfl rfl ?_ | refine .row rfl rfl ?_ | refine .rnil rfl ?_ | refine .agg rfl (by (repeat (first | exact .nil | refine .cons (.same rfl) ?_ | refine .cons (.froz rfl) ?_ | refine .cons (.rnil) ?_ | refine .cons (.row rfl rfl) ?_)); (first | done | fail)) ?_)); (first | done | fail)) rfl (c_inRange _ _ _) rfl ?_) | refine al_nil ?_)) | (refine is_aw ?_; (first | refine aw_seq ?_ | refine aw_region ?_ | refine aw_ret ?_)))
    exact ret_raw trivial rfl ⟨congrArg (fun b => [rB b]) (e2), rfl⟩
theorem rng_take {ps : List Pt} {lo hi : Int} {k : Nat} {p : Pt} (h : ps[k]? = some p) : rng (ps.take (k + 1)) lo hi = rng (ps.take k) lo hi ++ if lo ≤ p.1 ∧ p.1 ≤ hi - 1 then [p] else [] := by
  rw [List.take_add_one, h, rng, rng, List.filter_append]
  congr 1
  by_cases h1 : lo ≤ p.1 ∧ p.1 ≤ hi - 1
  · rw [if_pos h1]; simp; omega
  · rw [if_neg h1]; simp; omega
theorem c_part (ps : List Pt) (lo hi : Int) (hL : ps.length ≤ 1000000) (hh : -2000 ≤ hi ∧ hi ≤ 2000) : Con Tryz.prog 122 [slP ps, rI lo, rI hi] [] (fun rs all => rs = [.one (.own 0)] ∧ all = [.row 2 66 (ptRs (rng ps lo hi))]) := by
  have hlen := ptRs_len (ps := ps)
  refine con_of_aw (vars := [.tmp 6]) [(0, .r (slP ps)), (1, .r (rI lo)), (2, .r (rI hi))] [] 0 Tryz.func122 (by kernel_rfl) rfl Tryz.ntmps122 rfl (by decide) rfl rfl rfl rfl rfl ?_; intro B M w0 ρ0 Z0
  repeat' (first | (refine is_al ?_; (first | (refine is_assign ?_; (first | refine al_v (opx_assign (.raw _)) ⟨rfl, trivial⟩ trivial rfl ?_ | refine al_v (opx_assign (.own _)) ⟨rfl, trivial⟩ trivial rfl ?_)) | (refine is_bs ?_; refine al_n opx_lit0 trivial trivial rfl ?_) | refine al_nil ?_)) | (refine is_aw ?_; (first | refine aw_seq ?_ | refine aw_region ?_ | refine aw_block ?_)))
  refine aw_loop (γ := Nat) (fun k => [(0, .r (slP ps)), (1, .r (rI lo)), (2, .r (rI hi)), (7, .own 0), (8, .i (k : Int))]) (fun k => [(0, .row 2 66 (ptRs (rng (ps.take k) lo hi)))]) (fun _ => 1)
    (fun k => k ≤ ps.length) (fun k => ps.length - k) 0 (Nat.zero_le _) (le_mk [0] rfl rfl rfl rfl ⟨rfl, rfl, rfl, rfl, rfl, trivial⟩ ⟨rfl, trivial⟩) ?_
  intro k hk
  have hrl : (rng (ps.take k) lo hi).length ≤ ps.length := Nat.le_trans (List.length_filter_le _ _) (by simp; omega)
  rcases Nat.lt_or_ge k ps.length with hlt | hge
  · have hc : decide ((k : Int) < ((ptRs ps).length : Int)) = true := decide_eq_true (by omega)
    obtain ⟨p, hp⟩ : ∃ p, ps[k]? = some p := ⟨_, List.getElem?_eq_getElem hlt⟩
    have hpr := ptRs_at hp
    have hs := rng_take (lo := lo) (hi := hi) hp
    by_cases h : lo ≤ p.1 ∧ p.1 ≤ hi - 1
    · have hd : decide (lo ≤ p.1 ∧ p.1 ≤ hi - 1) = true := decide_eq_true h
      rw [if_pos h] at hs
      repeat' (first | (refine is_al ?_; (first | (refine is_move ?_; (first | refine al_v (opx_move (.raw _)) ⟨rfl, trivial⟩ trivial rfl ?_ | refine al_v (opx_move (.sl _ _)) ⟨rfl, trivial⟩ trivial rfl ?_ | refine al_v (opx_move (.own _)) ⟨rfl, trivial⟩ trivial rfl ?_)) | (refine is_bin ?_; (first | refine al_v opx_lss ⟨rfl, rfl, trivial⟩ trivial rfl ?_ | refine al_v (opx_add (by unfold InR; omega)) ⟨rfl, rfl, trivial⟩ trivial rfl ?_ | refine al_v (opx_sub (by unfold InR; omega)) ⟨rfl, rfl, trivial⟩ trivial rfl ?_)) | (refine is_load ?_; (first | refine al_v opx_ld_imm ⟨rfl, trivial⟩ trivial rfl ?_ | refine al_v opx_ld2_imm ⟨rfl, trivial⟩ trivial rfl ?_)) | (refine is_fa ?_; refine al_v opx_fa_imm0 ⟨rfl, trivial⟩ trivial rfl ?_) | (refine is_assign ?_; (first | refine al_v (opx_assign (.raw _)) ⟨rfl, trivial⟩ trivial rfl ?_ | refine al_v (opx_assign (.own _)) ⟨rfl, trivial⟩ trivial rfl ?_)) | (refine is_bi ?_; refine al_v opx_len_sl ⟨rfl, trivial⟩ trivial rfl ?_) | (refine is_ia ?_; refine al_v (opx_ia_sl2 hpr (by omega)) ⟨rfl, rfl, trivial⟩ trivial rfl ?_) | (refine is_call ?_; refine al_callv2 (by (repeat (first | exact .nil | refine .one rfl rfl ?_ | refine .froz rfl rfl ?_ | refine .row rfl rfl ?_ | refine .rnil rfl ?_ | refine .agg rfl (by (repeat (first | exact .nil | refine .cons (.same rfl) ?_ | refine .cons (.froz rfl) ?_ | refine .cons (.rnil) ?_ | refine .cons (.row rfl rfl) ?_)); (first | done | fail)) ?_)); (first | done | fail)) rfl (c_inRange _ _ _) rfl ?_) | (refine is_bs ?_; refine al_pushP ⟨rfl, trivial⟩ rfl rfl rfl rfl rfl (by omega) ?_) | refine al_nil ?_)) | (refine is_aw ?_; (first | refine aw_seq ?_ | refine aw_region ?_ | refine aw_skip ?_ | refine aw_block ?_ | (refine is_cond ?_; refine aw_cond_t rfl (by assumption) ?_))) | refine thn_n ?_)
      exact ⟨k + 1, hlt, by omega, le_mk [2] rfl rfl rfl rfl ⟨rfl, rfl, rfl, rfl, rfl, trivial⟩ ⟨by rw [hs]; rfl, trivial⟩⟩
    · have hd : decide (lo ≤ p.1 ∧ p.1 ≤ hi - 1) = false := decide_eq_false h
      rw [if_neg h, List.append_nil] at hs
      repeat' (first | (refine is_al ?_; (first | (refine is_move ?_; (first | refine al_v (opx_move (.raw _)) ⟨rfl, trivial⟩ trivial rfl ?_ | refine al_v (opx_move (.sl _ _)) ⟨rfl, trivial⟩ trivial rfl ?_)) | (refine is_bin ?_; (first | refine al_v opx_lss ⟨rfl, rfl, trivial⟩ trivial rfl ?_ | refine al_v (opx_add (by unfold InR; omega)) ⟨rfl, rfl, trivial⟩ trivial rfl ?_ | refine al_v (opx_sub (by unfold InR; omega)) ⟨rfl, rfl, trivial⟩ trivial rfl ?_)) | (refine is_load ?_; refine al_v opx_ld_imm ⟨rfl, trivial⟩ trivial rfl ?_) | (refine is_fa ?_; refine al_v opx_fa_imm0 ⟨rfl, trivial⟩ trivial rfl ?_) | (refine is_assign ?_; refine al_v (opx_assign (.raw _)) ⟨rfl, trivial⟩ trivial rfl ?_) | (refine is_bi ?_; refine al_v opx_len_sl ⟨rfl, trivial⟩ trivial rfl ?_) | (refine is_ia ?_; refine al_v (opx_ia_sl2 hpr (by omega)) ⟨rfl, rfl, trivial⟩ trivial rfl ?_) | (refine is_call ?_; refine al_callv2 (by (repeat (first | exact .nil | refine .one rfl rfl ?_ | refine .froz rfl rfl ?_ | refine .row rfl rfl ?_ | refine .rnil rfl ?_ | refine .agg rfl (by (repeat (first | exact .nil | refine .cons (.same rfl) ?_ | refine .cons (.froz rfl) ?_ | refine .cons (.rnil) ?_ | refine .cons (.row rfl rfl) ?_)); (first | done | fail)) ?_)); (first | done | fail)) rfl (c_inRange _ _ _) rfl ?_) | refine al_nil ?_)) | (refine is_aw ?_; (first | refine aw_seq ?_ | refine aw_region ?_ | refine aw_skip ?_ | refine aw_block ?_ | (refine is_cond ?_; (first | refine aw_cond_t rfl (by assumption) ?_ | refine aw_cond_f rfl (by assumption) ?_)))) | refine thn_n ?_)
      exact ⟨k + 1, hlt, by omega, le_mk [0] rfl rfl rfl rfl ⟨rfl, rfl, rfl, rfl, rfl, trivial⟩ ⟨by rw [hs]; rfl, trivial⟩⟩
  · have hc : decide ((k : Int) < ((ptRs ps).length : Int)) = false := decide_eq_false (by omega)
    rw [List.take_of_length_le hge] at hrl ⊢
    repeat' (first | (refine is_al ?_; (first | (refine is_move ?_; (first | refine al_v (opx_move (.raw _)) ⟨rfl, trivial⟩ trivial rfl ?_ | refine al_v (opx_move (.sl _ _)) ⟨rfl, trivial⟩ trivial rfl ?_ | refine al_v (opx_move (.own _)) ⟨rfl, trivial⟩ trivial rfl ?_)) | (refine is_bin ?_; refine al_v opx_lss ⟨rfl, rfl, trivial⟩ trivial rfl ?_) | (refine is_assign ?_; refine al_v (opx_assign (.own _)) ⟨rfl, trivial⟩ trivial rfl ?_) | (refine is_bi ?_; refine al_v opx_len_sl ⟨rfl, trivial⟩ trivial rfl ?_) | refine al_nil ?_)) | (refine is_aw ?_; (first | refine aw_seq ?_ | refine aw_region ?_ | refine aw_ret ?_ | refine aw_exit ?_ | (refine is_cond ?_; refine aw_cond_f rfl (by assumption) ?_))))
    exact ret_row trivial rfl rfl ⟨rfl, rfl⟩
end Go.Proofs.YtfoecgfboicphaaGreatDoor
/-
  Sessions: the plain law.
-/
namespace Go.Proofs.YtfoecgfboicphaaGreatDoor
open Go
set_option linter.unusedVariables false
set_option linter.unusedSimpArgs false

/-- A session's state: the catalog; the points. -/
abbrev Ss := List (List Lb) × List (List Pt)
/-- What the program keeps of it. -/
structure okSs (s : Ss) : Prop where
  len : s.2.length = s.1.length
  cat : VCt s.1
  ser : ∀ q ∈ s.2, VS q
def befS (s : Ss) (l : List Lb) : List Pt := s.2.getD (plC s.1 l) []
def setAt (ps : List (List Pt)) (n : Nat) (q : List Pt) : List (List Pt) := if n < ps.length then ps.set n q else ps ++ [q]
noncomputable def putOk (s : Ss) (ln : Str) : Bool := plB ln && (adOk s.1 (plG ln).1 && putB (befS s (plG ln).1) (plG ln).2.1 (plG ln).2.2)
noncomputable def putS (s : Ss) (ln : Str) : Ss := if putOk s ln = true then (adR s.1 (plG ln).1, setAt s.2 (plC s.1 (plG ln).1) (putR (befS s (plG ln).1) (plG ln).2.1 (plG ln).2.2)) else s
noncomputable def fsI (c : List (List Lb)) (l : List Lb) : Int := if (vctB c && vlB l) = true then plcI c l else -1
noncomputable def fndB (s : Ss) (w : Str) : Bool := prsB w && decide (plC s.1 (prsL w) < s.1.length)
noncomputable def fndP (s : Ss) (w : Str) : List Pt := if fndB s w = true then s.2.getD (plC s.1 (prsL w)) [] else []
def tOk : Str := [111, 107]
def tNo : Str := [110, 111]
def tWhat : Str := [119, 104, 97, 116]
def tPut : Str := [112, 117, 116]
def tAt : Str := [97, 116]
def tSum : Str := [115, 117, 109]
def tCount : Str := [99, 111, 117, 110, 116]
def sumV (ps : List Pt) : Int := (ps.map (·.2)).sum
def cntV (ps : List (List Pt)) : Nat := (ps.map (·.length)).sum
noncomputable def atB (s : Ss) (a b : Str) : Bool := fndB s a && (numB b && vatB (fndP s a) (numN b))
noncomputable def atA (s : Ss) (a b : Str) : Str := if atB s a b = true then Lib.itoa (vatI (fndP s a) (numN b)) else tNo
noncomputable def sumB (s : Ss) (a b c : Str) : Bool := fndB s a && (numB b && (numB c && (irB (numN b) && irB (numN c))))
noncomputable def sumA (s : Ss) (a b c : Str) : Str := if sumB s a b c = true then Lib.itoa (sumV (rngR (fndP s a) (numN b) (numN c))) else tNo
def cnA (s : Ss) : Str := Lib.itoa (s.1.length : Int) ++ [32] ++ Lib.itoa (cntV s.2 : Int)
/-- The answers of the commands, by the rest of the line, and whether there is one. -/
noncomputable def putT (s : Ss) (r : Str) (sp : Bool) : Str := if sp = true then (if putOk s r = true then tOk else tNo) else tWhat
noncomputable def atT (s : Ss) (r : Str) (sp : Bool) : Str := if sp = true then (match spl 32 r with | [a, b] => atA s a b | _ => tWhat) else tWhat
noncomputable def sumT (s : Ss) (r : Str) (sp : Bool) : Str := if sp = true then (match spl 32 r with | [a, b, c] => sumA s a b c | _ => tWhat) else tWhat
def cntT (s : Ss) (sp : Bool) : Str := if sp = true then tWhat else cnA s
noncomputable def comT (s : Ss) (n r : Str) (sp : Bool) : Str :=
  if n = tPut then putT s r sp else if n = tAt then atT s r sp else if n = tSum then sumT s r sp else if n = tCount then cntT s sp else tWhat
noncomputable def comS (s : Ss) (n r : Str) (sp : Bool) : Ss := if n = tPut ∧ sp = true then putS s r else s
/-- A line, cut at its first space. -/
def cutN (ln : Str) : Str := (spl 32 ln).headD []
def cutB (ln : Str) : Bool := decide ((32 : UInt8) ∈ ln)
def cutR (ln : Str) : Str := if cutB ln = true then ln.drop ((cutN ln).length + 1) else []
theorem cut_none {ln : Str} (h : (32 : UInt8) ∉ ln) : cutN ln = ln ∧ cutB ln = false ∧ cutR ln = [] := by
  have hb : cutB ln = false := decide_eq_false h
  exact ⟨by rw [cutN, spl_none h]; rfl, hb, by rw [cutR, hb]; rfl⟩
theorem cut_some {x r : Str} (h : (32 : UInt8) ∉ x) : cutN (x ++ 32 :: r) = x ∧ cutB (x ++ 32 :: r) = true ∧ cutR (x ++ 32 :: r) = r := by
  have hb : cutB (x ++ 32 :: r) = true := decide_eq_true (by simp)
  have hn : cutN (x ++ 32 :: r) = x := by rw [cutN, spl_cut h]; rfl
  refine ⟨hn, hb, ?_⟩
  rw [cutR, if_pos hb, hn, List.drop_append, List.drop_eq_nil_of_le (by omega)]
  simp
noncomputable def lnA (s : Ss) (ln : Str) : Str := comT s (cutN ln) (cutR ln) (cutB ln)
noncomputable def lnS (s : Ss) (ln : Str) : Ss := comS s (cutN ln) (cutR ln) (cutB ln)
/-- What lines print; the state behind them. -/
noncomputable def runA : Ss → List Str → Str
  | _, [] => []
  | s, l :: ls => lnA s l ++ 10 :: runA (lnS s l) ls
noncomputable def runS : Ss → List Str → Ss
  | s, [] => s
  | s, l :: ls => runS (lnS s l) ls
theorem runA_app : ∀ (a : List Str) {b : List Str} {s : Ss}, runA s (a ++ b) = runA s a ++ runA (runS s a) b
  | [], b, s => rfl
  | x :: a, b, s => by
    rw [List.cons_append, runA, runA, runS, runA_app a]
    simp
theorem runS_app : ∀ (a : List Str) {b : List Str} {s : Ss}, runS s (a ++ b) = runS (runS s a) b
  | [], b, s => rfl
  | x :: a, b, s => by rw [List.cons_append, runS, runS, runS_app a]
theorem run_take {s : Ss} {ls : List Str} {k : Nat} {l : Str} (h : ls[k]? = some l) : runA s (ls.take (k + 1)) = runA s (ls.take k) ++ (lnA (runS s (ls.take k)) l ++ [10]) ∧ runS s (ls.take (k + 1)) = lnS (runS s (ls.take k)) l := by
  rw [take_snoc h, runA_app, runS_app]
  exact ⟨rfl, rfl⟩

theorem VCt_nil : VCt [] := ⟨Nat.zero_le _, fun k x h => by simp at h⟩
theorem okSs_nil : okSs ([], []) := ⟨rfl, VCt_nil, fun q h => by cases h⟩
theorem adOk_of {c : List (List Lb)} {l : List Lb} (h : adOk c l = true) : VCt c ∧ VL l ∧ (plC c l < c.length ∨ c.length < 8) := by
  unfold adOk at h
  simp only [Bool.and_eq_true, Bool.or_eq_true, decide_eq_true_eq] at h
  refine ⟨vctB_of h.1, ?_, h.2.2⟩
  have h1 := h.2.1
  by_cases hv : VL l
  · exact hv
  · rw [vlB_f hv] at h1; cases h1
theorem VCt_snoc {c : List (List Lb)} {l : List Lb} (h : VCt c) (hl : VL l) (hn : ¬ plC c l < c.length) (h8 : c.length < 8) : VCt (c ++ [l]) := by
  refine ⟨by rw [List.length_append]; simp; omega, fun k x hx => ?_⟩
  rcases Nat.lt_trichotomy k c.length with hk | hk | hk
  · rw [List.getElem?_append_left hk] at hx
    obtain ⟨h1, h2⟩ := h.2 k x hx
    exact ⟨h1, fun j y hj hy => h2 j y hj (by rw [List.getElem?_append_left (by omega)] at hy; exact hy)⟩
  · subst hk
    simp at hx
    subst hx
    refine ⟨hl, fun j y hj hy e => ?_⟩
    rw [List.getElem?_append_left hj] at hy
    subst e
    exact hn (plC_lt.2 (List.mem_of_getElem? hy))
  · rw [List.getElem?_eq_none (by rw [List.length_append]; simp; omega)] at hx; cases hx
theorem adR_len {c : List (List Lb)} {l : List Lb} (h : adOk c l = true) : (adR c l).length = if plC c l < c.length then c.length else c.length + 1 := by
  rw [adR, if_pos h]
  split <;> simp
theorem adR_ok {c : List (List Lb)} {l : List Lb} (h : adOk c l = true) : VCt (adR c l) := by
  obtain ⟨h1, h2, h3⟩ := adOk_of h
  rw [adR, if_pos h]
  split
  · exact h1
  · rename_i hn
    exact VCt_snoc h1 h2 hn (by omega)
theorem setAt_len {ps : List (List Pt)} {n : Nat} {q : List Pt} : (setAt ps n q).length = if n < ps.length then ps.length else ps.length + 1 := by
  unfold setAt; split <;> simp
theorem putS_ok {s : Ss} {ln : Str} (h : okSs s) (hp : ∀ ps t v, putB ps t v = true → VS (putR ps t v)) : okSs (putS s ln) := by
  unfold putS
  split
  · rename_i ho
    have ho' := ho
    unfold putOk at ho'
    simp only [Bool.and_eq_true] at ho'
    refine ⟨?_, adR_ok ho'.2.1, fun q hq => ?_⟩
    · show (setAt _ _ _).length = (adR _ _).length
      rw [setAt_len, adR_len ho'.2.1, h.len]
    · have hv := hp _ _ _ ho'.2.2
      dsimp only at hq
      unfold setAt at hq
      split at hq
      · rcases List.mem_or_eq_of_mem_set hq with hq | rfl
        · exact h.ser q hq
        · exact hv
      · rcases List.mem_append.1 hq with hq | hq
        · exact h.ser q hq
        · simp at hq; rw [hq]; exact hv
  · exact h
end Go.Proofs.YtfoecgfboicphaaGreatDoor
