/- Texts: W116 ShelfB Eng39 W111 -/
import Derived.Test.YtfoecgfboicphaaGreatDoorCL24
import Derived.Shelf.Strings.Builder1
import Derived.Test.YtfoecgfboicphaaGreatDoorProg
import Derived.Test.YtfoecgfboicphaaGreatDoorCL23
import Derived.Test.YtfoecgfboicphaaGreatDoorCL8
import Derived.Lib.AppendStr
import Derived.Lib.Builder
import Derived.Lib.UnsafeStr
import Derived.Laws.Externs
import Derived.Test.YtfoecgfboicphaaGreatDoorCL10
/-
  Sessions: the program's command put.
-/
namespace Go.Proofs.YtfoecgfboicphaaGreatDoor
open Go.RowKit
set_option linter.unusedVariables false
set_option linter.unusedSimpArgs false
attribute [local irreducible] AL AW OpX Le AD

theorem pl_VL (r : Str) : VL (plG r).1 := by
  cases h : plB r with
  | true =>
    obtain ⟨a, b, c, _, _, h3⟩ := pl_of h
    rw [h3]; exact prs_VL a
  | false =>
    have : plG r = ([], 0, 0) := by
      rw [plB] at h
      exact (pl_none (Option.isNone_iff_eq_none.1 (by simpa using h))).2
    rw [this]; exact IsT_nil.1
noncomputable def aftS (s : Ss) (r : Str) (sp : Bool) : Ss := if sp = true then putS s r else s
theorem c_put (s : Ss) (r : Str) (sp : Bool) (h : okSs s) (hr : r.length ≤ 2000000) :
    Con Tryz.prog 21 [.one (.ref 0 0), rStr r, rB sp] [sesB s.1 1, ptsO s.2] (fun rs all => rs = [rStr (putT s r sp)] ∧ all = [sesB (aftS s r sp).1 2, .gone, ptsO (aftS s r sp).2]) := by
  obtain ⟨c, ps⟩ := s
  have hC : VCt c := h.cat
  obtain ⟨b1, b2⟩ := VCt_big hC
  have hp8 : ps.length = c.length := h.len
  have n1 : (!true) = false := rfl
  have n2 : (!false) = true := rfl
  have hVL := pl_VL r
  have hcl := c_ParseLine' r (by omega)
  have hca := c_AddSeries' c (plG r).1 b1 b2 (VL_big hVL).1 (VL_big hVL).2
  have hle := plC_le (c := c) (l := (plG r).1)
  have hc8 := hC.1
  have hpl := plRs_len (xs := ps)
  refine con_of_aw (vars := [.tmp 6]) [(0, .ref 0 0), (1, .r (rStr r)), (2, .r (rB sp))] [(0, sesB c 1), (1, ptsO ps)] 2 Tryz.func21 (by kernel_rfl) rfl Tryz.ntmps21 rfl (by decide) rfl rfl rfl rfl rfl ?_; intro B M w0 ρ0 Z0
  refine aw_le (le_ren 0 1 (xs := [.c (.sl 1 (lcRs c))]) (ys := []) rfl rfl rfl rfl) ?_
  cases sp with
  | false =>
    repeat' (first | (refine is_al ?_; (first | (refine is_move ?_; refine al_v (opx_move (.raw _)) ⟨rfl, trivial⟩ trivial rfl ?_) | (refine is_assign ?_; refine al_v (opx_assign (.raw _)) ⟨rfl, trivial⟩ trivial rfl ?_) | refine al_v opx_not ⟨rfl, trivial⟩ trivial rfl ?_ | refine al_nil ?_)) | (refine is_aw ?_; (first | refine aw_seq ?_ | refine aw_region ?_ | refine aw_ret ?_ | (refine is_cond ?_; refine aw_cond_t rfl rfl ?_))) | refine thn_r ?_)
    exact rets_put trivial rfl rfl rfl rfl rfl rfl ⟨rfl, rfl⟩
  | true =>
    cases g1 : plB r with
    | false =>
      rw [g1] at hcl
      have f0 : putOk (c, ps) r = false := by rw [putOk, g1]; rfl
      have f1 : putT (c, ps) r true = tNo := by rw [putT, if_pos rfl, f0]; rfl
      have f2 : aftS (c, ps) r true = (c, ps) := by rw [aftS, if_pos rfl, putS, f0]; rfl
      repeat' (first | (refine is_al ?_; (first | (refine is_move ?_; (first | refine al_v (opx_move (.raw _)) ⟨rfl, trivial⟩ trivial rfl ?_ | refine al_v (opx_move (.tup _)) ⟨rfl, trivial⟩ trivial rfl ?_)) | (refine is_assign ?_; (first | refine al_v (opx_assign (.raw _)) ⟨rfl, trivial⟩ trivial rfl ?_ | refine al_v (opx_assign (.sl _ _)) ⟨rfl, trivial⟩ trivial rfl ?_)) | (refine is_call ?_; refine al_callF (by (repeat (first | exact .nil | refine .one rfl rfl ?_ | refine .froz rfl rfl ?_ | refine .rnil rfl ?_ | refine .agg rfl (by (repeat (first | exact .nil | refine .cons (.same rfl) ?_ | refine .cons (.froz rfl) ?_ | refine .cons (.rnil) ?_)); (first | done | fail)) ?_)); (first | done | fail)) rfl (hcl) rfl ?_) | (refine is_st ?_; refine al_s (opx_sts_box (by rfl) (by rfl)) ⟨rfl, rfl, trivial⟩ ⟨rfl, trivial⟩ ?_) | refine al_v opx_not ⟨rfl, trivial⟩ trivial rfl ?_ | refine al_v (opx_extract _ rfl) ⟨rfl, trivial⟩ trivial rfl ?_ | refine al_n opx_alloc trivial trivial rfl ?_ | refine al_nil ?_)) | (refine is_aw ?_; (first | refine aw_seq ?_ | refine aw_region ?_ | refine aw_skip ?_ | refine aw_ret ?_ | (refine is_cond ?_; (first | refine aw_cond_t rfl rfl ?_ | refine aw_cond_f rfl rfl ?_)))) | refine thn_r ?_)
      exact rets_put trivial rfl rfl rfl rfl rfl rfl ⟨by first | (rw [f1]; done) | (rw [f1]; rfl), by first | (rw [f2]; done) | (rw [f2]; rfl)⟩
    | true =>
      rw [g1] at hcl
      cases g2 : adOk c (plG r).1 with
      | false =>
        rw [g2] at hca
        have f0 : putOk (c, ps) r = false := by rw [putOk, g1, g2]; rfl
        have f1 : putT (c, ps) r true = tNo := by rw [putT, if_pos rfl, f0]; rfl
        have f2 : aftS (c, ps) r true = (c, ps) := by rw [aftS, if_pos rfl, putS, f0]; rfl
        repeat' (first | (refine is_al ?_; (first | (refine is_move ?_; (first | refine al_v (opx_move (.raw _)) ⟨rfl, trivial⟩ trivial rfl ?_ | refine al_v (opx_move (.sl _ _)) ⟨rfl, trivial⟩ trivial rfl ?_ | refine al_v (opx_move (.ref _ _)) ⟨rfl, trivial⟩ trivial rfl ?_ | refine al_v (opx_move (.tup _)) ⟨rfl, trivial⟩ trivial rfl ?_)) | (refine is_load ?_; refine al_v (opx_ld_box rfl) ⟨rfl, trivial⟩ ⟨rfl, trivial⟩ rfl ?_) | (refine is_fa ?_; refine al_v opx_fa_ref ⟨rfl, trivial⟩ trivial rfl ?_) | (refine is_assign ?_; (first | refine al_v (opx_assign (.raw _)) ⟨rfl, trivial⟩ trivial rfl ?_ | refine al_v (opx_assign (.sl _ _)) ⟨rfl, trivial⟩ trivial rfl ?_)) | (refine is_call ?_; (first | refine al_callF (by (repeat (first | exact .nil | refine .one rfl rfl ?_ | refine .froz rfl rfl ?_ | refine .rnil rfl ?_ | refine .agg rfl (by (repeat (first | exact .nil | refine .cons (.same rfl) ?_ | refine .cons (.froz rfl) ?_ | refine .cons (.rnil) ?_)); (first | done | fail)) ?_)); (first | done | fail)) rfl (hcl) rfl ?_ | refine al_callF (by (repeat (first | exact .nil | refine .one rfl rfl ?_ | refine .froz rfl rfl ?_ | refine .rnil rfl ?_ | refine .agg rfl (by (repeat (first | exact .nil | refine .cons (.same rfl) ?_ | refine .cons (.froz rfl) ?_ | refine .cons (.rnil) ?_)); (first | done | fail)) ?_)); (first | done | fail)) rfl (hca) rfl ?_)) | (refine is_st ?_; refine al_s (opx_sts_box (by rfl) (by rfl)) ⟨rfl, rfl, trivial⟩ ⟨rfl, trivial⟩ ?_) | refine al_v opx_not ⟨rfl, trivial⟩ trivial rfl ?_ | refine al_v opx_nilck ⟨rfl, trivial⟩ trivial rfl ?_ | refine al_v (opx_extract _ rfl) ⟨rfl, trivial⟩ trivial rfl ?_ | refine al_n opx_alloc trivial trivial rfl ?_ | refine al_nil ?_)) | (refine is_aw ?_; (first | refine aw_seq ?_ | refine aw_region ?_ | refine aw_skip ?_ | refine aw_ret ?_ | (refine is_cond ?_; (first | refine aw_cond_t rfl rfl ?_ | refine aw_cond_f rfl rfl ?_)))) | refine thn_r ?_)
        exact rets_put trivial rfl rfl rfl rfl rfl rfl ⟨by first | (rw [f1]; done) | (rw [f1]; rfl), by first | (rw [f2]; done) | (rw [f2]; rfl)⟩
      | true =>
        rw [g2] at hca
        have f3 : adN c (plG r).1 = (plC c (plG r).1 : Int) := by rw [adN, if_pos g2]
        rw [f3] at hca
        have hbf : befS (c, ps) (plG r).1 = ps.getD (plC c (plG r).1) [] := rfl
        by_cases hk : plC c (plG r).1 < ps.length
        · obtain ⟨q, hq⟩ : ∃ q, ps[plC c (plG r).1]? = some q := ⟨_, List.getElem?_eq_getElem hk⟩
          have hbq : befS (c, ps) (plG r).1 = q := by rw [hbf, List.getD_eq_getElem?_getD, hq]; rfl
          have hcp := c_PutPoint' q (plG r).2.1 (plG r).2.2
          have e1 : decide ((plC c (plG r).1 : Int) < ((plRs ps).length : Int)) = true := decide_eq_true (by omega)
          have e2 : decide ((plC c (plG r).1 : Int) = ((plRs ps).length : Int)) = false := decide_eq_false (by omega)
          have hqr := plRs_at hq
          have hkl : plC c (plG r).1 < (plRs ps).length := by omega
          cases g3 : putB q (plG r).2.1 (plG r).2.2 with
          | false =>
            rw [g3] at hcp
            have f0 : putOk (c, ps) r = false := by rw [putOk, g1, g2, hbq, g3]; rfl
            have f1 : putT (c, ps) r true = tNo := by rw [putT, if_pos rfl, f0]; rfl
            have f2 : aftS (c, ps) r true = (c, ps) := by rw [aftS, if_pos rfl, putS, f0]; rfl
            repeat' (first | (refine is_al ?_; (first | (refine is_move ?_; (first | refine al_v (opx_move (.raw _)) ⟨rfl, trivial⟩ trivial rfl ?_ | refine al_v (opx_move (.sl _ _)) ⟨rfl, trivial⟩ trivial rfl ?_ | refine al_v (opx_move (.ref _ _)) ⟨rfl, trivial⟩ trivial rfl ?_ | refine al_v (opx_move (.tup _)) ⟨rfl, trivial⟩ trivial rfl ?_)) | (refine is_bin ?_; refine al_v opx_lss ⟨rfl, rfl, trivial⟩ trivial rfl ?_) | (refine is_load ?_; (first | refine al_v (opx_ld_box rfl) ⟨rfl, trivial⟩ ⟨rfl, trivial⟩ rfl ?_ | refine al_v opx_ld2_box ⟨rfl, trivial⟩ ⟨rfl, trivial⟩ rfl ?_ | refine al_v (opx_ld_el (by assumption) rfl) ⟨rfl, trivial⟩ ⟨rfl, trivial⟩ rfl ?_)) | (refine is_fa ?_; refine al_v opx_fa_ref ⟨rfl, trivial⟩ trivial rfl ?_) | (refine is_assign ?_; (first | refine al_v (opx_assign (.raw _)) ⟨rfl, trivial⟩ trivial rfl ?_ | refine al_v (opx_assign (.sl _ _)) ⟨rfl, trivial⟩ trivial rfl ?_)) | (refine is_bi ?_; refine al_v opx_len_own ⟨rfl, trivial⟩ ⟨rfl, trivial⟩ rfl ?_) | (refine is_ia ?_; refine al_v (opx_ia_own2 hkl (by omega)) ⟨rfl, rfl, trivial⟩ ⟨rfl, trivial⟩ rfl ?_) | (refine is_call ?_; (first | refine al_callF (by (repeat (first | exact .nil | refine .one rfl rfl ?_ | refine .froz rfl rfl ?_ | refine .rnil rfl ?_ | refine .agg rfl (by (repeat (first | exact .nil | refine .cons (.same rfl) ?_ | refine .cons (.froz rfl) ?_ | refine .cons (.rnil) ?_)); (first | done | fail)) ?_)); (first | done | fail)) rfl (hcl) rfl ?_ | refine al_callF (by (repeat (first | exact .nil | refine .one rfl rfl ?_ | refine .froz rfl rfl ?_ | refine .rnil rfl ?_ | refine .agg rfl (by (repeat (first | exact .nil | refine .cons (.same rfl) ?_ | refine .cons (.froz rfl) ?_ | refine .cons (.rnil) ?_)); (first | done | fail)) ?_)); (first | done | fail)) rfl (hca) rfl ?_ | refine al_callF (by (repeat (first | exact .nil | refine .one rfl rfl ?_ | refine .froz rfl rfl ?_ | refine .rnil rfl ?_ | refine .agg rfl (by (repeat (first | exact .nil | refine .cons (.same rfl) ?_ | refine .cons (.froz rfl) ?_ | refine .cons (.rnil) ?_)); (first | done | fail)) ?_)); (first | done | fail)) rfl (hcp) rfl ?_)) | (refine is_st ?_; refine al_s (opx_sts_box (by rfl) (by rfl)) ⟨rfl, rfl, trivial⟩ ⟨rfl, trivial⟩ ?_) | refine al_v opx_not ⟨rfl, trivial⟩ trivial rfl ?_ | refine al_v opx_nilck ⟨rfl, trivial⟩ trivial rfl ?_ | refine al_v (opx_extract _ rfl) ⟨rfl, trivial⟩ trivial rfl ?_ | refine al_n opx_alloc trivial trivial rfl ?_ | refine al_nil ?_)) | (refine is_aw ?_; (first | refine aw_seq ?_ | refine aw_region ?_ | refine aw_skip ?_ | refine aw_ret ?_ | (refine is_cond ?_; (first | refine aw_cond_t rfl rfl ?_ | refine aw_cond_f rfl rfl ?_ | refine aw_cond_t rfl (by assumption) ?_)))) | refine thn_r ?_)
            exact rets_put trivial rfl rfl rfl rfl rfl rfl ⟨by first | (rw [f1]; done) | (rw [f1]; rfl), by first | (rw [f2]; done) | (rw [f2]; rfl)⟩
          | true =>
            rw [g3] at hcp
            have f0 : putOk (c, ps) r = true := by rw [putOk, g1, g2, hbq, g3]; rfl
            have f1 : putT (c, ps) r true = tOk := by rw [putT, if_pos rfl, f0]; rfl
            have f2 : aftS (c, ps) r true = (adR c (plG r).1, ps.set (plC c (plG r).1) (putR q (plG r).2.1 (plG r).2.2)) := by rw [aftS, if_pos rfl, putS, f0, hbq, setAt, if_pos hk]; rfl
            repeat' (first | (refine is_al ?_; (first | (refine is_move ?_; (first | refine al_v (opx_move (.raw _)) ⟨rfl, trivial⟩ trivial rfl ?_ | refine al_v (opx_move (.sl _ _)) ⟨rfl, trivial⟩ trivial rfl ?_ | refine al_v (opx_move (.ref _ _)) ⟨rfl, trivial⟩ trivial rfl ?_ | refine al_v (opx_move (.tup _)) ⟨rfl, trivial⟩ trivial rfl ?_)) | (refine is_bin ?_; (first | refine al_v opx_eql ⟨rfl, rfl, trivial⟩ trivial rfl ?_ | refine al_v opx_lss ⟨rfl, rfl, trivial⟩ trivial rfl ?_)) | (refine is_load ?_; (first | refine al_v (opx_ld_box rfl) ⟨rfl, trivial⟩ ⟨rfl, trivial⟩ rfl ?_ | refine al_v opx_ld2_box ⟨rfl, trivial⟩ ⟨rfl, trivial⟩ rfl ?_ | refine al_v (opx_ld_el (by assumption) rfl) ⟨rfl, trivial⟩ ⟨rfl, trivial⟩ rfl ?_)) | (refine is_fa ?_; refine al_v opx_fa_ref ⟨rfl, trivial⟩ trivial rfl ?_) | (refine is_assign ?_; (first | refine al_v (opx_assign (.raw _)) ⟨rfl, trivial⟩ trivial rfl ?_ | refine al_v (opx_assign (.sl _ _)) ⟨rfl, trivial⟩ trivial rfl ?_)) | (refine is_bi ?_; refine al_v opx_len_own ⟨rfl, trivial⟩ ⟨rfl, trivial⟩ rfl ?_) | (refine is_ia ?_; refine al_v (opx_ia_own2 hkl (by omega)) ⟨rfl, rfl, trivial⟩ ⟨rfl, trivial⟩ rfl ?_) | (refine is_call ?_; (first | refine al_callF (by (repeat (first | exact .nil | refine .one rfl rfl ?_ | refine .froz rfl rfl ?_ | refine .rnil rfl ?_ | refine .agg rfl (by (repeat (first | exact .nil | refine .cons (.same rfl) ?_ | refine .cons (.froz rfl) ?_ | refine .cons (.rnil) ?_)); (first | done | fail)) ?_)); (first | done | fail)) rfl (hcl) rfl ?_ | refine al_callF (by (repeat (first | exact .nil | refine .one rfl rfl ?_ | refine .froz rfl rfl ?_ | refine .rnil rfl ?_ | refine .agg rfl (by (repeat (first | exact .nil | refine .cons (.same rfl) ?_ | refine .cons (.froz rfl) ?_ | refine .cons (.rnil) ?_)); (first | done | fail)) ?_)); (first | done | fail)) rfl (hca) rfl ?_ | refine al_callF (by (repeat (first | exact .nil | refine .one rfl rfl ?_ | refine .froz rfl rfl ?_ | refine .rnil rfl ?_ | refine .agg rfl (by (repeat (first | exact .nil | refine .cons (.same rfl) ?_ | refine .cons (.froz rfl) ?_ | refine .cons (.rnil) ?_)); (first | done | fail)) ?_)); (first | done | fail)) rfl (hcp) rfl ?_)) | (refine is_st ?_; (first | refine al_s (opx_st1_box (by rfl)) ⟨rfl, rfl, trivial⟩ ⟨rfl, trivial⟩ ?_ | refine al_s (opx_sts_box (by rfl) (by rfl)) ⟨rfl, rfl, trivial⟩ ⟨rfl, trivial⟩ ?_ | refine al_stQ rfl rfl rfl (by assumption) ?_)) | refine al_v opx_not ⟨rfl, trivial⟩ trivial rfl ?_ | refine al_v opx_nilck ⟨rfl, trivial⟩ trivial rfl ?_ | refine al_v (opx_extract _ rfl) ⟨rfl, trivial⟩ trivial rfl ?_ | refine al_n opx_alloc trivial trivial rfl ?_ | refine al_nil ?_)) | (refine is_aw ?_; (first | refine aw_seq ?_ | refine aw_region ?_ | refine aw_skip ?_ | refine aw_ret ?_ | (refine is_cond ?_; (first | refine aw_cond_f rfl rfl ?_ | refine aw_cond_t rfl (by assumption) ?_ | refine aw_cond_f rfl (by assumption) ?_)))))
            exact rets_put trivial rfl rfl rfl rfl rfl rfl ⟨by first | (rw [f1]; done) | (rw [f1]; rfl), by first | (rw [f2]; done) | (rw [f2]; rfl)⟩
        · have hke : plC c (plG r).1 = ps.length := by omega
          have hq : ps[plC c (plG r).1]? = none := List.getElem?_eq_none (by omega)
          have hbq : befS (c, ps) (plG r).1 = [] := by rw [hbf, List.getD_eq_getElem?_getD, hq]; rfl
          have hcp := c_PutPoint' [] (plG r).2.1 (plG r).2.2
          rw [hke, ← hpl] at hca
          have e1 : decide (((plRs ps).length : Int) < ((plRs ps).length : Int)) = false := decide_eq_false (by omega)
          have e2 : decide (((plRs ps).length : Int) = ((plRs ps).length : Int)) = true := decide_eq_true rfl
          cases g3 : putB [] (plG r).2.1 (plG r).2.2 with
          | false =>
            rw [g3] at hcp
            have f0 : putOk (c, ps) r = false := by rw [putOk, g1, g2, hbq, g3]; rfl
            have f1 : putT (c, ps) r true = tNo := by rw [putT, if_pos rfl, f0]; rfl
            have f2 : aftS (c, ps) r true = (c, ps) := by rw [aftS, if_pos rfl, putS, f0]; rfl
            repeat' (first | (refine is_al ?_; (first | (refine is_move ?_; (first | refine al_v (opx_move (.raw _)) ⟨rfl, trivial⟩ trivial rfl ?_ | refine al_v (opx_move (.sl _ _)) ⟨rfl, trivial⟩ trivial rfl ?_ | refine al_v (opx_move (.ref _ _)) ⟨rfl, trivial⟩ trivial rfl ?_ | refine al_v (opx_move (.tup _)) ⟨rfl, trivial⟩ trivial rfl ?_)) | (refine is_bin ?_; refine al_v opx_lss ⟨rfl, rfl, trivial⟩ trivial rfl ?_) | (refine is_load ?_; (first | refine al_v (opx_ld_box rfl) ⟨rfl, trivial⟩ ⟨rfl, trivial⟩ rfl ?_ | refine al_v opx_ld2_box ⟨rfl, trivial⟩ ⟨rfl, trivial⟩ rfl ?_)) | (refine is_fa ?_; refine al_v opx_fa_ref ⟨rfl, trivial⟩ trivial rfl ?_) | (refine is_assign ?_; (first | refine al_v (opx_assign (.raw _)) ⟨rfl, trivial⟩ trivial rfl ?_ | refine al_v (opx_assign (.sl _ _)) ⟨rfl, trivial⟩ trivial rfl ?_)) | (refine is_bi ?_; refine al_v opx_len_own ⟨rfl, trivial⟩ ⟨rfl, trivial⟩ rfl ?_) | (refine is_call ?_; (first | refine al_callF (by (repeat (first | exact .nil | refine .one rfl rfl ?_ | refine .froz rfl rfl ?_ | refine .rnil rfl ?_ | refine .agg rfl (by (repeat (first | exact .nil | refine .cons (.same rfl) ?_ | refine .cons (.froz rfl) ?_ | refine .cons (.rnil) ?_)); (first | done | fail)) ?_)); (first | done | fail)) rfl (hcl) rfl ?_ | refine al_callF (by (repeat (first | exact .nil | refine .one rfl rfl ?_ | refine .froz rfl rfl ?_ | refine .rnil rfl ?_ | refine .agg rfl (by (repeat (first | exact .nil | refine .cons (.same rfl) ?_ | refine .cons (.froz rfl) ?_ | refine .cons (.rnil) ?_)); (first | done | fail)) ?_)); (first | done | fail)) rfl (hca) rfl ?_ | refine al_callF (by (repeat (first | exact .nil | refine .one rfl rfl ?_ | refine .froz rfl rfl ?_ | refine .rnil rfl ?_ | refine .agg rfl (by (repeat (first | exact .nil | refine .cons (.same rfl) ?_ | refine .cons (.froz rfl) ?_ | refine .cons (.rnil) ?_)); (first | done | fail)) ?_)); (first | done | fail)) rfl (hcp) rfl ?_)) | (refine is_st ?_; refine al_s (opx_sts_box (by rfl) (by rfl)) ⟨rfl, rfl, trivial⟩ ⟨rfl, trivial⟩ ?_) | refine al_v opx_not ⟨rfl, trivial⟩ trivial rfl ?_ | refine al_v opx_nilck ⟨rfl, trivial⟩ trivial rfl ?_ | refine al_v (opx_extract _ rfl) ⟨rfl, trivial⟩ trivial rfl ?_ | refine al_n opx_alloc trivial trivial rfl ?_ | refine al_nil ?_)) | (refine is_aw ?_; (first | refine aw_seq ?_ | refine aw_region ?_ | refine aw_skip ?_ | refine aw_ret ?_ | (refine is_cond ?_; (first | refine aw_cond_t rfl rfl ?_ | refine aw_cond_f rfl rfl ?_ | refine aw_cond_f rfl (by assumption) ?_)))) | refine thn_r ?_)
            exact rets_put trivial rfl rfl rfl rfl rfl rfl ⟨by first | (rw [f1]; done) | (rw [f1]; rfl), by first | (rw [f2]; done) | (rw [f2]; rfl)⟩
          | true =>
            rw [g3] at hcp
            have f0 : putOk (c, ps) r = true := by rw [putOk, g1, g2, hbq, g3]; rfl
            have f1 : putT (c, ps) r true = tOk := by rw [putT, if_pos rfl, f0]; rfl
            have f2 : aftS (c, ps) r true = (adR c (plG r).1, ps ++ [putR [] (plG r).2.1 (plG r).2.2]) := by rw [aftS, if_pos rfl, putS, f0, hbq, setAt, if_neg hk]; rfl
            have hl1 : ([[]] : List (List Pt)).length = 1 := rfl
            have hla : (ps ++ [[]])[(plRs ps).length]? = some [] := by rw [hpl]; simp
            have hll : (plRs ps).length < (plRs (ps ++ [[]])).length := by rw [hpl, plRs_len, List.length_append]; simp
            have hse : (ps ++ [[]]).set (plRs ps).length (putR [] (plG r).2.1 (plG r).2.2) = ps ++ [putR [] (plG r).2.1 (plG r).2.2] := by rw [hpl]; simp
            repeat' (first | (refine is_al ?_; (first | (refine is_move ?_; (first | refine al_v (opx_move (.raw _)) ⟨rfl, trivial⟩ trivial rfl ?_ | refine al_v (opx_move (.sl _ _)) ⟨rfl, trivial⟩ trivial rfl ?_ | refine al_v (opx_move (.ref _ _)) ⟨rfl, trivial⟩ trivial rfl ?_ | refine al_v (opx_move (.tup _)) ⟨rfl, trivial⟩ trivial rfl ?_)) | (refine is_bin ?_; (first | refine al_v opx_eql ⟨rfl, rfl, trivial⟩ trivial rfl ?_ | refine al_v opx_lss ⟨rfl, rfl, trivial⟩ trivial rfl ?_)) | (refine is_load ?_; (first | refine al_v (opx_ld_box rfl) ⟨rfl, trivial⟩ ⟨rfl, trivial⟩ rfl ?_ | refine al_v opx_ld2_box ⟨rfl, trivial⟩ ⟨rfl, trivial⟩ rfl ?_)) | (refine is_fa ?_; refine al_v opx_fa_ref ⟨rfl, trivial⟩ trivial rfl ?_) | (refine is_assign ?_; (first | refine al_v (opx_assign (.raw _)) ⟨rfl, trivial⟩ trivial rfl ?_ | refine al_v (opx_assign (.sl _ _)) ⟨rfl, trivial⟩ trivial rfl ?_)) | (refine is_bi ?_; (first | refine al_v opx_len_own ⟨rfl, trivial⟩ ⟨rfl, trivial⟩ rfl ?_ | refine al_appQr rfl rfl rfl rfl rfl rfl (by omega) ?_)) | (refine is_ia ?_; refine al_v (opx_ia_own2 hll (by omega)) ⟨rfl, rfl, trivial⟩ ⟨rfl, trivial⟩ rfl ?_) | (refine is_call ?_; (first | refine al_callF (by (repeat (first | exact .nil | refine .one rfl rfl ?_ | refine .froz rfl rfl ?_ | refine .rnil rfl ?_ | refine .agg rfl (by (repeat (first | exact .nil | refine .cons (.same rfl) ?_ | refine .cons (.froz rfl) ?_ | refine .cons (.rnil) ?_)); (first | done | fail)) ?_)); (first | done | fail)) rfl (hcl) rfl ?_ | refine al_callF (by (repeat (first | exact .nil | refine .one rfl rfl ?_ | refine .froz rfl rfl ?_ | refine .rnil rfl ?_ | refine .agg rfl (by (repeat (first | exact .nil | refine .cons (.same rfl) ?_ | refine .cons (.froz rfl) ?_ | refine .cons (.rnil) ?_)); (first | done | fail)) ?_)); (first | done | fail)) rfl (hca) rfl ?_ | refine al_callF (by (repeat (first | exact .nil | refine .one rfl rfl ?_ | refine .froz rfl rfl ?_ | refine .rnil rfl ?_ | refine .agg rfl (by (repeat (first | exact .nil | refine .cons (.same rfl) ?_ | refine .cons (.froz rfl) ?_ | refine .cons (.rnil) ?_)); (first | done | fail)) ?_)); (first | done | fail)) rfl (hcp) rfl ?_)) | (refine is_st ?_; (first | refine al_s (opx_st1_box (by rfl)) ⟨rfl, rfl, trivial⟩ ⟨rfl, trivial⟩ ?_ | refine al_s (opx_sts_box (by rfl) (by rfl)) ⟨rfl, rfl, trivial⟩ ⟨rfl, trivial⟩ ?_ | refine al_stQ rfl rfl rfl (by assumption) ?_)) | refine al_v opx_not ⟨rfl, trivial⟩ trivial rfl ?_ | refine al_v opx_nilck ⟨rfl, trivial⟩ trivial rfl ?_ | refine al_v (opx_extract _ rfl) ⟨rfl, trivial⟩ trivial rfl ?_ | refine al_n opx_alloc trivial trivial rfl ?_ | refine al_nil ?_ | refine al_litNilQ rfl ?_)) | (refine is_ad ?_; refine al_litNilQ rfl ?_) | (refine is_aw ?_; (first | refine aw_seq ?_ | refine aw_region ?_ | refine aw_skip ?_ | refine aw_ret ?_ | (refine is_cond ?_; (first | refine aw_cond_f rfl rfl ?_ | refine aw_cond_t rfl (by assumption) ?_ | refine aw_cond_f rfl (by assumption) ?_)))))
            exact rets_put trivial rfl rfl rfl rfl rfl (by rw [hse]; rfl) ⟨by first | (rw [f1]; done) | (rw [f1]; rfl), by rw [f2]⟩
end Go.Proofs.YtfoecgfboicphaaGreatDoor
/-
  The builder's String at this program: as the shelf's tools wrote it, under names of ours.
-/
namespace Go.Proofs.YtfoecgfboicphaaGreatDoor
open Go.Shelf Go.RowKit
def lays169_ren : Go.Shelf.Ren := ⟨fun | 169 => 28 | n => n, fun | 70 => 45 | 9 => 9 | 0 => 0 | 72 => 47 | 37 => 22 | 127 => 81 | 3 => 3 | 5 => 5 | n => n, fun | n => n⟩
theorem lays169 : Go.Proofs.Lays.n169 Tryz.prog lays169_ren := {
  mixed := by kernel_rfl
  f169 := Tryz.func28.trans (congrArg some (by kernel_rfl))
  t0 := Tryz.underlying0
  a0 := Tryz.isAgg0
  z0 := Tryz.sizeOf0
  v0 := Tryz.zeroValue0
  t3 := Tryz.underlying3
  a3 := Tryz.isAgg3
  z3 := Tryz.sizeOf3
  v3 := Tryz.zeroValue3
  t9 := Tryz.underlying9
  a9 := Tryz.isAgg9
  z9 := Tryz.sizeOf9
  v9 := Tryz.zeroValue9
  t37 := Tryz.underlying22
  a37 := Tryz.isAgg22
  z37 := Tryz.sizeOf22
  v37 := Tryz.zeroValue22
  t70 := Tryz.underlying45
  a70 := Tryz.isAgg45
  z70 := Tryz.sizeOf45
  v70 := Tryz.zeroValue45
  t72 := Tryz.underlying47
  a72 := Tryz.isAgg47
  z72 := Tryz.sizeOf47
  v72 := Tryz.zeroValue47
  t127 := Tryz.underlying81
  a127 := Tryz.isAgg81
  z127 := Tryz.sizeOf81
  v127 := Tryz.zeroValue81 }
theorem Builder_Extra_169 : Builder.Extra Tryz.prog lays169_ren := {
  sizeBuilder := by kernel_rfl
  liesBuilder := by kernel_rfl
  t5 := Tryz.underlying5
  a5 := Tryz.isAgg5
  z5 := Tryz.sizeOf5
  v5 := Tryz.zeroValue5
  infoByte := by kernel_rfl
  cellsByte := by kernel_rfl
  sizeByte := by kernel_rfl
  neB5 := by decide }
end Go.Proofs.YtfoecgfboicphaaGreatDoor
/-
  A builder of text: appends of a string, pointers compared and turned to unsafe pointers and back, what its String does.
-/
namespace Go.Proofs.YtfoecgfboicphaaGreatDoor
open Go.RowKit
set_option linter.unusedVariables false
set_option linter.unusedSimpArgs false
def u8s (bs : List UInt8) : List Value := bs.map fun b => Value.int .u8 b.toNat
theorem strCells_u8 (s : List UInt8) : Lib.strCells ⟨s.toArray⟩ = u8s s := by simp [Lib.strCells, u8s]
section
variable {P : Program} (w : World)
theorem run_append_str {T S ty e bytes : Nat} {zs : List Value} (hT : SlT P T e 1 bytes zs) (hS : P.underlying S = some .string) (hz8 : (P.info? e).bind (·.zero) = some (.int .u8 0)) {v : Value} {n : Nat} {olds : List Value} (hv : OwnAt w v n 1 e olds)
    {s : List UInt8} (h63 : n + s.length ≤ maxLen) (hb1 : bytes = 1) (hbytes : n + s.length ≤ 140737488355328) :
    ∃ v' w', (Builtin.append_ #[T, S] ty #[v, .string ⟨s.toArray⟩]).run P w = .ok v' w' ∧ w.grownBy w' (blk v) ∧ OwnAt w' v' (n + s.length) 1 e (olds ++ u8s s) ∧
      (∀ g, blk v' = some g → w.heap.size ≤ g ∨ blk v = some g) := by
  obtain ⟨i, z, hu, hi, hz, hs, hb, hzc, hzs⟩ := sl_parts hT
  have hsz : (⟨s.toArray⟩ : ByteArray).size = s.length := by simp [ByteArray.size]
  have hnl : (u8s s).length = s.length := by simp [u8s]
  have hz0 : z = .int .u8 0 := by
    rw [hi] at hz8
    simp [hz] at hz8
    exact hz8
  subst hz0
  have h1 : ∀ u ∈ u8s s, u.oneCell' = true := fun u hu => by obtain ⟨b, _, rfl⟩ := List.mem_map.1 hu; rfl
  have hsm : n + s.length ≤ 9223372036854775807 := by simp only [maxLen] at h63; omega
  rcases hv with ⟨rfl, rfl, rfl⟩ | ⟨g, off, cap, cur, rfl, hg, hnc, hcm, hcs, holds, hcur⟩
  · have hown0 : w.ownsRow w.heap.size e 1 (.slice none 0 0) 0 [] := ⟨rfl, .inl ⟨rfl, rfl⟩⟩
    obtain ⟨v', w', r1, r2, r3, r4⟩ := Lib.run_append_own_string (P := P) w w.heap.size T S ty e i hu hS hi hz hs (hb.trans hb1) (.slice none 0 0) 0 [] hown0 ⟨s.toArray⟩ (by rw [hsz]; exact h63) (by rw [hsz]; exact hbytes) (Nat.le_refl _)
    rw [hsz, strCells_u8] at r2
    refine ⟨v', w', r1, r3, ?_, fun g hg => ?_⟩
    · rcases r2.2 with ⟨h5, h6⟩ | ⟨g, cap, cur, h5, _, h7, h8, h9, h10, h11⟩
      · exact .inl ⟨h5, h6, by rw [h6] at r2; exact List.eq_nil_of_length_eq_zero (by simpa using r2.1)⟩
      · refine .inr ⟨g, 0, cap, cur, h5, h7, h8, h9, by rw [h10]; omega, by simpa using r2.1, fun k u hk => ?_⟩
        rw [Nat.zero_add, ← Array.getElem?_toList]
        have hk3 := hk
        rw [← h11, List.getElem?_take] at hk3
        split at hk3
        · exact hk3
        · cases hk3
    · rcases r2.2 with ⟨h5, h6⟩ | ⟨g', cap, cur, h5, h6, _⟩
      · rw [h5] at hg; cases hg
      · rw [h5] at hg
        cases hg
        exact .inl h6
  · have hol : olds.length = n := by simpa using holds
    have hfs := Lib.run_firstCells_string (P := P) w 1 ⟨s.toArray⟩
    rw [hsz, strCells_u8] at hfs
    by_cases hroom : n + s.length ≤ cap
    · have hfit : off + n + (u8s s).length ≤ cur.size := by rw [hnl]; omega
      have hst := run_storeCells_at P g (off + n) e (u8s s) 0 cur w hg (by simpa using hfit) h1
      simp only [Nat.add_zero] at hst
      have hr : (Builtin.append_ #[T, S] ty #[.slice (some ⟨g, off, none⟩) n cap, .string ⟨s.toArray⟩]).run P w =
          .ok (.slice (some ⟨g, off, none⟩) (n + s.length) cap) (w.setRow g (cur.toList.take (off + n) ++ u8s s ++ cur.toList.drop (off + n + (u8s s).length)).toArray) := by
        simp [Builtin.append_, run_underlying hu, run_underlying hS, sizeOf, typeInfo, hi, hs, Builtin.lenOf, hsz, hroom, hfs, addr_add, hst]
      refine ⟨_, _, hr, grownBy_setRow w g _, .inr ⟨g, off, cap, _, rfl, setRow_heap w g cur _ e _ hg, hroom, hcm, ?_, by rw [List.length_append, hol, hnl]; omega, ?_⟩, fun k hk => .inr hk⟩
      · simp only [List.size_toArray, List.length_append, List.length_take, List.length_drop, Array.length_toList]
        omega
      · intro k u hk
        simp only [List.getElem?_toArray]
        have e1 : min (off + n) cur.toList.length = off + n := by simp; omega
        by_cases hlt : k < olds.length
        · rw [List.getElem?_append_left hlt] at hk
          rw [List.append_assoc, List.getElem?_append_left (by rw [List.length_take, e1]; omega), List.getElem?_take, if_pos (by omega)]
          simpa using hcur k u hk
        · rw [List.getElem?_append_right (by omega)] at hk
          have hlt2 : k - olds.length < (u8s s).length := (List.getElem?_eq_some_iff.1 hk).1
          rw [List.append_assoc, List.getElem?_append_right (by rw [List.length_take, e1]; omega), List.getElem?_append_left (by rw [List.length_take, e1]; omega), List.length_take, e1, ← hk]
          congr 1
          omega
    · have holds' : ∀ j u, olds[j]? = some u → w.cell? ((⟨g, off, none⟩ : Addr).add j) = some u := fun j u hj => by
        rw [addr_add, World.cell?, hg]; simpa using hcur j u hj
      have hr := Lib.run_append_grow_string (P := P) w T S ty e i (.int .u8 0) hu hS hi hz ⟨g, off, none⟩ n cap olds (by rw [hol, hs]; omega) holds' ⟨s.toArray⟩ (by rw [hsz]; omega) (by rw [hsz]; omega) (by rw [hsz]; exact growslice_fits (by omega) (by rw [hb, hb1]; omega))
      rw [hsz, strCells_u8] at hr
      have hge := grownCap_ge w (n + s.length) cap e
      have hcm' : grownCap w (n + s.length) cap e ≤ maxLen := grownCap_le_maxLen w (n + s.length) cap e h63
      have hzc1 : (Value.int .u8 0).cells.size = 1 := rfl
      refine ⟨_, _, hr, ⟨rfl, rfl, rfl, by simp, fun k hk _ => (World.grownBy_alloc w.drew _ none).block k hk (by simp)⟩, .inr ⟨w.heap.size, 0, _, _, rfl, heap_alloc_new w.drew _, hge, hcm', ?_, by rw [List.length_append, hol, hnl]; omega, ?_⟩, fun k hk => by cases hk; exact .inl (Nat.le_refl _)⟩
      · simp only [Array.size_append, List.size_toArray, size_zeroCells, hzc1, hol, hnl, Nat.zero_add]
        omega
      · intro k u hk
        have hlt : k < (olds ++ u8s s).length := (List.getElem?_eq_some_iff.1 hk).1
        rw [List.length_append] at hlt
        rw [Nat.zero_add, Array.getElem?_append_left (by simpa using hlt)]
        simpa using hk
end
theorem dl_u8s {Z : Nat → Prop} {w : World} : ∀ {s : List UInt8}, DL Z w (byRs s).flatten (u8s s)
  | [] => trivial
  | b :: s => ⟨.raw _ rfl, dl_u8s⟩
section
variable {P : Program} {d u n : Nat} {x y : Operand} {t T S e ty : TypeId} {pos : String} {af : Array Edge} {gd : Option (Nat × Bool)}
theorem opx_appStr {bytes : Nat} {zs : List Value} [hT : SlT P T e 1 bytes zs] (hS : P.underlying S = some .string) (hz8 : (P.info? e).bind (·.zero) = some (.int .u8 0)) (hb1 : bytes = 1) {bs s : List UInt8} (hl : bs.length + s.length ≤ 100000000000) :
    OpX P ⟨some d, .call { callee := .builtin .append, args := #[x, y], argTypes := #[T, S] }, ty, pos, af, gd⟩ [(x, .own u), (y, .str s)] [(u, .row 1 e (byRs bs))] [n] [(d, .own n)] [(n, .row 1 e (byRs (bs ++ s))), (u, .gone)] := by
  intro cx SS O V a w hR hO hV hU ⟨ρ, Z, hg⟩ K Q hK
  have hO1 := hO.1
  have hx : a.eval x = ρ u := (hg.ag hR.1).1
  have hy := da_raw (hg.ag hR.2.1)
  have ho := hg.obj u
  rw [hO1] at ho
  obtain ⟨hw1, us, hd1, hown⟩ := do_row.1 ho
  have hrl : (byRs bs).length = bs.length := by simp [byRs]
  have hlu : (O u).live = true := by rw [hO1]; rfl
  rw [hrl] at hown
  obtain ⟨v', w', hrun, hgr, hown', hblk⟩ := run_append_str (P := P) w (ty := ty) hT hS hz8 hown (s := s) (by simp only [maxLen]; omega) hb1 (by omega)
  have hsame : Same Z w w' := fun g hz => hgr.block g (hg.zlt g hz) (fun e => (hg.out u g hlu e.symm).1 hz)
  have h1 : v'.oneCell' = true := by rcases hown' with ⟨rfl, _⟩ | ⟨g, off, cap, cur, rfl, _⟩ <;> rfl
  have hn := hg.subst (w' := w') (t := u) (u := n) (v := v') (ob := .row 1 e (byRs (bs ++ s))) hlu hV.1 hgr
    (do_row.2 ⟨fun r hr => by obtain ⟨b, _, rfl⟩ := List.mem_map.1 hr; rfl, us ++ u8s s, by
      rw [byRs, List.map_append, List.flatten_append]
      exact DL.append (hd1.mono (fun _ h => h) hsame) dl_u8s, by
      have : (byRs (bs ++ s)).length = bs.length + s.length := by simp [byRs]
      rw [this]; simpa using hown'⟩) hblk (by simp [OB.tags])
  unfold Oper.wp
  have hexec : (execOp a.eval ⟨some d, .call { callee := .builtin .append, args := #[x, y], argTypes := #[T, S] }, ty, pos, af, gd⟩).run P w = .ok (.value v') w' := by
    simp [execOp, resolve, invoke, builtin, hx, hy, hrun]
  rw [hexec]
  show K (a.put (some d) v') w'
  have hda : DA (fun s => if s = n then v' else ρ s) Z w' (.own n) v' := ⟨by simp, h1⟩
  refine hK _ _ ⟨_, Z, (hn.put (blt_lt hU.1) hda ?_).weak fun s hs => ⟨hs.1, fun e => hs.2 (by simp [e])⟩⟩
  intro s hs hv
  simp [AV.tags, AR.tags, A1.tag] at hs
  exact hv.2 hs
theorem run_eqlNilT {w : World} (hp : P.underlying t = some (.pointer T)) : (binOp .eql t (.pointer none) (.pointer none)).run P w = .ok (.bool true) w := by
  have h : ∀ d : Nat, (Op.equalIn (d + 1) t (.pointer none) (.pointer none)).run P w = .ok true w := fun d => by
    simp [Op.equalIn, run_underlying hp]
  simp only [binOp]
  simp [Op.equal, Op.maxDepth, h 9999]
theorem run_eqlNilF {w : World} {A : Addr} (hp : P.underlying t = some (.pointer T)) : (binOp .eql t (.pointer (some A)) (.pointer none)).run P w = .ok (.bool false) w := by
  have h : ∀ d : Nat, (Op.equalIn (d + 1) t (.pointer (some A)) (.pointer none)).run P w = .ok false w := fun d => by
    simp [Op.equalIn, run_underlying hp]
  simp only [binOp]
  simp [Op.equal, Op.maxDepth, h 9999]
theorem opx_ptrNilT (hp : P.underlying t = some (.pointer T)) {t' : TypeId} : OpX P ⟨some d, .binOp .eql t x y t', ty, pos, af, gd⟩ [(x, .raw (.pointer none)), (y, .raw (.pointer none))] [] [] [(d, .b true)] [] :=
  opx_val rfl fun cx S O V a w ρ Z hg hR _ => by
    have h1 := da_raw (hg.ag hR.1)
    have h2 := da_raw (hg.ag hR.2.1)
    have hgd : (eqGuard .eql t x y (.pointer none) (.pointer none) : Sem Unit).run P w = .ok () w := by simp [eqGuard]
    refine ⟨.bool true, ?_, da_mk rfl, by simp [AV.tags, AR.tags, A1.tag]⟩
    simp only [execOp, h1, h2]
    rw [Sem.run_bind, Sem.run_bind, hgd]
    simp only [Result.andThen]
    rw [run_eqlNilT hp]; rfl
theorem opx_ptrNilF (hp : P.underlying t = some (.pointer T)) {t' : TypeId} {o : Nat} : OpX P ⟨some d, .binOp .eql t x y t', ty, pos, af, gd⟩ [(x, .ref u o), (y, .raw (.pointer none))] [] [] [(d, .b false)] [] :=
  opx_val rfl fun cx S O V a w ρ Z hg hR _ => by
    obtain ⟨g, o', _, h1⟩ := hg.ag hR.1
    have h2 := da_raw (hg.ag hR.2.1)
    have hgd : (eqGuard .eql t x y (.pointer (some ⟨g, o' + o, none⟩)) (.pointer none) : Sem Unit).run P w = .ok () w := by simp [eqGuard]
    refine ⟨.bool false, ?_, da_mk rfl, by simp [AV.tags, AR.tags, A1.tag]⟩
    simp only [execOp, h1, h2]
    rw [Sem.run_bind, Sem.run_bind, hgd]
    simp only [Result.andThen]
    rw [run_eqlNilF hp]; rfl
theorem opx_ptrSame (hp : P.underlying t = some (.pointer T)) (hi : (P.info? T).isSome = true) {t' : TypeId} {o : Nat} : OpX P ⟨some d, .binOp .neq t x y t', ty, pos, af, gd⟩ [(x, .ref u o), (y, .ref u o)] [] [] [(d, .b false)] [] :=
  opx_val rfl fun cx S O V a w ρ Z hg hR _ => by
    obtain ⟨g, o', h3, h1⟩ := hg.ag hR.1
    obtain ⟨g2, o2, h4, h2⟩ := hg.ag hR.2.1
    rw [h3] at h4
    cases h4
    obtain ⟨j, hj⟩ := Option.isSome_iff_exists.1 hi
    have hr := Lib.run_neq_ptr_same (P := P) w ⟨g, o' + o, none⟩ hp hj
    have hgd : (eqGuard .neq t x y (.pointer (some ⟨g, o' + o, none⟩)) (.pointer (some ⟨g, o' + o, none⟩)) : Sem Unit).run P w = .ok () w := by simp [eqGuard]
    refine ⟨.bool false, ?_, da_mk rfl, by simp [AV.tags, AR.tags, A1.tag]⟩
    simp only [execOp, h1, h2]
    rw [Sem.run_bind, Sem.run_bind, hgd]
    simp only [Result.andThen]
    rw [hr]; rfl
theorem box_shape {cx : Cx} {S : Nat → AV} {O : Nat → OB} {V : Nat → Prop} {a : Act} {w : World} {ρ : Nat → Value} {Z : Nat → Prop} (hg : Good cx S O V a w ρ Z) {cells : List A1} (hO : O u = .box e cells) (hx : DA ρ Z w (.ref u 0) (a.eval x)) :
    ∃ g, a.eval x = .pointer (some ⟨g, 0, none⟩) ∧ w.shape? g = some (e, cells.length) := by
  obtain ⟨g, o, h1, h2⟩ := hx
  have ho := hg.obj u
  rw [hO] at ho
  obtain ⟨g', us, h3, h4, h5⟩ := ho
  rw [h3] at h1
  obtain ⟨rfl, rfl⟩ : g' = g ∧ 0 = o := by simpa [Value.place] using h1
  exact ⟨g', h2, by simp [World.shape?, h4, h5.len]⟩
theorem opx_toUnsafe {T2 : TypeId} (hs : P.underlying t = some (.pointer T)) (hd : P.underlying T2 = some .unsafePointer) (hi : ((P.info? T).map (·.size)).any (· != 0) = true) {cells : List A1} (hc : 0 < cells.length) :
    OpX P ⟨some d, .convert t T2 x, ty, pos, af, gd⟩ [(x, .ref u 0)] [(u, .box e cells)] [] [(d, .ref u 0)] [] :=
  opx_val rfl fun cx S O V a w ρ Z hg hR hO => by
    obtain ⟨g, h1, h2⟩ := box_shape hg hO.1 (hg.ag hR.1)
    cases hj : P.info? T with
    | none => rw [hj] at hi; simp at hi
    | some j =>
      rw [hj] at hi
      have hj0 : j.size ≠ 0 := by simpa using hi
      have hr := Lib.run_to_unsafe (P := P) w ⟨g, 0, none⟩ hs hd hj hj0 h2 hc
      refine ⟨a.eval x, ?_, hg.ag hR.1, hg.agv hR.1⟩
      simp only [execOp, h1]
      rw [Sem.run_bind, hr]; rfl
theorem opx_fromUnsafe {T2 : TypeId} (hs : P.underlying t = some .unsafePointer) (hd : P.underlying T2 = some (.pointer T)) (hi : (P.info? T).isSome = true) {cells : List A1} (hl : liesAt P P.depth e (cells.length / P.cellsOf e) 0 T 1 = true) :
    OpX P ⟨some d, .convert t T2 x, ty, pos, af, gd⟩ [(x, .ref u 0)] [(u, .box e cells)] [] [(d, .ref u 0)] [] :=
  opx_val rfl fun cx S O V a w ρ Z hg hR hO => by
    obtain ⟨g, h1, h2⟩ := box_shape hg hO.1 (hg.ag hR.1)
    obtain ⟨j, hj⟩ := Option.isSome_iff_exists.1 hi
    have hr := Lib.run_from_unsafe (P := P) w ⟨g, 0, none⟩ hs hd hj h2 hl
    refine ⟨a.eval x, ?_, hg.ag hR.1, hg.agv hR.1⟩
    simp only [execOp, h1]
    rw [Sem.run_bind, hr]; rfl
theorem opx_noEsc {f : FuncId} {fn : Func} {ats : Array TypeId} {o : Nat} (hf : P.funcs[f]? = some fn) (h1 : (fn.name == "runtime.NumGoroutine") = false) (h2 : fn.body.isNone = true) (h3 : Extern.findNext fn = none)
    (h4 : Extern.find fn = some Extern.AbiNoEscape.same) : OpX P ⟨some d, .call { callee := .value (.func f), args := #[x], argTypes := ats }, ty, pos, af, none⟩ [(x, .ref u o)] [] [] [(d, .ref u o)] [] :=
  opx_val rfl fun cx S O V a w ρ Z hg hR hO => by
    refine ⟨a.eval x, ?_, hg.ag hR.1, hg.agv hR.1⟩
    have e : (#[] ++ (#[x] : Array Operand).map a.eval ++ #[] : Array Value) = #[a.eval x] := by simp
    rw [execOp_call_go, run_callFunc_extern hf h1 h2 h3 h4, e, Lib.run_noEscape]
    rfl
end
def okBld (T : TypeId) (v : Value) (o : Obj) (us : List Value) : Prop := ∃ g p u, v = .pointer (some ⟨g, 0, none⟩) ∧ us = [u] ∧ (p = .pointer none ∨ p = .pointer (some ⟨g, 0, none⟩)) ∧ o = .cells #[p, u] T (0, 0)
abbrev bldO (T : TypeId) (u : Nat) : OB := .gen (okBld T) [.own u]
theorem do_bld {ρ : Nat → Value} {Z : Nat → Prop} {w : World} {t u : Nat} {T : TypeId} (h : DO ρ Z w t (bldO T u)) : DO ρ Z w t (.box T [.c (.raw (.pointer none)), .own u]) ∨ DO ρ Z w t (.box T [.ref t 0, .own u]) := by
  obtain ⟨g, o, us, h1, h2, ⟨g', p, q, h3, rfl, h4, rfl⟩, h5⟩ := h
  have hg : g' = g := by rw [h3] at h1; simpa [blk, Value.place] using h1
  subst hg
  rcases h4 with rfl | rfl
  · exact .inl ⟨g', [.pointer none, q], h3, h2, DC.raw _ rfl, h5⟩
  · exact .inr ⟨g', [.pointer (some ⟨g', 0, none⟩), q], h3, h2, ⟨g', 0, by rw [h3]; rfl, rfl⟩, h5⟩
theorem do_bldU {ρ : Nat → Value} {Z : Nat → Prop} {w : World} {t u : Nat} {T : TypeId} (h : DO ρ Z w t (.box T [.ref t 0, .own u])) : DO ρ Z w t (bldO T u) := by
  obtain ⟨g, us, h1, h2, h3⟩ := h
  match us, h3 with
  | [p, q], h3 =>
    obtain ⟨g', o', h4, h5⟩ := h3.1
    rw [h1] at h4
    cases h4
    exact ⟨g, _, [q], by rw [h1]; rfl, h2, ⟨g, p, q, h1, rfl, .inr h5, rfl⟩, h3.2⟩
theorem do_bldN {ρ : Nat → Value} {Z : Nat → Prop} {w : World} {t u : Nat} {T : TypeId} (h : DO ρ Z w t (.box T [.c (.raw (.pointer none)), .own u])) : DO ρ Z w t (bldO T u) := by
  obtain ⟨g, us, h1, h2, h3⟩ := h
  match us, h3 with
  | [p, q], h3 =>
    have h4 : p = .pointer none := da_raw (ρ := ρ) (Z := Z) (w := w) (show DA ρ Z w (.raw (.pointer none)) p from h3.1)
    exact ⟨g, _, [q], by rw [h1]; rfl, h2, ⟨g, p, q, h1, rfl, .inl h4, rfl⟩, h3.2⟩
section
variable {P : Program} {f : FuncId} {args : List AR} {obs : List OB} {Post : List AR → List OB → Prop} {T : TypeId}
theorem run_first {o o' : OB} (hl : o.live = true) (hl' : o'.live = true) (h : Con P f args (o' :: obs) Post) {w : World} {ρ : Nat → Value} {Z : Nat → Prop} {vs : List Value} (he : Entry w ρ Z args (o :: obs) vs) (H : DO ρ Z w 0 o') :
    Calls P f vs.toArray w fun e w' => ∃ rs all us ρ' Z', Post rs all ∧ (o :: obs).length ≤ all.length ∧ e = .returned (mkRet us) ∧ Leave w ρ Z (o :: obs) w' ρ' Z' rs all us := by
  have hlive : ∀ i, (obAt (o :: obs) i).live = (obAt (o' :: obs) i).live := fun i => by
    match i with
    | 0 => show o.live = o'.live; rw [hl, hl']
    | i + 1 => rfl
  have hwr : ∀ g, Wr (o' :: obs) ρ g ↔ Wr (o :: obs) ρ g := fun g => by
    constructor <;> rintro ⟨i, h1, h2⟩
    · exact ⟨i, by rw [hlive]; exact h1, h2⟩
    · exact ⟨i, by rw [← hlive]; exact h1, h2⟩
  refine (h.run w ρ Z vs ⟨he.args, fun i => ?_, fun i j g h1 h2 => he.sep i j g (by rw [hlive]; exact h1) (by rw [hlive]; exact h2), fun i g h1 => he.nz i g (by rw [hlive]; exact h1), he.zlt, he.gl⟩).mono ?_
  · match i with
    | 0 => exact H
    | i + 1 => exact he.objs (i + 1)
  · rintro e w' ⟨rs, all, us, ρ', Z', h1, h2, h3, hL⟩
    exact ⟨rs, all, us, ρ', Z', h1, h2, h3, hL.res, hL.objs, hL.same, hL.sep, fun i g h4 h5 => ⟨(hL.out i g h4 h5).1, (hL.out i g h4 h5).2.imp id (hwr g).1⟩, hL.zmono, fun g hz => (hL.znew g hz).imp id (Or.imp id (hwr g).1), hL.zlt, hL.tags, hL.os, hL.tape, hL.output, hL.size, fun g h4 h5 => hL.old g h4 (fun h6 => h5 ((hwr g).1 h6))⟩
/-- A builder: one that was never written, or one that was. -/
theorem con_bld {u : Nat} (hN : Con P f args (.box T [.c (.raw (.pointer none)), .own u] :: obs) Post) (hU : Con P f args (.box T [.ref 0 0, .own u] :: obs) Post) : Con P f args (bldO T u :: obs) Post :=
  ⟨hN.ok, fun w ρ Z vs he => by
    rcases do_bld (he.objs 0) with h | h
    · exact run_first rfl rfl hN he h
    · exact run_first rfl rfl hU he h⟩
end
end Go.Proofs.YtfoecgfboicphaaGreatDoor
/-
  Sessions: the builder of the program's output.
-/
namespace Go.Proofs.YtfoecgfboicphaaGreatDoor
open Go.Shelf Go.RowKit
set_option linter.unusedVariables false
set_option linter.unusedSimpArgs false

section
variable {P : Program} {ρ : Ren}
theorem liesAt_off {e : TypeId} (hc : P.cellsOf e = 1) (count off n : Nat) (hn : off + n ≤ count) : liesAt P P.depth e count off e n = true := by
  have hd : P.depth = (2 * (P.types.size + Made.depth) + 1) + 1 := rfl
  rw [hd]
  simp only [liesAt, Bool.or_eq_true]
  left
  rw [hd]
  simp [rowAt, hc, hn, sameLayout, Nat.mod_one]
theorem run_usString (w : World) (pt it ty e : TypeId) (hp : P.underlying pt = some (.pointer e)) (hc : P.cellsOf e = 1) (g off cells : Nat) (hsh : w.shape? g = some (e, cells)) (l : List UInt8) (h0 : l ≠ []) (hn : off + l.length ≤ cells) (h63 : l.length ≤ 9223372036854775807)
    (hcell : ∀ j x, l[j]? = some x → w.cell? ((⟨g, off, none⟩ : Addr).add j) = some (.int .u8 x.toNat)) :
    (Builtin.unsafeString_ #[pt, it] ty #[.pointer (some ⟨g, off, none⟩), .int .i64 l.length]).run P w = .ok (.string ⟨l.toArray⟩) (w.freeze ⟨g, off, none⟩ l.length) := by
  have hl : l.length ≠ 0 := by simpa using h0
  have hlb := Lib.run_loadBytes (P := P) w l ⟨g, off, none⟩ .empty hcell
  have hlies := liesAt_off (P := P) hc (cells / P.cellsOf e) off l.length (by rw [hc]; simpa using hn)
  have hlarge : ¬ (9223372036854775807 : Int) < (l.length : Int) := by omega
  have hmax : IntKind.i64.max = 9223372036854775807 := rfl
  have hneg : ¬ (l.length : Int) < 0 := by omega
  delta Builtin.unsafeString_ Builtin.unsafeString_.match_3
  simp [Array.getLit, asInt, asIntOf, hmax, hlarge, hneg, hl, variablesAt, hsh, elemOf, run_underlying hp, hlies, hlb]
theorem grown_freeze (w : World) (p : Addr) (n : Nat) : w.grownBy (w.drew.freeze p n) (some p.block) := by
  unfold World.freeze
  split
  · exact ⟨rfl, rfl, rfl, Nat.le_refl _, fun _ _ _ => rfl⟩
  · exact ⟨rfl, rfl, rfl, by simp only [Array.size_modify]; exact Nat.le_refl _, fun k hk hne => by
      simp only [Array.getElem?_modify]
      rw [if_neg (fun e => hne (by rw [e]))]
      rfl⟩

set_option maxHeartbeats 2000000 in
set_option maxRecDepth 100000 in
theorem str_some (L : Lays.n169 P ρ) (X : Builder.Extra P ρ) (b g off cap : Nat) (p : Value) (l : List UInt8) (cur : Array Value) (w : World) (h0 : l ≠ [])
    (hbk : w.heap[b]? = some (.cells #[p, .slice (some ⟨g, off, none⟩) l.length cap] (ρ.t 72) (0, 0))) (hg : w.heap[g]? = some (.cells cur (ρ.t 5) (0, 0))) (hnc : l.length ≤ cap) (hcm : cap ≤ maxLen) (hcs : off + cap ≤ cur.size)
    (hcell : ∀ j x, l[j]? = some x → cur[off + j]? = some (.int .u8 x.toNat)) :
    Calls P (ρ.f 169) #[.pointer (some ⟨b, 0, none⟩)] w fun e w' => e = .returned (.string ⟨l.toArray⟩) ∧ w.grownBy w' (some g) := by
  have hl0 : l.length ≠ 0 := by simpa using h0
  have c1 : w.drew.cell? ⟨b, 1, none⟩ = some (.slice (some ⟨g, off, none⟩) l.length cap) := by
    have : w.drew.heap[b]? = some (.cells #[p, .slice (some ⟨g, off, none⟩) l.length cap] (ρ.t 72) (0, 0)) := hbk
    rw [Lib.cell_of_heap this]; rfl
  have hSD : (Builtin.unsafeSliceData_ #[(ρ.t 37)] (ρ.t 127) #[.slice (some ⟨g, off, none⟩) l.length cap]).run P w.drew = .ok (.pointer (some ⟨g, off, none⟩)) w.drew :=
    Lib.run_unsafeSliceData_row _ _ _ _ _ _ (by omega)
  have hUS : (Builtin.unsafeString_ #[(ρ.t 127), (ρ.t 3)] (ρ.t 9) #[.pointer (some ⟨g, off, none⟩), .int .i64 l.length]).run P w.drew = .ok (.string ⟨l.toArray⟩) (w.drew.freeze ⟨g, off, none⟩ l.length) := by
    refine run_usString w.drew (ρ.t 127) (ρ.t 3) (ρ.t 9) (ρ.t 5) L.t127 X.cellsByte g off cur.size (by have hg' : w.drew.heap[g]? = some (.cells cur (ρ.t 5) (0, 0)) := hg; simp [World.shape?, hg']) l h0 (by omega) (by unfold maxLen at hcm; omega) ?_
    intro j x hx
    have hg' : w.drew.heap[g]? = some (.cells cur (ρ.t 5) (0, 0)) := hg
    rw [addr_add, Lib.cell_of_heap hg']
    exact hcell j x hx
  have mixed := L.mixed
  have t72 := L.t72; have a72 := L.a72; have z72 := L.z72; have v72 := L.v72; have u72 := run_underlying L.t72
  have t70 := L.t70; have a70 := L.a70; have z70 := L.z70; have v70 := L.v70; have u70 := run_underlying L.t70
  have t37 := L.t37; have a37 := L.a37; have z37 := L.z37; have v37 := L.v37; have u37 := run_underlying L.t37
  have t127 := L.t127; have a127 := L.a127; have z127 := L.z127; have v127 := L.v127; have u127 := run_underlying L.t127
  have t3 := L.t3; have a3 := L.a3; have z3 := L.z3; have v3 := L.v3; have u3 := run_underlying L.t3
  have t9 := L.t9; have a9 := L.a9; have z9 := L.z9; have v9 := L.v9; have u9 := run_underlying L.t9
  have t5 := X.t5; have a5 := X.a5; have z5 := X.z5; have v5 := X.v5; have u5 := run_underlying X.t5
  go_enter L.f169, Body.n169_ntmps ρ
  go_wp2
  go_region_o
  all_goals (go_wp2; go_ret; exact ⟨rfl, grown_freeze w ⟨g, off, none⟩ _⟩)
theorem us_none (L : Lays.n169 P ρ) (W : World) (q : Option Addr) : (Builtin.unsafeString_ #[(ρ.t 127), (ρ.t 3)] (ρ.t 9) #[.pointer q, .int .i64 0]).run P W = .ok (.string .empty) W :=
  Lib.run_unsafeString_none W _ _ _ q
theorem grown_drew (w : World) : w.grownBy w.drew none := ⟨rfl, rfl, rfl, Nat.le_refl _, fun _ _ _ => rfl⟩
theorem grown_drew_alloc (w : World) (o : Obj) : w.grownBy (w.drew.alloc o) none := ⟨rfl, rfl, rfl, by simp, fun k hk _ => (World.grownBy_alloc w.drew _ none).block k hk (by simp)⟩

set_option maxHeartbeats 2000000 in
set_option maxRecDepth 100000 in
theorem str_nil (L : Lays.n169 P ρ) (X : Builder.Extra P ρ) (b : Nat) (p : Value) (w : World) (hbk : w.heap[b]? = some (.cells #[p, .slice none 0 0] (ρ.t 72) (0, 0))) :
    Calls P (ρ.f 169) #[.pointer (some ⟨b, 0, none⟩)] w fun e w' => e = .returned (.string ⟨#[]⟩) ∧ w.grownBy w' none := by
  have hUS := us_none L
  have c1 : w.drew.cell? ⟨b, 1, none⟩ = some (.slice none 0 0) := by
    have : w.drew.heap[b]? = some (.cells #[p, .slice none 0 0] (ρ.t 72) (0, 0)) := hbk
    rw [Lib.cell_of_heap this]; rfl
  have hSD : (Builtin.unsafeSliceData_ #[(ρ.t 37)] (ρ.t 127) #[.slice none 0 0]).run P w.drew = .ok (.pointer none) w.drew := rfl
  have mixed := L.mixed
  have t72 := L.t72; have a72 := L.a72; have z72 := L.z72; have v72 := L.v72; have u72 := run_underlying L.t72
  have t70 := L.t70; have a70 := L.a70; have z70 := L.z70; have v70 := L.v70; have u70 := run_underlying L.t70
  have t37 := L.t37; have a37 := L.a37; have z37 := L.z37; have v37 := L.v37; have u37 := run_underlying L.t37
  have t127 := L.t127; have a127 := L.a127; have z127 := L.z127; have v127 := L.v127; have u127 := run_underlying L.t127
  have t3 := L.t3; have a3 := L.a3; have z3 := L.z3; have v3 := L.v3; have u3 := run_underlying L.t3
  have t9 := L.t9; have a9 := L.a9; have z9 := L.z9; have v9 := L.v9; have u9 := run_underlying L.t9
  have t5 := X.t5; have a5 := X.a5; have z5 := X.z5; have v5 := X.v5; have u5 := run_underlying X.t5
  go_enter L.f169, Body.n169_ntmps ρ
  go_wp2
  go_region_o
  all_goals (go_wp2; go_ret; exact ⟨rfl, grown_drew w⟩)

set_option maxHeartbeats 2000000 in
set_option maxRecDepth 100000 in
theorem str_noroom (L : Lays.n169 P ρ) (X : Builder.Extra P ρ) (b g off : Nat) (p : Value) (cur : Array Value) (w : World) (hbk : w.heap[b]? = some (.cells #[p, .slice (some ⟨g, off, none⟩) 0 0] (ρ.t 72) (0, 0))) (hg : w.heap[g]? = some (.cells cur (ρ.t 5) (0, 0))) :
    Calls P (ρ.f 169) #[.pointer (some ⟨b, 0, none⟩)] w fun e w' => e = .returned (.string ⟨#[]⟩) ∧ w.grownBy w' none := by
  have hUS := us_none L
  have hlt : b < w.heap.size := by
    rcases Nat.lt_or_ge b w.heap.size with h' | h'
    · exact h'
    · simp [Array.getElem?_eq_none h'] at hbk
  have c1 : w.drew.cell? ⟨b, 1, none⟩ = some (.slice (some ⟨g, off, none⟩) 0 0) := by
    have : w.drew.heap[b]? = some (.cells #[p, .slice (some ⟨g, off, none⟩) 0 0] (ρ.t 72) (0, 0)) := hbk
    rw [Lib.cell_of_heap this]; rfl
  have hSD : (Builtin.unsafeSliceData_ #[(ρ.t 37)] (ρ.t 127) #[.slice (some ⟨g, off, none⟩) 0 0]).run P w.drew = .ok (.pointer (some ⟨w.drew.heap.size, 0, none⟩)) (w.drew.alloc (.view ⟨g, off, none⟩ (ρ.t 5))) :=
    Lib.run_unsafeSliceData_zero w.drew _ _ (ρ.t 5) L.t127 ⟨g, off, none⟩ 0 ((ρ.t 5), cur.size) (by have hg' : w.drew.heap[g]? = some (.cells cur (ρ.t 5) (0, 0)) := hg; simp [World.shape?, hg'])
  have c2 : (w.drew.alloc (.view ⟨g, off, none⟩ (ρ.t 5))).cell? ⟨b, 1, none⟩ = some (.slice (some ⟨g, off, none⟩) 0 0) := by
    have : (w.drew.alloc (.view ⟨g, off, none⟩ (ρ.t 5))).heap[b]? = _ := (Lib.alloc_old w.drew _ b hlt).trans hbk
    rw [Lib.cell_of_heap this]; rfl
  have c3 : (w.alloc (.view ⟨g, off, none⟩ (ρ.t 5))).drew.cell? ⟨b, 1, none⟩ = some (.slice (some ⟨g, off, none⟩) 0 0) := c2
  have c0 : w.cell? ⟨b, 1, none⟩ = some (.slice (some ⟨g, off, none⟩) 0 0) := c1
  have mixed := L.mixed
  have t72 := L.t72; have a72 := L.a72; have z72 := L.z72; have v72 := L.v72; have u72 := run_underlying L.t72
  have t70 := L.t70; have a70 := L.a70; have z70 := L.z70; have v70 := L.v70; have u70 := run_underlying L.t70
  have t37 := L.t37; have a37 := L.a37; have z37 := L.z37; have v37 := L.v37; have u37 := run_underlying L.t37
  have t127 := L.t127; have a127 := L.a127; have z127 := L.z127; have v127 := L.v127; have u127 := run_underlying L.t127
  have t3 := L.t3; have a3 := L.a3; have z3 := L.z3; have v3 := L.v3; have u3 := run_underlying L.t3
  have t9 := L.t9; have a9 := L.a9; have z9 := L.z9; have v9 := L.v9; have u9 := run_underlying L.t9
  have t5 := X.t5; have a5 := X.a5; have z5 := X.z5; have v5 := X.v5; have u5 := run_underlying X.t5
  go_enter L.f169, Body.n169_ntmps ρ
  go_wp2
  go_region_o
  all_goals (go_wp2; go_ret; exact ⟨rfl, grown_drew_alloc w _⟩)

set_option maxHeartbeats 2000000 in
set_option maxRecDepth 100000 in
theorem str_room (L : Lays.n169 P ρ) (X : Builder.Extra P ρ) (b g off cap : Nat) (p : Value) (w : World) (hc0 : cap ≠ 0) (hbk : w.heap[b]? = some (.cells #[p, .slice (some ⟨g, off, none⟩) 0 cap] (ρ.t 72) (0, 0))) :
    Calls P (ρ.f 169) #[.pointer (some ⟨b, 0, none⟩)] w fun e w' => e = .returned (.string ⟨#[]⟩) ∧ w.grownBy w' none := by
  have hUS := us_none L
  have c1 : w.drew.cell? ⟨b, 1, none⟩ = some (.slice (some ⟨g, off, none⟩) 0 cap) := by
    have : w.drew.heap[b]? = some (.cells #[p, .slice (some ⟨g, off, none⟩) 0 cap] (ρ.t 72) (0, 0)) := hbk
    rw [Lib.cell_of_heap this]; rfl
  have hSD : (Builtin.unsafeSliceData_ #[(ρ.t 37)] (ρ.t 127) #[.slice (some ⟨g, off, none⟩) 0 cap]).run P w.drew = .ok (.pointer (some ⟨g, off, none⟩)) w.drew :=
    Lib.run_unsafeSliceData_row _ _ _ _ _ _ hc0
  clear hc0
  have mixed := L.mixed
  have t72 := L.t72; have a72 := L.a72; have z72 := L.z72; have v72 := L.v72; have u72 := run_underlying L.t72
  have t70 := L.t70; have a70 := L.a70; have z70 := L.z70; have v70 := L.v70; have u70 := run_underlying L.t70
  have t37 := L.t37; have a37 := L.a37; have z37 := L.z37; have v37 := L.v37; have u37 := run_underlying L.t37
  have t127 := L.t127; have a127 := L.a127; have z127 := L.z127; have v127 := L.v127; have u127 := run_underlying L.t127
  have t3 := L.t3; have a3 := L.a3; have z3 := L.z3; have v3 := L.v3; have u3 := run_underlying L.t3
  have t9 := L.t9; have a9 := L.a9; have z9 := L.z9; have v9 := L.v9; have u9 := run_underlying L.t9
  have t5 := X.t5; have a5 := X.a5; have z5 := X.z5; have v5 := X.v5; have u5 := run_underlying X.t5
  go_enter L.f169, Body.n169_ntmps ρ
  go_wp2
  go_region_o
  all_goals (go_wp2; go_ret; exact ⟨rfl, grown_drew w⟩)
end
theorem ob_gone2 (i : Nat) : obAt [.gone, .gone] i = .gone := by
  match i with
  | 0 => rfl
  | 1 => rfl
  | i + 2 => rfl
theorem leave_gone {w w' : World} {ρ : Nat → Value} {Z : Nat → Prop} {args : List AR} {o1 o2 : OB} {vs : List Value} (he : Entry w ρ Z args [o1, o2] vs) {row : Option Nat} (hg : w.grownBy w' row) (hr : ∀ g, row = some g → Wr [o1, o2] ρ g) {v : Value} (h1 : v.oneCell' = true) :
    Leave w ρ Z [o1, o2] w' ρ Z [.one (.c (.raw v))] [.gone, .gone] [v] :=
  ⟨⟨.raw _ h1, trivial⟩, fun i => (by rw [ob_gone2]; trivial), fun i hi => rfl, fun i j g hi _ _ _ => (by rw [ob_gone2] at hi; cases hi), fun i g hi _ => (by rw [ob_gone2] at hi; cases hi),
    fun g hg => hg, fun g hg => .inl hg, fun g hz => Nat.lt_of_lt_of_le (he.zlt g hz) hg.size, ⟨rfl, rfl⟩, hg.os, hg.tape, hg.output, hg.size, fun g h2 h3 => hg.block g h2 (fun e => h3 (hr g e.symm))⟩
theorem c_bString (bs : List UInt8) : Con Tryz.prog 28 [.one (.ref 0 0)] [bldO 47 1, .row 1 5 (byRs bs)] (fun rs all => rs = [rStr bs] ∧ all = [.gone, .gone]) := by
  refine ⟨by kernel_rfl, fun w ρ Z vs he => ?_⟩
  match vs, he.args with
  | [v], hd =>
    obtain ⟨g0, o0, h1, rfl⟩ := hd.1
    obtain ⟨g, o, us, h2, h3, ⟨b, p, q, h4, rfl, h5, rfl⟩, h6⟩ := he.objs 0
    have hq : q = ρ 1 := h6.1.1
    subst hq
    rw [h4] at h1 h2
    obtain ⟨rfl, rfl⟩ : b = g0 ∧ 0 = o0 := by simpa [Value.place] using h1
    obtain rfl : b = g := by simpa [blk, Value.place] using h2
    have ho1 := he.objs 1
    obtain ⟨hw1, us, hd1, hown⟩ := do_row.1 (show DO ρ Z w 1 (.row 1 5 (byRs bs)) from ho1)
    have hus := byRs_cells hd1
    have hrl : (byRs bs).length = bs.length := by simp [byRs]
    have fin : ∀ {row : Option Nat} (hr : ∀ g, row = some g → blk (ρ 1) = some g), Calls Tryz.prog 28 #[.pointer (some ⟨b, 0, none⟩)] w (fun e w' => e = .returned (.string ⟨bs.toArray⟩) ∧ w.grownBy w' row) →
        Calls Tryz.prog 28 #[.pointer (some ⟨b, 0, none⟩)] w fun e w' => ∃ rs all us ρ' Z', (rs = [rStr bs] ∧ all = [.gone, .gone]) ∧ 2 ≤ all.length ∧ e = .returned (mkRet us) ∧ Leave w ρ Z [bldO 47 1, .row 1 5 (byRs bs)] w' ρ' Z' rs all us :=
      fun hr h => h.mono fun e w' ⟨h7, h8⟩ => ⟨[rStr bs], [.gone, .gone], [.string ⟨bs.toArray⟩], ρ, Z, ⟨rfl, rfl⟩, Nat.le_refl _, h7, leave_gone he h8 (fun g hg => ⟨1, rfl, hr g hg⟩) rfl⟩
    rcases hown with ⟨h7, h8, h9⟩ | ⟨g, off, cap, cur, h7, h8, h9, h10, h11, h12, h13⟩
    · have hb0 : bs = [] := List.eq_nil_of_length_eq_zero (by omega)
      subst hb0
      rw [h7] at h3
      exact fin (row := none) (fun g h => by cases h) (str_nil lays169 Builder_Extra_169 b p w h3)
    · rw [hrl] at h7 h9
      rw [h7] at h3
      cases bs with
      | nil =>
        by_cases hc0 : cap = 0
        · subst hc0
          exact fin (row := none) (fun g h => by cases h) (str_noroom lays169 Builder_Extra_169 b g off p cur w h3 h8)
        · exact fin (row := none) (fun g h => by cases h) (str_room lays169 Builder_Extra_169 b g off cap p w hc0 h3)
      | cons x r =>
        refine fin (row := some g) (fun g' h => by cases h; rw [h7]; rfl) (str_some lays169 Builder_Extra_169 b g off cap p (x :: r) cur w (by simp) h3 h8 h9 h10 (by omega) (fun j y hy => ?_))
        refine h13 j _ ?_
        rw [hus, List.getElem?_map, hy]; rfl
end Go.Proofs.YtfoecgfboicphaaGreatDoor
